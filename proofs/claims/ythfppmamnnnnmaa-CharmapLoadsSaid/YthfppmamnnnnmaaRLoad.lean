/-
  serifref08.Load.
-/
import Derived.Test.YthfppmamnnnnmaaMay4
import Derived.Test.YthfppmamnnnnmaaMay12
set_option linter.unusedVariables false
namespace Go.Proofs.Ythfppmamnnnnmaa
open Go.RowKit

theorem loadO_congr (S T : Src) (hf : S.f = T.f) (hl : S.len = T.len) (x : Int) : loadO S x = loadO T x := by
  obtain ⟨b, o, len, cap, f⟩ := S
  obtain ⟨b', o', len', cap', f'⟩ := T
  simp only at hf hl
  subst hf hl
  have h4 : ∀ n k, st4 ⟨b, o, len, cap, f⟩ n k = st4 ⟨b', o', len, cap', f⟩ n k := by
    intro n k
    induction k with
    | zero => rfl
    | succ k ih => rw [st4, st4, ih]; rfl
  have h12 : ∀ k, st12 ⟨b, o, len, cap, f⟩ k = st12 ⟨b', o', len, cap', f⟩ k := by
    intro k
    induction k with
    | zero => rfl
    | succ k ih => rw [st12, st12, ih]; rfl
  have e4 : ∀ n, load4O ⟨b, o, len, cap, f⟩ n = load4O ⟨b', o', len, cap', f⟩ n := fun n => by unfold load4O; rw [h4]
  unfold loadO
  by_cases h1 : x = 0
  · simp only [h1, if_true]; rfl
  · by_cases h2 : x = 4
    · simp only [h2, if_true, e4]; rfl
    · by_cases h3 : x = 6
      · simp only [h3, if_true]; rfl
      · simp only [h1, h2, h3, if_false, h12]; rfl

/-- The document's map in memory. -/
structure RMapAt (w : World) (p : Nat) (S : Src) (f n : Int) : Prop where
  blk : Blk w p 56 #[.slice (some ⟨S.b, S.o, none⟩) S.len S.cap, .int .i64 f, .int .i64 n]
  im : InM w S
theorem RMapAt.below {w w' : World} {p : Nat} {S : Src} {f n : Int} (h : RMapAt w p S f n) (hb : Below w.heap.size w w') : RMapAt w' p S f n :=
  ⟨Blk.below h.blk hb (Blk.lt h.blk), h.im.below hb⟩

/-- What a call of the document's 'Load' leaves. -/
def RPost (S : Src) (n f : Int) (m : Nat) (o : Option (List Seg)) (w : World) (e : Ending) (w' : World) : Prop :=
  Below w.heap.size w w' ∧ match o with
  | none => e = .returned (.tuple #[.pointer none, .int .i64 80])
  | some _ => ∃ p T, e = .returned (.tuple #[.pointer (some ⟨p, 0, none⟩), .int .i64 0]) ∧ RMapAt w' p T f n ∧ T.f = S.f ∧ T.len = m

/-- A copy of bytes that the call has made reads as they do. -/
theorem copied {w w' : World} {S : Src} {m : Nat} {v : Value} {B : Nat} (h : InM w S) (hm : m ≤ S.len) (ho : w'.ownsRow B 5 1 v m ((upto S.f 0 m).map (Value.int .u8))) (hv : v ≠ .slice none 0 0) :
    ∃ T : Src, v = .slice (some ⟨T.b, T.o, none⟩) T.len T.cap ∧ InM w' T ∧ T.f = S.f ∧ T.len = m := by
  have hh := ho
  rcases ho.2 with ⟨rfl, _⟩ | ⟨g, cap, cur, rfl, _, hg, hnc, _, _⟩
  · exact absurd rfl hv
  · refine ⟨⟨g, 0, m, cap, S.f⟩, rfl, ⟨Nat.le_trans hm h.hlen, hnc, (Array.getElem?_eq_some_iff.1 hg).1, fun i hi => ⟨?_, (h.bs i (by show i < S.len; have : i < m := hi; omega)).2⟩⟩, rfl, rfl⟩
    have := World.ownsRow.cells hh (g := g) rfl i (.int .u8 (S.f i)) (by
      have : i < m := hi
      simp [upto, this])
    rwa [add_none] at this

theorem RLoad_short (S : Src) (n : Int) (c : Nat) (A : Option Addr) (w : World) (hs : c < 2) (cap : Nat) :
    Calls Try.prog 6 #[.slice A c cap, .int .i64 n] w fun e w' => e = .returned (.tuple #[.pointer none, .int .i64 80]) ∧ Below w.heap.size w w' := by
  have hs2 : (c : Int) < 2 := by omega
  go_enter Try.func6, Try.ntmps6
  go_wp2
  go_ret2
  exact ⟨rfl, Below.refl _ _⟩

theorem RLoad_fmt (S : Src) (n : Int) (w : World) (hI : InM w S) (hs : 2 ≤ S.len) (hf : fmtB (be2 S 0) = false) :
    Calls Try.prog 6 #[.slice (some ⟨S.b, S.o, none⟩) S.len S.cap, .int .i64 n] w fun e w' => e = .returned (.tuple #[.pointer none, .int .i64 81]) ∧ Below w.heap.size w w' := by
  have H := Lib.hid hI
  have hs2 : ¬ (S.len : Int) < 2 := by omega
  clear hI
  go_enter Try.func6, Try.ntmps6
  go_wp2_with (first | (go_at_call 19; refine (r16_any S 0 _ rfl _ H.out (by omega)).mono ?_; rintro e w1 ⟨rfl, q, rfl⟩) | (go_at_call 20; refine (rfmt_any _ _).mono ?_; rintro e w2 ⟨rfl, rfl⟩))
  go_ret2
  exact ⟨rfl, ⟨rfl, rfl, rfl, Nat.le_refl _, fun _ _ => rfl⟩⟩

theorem RLoad_size (S : Src) (n : Int) (w : World) (hI : InM w S) (hs : 2 ≤ S.len) (hf : fmtB (be2 S 0) = true) (hx : sizeB S (be2 S 0) < 0 ∨ (S.len : Int) < sizeB S (be2 S 0)) :
    Calls Try.prog 6 #[.slice (some ⟨S.b, S.o, none⟩) S.len S.cap, .int .i64 n] w fun e w' => e = .returned (.tuple #[.pointer none, .int .i64 80]) ∧ Below w.heap.size w w' := by
  have H := Lib.hid hI
  have hs2 : ¬ (S.len : Int) < 2 := by omega
  clear hI
  by_cases hy : sizeB S (be2 S 0) < 0
  case' neg => have hz : (S.len : Int) < sizeB S (be2 S 0) := by omega
  all_goals
    go_enter Try.func6, Try.ntmps6
    go_wp2_with (first | (go_at_call 19; refine (r16_any S 0 _ rfl _ H.out (by omega)).mono ?_; rintro e w1 ⟨rfl, q, rfl⟩) | (go_at_call 20; refine (rfmt_any _ _).mono ?_; rintro e w2 ⟨rfl, rfl⟩) | (go_at_call 21; refine (rlen_any S _ (H.out.drewN _) (by omega)).mono ?_; rintro e w3 ⟨rfl, q2, rfl⟩))
    go_ret2
    exact ⟨rfl, ⟨rfl, rfl, rfl, Nat.le_refl _, fun _ _ => rfl⟩⟩

set_option maxHeartbeats 800000 in
theorem RLoad_0 (S : Src) (n : Int) (m : Nat) (w : World) (hI : InM w S) (hs : 2 ≤ S.len) (hf : be2 S 0 = 0) (hm : sizeB S 0 = (m : Int)) (hm2 : m ≤ S.len) :
    Calls Try.prog 6 #[.slice (some ⟨S.b, S.o, none⟩) S.len S.cap, .int .i64 n] w (RPost S n 0 m (loadO { S with len := m } 0) w) := by
  obtain ⟨i0, hi, hz0, hz1, hz2⟩ := info_parts Try.info5
  have H := Lib.hid hI
  have hs2 : ¬ (S.len : Int) < 2 := by omega
  have HM := Lib.hid hm
  have HF := Lib.hid hf
  have hc := hI.hc
  have hlen := hI.hlen
  clear hI hm hf
  go_enter Try.func6, Try.ntmps6
  go_wp2_with fail
  refine (r16_any S 0 _ rfl _ H.out (by omega)).mono ?_
  rintro e w1 ⟨rfl, q, rfl⟩
  rw [HF.out]
  go_wp2_with fail
  refine (rfmt_any _ _).mono ?_
  rintro e w2 ⟨rfl, rfl⟩
  rw [show fmtB 0 = true from rfl]
  go_wp2_with fail
  refine (rlen_any S _ (H.out.drewN _) (by omega)).mono ?_
  rintro e w3 ⟨rfl, q2, rfl⟩
  rw [HF.out, HM.out]
  go_wp2_with (at_builtin; refine held_ ?_)
  refine unheld_ ?_
  refine wpList_append_own _ rfl (.tmp 27) (.tmp 30) 22 rfl w.heap.size 5 i0 _ 1 1 Try.underlying22 hi hz0 hz1 hz2 rfl (by decide) (.slice (some ⟨w.heap.size, 0, none⟩) 0 0) 0 [] rfl (ownsRow_empty w 5 1) ⟨S.b, S.o, none⟩ m S.cap ((upto S.f 0 m).map (Value.int .u8)) rfl (by simp [upto_len]) ?hc (by simp [Value.oneCell']) (by unfold maxLen; omega) (by omega) (by simp) ?_
  case hc =>
    intro j u hu
    have hj : j < m := by
      have := (List.getElem?_eq_some_iff.1 hu).1
      simpa [upto_len] using this
    have h1 := (H.out.bs j (by omega)).1
    rw [add_none]
    refine (World.cell?_alloc_lt w _ ⟨S.b, S.o + j, none⟩ H.out.hb).trans ?_
    rw [h1, ← hu]
    simp [upto, hj]
  intro v' w4 hown hg hx
  rw [Nat.zero_add, List.nil_append] at hown
  have HB4 := Lib.hid (Below.grown (w := (w.drewN (q + q2)).alloc (.cells #[] 5)) (Below.alloc (B := w.heap.size) (a := w) (w := w.drewN (q + q2)) ⟨rfl, rfl, rfl, Nat.le_refl _, fun _ _ => rfl⟩ (Nat.le_refl _) _) hg (by simp) (fun k e => by simp [Value.ownBlock] at e; omega))
  obtain ⟨T, rfl, hT, hTf, hTl⟩ := copied (H.out.below HB4.out) hm2 hown (fun e => by have := hx.1 e; simp at this)
  have HT := Lib.hid hT
  have HTf := Lib.hid hTf
  have HTl := Lib.hid hTl
  have tl1 : T.len ≤ m := by omega
  have tl2 : m ≤ T.len := by omega
  have HLO := Lib.hid (loadO_congr T { S with len := m } hTf hTl 0)
  clear hown hg hx hT hTf hTl
  by_cases hk : 262 ≤ m
  · have hki : (262 : Int) ≤ (m : Int) := by omega
    have HO : Hid (∃ l, loadO { S with len := m } 0 = some l) := ⟨_, by unfold loadO; rw [if_pos rfl, if_pos hk]⟩
    go_wp2
    go_ret2
    obtain ⟨l, hl⟩ := HO.out
    rw [hl]
    exact ⟨HB4.out.alloc HB4.out.size _, _, T, rfl, ⟨Blk.new _ _ _, HT.out.below ((Below.refl _ _).alloc (Nat.le_refl _) _)⟩, HTf.out, HTl.out⟩
  · have hki : ¬ (262 : Int) ≤ (m : Int) := by omega
    have HO : Hid (loadO { S with len := m } 0 = none) := by show _ = _; unfold loadO; rw [if_pos rfl, if_neg hk]
    go_wp2
    go_ret2
    rw [HO.out]
    exact ⟨HB4.out, rfl⟩

set_option maxHeartbeats 800000 in
theorem RLoad_6 (S : Src) (n : Int) (m : Nat) (w : World) (hI : InM w S) (hs : 2 ≤ S.len) (hf : be2 S 0 = 6) (hm : sizeB S 6 = (m : Int)) (hm2 : m ≤ S.len) :
    Calls Try.prog 6 #[.slice (some ⟨S.b, S.o, none⟩) S.len S.cap, .int .i64 n] w (RPost S n 6 m (loadO { S with len := m } 6) w) := by
  obtain ⟨i0, hi, hz0, hz1, hz2⟩ := info_parts Try.info5
  have H := Lib.hid hI
  have hs2 : ¬ (S.len : Int) < 2 := by omega
  have HM := Lib.hid hm
  have HF := Lib.hid hf
  have hc := hI.hc
  have hlen := hI.hlen
  clear hI hm hf
  go_enter Try.func6, Try.ntmps6
  go_wp2_with fail
  refine (r16_any S 0 _ rfl _ H.out (by omega)).mono ?_
  rintro e w1 ⟨rfl, q, rfl⟩
  rw [HF.out]
  go_wp2_with fail
  refine (rfmt_any _ _).mono ?_
  rintro e w2 ⟨rfl, rfl⟩
  rw [show fmtB 6 = true from rfl]
  go_wp2_with fail
  refine (rlen_any S _ (H.out.drewN _) (by omega)).mono ?_
  rintro e w3 ⟨rfl, q2, rfl⟩
  rw [HF.out, HM.out]
  go_wp2_with (at_builtin; refine held_ ?_)
  refine unheld_ ?_
  refine wpList_append_own _ rfl (.tmp 27) (.tmp 30) 22 rfl w.heap.size 5 i0 _ 1 1 Try.underlying22 hi hz0 hz1 hz2 rfl (by decide) (.slice (some ⟨w.heap.size, 0, none⟩) 0 0) 0 [] rfl (ownsRow_empty w 5 1) ⟨S.b, S.o, none⟩ m S.cap ((upto S.f 0 m).map (Value.int .u8)) rfl (by simp [upto_len]) ?hc (by simp [Value.oneCell']) (by unfold maxLen; omega) (by omega) (by simp) ?_
  case hc =>
    intro j u hu
    have hj : j < m := by
      have := (List.getElem?_eq_some_iff.1 hu).1
      simpa [upto_len] using this
    have h1 := (H.out.bs j (by omega)).1
    rw [add_none]
    refine (World.cell?_alloc_lt w _ ⟨S.b, S.o + j, none⟩ H.out.hb).trans ?_
    rw [h1, ← hu]
    simp [upto, hj]
  intro v' w4 hown hg hx
  rw [Nat.zero_add, List.nil_append] at hown
  have HB4 := Lib.hid (Below.grown (w := (w.drewN (q + q2)).alloc (.cells #[] 5)) (Below.alloc (B := w.heap.size) (a := w) (w := w.drewN (q + q2)) ⟨rfl, rfl, rfl, Nat.le_refl _, fun _ _ => rfl⟩ (Nat.le_refl _) _) hg (by simp) (fun k e => by simp [Value.ownBlock] at e; omega))
  obtain ⟨T, rfl, hT, hTf, hTl⟩ := copied (H.out.below HB4.out) hm2 hown (fun e => by have := hx.1 e; simp at this)
  have HT := Lib.hid hT
  have HTf := Lib.hid hTf
  have HTl := Lib.hid hTl
  have tl1 : T.len ≤ m := by omega
  have tl2 : m ≤ T.len := by omega
  have HLO := Lib.hid (loadO_congr T { S with len := m } hTf hTl 6)
  clear hown hg hx hT hTf hTl
  by_cases h10 : 10 ≤ T.len
  · have hki : (10 : Int) ≤ (m : Int) := by omega
    have b60 := (be2_bd HT.out.bs (a := 6) (by omega)).1
    have b61 := (be2_bd HT.out.bs (a := 6) (by omega)).2
    have b80 := (be2_bd HT.out.bs (a := 8) (by omega)).1
    have b81 := (be2_bd HT.out.bs (a := 8) (by omega)).2
    by_cases h2 : 10 + 2 * be2 T 8 ≤ (m : Int)
    · by_cases h3 : be2 T 6 + be2 T 8 ≤ 65536
      · have HO : Hid (∃ l, loadO { S with len := m } 6 = some l) := by
          have hk : Ok6 T := ⟨h10, by omega, by omega⟩
          rw [← HLO.out]
          unfold loadO
          rw [if_neg (by decide), if_neg (by decide), if_pos rfl, if_pos hk]
          show ∃ l, _ = _
          split
          · exact ⟨_, rfl⟩
          · exact ⟨_, rfl⟩
        go_wp2_with fail
        refine (r16_any T 8 _ rfl _ HT.out (by omega)).mono ?_
        rintro e w5 ⟨rfl, q5, rfl⟩
        go_wp2_with fail
        refine (r16_any T 6 _ rfl _ (HT.out.drewN _) (by omega)).mono ?_
        rintro e w5 ⟨rfl, q6, rfl⟩
        go_wp2_with fail
        refine (r16_any T 8 _ rfl _ (HT.out.drewN _) (by omega)).mono ?_
        rintro e w5 ⟨rfl, q7, rfl⟩
        go_wp2
        go_ret2
        obtain ⟨l, hl⟩ := HO.out
        rw [hl]
        exact ⟨Below.alloc (Below.trans HB4.out (⟨rfl, rfl, rfl, Nat.le_refl _, fun _ _ => rfl⟩ : Below w.heap.size w4 (w4.drewN _))) HB4.out.size _, _, T, rfl, ⟨Blk.new _ _ _, (HT.out.drewN _).below ((Below.refl _ _).alloc (Nat.le_refl _) _)⟩, HTf.out, HTl.out⟩
      · have hd3 : decide (be2 T 6 + be2 T 8 ≤ 65536) = false := by simp; omega
        have HO : Hid (loadO { S with len := m } 6 = none) := by
          have hk : ¬ Ok6 T := fun h => by have := h.2.2; omega
          rw [← HLO.out]
          unfold loadO
          rw [if_neg (by decide), if_neg (by decide), if_pos rfl, if_neg hk]
          rfl
        go_wp2_with fail
        refine (r16_any T 8 _ rfl _ HT.out (by omega)).mono ?_
        rintro e w5 ⟨rfl, q5, rfl⟩
        go_wp2_with fail
        refine (r16_any T 6 _ rfl _ (HT.out.drewN _) (by omega)).mono ?_
        rintro e w5 ⟨rfl, q6, rfl⟩
        go_wp2_with fail
        refine (r16_any T 8 _ rfl _ (HT.out.drewN _) (by omega)).mono ?_
        rintro e w5 ⟨rfl, q7, rfl⟩
        go_wp2
        go_ret2
        rw [HO.out]
        exact ⟨Below.trans HB4.out ⟨rfl, rfl, rfl, Nat.le_refl _, fun _ _ => rfl⟩, rfl⟩
    · have HO : Hid (loadO { S with len := m } 6 = none) := by
        have hk : ¬ Ok6 T := fun h => by have := h.2.1; omega
        rw [← HLO.out]
        unfold loadO
        rw [if_neg (by decide), if_neg (by decide), if_pos rfl, if_neg hk]
        rfl
      go_wp2_with fail
      refine (r16_any T 8 _ rfl _ HT.out (by omega)).mono ?_
      rintro e w5 ⟨rfl, q5, rfl⟩
      go_wp2
      go_ret2
      rw [HO.out]
      exact ⟨Below.trans HB4.out ⟨rfl, rfl, rfl, Nat.le_refl _, fun _ _ => rfl⟩, rfl⟩
  · have hki : ¬ (10 : Int) ≤ (m : Int) := by omega
    have HO : Hid (loadO { S with len := m } 6 = none) := by
      have hk : ¬ Ok6 T := fun h => by have := h.1; omega
      rw [← HLO.out]
      unfold loadO
      rw [if_neg (by decide), if_neg (by decide), if_pos rfl, if_neg hk]
      rfl
    go_wp2
    go_ret2
    rw [HO.out]
    exact ⟨HB4.out, rfl⟩

set_option maxHeartbeats 800000 in
theorem RLoad_4 (S : Src) (n : Int) (m : Nat) (w : World) (hI : InM w S) (hs : 2 ≤ S.len) (hf : be2 S 0 = 4) (hm : sizeB S 4 = (m : Int)) (hm2 : m ≤ S.len) :
    Calls Try.prog 6 #[.slice (some ⟨S.b, S.o, none⟩) S.len S.cap, .int .i64 n] w (RPost S n 4 m (loadO { S with len := m } 4) w) := by
  obtain ⟨i0, hi, hz0, hz1, hz2⟩ := info_parts Try.info5
  have H := Lib.hid hI
  have hs2 : ¬ (S.len : Int) < 2 := by omega
  have HM := Lib.hid hm
  have HF := Lib.hid hf
  have hc := hI.hc
  have hlen := hI.hlen
  clear hI hm hf
  go_enter Try.func6, Try.ntmps6
  go_wp2_with fail
  refine (r16_any S 0 _ rfl _ H.out (by omega)).mono ?_
  rintro e w1 ⟨rfl, q, rfl⟩
  rw [HF.out]
  go_wp2_with fail
  refine (rfmt_any _ _).mono ?_
  rintro e w2 ⟨rfl, rfl⟩
  rw [show fmtB 4 = true from rfl]
  go_wp2_with fail
  refine (rlen_any S _ (H.out.drewN _) (by omega)).mono ?_
  rintro e w3 ⟨rfl, q2, rfl⟩
  rw [HF.out, HM.out]
  go_wp2_with (at_builtin; refine held_ ?_)
  refine unheld_ ?_
  refine wpList_append_own _ rfl (.tmp 27) (.tmp 30) 22 rfl w.heap.size 5 i0 _ 1 1 Try.underlying22 hi hz0 hz1 hz2 rfl (by decide) (.slice (some ⟨w.heap.size, 0, none⟩) 0 0) 0 [] rfl (ownsRow_empty w 5 1) ⟨S.b, S.o, none⟩ m S.cap ((upto S.f 0 m).map (Value.int .u8)) rfl (by simp [upto_len]) ?hc (by simp [Value.oneCell']) (by unfold maxLen; omega) (by omega) (by simp) ?_
  case hc =>
    intro j u hu
    have hj : j < m := by
      have := (List.getElem?_eq_some_iff.1 hu).1
      simpa [upto_len] using this
    have h1 := (H.out.bs j (by omega)).1
    rw [add_none]
    refine (World.cell?_alloc_lt w _ ⟨S.b, S.o + j, none⟩ H.out.hb).trans ?_
    rw [h1, ← hu]
    simp [upto, hj]
  intro v' w4 hown hg hx
  rw [Nat.zero_add, List.nil_append] at hown
  have HB4 := Lib.hid (Below.grown (w := (w.drewN (q + q2)).alloc (.cells #[] 5)) (Below.alloc (B := w.heap.size) (a := w) (w := w.drewN (q + q2)) ⟨rfl, rfl, rfl, Nat.le_refl _, fun _ _ => rfl⟩ (Nat.le_refl _) _) hg (by simp) (fun k e => by simp [Value.ownBlock] at e; omega))
  obtain ⟨T, rfl, hT, hTf, hTl⟩ := copied (H.out.below HB4.out) hm2 hown (fun e => by have := hx.1 e; simp at this)
  have HT := Lib.hid hT
  have HTf := Lib.hid hTf
  have HTl := Lib.hid hTl
  have tl1 : T.len ≤ m := by omega
  have tl2 : m ≤ T.len := by omega
  have HLO := Lib.hid (loadO_congr T { S with len := m } hTf hTl 4)
  clear hown hg hx hT hTf hTl
  by_cases hk : 24 ≤ T.len
  · have hki : (24 : Int) ≤ (m : Int) := by omega
    cases hlo : loadO { S with len := m } 4 with
    | none =>
      have HO : Hid (loadO T 4 = none) := HLO.out.trans hlo
      have HP := Lib.hid hlo
      clear hlo
      go_wp2_with (go_at_call 22; refine (may4_any T _ HT.out (by omega)).mono ?_; rintro e w5 ⟨rfl, q5, rfl⟩; rw [HO.out, Option.isSome_none])
      go_ret2
      rw [HP.out]
      exact ⟨Below.trans HB4.out ⟨rfl, rfl, rfl, Nat.le_refl _, fun _ _ => rfl⟩, rfl⟩
    | some l =>
      have HO : Hid (loadO T 4 = some l) := HLO.out.trans hlo
      have HP := Lib.hid hlo
      clear hlo
      go_wp2_with (go_at_call 22; refine (may4_any T _ HT.out (by omega)).mono ?_; rintro e w5 ⟨rfl, q5, rfl⟩; rw [HO.out, Option.isSome_some])
      go_ret2
      rw [HP.out]
      exact ⟨Below.alloc (Below.trans HB4.out (⟨rfl, rfl, rfl, Nat.le_refl _, fun _ _ => rfl⟩ : Below w.heap.size w4 (w4.drewN _))) HB4.out.size _, _, T, rfl, ⟨Blk.new _ _ _, (HT.out.drewN _).below ((Below.refl _ _).alloc (Nat.le_refl _) _)⟩, HTf.out, HTl.out⟩
  · have hki : ¬ (24 : Int) ≤ (m : Int) := by omega
    have HO : Hid (loadO { S with len := m } 4 = none) := by
      rw [← HLO.out]
      exact loadO4_not T (fun h => hk (by have := h.2.2.1; have := h.2.2.2; omega))
    go_wp2
    go_ret2
    rw [HO.out]
    exact ⟨HB4.out, rfl⟩

set_option maxHeartbeats 800000 in
theorem RLoad_12 (S : Src) (n : Int) (m : Nat) (w : World) (hI : InM w S) (hs : 2 ≤ S.len) (hf : be2 S 0 = 12) (hm : sizeB S 12 = (m : Int)) (hm2 : m ≤ S.len) :
    Calls Try.prog 6 #[.slice (some ⟨S.b, S.o, none⟩) S.len S.cap, .int .i64 n] w (RPost S n 12 m (loadO { S with len := m } 12) w) := by
  obtain ⟨i0, hi, hz0, hz1, hz2⟩ := info_parts Try.info5
  have H := Lib.hid hI
  have hs2 : ¬ (S.len : Int) < 2 := by omega
  have HM := Lib.hid hm
  have HF := Lib.hid hf
  have hc := hI.hc
  have hlen := hI.hlen
  clear hI hm hf
  go_enter Try.func6, Try.ntmps6
  go_wp2_with fail
  refine (r16_any S 0 _ rfl _ H.out (by omega)).mono ?_
  rintro e w1 ⟨rfl, q, rfl⟩
  rw [HF.out]
  go_wp2_with fail
  refine (rfmt_any _ _).mono ?_
  rintro e w2 ⟨rfl, rfl⟩
  rw [show fmtB 12 = true from rfl]
  go_wp2_with fail
  refine (rlen_any S _ (H.out.drewN _) (by omega)).mono ?_
  rintro e w3 ⟨rfl, q2, rfl⟩
  rw [HF.out, HM.out]
  go_wp2_with (at_builtin; refine held_ ?_)
  refine unheld_ ?_
  refine wpList_append_own _ rfl (.tmp 27) (.tmp 30) 22 rfl w.heap.size 5 i0 _ 1 1 Try.underlying22 hi hz0 hz1 hz2 rfl (by decide) (.slice (some ⟨w.heap.size, 0, none⟩) 0 0) 0 [] rfl (ownsRow_empty w 5 1) ⟨S.b, S.o, none⟩ m S.cap ((upto S.f 0 m).map (Value.int .u8)) rfl (by simp [upto_len]) ?hc (by simp [Value.oneCell']) (by unfold maxLen; omega) (by omega) (by simp) ?_
  case hc =>
    intro j u hu
    have hj : j < m := by
      have := (List.getElem?_eq_some_iff.1 hu).1
      simpa [upto_len] using this
    have h1 := (H.out.bs j (by omega)).1
    rw [add_none]
    refine (World.cell?_alloc_lt w _ ⟨S.b, S.o + j, none⟩ H.out.hb).trans ?_
    rw [h1, ← hu]
    simp [upto, hj]
  intro v' w4 hown hg hx
  rw [Nat.zero_add, List.nil_append] at hown
  have HB4 := Lib.hid (Below.grown (w := (w.drewN (q + q2)).alloc (.cells #[] 5)) (Below.alloc (B := w.heap.size) (a := w) (w := w.drewN (q + q2)) ⟨rfl, rfl, rfl, Nat.le_refl _, fun _ _ => rfl⟩ (Nat.le_refl _) _) hg (by simp) (fun k e => by simp [Value.ownBlock] at e; omega))
  obtain ⟨T, rfl, hT, hTf, hTl⟩ := copied (H.out.below HB4.out) hm2 hown (fun e => by have := hx.1 e; simp at this)
  have HT := Lib.hid hT
  have HTf := Lib.hid hTf
  have HTl := Lib.hid hTl
  have tl1 : T.len ≤ m := by omega
  have tl2 : m ≤ T.len := by omega
  have HLO := Lib.hid (loadO_congr T { S with len := m } hTf hTl 12)
  clear hown hg hx hT hTf hTl
  by_cases hk : 16 ≤ T.len
  · have hki : (16 : Int) ≤ (m : Int) := by omega
    cases hlo : loadO { S with len := m } 12 with
    | none =>
      have HO : Hid (loadO T 12 = none) := HLO.out.trans hlo
      have HP := Lib.hid hlo
      clear hlo
      go_wp2_with (go_at_call 23; refine (may12_any T _ HT.out (by omega)).mono ?_; rintro e w5 ⟨rfl, q5, rfl⟩; rw [HO.out, Option.isSome_none])
      go_ret2
      rw [HP.out]
      exact ⟨Below.trans HB4.out ⟨rfl, rfl, rfl, Nat.le_refl _, fun _ _ => rfl⟩, rfl⟩
    | some l =>
      have HO : Hid (loadO T 12 = some l) := HLO.out.trans hlo
      have HP := Lib.hid hlo
      clear hlo
      go_wp2_with (go_at_call 23; refine (may12_any T _ HT.out (by omega)).mono ?_; rintro e w5 ⟨rfl, q5, rfl⟩; rw [HO.out, Option.isSome_some])
      go_ret2
      rw [HP.out]
      exact ⟨Below.alloc (Below.trans HB4.out (⟨rfl, rfl, rfl, Nat.le_refl _, fun _ _ => rfl⟩ : Below w.heap.size w4 (w4.drewN _))) HB4.out.size _, _, T, rfl, ⟨Blk.new _ _ _, (HT.out.drewN _).below ((Below.refl _ _).alloc (Nat.le_refl _) _)⟩, HTf.out, HTl.out⟩
  · have hki : ¬ (16 : Int) ≤ (m : Int) := by omega
    have HO : Hid (loadO { S with len := m } 12 = none) := by
      rw [← HLO.out]
      exact loadO12_not T (fun h => hk h.1)
    go_wp2
    go_ret2
    rw [HO.out]
    exact ⟨HB4.out, rfl⟩

end Go.Proofs.Ythfppmamnnnnmaa
