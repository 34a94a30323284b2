/-
  CharmapLoads, given that 'lives' answers true.
-/
import Derived.Test.YthfppmamnnnnmaaWindowAny
set_option linter.unusedVariables false
namespace Go.Proofs.Ythfppmamnnnnmaa
open Go.RowKit

def LivesOk : Prop := ∀ w : World, Calls Try.prog 4 #[] w fun e w' => e = .returned (.bool true) ∧ Below w.heap.size w w'

theorem main_big (hL : LivesOk) (A : Option Addr) (len cap : Nat) (n code stop_ : Int) (w : World) (h : 20000 < len) :
    Calls Try.prog 3 #[.slice A len cap, .int .i64 n, .int .i64 code, .int .i64 stop_] w fun e w' => e = .returned (.bool true) ∧ Below w.heap.size w w' := by
  have h2 : (20000 : Int) < (len : Int) := by omega
  have HL := Lib.hid hL
  clear hL
  go_enter Try.func3, Try.ntmps3
  go_wp2_with (go_at_call 4; refine (HL.out _).mono ?_; rintro e w' ⟨rfl, hb⟩; have HB := Lib.hid hb; clear hb)
  go_ret
  exact ⟨rfl, HB.out⟩

theorem append_nil_nil (w : World) (g : Nat) (ty : TypeId) : (Builtin.append_ #[22, 22] ty #[.slice (some ⟨g, 0, none⟩) 0 0, .slice none 0 0]).run Try.prog w = .ok (.slice (some ⟨g, 0, none⟩) 0 0) w := by
  obtain ⟨i0, hi, hz0, hz1, hz2⟩ := info_parts Try.info5
  simp [Builtin.append_, go_sem, Try.underlying22, hi, hz0, hz1, hz2]

theorem LoadR_congr (S T : Src) (hf : S.f = T.f) (hl : S.len = T.len) (n : Int) : LoadR S n = LoadR T n := by
  have h1 : ∀ a, be2 S a = be2 T a := fun a => by unfold be2; rw [hf]
  have h4 : ∀ a, be4 S a = be4 T a := fun a => by unfold be4; rw [hf]
  have h2 : ∀ x, sizeB S x = sizeB T x := fun x => by unfold sizeB; simp only [hf, hl]
  unfold LoadR
  simp only [h1, h2, hl]
  rw [loadO_congr { S with len := (sizeB T (be2 T 0)).toNat } { T with len := (sizeB T (be2 T 0)).toNat } hf rfl]

theorem Load_err (S : Src) (n c : Int) (w : World) (hI : InM w S) (hr : LoadR S n = .error c) :
    Calls Try.prog 5 #[.slice (some ⟨S.b, S.o, none⟩) S.len S.cap, .int .i64 n] w fun e w' => e = .returned (.tuple #[.pointer none, .int .i64 c]) ∧ Below w.heap.size w w' := by
  refine (Load_any S n w hI).mono fun e w' h => ?_
  unfold LoadMPost at h
  rw [hr] at h
  exact ⟨h.2, h.1⟩
theorem Load_yes (S : Src) (n f : Int) (l : List Seg) (w : World) (hI : InM w S) (hr : LoadR S n = .ok (f, l)) :
    Calls Try.prog 5 #[.slice (some ⟨S.b, S.o, none⟩) S.len S.cap, .int .i64 n] w fun e w' => (∃ p, e = .returned (.tuple #[.pointer (some ⟨p, 0, none⟩), .int .i64 0]) ∧ MapAt w' p f n l) ∧ Below w.heap.size w w' := by
  refine (Load_any S n w hI).mono fun e w' h => ?_
  unfold LoadMPost at h
  rw [hr] at h
  exact ⟨h.2, h.1⟩
theorem RLoad_err (S : Src) (n c : Int) (w : World) (hI : InM w S) (h1 : ¬ (n < 1 ∨ 65535 < n)) (hr : LoadR S n = .error c) :
    Calls Try.prog 6 #[.slice (some ⟨S.b, S.o, none⟩) S.len S.cap, .int .i64 n] w fun e w' => (e = .returned (.tuple #[.pointer none, .int .i64 c]) ∧ c ≠ 0) ∧ Below w.heap.size w w' := by
  refine (RLoad_any S n w hI h1).mono fun e w' h => ?_
  rcases h.2 with ⟨c', h2, h3, h4⟩ | ⟨f, l, p, T, h2, _⟩
  · rw [hr] at h2
    cases h2
    exact ⟨⟨h4, h3⟩, h.1⟩
  · rw [hr] at h2
    cases h2
theorem RLoad_yes (S : Src) (n f : Int) (l : List Seg) (w : World) (hI : InM w S) (h1 : ¬ (n < 1 ∨ 65535 < n)) (hr : LoadR S n = .ok (f, l)) :
    Calls Try.prog 6 #[.slice (some ⟨S.b, S.o, none⟩) S.len S.cap, .int .i64 n] w fun e w' =>
      (∃ p T, e = .returned (.tuple #[.pointer (some ⟨p, 0, none⟩), .int .i64 0]) ∧ RMapAt w' p T f n ∧ fmtB f = true ∧ loadO T f = some l ∧ SegsOk l) ∧ Below w.heap.size w w' := by
  refine (RLoad_any S n w hI h1).mono fun e w' h => ?_
  rcases h.2 with ⟨c', h2, _⟩ | ⟨f', l', p, T, h2, h3⟩
  · rw [hr] at h2
    cases h2
  · rw [hr] at h2
    cases h2
    exact ⟨⟨p, T, h3⟩, h.1⟩

theorem LoadR_short (S : Src) (n : Int) (h : S.len < 2) : LoadR S n = .error (if n < 1 ∨ 65535 < n then 1 else 80) := by
  unfold LoadR
  rw [if_pos h]
  split <;> rfl

set_option maxHeartbeats 2000000 in
theorem main_none (hL : LivesOk) (n code stop_ : Int) (w : World) :
    Calls Try.prog 3 #[.slice none 0 0, .int .i64 n, .int .i64 code, .int .i64 stop_] w fun e w' => e = .returned (.bool true) ∧ Below w.heap.size w w' := by
  have HL := Lib.hid hL
  clear hL
  have hap := append_nil_nil
  have hI : InM (w.alloc (.cells #[] 5)) ⟨w.heap.size, 0, 0, 0, fun _ => 0⟩ := ⟨by simp, by simp, by simp, fun i hi => absurd hi (Nat.not_lt_zero _)⟩
  have hb0 : Below w.heap.size w (w.alloc (.cells #[] 5)) := (Below.refl _ _).alloc (Nat.le_refl _) _
  have HI := Lib.hid hI
  have HB0 := Lib.hid hb0
  clear hI hb0
  by_cases hn : n < 1 ∨ 65535 < n
  · have HR := Lib.hid (LoadR_short ⟨w.heap.size, 0, 0, 0, fun _ => 0⟩ n (by simp))
    have HR2 : Hid (LoadR ⟨w.heap.size, 0, 0, 0, fun _ => 0⟩ n = .error 1) := by show _ = _; rw [HR.out, if_pos hn]
    rcases hn with h | h
    case' inr => have h' : ¬ n < 1 := by omega
    all_goals
      go_enter Try.func3, Try.ntmps3
      go_wp2_with (first
        | (go_at_call 5; refine (Load_err ⟨w.heap.size, 0, 0, 0, fun _ => 0⟩ n 1 _ HI.out HR2.out).mono ?_; rintro e w1 ⟨rfl, hb⟩; have HB1 := Lib.hid hb; clear hb)
        | (go_at_call 4; refine (HL.out _).mono ?_; rintro e w2 ⟨rfl, hb⟩; have HB2 := Lib.hid hb; clear hb))
      go_ret
      exact ⟨rfl, (HB0.out.trans (HB1.out.mono HB0.out.size)).trans (HB2.out.mono (Nat.le_trans HB0.out.size HB1.out.size))⟩
  · have HR := Lib.hid (LoadR_short ⟨w.heap.size, 0, 0, 0, fun _ => 0⟩ n (by simp))
    have HR2 : Hid (LoadR ⟨w.heap.size, 0, 0, 0, fun _ => 0⟩ n = .error 80) := by show _ = _; rw [HR.out, if_neg hn]
    have h : ¬ n < 1 := by omega
    have h' : ¬ 65535 < n := by omega
    go_enter Try.func3, Try.ntmps3
    go_wp2_with (first
      | (go_at_call 5; refine (Load_err ⟨w.heap.size, 0, 0, 0, fun _ => 0⟩ n 80 _ HI.out HR2.out).mono ?_; rintro e w1 ⟨rfl, hb⟩; have HB1 := Lib.hid hb; clear hb)
      | (go_at_call 4; refine (HL.out _).mono ?_; rintro e w2 ⟨rfl, hb⟩; have HB2 := Lib.hid hb; clear hb)
      | (go_at_call 6; refine (RLoad_short ⟨0, 0, 0, 0, fun _ => 0⟩ n 0 none _ (by omega) 0).mono ?_; rintro e w3 ⟨rfl, hb⟩; have HB3 := Lib.hid hb; clear hb))
    go_ret
    exact ⟨rfl, ((HB0.out.trans (HB1.out.mono HB0.out.size)).trans (HB2.out.mono (Nat.le_trans HB0.out.size HB1.out.size))).trans (HB3.out.mono (Nat.le_trans (Nat.le_trans HB0.out.size HB1.out.size) HB2.out.size))⟩

/-- What CharmapLoads copies: bytes of its own that read as those that came in. -/
theorem copied_all {w w' : World} {S : Src} {v : Value} {B : Nat} (hlen : S.len ≤ 2000000000) (hbs : ∀ i, i < S.len → 0 ≤ S.f i ∧ S.f i < 256) (ho : w'.ownsRow B 5 1 v S.len ((upto S.f 0 S.len).map (Value.int .u8))) (hv : v ≠ .slice none 0 0) :
    ∃ T : Src, v = .slice (some ⟨T.b, T.o, none⟩) T.len T.cap ∧ InM w' T ∧ T.f = S.f ∧ T.len = S.len := by
  have hh := ho
  rcases ho.2 with ⟨rfl, _⟩ | ⟨g, cap, cur, rfl, _, hg, hnc, _, _⟩
  · exact absurd rfl hv
  · refine ⟨⟨g, 0, S.len, cap, S.f⟩, rfl, ⟨hlen, hnc, (Array.getElem?_eq_some_iff.1 hg).1, fun i hi => ⟨?_, hbs i hi⟩⟩, rfl, rfl⟩
    have := World.ownsRow.cells hh (g := g) rfl i (.int .u8 (S.f i)) (by
      have : i < S.len := hi
      simp [upto, this])
    rwa [add_none] at this

set_option maxHeartbeats 4000000 in
theorem main_arg (hL : LivesOk) (S : Src) (n code stop_ : Int) (w : World) (hI : InM w S) (h20 : S.len ≤ 20000) (hr : Hid (LoadR S n = .error 1)) (hn : n < 1 ∨ 65535 < n) :
    Calls Try.prog 3 #[.slice (some ⟨S.b, S.o, none⟩) S.len S.cap, .int .i64 n, .int .i64 code, .int .i64 stop_] w fun e w' => e = .returned (.bool true) ∧ Below w.heap.size w w' := by
  obtain ⟨i0, hi, hz0, hz1, hz2⟩ := info_parts Try.info5
  have HL := Lib.hid hL
  have H := Lib.hid hI
  have hc := hI.hc
  clear hL hI
  have h20' : ¬ (20000 : Int) < (S.len : Int) := by omega
  rcases hn with h | h
  case' inr => have h' : ¬ n < 1 := by omega
  all_goals
    go_enter Try.func3, Try.ntmps3
    go_wp2_with (at_builtin; refine held_ ?_)
    refine unheld_ ?_
    refine wpList_append_own _ rfl (.tmp 18) (.tmp 19) 22 rfl w.heap.size 5 i0 _ 1 1 Try.underlying22 hi hz0 hz1 hz2 rfl (by decide) (.slice (some ⟨w.heap.size, 0, none⟩) 0 0) 0 [] rfl (ownsRow_empty w 5 1) ⟨S.b, S.o, none⟩ S.len S.cap ((upto S.f 0 S.len).map (Value.int .u8)) rfl (by simp [upto_len]) ?hc (by simp [Value.oneCell']) (by unfold maxLen; omega) (by omega) (by simp) ?_
    case hc =>
      intro j u hu
      have hj : j < S.len := by
        have := (List.getElem?_eq_some_iff.1 hu).1
        simpa [upto_len] using this
      have h1 := (H.out.bs j hj).1
      rw [add_none]
      refine (World.cell?_alloc_lt w _ ⟨S.b, S.o + j, none⟩ H.out.hb).trans ?_
      rw [h1, ← hu]
      simp [upto, hj]
    intro v' w4 hown hg hx
    rw [Nat.zero_add, List.nil_append] at hown
    have HB4 := Lib.hid (Below.grown (w := w.alloc (.cells #[] 5)) (Below.alloc (B := w.heap.size) (a := w) (w := w) (Below.refl _ _) (Nat.le_refl _) _) hg (by simp) (fun k e => by simp [Value.ownBlock] at e; omega))
    obtain ⟨T, rfl, hT, hTf, hTl⟩ := copied_all (S := S) (w := w) (by omega) (fun i hi => (H.out.bs i hi).2) hown (fun e => by have := hx.1 e; simp at this)
    have HT := Lib.hid hT
    have HRT := Lib.hid (LoadR_congr T S hTf hTl n)
    clear hown hg hx hT hTf hTl
    go_wp2_with (first
      | (go_at_call 5; refine (Load_err T n 1 _ HT.out (HRT.out.trans hr.out)).mono ?_; rintro e w5 ⟨rfl, hb⟩; have HB5 := Lib.hid (HB4.out.trans (hb.mono HB4.out.size)); clear hb)
      | (go_at_call 4; refine (HL.out _).mono ?_; rintro e w6 ⟨rfl, hb⟩; have HB6 := Lib.hid (HB5.out.trans (hb.mono HB5.out.size)); clear hb))
    go_ret
    exact ⟨rfl, HB6.out⟩

set_option maxHeartbeats 4000000 in
theorem main_err (hL : LivesOk) (S : Src) (n code stop_ : Int) (w : World) (hI : InM w S) (h20 : S.len ≤ 20000) (c : Int) (hr : Hid (LoadR S n = .error c)) (hn : ¬ (n < 1 ∨ 65535 < n)) :
    Calls Try.prog 3 #[.slice (some ⟨S.b, S.o, none⟩) S.len S.cap, .int .i64 n, .int .i64 code, .int .i64 stop_] w fun e w' => e = .returned (.bool true) ∧ Below w.heap.size w w' := by
  obtain ⟨i0, hi, hz0, hz1, hz2⟩ := info_parts Try.info5
  have HL := Lib.hid hL
  have H := Lib.hid hI
  have hc := hI.hc
  clear hL hI
  have h20' : ¬ (20000 : Int) < (S.len : Int) := by omega
  have hn1 : ¬ n < 1 := by omega
  have hn2 : ¬ 65535 < n := by omega
  all_goals
    go_enter Try.func3, Try.ntmps3
    go_wp2_with (at_builtin; refine held_ ?_)
    refine unheld_ ?_
    refine wpList_append_own _ rfl (.tmp 18) (.tmp 19) 22 rfl w.heap.size 5 i0 _ 1 1 Try.underlying22 hi hz0 hz1 hz2 rfl (by decide) (.slice (some ⟨w.heap.size, 0, none⟩) 0 0) 0 [] rfl (ownsRow_empty w 5 1) ⟨S.b, S.o, none⟩ S.len S.cap ((upto S.f 0 S.len).map (Value.int .u8)) rfl (by simp [upto_len]) ?hc (by simp [Value.oneCell']) (by unfold maxLen; omega) (by omega) (by simp) ?_
    case hc =>
      intro j u hu
      have hj : j < S.len := by
        have := (List.getElem?_eq_some_iff.1 hu).1
        simpa [upto_len] using this
      have h1 := (H.out.bs j hj).1
      rw [add_none]
      refine (World.cell?_alloc_lt w _ ⟨S.b, S.o + j, none⟩ H.out.hb).trans ?_
      rw [h1, ← hu]
      simp [upto, hj]
    intro v' w4 hown hg hx
    rw [Nat.zero_add, List.nil_append] at hown
    have HB4 := Lib.hid (Below.grown (w := w.alloc (.cells #[] 5)) (Below.alloc (B := w.heap.size) (a := w) (w := w) (Below.refl _ _) (Nat.le_refl _) _) hg (by simp) (fun k e => by simp [Value.ownBlock] at e; omega))
    obtain ⟨T, rfl, hT, hTf, hTl⟩ := copied_all (S := S) (w := w) (by omega) (fun i hi => (H.out.bs i hi).2) hown (fun e => by have := hx.1 e; simp at this)
    have HT := Lib.hid hT
    have HRT := Lib.hid (LoadR_congr T S hTf hTl n)
    clear hown hg hx hT hTf hTl
    go_wp2_with (first
      | (go_at_call 5; refine (Load_err T n c _ HT.out (HRT.out.trans hr.out)).mono ?_; rintro e w5 ⟨rfl, hb⟩; have HB5 := Lib.hid (HB4.out.trans (hb.mono HB4.out.size)); clear hb)
      | (go_at_call 4; refine (HL.out _).mono ?_; rintro e w6 ⟨rfl, hb⟩; have HB6 := Lib.hid (HB5.out.trans (hb.mono HB5.out.size)); clear hb)
      | (go_at_call 6; refine (RLoad_err S n c _ (H.out.below HB6.out) hn hr.out).mono ?_; rintro e w7 ⟨⟨rfl, hc0⟩, hb⟩; have HB7 := Lib.hid (HB6.out.trans (hb.mono HB6.out.size)); have hcc : (c != 0) = true := (by simpa using hc0); clear hb))
    go_ret
    exact ⟨rfl, HB7.out⟩

set_option maxHeartbeats 4000000 in
theorem main_ok (hL : LivesOk) (S : Src) (n code stop_ : Int) (w : World) (hI : InM w S) (h20 : S.len ≤ 20000) (f : Int) (l : List Seg) (hr : Hid (LoadR S n = .ok (f, l))) (hn : ¬ (n < 1 ∨ 65535 < n)) :
    Calls Try.prog 3 #[.slice (some ⟨S.b, S.o, none⟩) S.len S.cap, .int .i64 n, .int .i64 code, .int .i64 stop_] w fun e w' => e = .returned (.bool true) ∧ Below w.heap.size w w' := by
  obtain ⟨i0, hi, hz0, hz1, hz2⟩ := info_parts Try.info5
  have HL := Lib.hid hL
  have H := Lib.hid hI
  have hc := hI.hc
  clear hL hI
  have h20' : ¬ (20000 : Int) < (S.len : Int) := by omega
  have hn1 : ¬ n < 1 := by omega
  have hn2 : ¬ 65535 < n := by omega
  all_goals
    go_enter Try.func3, Try.ntmps3
    go_wp2_with (at_builtin; refine held_ ?_)
    refine unheld_ ?_
    refine wpList_append_own _ rfl (.tmp 18) (.tmp 19) 22 rfl w.heap.size 5 i0 _ 1 1 Try.underlying22 hi hz0 hz1 hz2 rfl (by decide) (.slice (some ⟨w.heap.size, 0, none⟩) 0 0) 0 [] rfl (ownsRow_empty w 5 1) ⟨S.b, S.o, none⟩ S.len S.cap ((upto S.f 0 S.len).map (Value.int .u8)) rfl (by simp [upto_len]) ?hc (by simp [Value.oneCell']) (by unfold maxLen; omega) (by omega) (by simp) ?_
    case hc =>
      intro j u hu
      have hj : j < S.len := by
        have := (List.getElem?_eq_some_iff.1 hu).1
        simpa [upto_len] using this
      have h1 := (H.out.bs j hj).1
      rw [add_none]
      refine (World.cell?_alloc_lt w _ ⟨S.b, S.o + j, none⟩ H.out.hb).trans ?_
      rw [h1, ← hu]
      simp [upto, hj]
    intro v' w4 hown hg hx
    rw [Nat.zero_add, List.nil_append] at hown
    have HB4 := Lib.hid (Below.grown (w := w.alloc (.cells #[] 5)) (Below.alloc (B := w.heap.size) (a := w) (w := w) (Below.refl _ _) (Nat.le_refl _) _) hg (by simp) (fun k e => by simp [Value.ownBlock] at e; omega))
    obtain ⟨T, rfl, hT, hTf, hTl⟩ := copied_all (S := S) (w := w) (by omega) (fun i hi => (H.out.bs i hi).2) hown (fun e => by have := hx.1 e; simp at this)
    have HT := Lib.hid hT
    have HRT := Lib.hid (LoadR_congr T S hTf hTl n)
    clear hown hg hx hT hTf hTl
    go_wp2_with fail
    refine (Load_yes T n f l _ HT.out (HRT.out.trans hr.out)).mono ?_
    rintro e w5 ⟨⟨p, rfl, hm5⟩, hb5⟩
    have HB5 := Lib.hid (HB4.out.trans (hb5.mono HB4.out.size))
    have HM5 := Lib.hid hm5
    clear hb5 hm5
    go_wp2_with fail
    refine (HL.out _).mono ?_
    rintro e w6 ⟨rfl, hb6⟩
    have HB6 := Lib.hid (HB5.out.trans (hb6.mono HB5.out.size))
    have HM6 := Lib.hid (HM5.out.below hb6)
    clear hb6
    go_wp2_with fail
    refine (RLoad_yes S n f l _ (H.out.below HB6.out) hn hr.out).mono ?_
    rintro e w7 ⟨⟨px, T2, rfl, hx7, hf, hlo, hok⟩, hb7⟩
    have HB7 := Lib.hid (HB6.out.trans (hb7.mono HB6.out.size))
    have HM7 := Lib.hid (HM6.out.below hb7)
    have HX7 := Lib.hid hx7
    have HF := Lib.hid hf
    have HLO := Lib.hid hlo
    have HOK := Lib.hid hok
    clear hb7 hx7 hf hlo hok
    go_wp2_with fail
    refine (Glyph_any p f n l code w7 HM7.out HOK.out).mono ?_
    rintro e w8 ⟨rfl, hb8⟩
    have HB8 := Lib.hid (HB7.out.trans (hb8.mono HB7.out.size))
    have HM8 := Lib.hid (HM7.out.below hb8)
    have HX8 := Lib.hid (HX7.out.below hb8)
    clear hb8
    go_wp2_with fail
    refine (RGlyph_any px T2 f n l code w8 HX8.out HF.out HLO.out).mono ?_
    rintro e w9 ⟨rfl, q, rfl⟩
    have HB9 := Lib.hid (HB8.out.trans (below_drewN _ w8 q))
    have HM9 := Lib.hid (HM8.out.below (below_drewN _ w8 q))
    have HX9 := Lib.hid (HX8.out.below (below_drewN _ w8 q))
    have hgg : (glyphV l n code == glyphV l n code) = true := by simp
    go_wp2_with fail
    refine (window_any p px T2 f n code stop_ l _ HM9.out HX9.out HF.out HLO.out HOK.out).mono ?_
    rintro e wa ⟨rfl, hba⟩
    have HBa := Lib.hid (HB9.out.trans (hba.mono HB9.out.size))
    have HMa := Lib.hid (HM9.out.below hba)
    have HXa := Lib.hid (HX9.out.below hba)
    clear hba
    go_wp2_with fail
    refine (window_any p px T2 f n 0 0 l _ HMa.out HXa.out HF.out HLO.out HOK.out).mono ?_
    rintro e wb ⟨rfl, hbb⟩
    have HBb := Lib.hid (HBa.out.trans (hbb.mono HBa.out.size))
    have HMb := Lib.hid (HMa.out.below hbb)
    have HXb := Lib.hid (HXa.out.below hbb)
    clear hbb
    go_wp2_with fail
    refine (window_any p px T2 f n 65400 0 l _ HMb.out HXb.out HF.out HLO.out HOK.out).mono ?_
    rintro e wc ⟨rfl, hbc⟩
    have HBc := Lib.hid (HBb.out.trans (hbc.mono HBb.out.size))
    clear hbc
    go_wp2
    go_ret
    exact ⟨rfl, HBc.out⟩

theorem main_some (hL : LivesOk) (S : Src) (n code stop_ : Int) (w : World) (hI : InM w S) (h20 : S.len ≤ 20000) :
    Calls Try.prog 3 #[.slice (some ⟨S.b, S.o, none⟩) S.len S.cap, .int .i64 n, .int .i64 code, .int .i64 stop_] w fun e w' => e = .returned (.bool true) ∧ Below w.heap.size w w' := by
  by_cases hn : n < 1 ∨ 65535 < n
  · exact main_arg hL S n code stop_ w hI h20 (by show LoadR S n = _; unfold LoadR; rw [if_pos hn]) hn
  · cases hr : LoadR S n with
    | error c => exact main_err hL S n code stop_ w hI h20 c hr hn
    | ok fl => exact main_ok hL S n code stop_ w hI h20 fl.1 fl.2 hr hn

theorem empty_own {w' : World} {v : Value} {B : Nat} (ho : w'.ownsRow B 5 1 v (0 + 0) ([] ++ [])) (hv : v ≠ .slice none 0 0) :
    ∃ T : Src, v = .slice (some ⟨T.b, T.o, none⟩) T.len T.cap ∧ InM w' T ∧ T.len = 0 := by
  rcases ho.2 with ⟨rfl, _⟩ | ⟨g, cap, cur, rfl, _, hg, hnc, _, _⟩
  · exact absurd rfl hv
  · exact ⟨⟨g, 0, 0, cap, fun _ => 0⟩, rfl, ⟨by simp, by simp, (Array.getElem?_eq_some_iff.1 hg).1, fun i hi => absurd hi (Nat.not_lt_zero _)⟩, rfl⟩

set_option maxHeartbeats 4000000 in
theorem main_empty (hL : LivesOk) (ad : Addr) (cap : Nat) (n code stop_ : Int) (w : World) :
    Calls Try.prog 3 #[.slice (some ad) 0 cap, .int .i64 n, .int .i64 code, .int .i64 stop_] w fun e w' => e = .returned (.bool true) ∧ Below w.heap.size w w' := by
  obtain ⟨i0, hi, hz0, hz1, hz2⟩ := info_parts Try.info5
  have HL := Lib.hid hL
  clear hL
  by_cases hn : n < 1 ∨ 65535 < n
  · have HN := Lib.hid hn
    rcases hn with h | h
    case' inr => have h' : ¬ n < 1 := by omega
    all_goals
      go_enter Try.func3, Try.ntmps3
      go_wp2_with (at_builtin; refine held_ ?_)
      refine unheld_ ?_
      refine wpList_append_own _ rfl (.tmp 18) (.tmp 19) 22 rfl w.heap.size 5 i0 _ 1 1 Try.underlying22 hi hz0 hz1 hz2 rfl (by decide) (.slice (some ⟨w.heap.size, 0, none⟩) 0 0) 0 [] rfl (ownsRow_empty w 5 1) ad 0 cap [] rfl rfl (fun j u h => by simp at h) (fun u h => by simp at h) (by unfold maxLen; omega) (by omega) (by simp) ?_
      intro v' w4 hown hg hx
      have HB4 := Lib.hid (Below.grown (w := w.alloc (.cells #[] 5)) (Below.alloc (B := w.heap.size) (a := w) (w := w) (Below.refl _ _) (Nat.le_refl _) _) hg (by simp) (fun k e => by simp [Value.ownBlock] at e; omega))
      obtain ⟨T, rfl, hT, hTl⟩ := empty_own hown (fun e => by have := hx.1 e; simp at this)
      have HT := Lib.hid hT
      have HRT := Lib.hid (LoadR_short T n (by omega))
      clear hown hg hx hT hTl
      go_wp2_with (first
        | (go_at_call 5; refine (Load_err T n 1 _ HT.out (by rw [HRT.out, if_pos HN.out])).mono ?_; rintro e w5 ⟨rfl, hb⟩; have HB5 := Lib.hid (HB4.out.trans (hb.mono HB4.out.size)); clear hb)
        | (go_at_call 4; refine (HL.out _).mono ?_; rintro e w6 ⟨rfl, hb⟩; have HB6 := Lib.hid (HB5.out.trans (hb.mono HB5.out.size)); clear hb))
      go_ret
      exact ⟨rfl, HB6.out⟩
  · have HN := Lib.hid hn
    have h1 : ¬ n < 1 := by omega
    have h2 : ¬ 65535 < n := by omega
    clear hn
    all_goals
      go_enter Try.func3, Try.ntmps3
      go_wp2_with (at_builtin; refine held_ ?_)
      refine unheld_ ?_
      refine wpList_append_own _ rfl (.tmp 18) (.tmp 19) 22 rfl w.heap.size 5 i0 _ 1 1 Try.underlying22 hi hz0 hz1 hz2 rfl (by decide) (.slice (some ⟨w.heap.size, 0, none⟩) 0 0) 0 [] rfl (ownsRow_empty w 5 1) ad 0 cap [] rfl rfl (fun j u h => by simp at h) (fun u h => by simp at h) (by unfold maxLen; omega) (by omega) (by simp) ?_
      intro v' w4 hown hg hx
      have HB4 := Lib.hid (Below.grown (w := w.alloc (.cells #[] 5)) (Below.alloc (B := w.heap.size) (a := w) (w := w) (Below.refl _ _) (Nat.le_refl _) _) hg (by simp) (fun k e => by simp [Value.ownBlock] at e; omega))
      obtain ⟨T, rfl, hT, hTl⟩ := empty_own hown (fun e => by have := hx.1 e; simp at this)
      have HT := Lib.hid hT
      have HRT := Lib.hid (LoadR_short T n (by omega))
      clear hown hg hx hT hTl
      go_wp2_with (first
        | (go_at_call 5; refine (Load_err T n 80 _ HT.out (by rw [HRT.out, if_neg HN.out])).mono ?_; rintro e w5 ⟨rfl, hb⟩; have HB5 := Lib.hid (HB4.out.trans (hb.mono HB4.out.size)); clear hb)
        | (go_at_call 4; refine (HL.out _).mono ?_; rintro e w6 ⟨rfl, hb⟩; have HB6 := Lib.hid (HB5.out.trans (hb.mono HB5.out.size)); clear hb)
        | (go_at_call 6; refine (RLoad_short ⟨0, 0, 0, 0, fun _ => 0⟩ n 0 _ _ (by omega) _).mono ?_; rintro e w7 ⟨rfl, hb⟩; have HB7 := Lib.hid (HB6.out.trans (hb.mono HB6.out.size)); clear hb))
      go_ret
      exact ⟨rfl, HB7.out⟩

end Go.Proofs.Ythfppmamnnnnmaa
