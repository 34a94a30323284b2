/-
  charmap.load12.
-/
import Derived.Test.YthfppmamnnnnmaaLoad6
set_option linter.unusedVariables false
namespace Go.Proofs.Ythfppmamnnnnmaa
open Go.RowKit

def seg12 (S : Src) (k : Nat) : Seg := { first := be4 S (16 + 12 * k), last := be4 S (16 + 12 * k + 4), glyph := be4 S (16 + 12 * k + 4 + 4), rounds := false, list := none, delta := 0 }
/-- What k groups leave: the last code point, the segments; none: one may not be. -/
def st12 (S : Src) : Nat → Option (Int × List Seg)
  | 0 => some (-1, [])
  | k + 1 => (st12 S k).bind fun p =>
    if (seg12 S k).last < (seg12 S k).first ∨ (seg12 S k).first ≤ p.1 ∨ 1114111 < (seg12 S k).last then none else some ((seg12 S k).last, p.2 ++ [seg12 S k])

theorem st12_none (S : Src) {k : Nat} (h : st12 S k = none) : ∀ n, k ≤ n → st12 S n = none := by
  intro n
  induction n with
  | zero => intro hk; obtain rfl : k = 0 := by omega
            exact h
  | succ n ih =>
    intro hk
    by_cases e : k = n + 1
    · subst e; exact h
    · rw [st12, ih (by omega)]; rfl
theorem st12_len (S : Src) : ∀ k p, st12 S k = some p → p.2.length = k := by
  intro k
  induction k with
  | zero => intro p h; simp [st12] at h; subst h; rfl
  | succ k ih =>
    intro p h
    rw [st12] at h
    cases hk : st12 S k with
    | none => rw [hk] at h; simp at h
    | some q =>
      rw [hk] at h
      simp only [Option.bind_some] at h
      split at h
      · cases h
      · injection h with h; subst h; simp [ih q hk]
theorem st12_last (S : Src) (hS : ∀ a, a + 4 ≤ S.len → 0 ≤ be4 S a) : ∀ k p, st12 S k = some p → 16 + 12 * k ≤ S.len → -1 ≤ p.1 ∧ p.1 ≤ 1114111 := by
  intro k
  induction k with
  | zero => intro p h _; simp [st12] at h; subst h; decide
  | succ k ih =>
    intro p h hl
    rw [st12] at h
    cases hk : st12 S k with
    | none => rw [hk] at h; simp at h
    | some q =>
      rw [hk] at h
      simp only [Option.bind_some] at h
      split at h
      · cases h
      · rename_i hc
        injection h with h; subst h
        have := hS (16 + 12 * k + 4) (by omega)
        simp only [seg12] at hc ⊢
        omega

theorem st12_bad {S : Src} {k : Nat} {last : Int} {l : List Seg} (h : st12 S k = some (last, l)) (hb : be4 S (16 + 12 * k + 4) < be4 S (16 + 12 * k) ∨ be4 S (16 + 12 * k) ≤ last ∨ 1114111 < be4 S (16 + 12 * k + 4)) : st12 S (k + 1) = none := by
  rw [st12, h]
  simp only [Option.bind_some]
  exact if_pos hb
theorem st12_good {S : Src} {k : Nat} {last : Int} {l : List Seg} (h : st12 S k = some (last, l)) (hb : ¬ (be4 S (16 + 12 * k + 4) < be4 S (16 + 12 * k) ∨ be4 S (16 + 12 * k) ≤ last ∨ 1114111 < be4 S (16 + 12 * k + 4))) :
    st12 S (k + 1) = some (be4 S (16 + 12 * k + 4), l ++ [seg12 S k]) := by
  rw [st12, h]
  simp only [Option.bind_some]
  exact if_neg hb

theorem load12_short (S : Src) (w : World) (h : InM w S) (hk : S.len < 16) :
    Calls Try.prog 41 #[.slice (some ⟨S.b, S.o, none⟩) S.len S.cap] w (LoadPost none w) := by
  have H := Lib.hid h
  clear h
  go_enter Try.func41, Try.ntmps41
  go_wp2_with fail
  refine (new_any S _ H.out.hlen H.out.hc H.out.hb H.out.bs).mono ?_
  rintro e w1 ⟨rfl, hr1, hb1, hs1⟩
  have Hr1 := Lib.hid hr1
  have Hb1 := Lib.hid hb1
  clear hr1 hb1
  go_wp2_with fail
  refine (seek_any w.heap.size S _ 12 _ rfl _ _ Hr1.out (by omega)).mono ?_
  rintro e w2 ⟨rfl, hr2, ht2⟩
  have Hr2 := Lib.hid hr2
  have Ht2 := Lib.hid ht2
  clear hr2 ht2
  go_wp2_with fail
  refine (u32_any w.heap.size S _ _ _ Hr2.out).mono ?_
  rintro e w3 ⟨rfl, hr3, ht3⟩
  have Hr3 := Lib.hid hr3
  have Ht3 := Lib.hid ht3
  clear hr3 ht3
  have e1 : (!okB S (skAt S 12 0 false) 4 (!skB S 12 false)) = true := by
    simp only [okB, skAt, skB]
    by_cases h6 : 12 ≤ S.len
    · simp [h6]; omega
    · simp [h6]
  rw [e1] at Hr3
  go_wp2_with (go_at_call 15; refine (done_any w.heap.size _ _ _ _ Hr3.out.rd).mono ?_; rintro e w5 ⟨rfl, rfl⟩)
  go_ret2
  exact ⟨Hb1.out.trans ((Ht2.out.trans Ht3.out).below (Nat.le_refl _) Hb1.out.size), _, rfl⟩

theorem load12_bad (S : Src) (w : World) (h : InM w S) (hk : 16 ≤ S.len) (hx : ((S.len : Int) - 16) / 12 < be4 S 12) :
    Calls Try.prog 41 #[.slice (some ⟨S.b, S.o, none⟩) S.len S.cap] w (LoadPost none w) := by
  have H := Lib.hid h
  have b0 := (be4_bd h.bs (a := 12) (by omega)).1
  have b1 := (be4_bd h.bs (a := 12) (by omega)).2
  have hl := h.hlen
  clear h
  go_enter Try.func41, Try.ntmps41
  go_wp2_with fail
  refine (new_any S _ H.out.hlen H.out.hc H.out.hb H.out.bs).mono ?_
  rintro e w1 ⟨rfl, hr1, hb1, hs1⟩
  have Hr1 := Lib.hid hr1
  have Hb1 := Lib.hid hb1
  clear hr1 hb1
  go_wp2_with fail
  refine (seek_yes w.heap.size S _ 12 _ rfl _ Hr1.out (by omega)).mono ?_
  rintro e w2 ⟨rfl, hr2, ht2⟩
  have Hr2 := Lib.hid hr2
  have Ht2 := Lib.hid ht2
  clear hr2 ht2
  go_wp2_with fail
  refine (u32_yes w.heap.size S _ _ Hr2.out (by omega)).mono ?_
  rintro e w3 ⟨rfl, hr3, ht3⟩
  have Hr3 := Lib.hid hr3
  have Ht3 := Lib.hid ht3
  clear hr3 ht3
  have Hb := Lib.hid (Hb1.out.trans ((Ht2.out.trans Ht3.out).below (Nat.le_refl _) Hb1.out.size))
  go_wp2_with (first | (go_at_call 15; refine (done_yes w.heap.size _ _ _ Hr3.out.rd).mono ?_; rintro e w5 ⟨rfl, rfl⟩) | (go_at_call 66; refine (left_yes w.heap.size S _ _ Hr3.out).mono ?_; rintro e w5 ⟨rfl, q, rfl⟩))
  go_ret2
  exact ⟨Below.trans Hb.out ⟨rfl, rfl, rfl, Nat.le_refl _, fun _ _ => rfl⟩, _, rfl⟩

set_option maxRecDepth 100000 in
set_option maxHeartbeats 800000 in
theorem load12_go (S : Src) (w : World) (h : InM w S) (hk : 16 ≤ S.len) (hx : ¬ ((S.len : Int) - 16) / 12 < be4 S 12) :
    Calls Try.prog 41 #[.slice (some ⟨S.b, S.o, none⟩) S.len S.cap] w (LoadPost ((st12 S (be4 S 12).toNat).map (·.2)) w) := by
  obtain ⟨i0, hi, hz0, hz1, hz2⟩ := info_parts Try.info59
  have H := Lib.hid h
  have HB4 := Lib.hid (fun a ha => be4_bd (a := a) h.bs ha)
  have hS : ∀ a, a + 4 ≤ S.len → 0 ≤ be4 S a := fun a ha => (be4_bd h.bs ha).1
  have HS := Lib.hid hS
  have hn : be4 S 12 = ((be4 S 12).toNat : Int) := by have := hS 12 (by omega); omega
  obtain ⟨n, hnn⟩ : ∃ n, n = (be4 S 12).toNat := ⟨_, rfl⟩
  rw [← hnn] at hn ⊢
  have hl := h.hlen
  have hx2 : ¬ ((S.len : Int) - 16) / 12 < (n : Int) := by rw [← hn]; exact hx
  have hle : 16 + 12 * n ≤ S.len := by omega
  have HN := Lib.hid hn
  clear h hS hn hnn hx
  go_enter Try.func41, Try.ntmps41
  go_wp2_with fail
  refine (new_any S _ H.out.hlen H.out.hc H.out.hb H.out.bs).mono ?_
  rintro e w1 ⟨rfl, hr1, hb1, hs1⟩
  have Hr1 := Lib.hid hr1
  have Hb1 := Lib.hid hb1
  clear hr1 hb1
  go_wp2_with fail
  refine (seek_yes w.heap.size S _ 12 _ rfl _ Hr1.out (by omega)).mono ?_
  rintro e w2 ⟨rfl, hr2, ht2⟩
  have Hr2 := Lib.hid hr2
  have Ht2 := Lib.hid ht2
  clear hr2 ht2
  go_wp2_with fail
  refine (u32_yes w.heap.size S _ _ Hr2.out (by omega)).mono ?_
  rintro e w3 ⟨rfl, hr3, ht3⟩
  rw [HN.out]
  have Hr3 := Lib.hid hr3
  have Ht3 := Lib.hid ht3
  clear hr3 ht3
  have Hb := Lib.hid (Hb1.out.trans ((Ht2.out.trans Ht3.out).below (Nat.le_refl _) Hb1.out.size))
  go_wp2_with (first | (go_at_call 15; refine (done_yes w.heap.size _ _ _ Hr3.out.rd).mono ?_; rintro e w5 ⟨rfl, rfl⟩) | (go_at_call 66; refine (left_yes w.heap.size S _ _ Hr3.out).mono ?_; rintro e w5 ⟨rfl, q, rfl⟩))
  have HR0 := Lib.hid (Hr3.out.drewN q)
  have HB0 := Lib.hid (Below.trans (c := w3.drewN q) Hb.out ⟨rfl, rfl, rfl, Nat.le_refl _, fun _ _ => rfl⟩)
  clear Hr1 Hb1 Hr2 Ht2 Hr3 Ht3 Hb
  go_loopw [6, 7, 26] (fun v lv i wr => ∃ (k : Nat) (last : Int) (l : List Seg), k ≤ n ∧ i = .int .i64 k ∧ lv = .int .i64 last ∧ st12 S k = some (last, l) ∧ RdS wr w.heap.size S (16 + 12 * k) false ∧ Below w.heap.size w wr ∧ SegsAt wr (w.heap.size + 1) v l) (fun _ _ i _ => n - (intOf i).toNat)
  case atStart => exact ⟨0, -1, [], Nat.zero_le _, rfl, rfl, rfl, HR0.out, HB0.out, SegsAt.nil _ _⟩
  case round =>
    obtain ⟨k, last, l, hkn, rfl, rfl, hst, hr, hb, hs⟩ := hrel
    have hlast := st12_last S HS.out k _ hst (by omega)
    have hl0 : -1 ≤ last := hlast.1
    have hl1 : last ≤ 1114111 := hlast.2
    have HST := Lib.hid hst
    have HL := Lib.hid (st12_len S k _ hst)
    have HR := Lib.hid hr
    have HB := Lib.hid hb
    have HSG := Lib.hid hs
    clear hst hr hb hs hlast HR0 HB0
    by_cases hlt : k < n
    · have f0 := (HB4.out (16 + 12 * k) (by omega)).1
      have f1 := (HB4.out (16 + 12 * k) (by omega)).2
      have e0 := (HB4.out (16 + 12 * k + 4) (by omega)).1
      have e1 := (HB4.out (16 + 12 * k + 4) (by omega)).2
      go_wp2_with fail
      refine (u32_yes w.heap.size S _ _ HR.out (by omega)).mono ?_
      rintro e w5 ⟨rfl, hr5, ht5⟩
      have Hr5 := Lib.hid hr5
      have Ht5 := Lib.hid ht5
      clear hr5 ht5
      go_wp2_with fail
      refine (u32_yes w.heap.size S _ _ Hr5.out (by omega)).mono ?_
      rintro e w6 ⟨rfl, hr6, ht6⟩
      have Hr6 := Lib.hid hr6
      have Ht6 := Lib.hid ht6
      clear hr6 ht6
      go_wp2_with fail
      refine (u32_yes w.heap.size S _ _ Hr6.out (by omega)).mono ?_
      rintro e w7 ⟨rfl, hr7, ht7⟩
      have Ht := Lib.hid ((Ht5.out.trans Ht6.out).trans ht7)
      have Hr7 := Lib.hid hr7
      have Hsg := Lib.hid (HSG.out.kept Ht.out (by omega))
      have Hbb := Lib.hid (Below.trans HB.out (Ht.out.below (Nat.le_refl _) HB.out.size))
      clear hr7 ht7 Hr5 Ht5 Hr6 Ht6
      by_cases hbad : be4 S (16 + 12 * k + 4) < be4 S (16 + 12 * k) ∨ be4 S (16 + 12 * k) ≤ last ∨ 1114111 < be4 S (16 + 12 * k + 4)
      · have HX : Hid ((st12 S n).map (·.2) = none) := by
          have e : st12 S (k + 1) = none := st12_bad HST.out hbad
          show (st12 S n).map (·.2) = none
          rw [st12_none S e n (by omega)]
          rfl
        by_cases hA : be4 S (16 + 12 * k + 4) < be4 S (16 + 12 * k)
        · go_wp2
          go_ret2
          rw [HX.out]
          exact ⟨Hbb.out.alloc Hbb.out.size _, _, rfl⟩
        · by_cases hB : be4 S (16 + 12 * k) ≤ last
          · go_wp2
            go_ret2
            rw [HX.out]
            exact ⟨Hbb.out.alloc Hbb.out.size _, _, rfl⟩
          · have hC : 1114111 < be4 S (16 + 12 * k + 4) := by omega
            go_wp2
            go_ret2
            rw [HX.out]
            exact ⟨Hbb.out.alloc Hbb.out.size _, _, rfl⟩
      · have hA : ¬ be4 S (16 + 12 * k + 4) < be4 S (16 + 12 * k) := by omega
        have hB : ¬ be4 S (16 + 12 * k) ≤ last := by omega
        have hC : ¬ 1114111 < be4 S (16 + 12 * k + 4) := by omega
        have HNB := Lib.hid hbad
        clear hbad
        obtain ⟨lvs, g1, g2, g3⟩ := Hsg.out
        have G1 := Lib.hid g1
        have G2 := Lib.hid g2
        have G3 := Lib.hid g3
        clear g1 g2 g3 Hsg HSG
        go_wp2_with (at_builtin; refine wpList_append_own _ rfl (.tmp 53) (.tmp 55) 48 rfl (w.heap.size + 1) 59 i0 _ 6 64 Try.underlying48 hi hz0 hz1 hz2 rfl (by decide) _ _ _ rfl (World.ownsRow.alloc (World.ownsRow.alloc G2.out _) _) ⟨w7.heap.size + 1, 0, none⟩ 1 1 (segCells (seg12 S k) (.slice none 0 0)) rfl rfl ?hc ?h1 ?c3 ?c4 ?c5 ?_)
        case hc => exact cells_new_at _ _ _ _ (by simp)
        case h1 => simp [segCells, Value.oneCell']
        case c3 => have : l.length = k := HL.out; rw [this]; unfold maxLen; omega
        case c4 => have : l.length = k := HL.out; rw [this]; omega
        case c5 => have := Hbb.out.size; have := Blk.lt Hr7.out.rd; simp; omega
        intro v' w8 hown hg hx
        have hrow : ∀ g, Value.ownBlock u6 = some g → w.heap.size + 1 ≤ g := fun g e => (World.ownsRow.lt G2.out g e).1
        have hz2 : w.heap.size ≤ w7.heap.size := Hbb.out.size
        have HS8 := Lib.hid (SegsAt.snoc (w := (w7.alloc _).alloc _) (s := seg12 S k) (lv := .slice none 0 0) G1.out (World.ownsRow.alloc (World.ownsRow.alloc G2.out _) _) (fun i s lv a b => ((G3.out i s lv a b).below ((Below.refl _ _).alloc (Nat.le_refl _) _)).below ((Below.refl _ _).alloc (Nat.le_refl _) _)) (.inl ⟨rfl, rfl⟩) hown hg)
        have HR8 := Lib.hid (((Hr7.out.alloc _).alloc _).grown hg (fun g e => by have := hrow g e; omega))
        have HB8 := Lib.hid (((Hbb.out.alloc hz2 _).alloc (by simp; omega) _).grown hg (by simp; omega) (fun g e => by have := hrow g e; omega))
        clear hown hg hx hrow G1 G2 G3 Hr7 Hbb hz2
        go_wp2
        go_roundw
        case rel => exact ⟨k + 1, _, _, by omega, by go_num, rfl, st12_good HST.out HNB.out, HR8.out, HB8.out, HS8.out⟩
        case measure => simp [intOf]; omega
    · have hge : ¬ (k : Int) < (n : Int) := by omega
      go_wp2
      go_ret2
      obtain rfl : k = n := by omega
      have HST2 := HST.out
      unfold LoadPost
      rw [HST2]
      exact ⟨HB.out, _, rfl, SegsAt.mono HSG.out (by omega)⟩

end Go.Proofs.Ythfppmamnnnnmaa
