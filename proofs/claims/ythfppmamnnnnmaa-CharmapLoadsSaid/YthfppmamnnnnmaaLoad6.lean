/-
  charmap.load6.
-/
import Derived.Test.YthfppmamnnnnmaaLoad0
set_option linter.unusedVariables false
namespace Go.Proofs.Ythfppmamnnnnmaa
open Go.RowKit

/-- The number of two bytes from a on; of four. -/
def be2 (S : Src) (a : Nat) : Int := num (fun j => S.f (a + j)) 2
def be4 (S : Src) (a : Nat) : Int := num (fun j => S.f (a + j)) 4

theorem u16_yes (r : Nat) (S : Src) (a : Nat) (w : World) (h : RdS w r S a false) (ha : a + 2 ≤ S.len) :
    Calls Try.prog 14 #[.pointer (some ⟨r, 0, none⟩)] w fun e w' => e = .returned (.int .i64 (be2 S a)) ∧ RdS w' r S (a + 2) false ∧ Turns w w' r := by
  refine (u16_any r S a false w h).mono ?_
  rintro e w' ⟨rfl, h2, h3⟩
  have e1 : okB S a 2 false = true := by simp [okB, ha]
  rw [atB, e1] at h2
  exact ⟨by rw [numB, e1]; rfl, h2, h3⟩
theorem u32_yes (r : Nat) (S : Src) (a : Nat) (w : World) (h : RdS w r S a false) (ha : a + 4 ≤ S.len) :
    Calls Try.prog 37 #[.pointer (some ⟨r, 0, none⟩)] w fun e w' => e = .returned (.int .i64 (be4 S a)) ∧ RdS w' r S (a + 4) false ∧ Turns w w' r := by
  refine (u32_any r S a false w h).mono ?_
  rintro e w' ⟨rfl, h2, h3⟩
  have e1 : okB S a 4 false = true := by simp [okB, ha]
  rw [atB, e1] at h2
  exact ⟨by rw [numB, e1]; rfl, h2, h3⟩
theorem seek_yes (r : Nat) (S : Src) (a n : Nat) (m : Int) (hm : m = n) (w : World) (h : RdS w r S a false) (ha : n ≤ S.len) :
    Calls Try.prog 36 #[.pointer (some ⟨r, 0, none⟩), .int .i64 m] w fun e w' => e = .returned (.bool true) ∧ RdS w' r S n false ∧ Turns w w' r := by
  refine (seek_any r S a n m hm false w h (by have := h.hlen; omega)).mono ?_
  rintro e w' ⟨rfl, h2, h3⟩
  have e1 : skB S n false = true := by simp [skB, ha]
  rw [skAt, e1] at h2
  exact ⟨by rw [e1], h2, h3⟩

def nums (S : Src) (a k : Nat) : List Int := (List.range k).map fun i => be2 S (a + 2 * i)
theorem nums_len (S : Src) (a k : Nat) : (nums S a k).length = k := by simp [nums]
theorem wst_yes (S : Src) (a : Nat) : ∀ k, a + 2 * k ≤ S.len → wst S a false k = (a + 2 * k, false, nums S a k) := by
  intro k
  induction k with
  | zero => intro _; rfl
  | succ k ih =>
    intro h
    have e1 : okB S (a + 2 * k) 2 false = true := by simp [okB]; omega
    rw [wst, ih (by omega)]
    simp only [atB, numB, e1, if_true, Bool.not_true]
    simp [nums, List.range_succ, be2, Nat.mul_succ, Nat.add_assoc]

theorem be2_bd {w : World} {S : Src} {a : Nat} (h : Bs w S.b S.o S.len S.f) (ha : a + 2 ≤ S.len) : 0 ≤ be2 S a ∧ be2 S a < 65536 := by
  have h0 := (h a (by omega)).2
  have h1 := (h (a + 1) (by omega)).2
  simp only [be2, num, Nat.add_zero]
  omega
theorem be4_bd {w : World} {S : Src} {a : Nat} (h : Bs w S.b S.o S.len S.f) (ha : a + 4 ≤ S.len) : 0 ≤ be4 S a ∧ be4 S a < 4294967296 := by
  have h0 := (h a (by omega)).2
  have h1 := (h (a + 1) (by omega)).2
  have h2 := (h (a + 2) (by omega)).2
  have h3 := (h (a + 3) (by omega)).2
  simp only [be4, num, Nat.add_zero]
  omega

def seg6 (S : Src) : Seg := { first := be2 S 6, last := be2 S 6 + be2 S 8 - 1, glyph := 0, rounds := false, list := some (nums S 10 (be2 S 8).toNat), delta := 0 }

theorem load6_short (S : Src) (w : World) (h : InM w S) (hk : S.len < 10) :
    Calls Try.prog 40 #[.slice (some ⟨S.b, S.o, none⟩) S.len S.cap] w (LoadPost none w) := by
  have H := Lib.hid h
  clear h
  go_enter Try.func40, Try.ntmps40
  go_wp2_with fail
  refine (new_any S _ H.out.hlen H.out.hc H.out.hb H.out.bs).mono ?_
  rintro e w1 ⟨rfl, hr1, hb1, hs1⟩
  have Hr1 := Lib.hid hr1
  have Hb1 := Lib.hid hb1
  clear hr1 hb1
  go_wp2_with fail
  refine (seek_any w.heap.size S _ 6 _ rfl _ _ Hr1.out (by omega)).mono ?_
  rintro e w2 ⟨rfl, hr2, ht2⟩
  have Hr2 := Lib.hid hr2
  have Ht2 := Lib.hid ht2
  clear hr2 ht2
  go_wp2_with fail
  refine (u16_any w.heap.size S _ _ _ Hr2.out).mono ?_
  rintro e w3 ⟨rfl, hr3, ht3⟩
  have Hr3 := Lib.hid hr3
  have Ht3 := Lib.hid ht3
  clear hr3 ht3
  go_wp2_with fail
  refine (u16_any w.heap.size S _ _ _ Hr3.out).mono ?_
  rintro e w4 ⟨rfl, hr4, ht4⟩
  have Hr4 := Lib.hid hr4
  have Ht4 := Lib.hid ht4
  clear hr4 ht4
  have e1 : (!okB S (atB S (skAt S 6 0 false) 2 (!skB S 6 false)) 2 (!okB S (skAt S 6 0 false) 2 (!skB S 6 false))) = true := by
    simp only [okB, atB, skAt, skB]
    by_cases h6 : 6 ≤ S.len
    · by_cases h8 : 8 ≤ S.len
      · simp [h6, h8]; omega
      · simp [h6, h8]
    · simp [h6]
  rw [e1] at Hr4
  go_wp2_with (go_at_call 15; refine (done_any w.heap.size _ _ _ _ Hr4.out.rd).mono ?_; rintro e w5 ⟨rfl, rfl⟩)
  go_ret2
  exact ⟨Hb1.out.trans (((Ht2.out.trans Ht3.out).trans Ht4.out).below (Nat.le_refl _) Hb1.out.size), _, rfl⟩

theorem left_yes (r : Nat) (S : Src) (a : Nat) (w : World) (h : RdS w r S a false) :
    Calls Try.prog 66 #[.pointer (some ⟨r, 0, none⟩)] w fun e w' => e = .returned (.int .i64 ((S.len : Int) - a)) ∧ ∃ q, w' = w.drewN q := by
  refine (left_any r S a false w h).mono ?_
  rintro e w' ⟨rfl, h2⟩
  exact ⟨rfl, h2⟩

theorem done_yes (r : Nat) (v : Value) (at_ : Int) (w : World) (h : Rd w r v at_ false) :
    Calls Try.prog 15 #[.pointer (some ⟨r, 0, none⟩)] w fun e w' => e = .returned (.int .i64 0) ∧ w = w' := done_any r v at_ false w h

theorem load6_bad (S : Src) (w : World) (h : InM w S) (hk : 10 ≤ S.len) (hx : (S.len : Int) - 10 < 2 * be2 S 8 ∨ 65536 < be2 S 6 + be2 S 8) :
    Calls Try.prog 40 #[.slice (some ⟨S.b, S.o, none⟩) S.len S.cap] w (LoadPost none w) := by
  have H := Lib.hid h
  have b60 := (be2_bd h.bs (a := 6) (by omega)).1
  have b61 := (be2_bd h.bs (a := 6) (by omega)).2
  have b80 := (be2_bd h.bs (a := 8) (by omega)).1
  have b81 := (be2_bd h.bs (a := 8) (by omega)).2
  clear h
  by_cases hy : (S.len : Int) - 10 < 2 * be2 S 8
  all_goals
    go_enter Try.func40, Try.ntmps40
    go_wp2_with fail
    refine (new_any S _ H.out.hlen H.out.hc H.out.hb H.out.bs).mono ?_
    rintro e w1 ⟨rfl, hr1, hb1, hs1⟩
    have Hr1 := Lib.hid hr1
    have Hb1 := Lib.hid hb1
    clear hr1 hb1
    go_wp2_with fail
    refine (seek_yes w.heap.size S _ 6 _ rfl _ Hr1.out (by omega)).mono ?_
    rintro e w2 ⟨rfl, hr2, ht2⟩
    have Hr2 := Lib.hid hr2
    have Ht2 := Lib.hid ht2
    clear hr2 ht2
    go_wp2_with fail
    refine (u16_yes w.heap.size S _ _ Hr2.out (by omega)).mono ?_
    rintro e w3 ⟨rfl, hr3, ht3⟩
    have Hr3 := Lib.hid hr3
    have Ht3 := Lib.hid ht3
    clear hr3 ht3
    go_wp2_with fail
    refine (u16_yes w.heap.size S _ _ Hr3.out (by omega)).mono ?_
    rintro e w4 ⟨rfl, hr4, ht4⟩
    have Hr4 := Lib.hid hr4
    have Ht4 := Lib.hid ht4
    clear hr4 ht4
    have Hb := Lib.hid (Hb1.out.trans (((Ht2.out.trans Ht3.out).trans Ht4.out).below (Nat.le_refl _) Hb1.out.size))
    go_wp2_with (first | (go_at_call 15; refine (done_yes w.heap.size _ _ _ Hr4.out.rd).mono ?_; rintro e w5 ⟨rfl, rfl⟩) | (go_at_call 66; refine (left_yes w.heap.size S _ _ Hr4.out).mono ?_; rintro e w5 ⟨rfl, q, rfl⟩))
  · go_ret2
    exact ⟨Below.trans Hb.out ⟨rfl, rfl, rfl, Nat.le_refl _, fun _ _ => rfl⟩, _, rfl⟩
  · have hz : 65536 < be2 S 6 + be2 S 8 := by omega
    go_wp2
    go_ret2
    exact ⟨Below.trans Hb.out ⟨rfl, rfl, rfl, Nat.le_refl _, fun _ _ => rfl⟩, _, rfl⟩

theorem load6_zero (S : Src) (w : World) (h : InM w S) (hk : 10 ≤ S.len) (hz : be2 S 8 = 0) :
    Calls Try.prog 40 #[.slice (some ⟨S.b, S.o, none⟩) S.len S.cap] w (LoadPost (some []) w) := by
  have H := Lib.hid h
  have HZ := Lib.hid hz
  have b60 := (be2_bd h.bs (a := 6) (by omega)).1
  have b61 := (be2_bd h.bs (a := 6) (by omega)).2
  have b80 := (be2_bd h.bs (a := 8) (by omega)).1
  have b81 : be2 S 8 ≤ 0 := by omega
  have hc : (be2 S 8 == 0) = true := by simp [hz]
  have hx : ¬ (S.len : Int) - 10 < 2 * be2 S 8 := by omega
  have hy : ¬ 65536 < be2 S 6 + be2 S 8 := by omega
  clear h hz
  go_enter Try.func40, Try.ntmps40
  go_wp2_with fail
  refine (new_any S _ H.out.hlen H.out.hc H.out.hb H.out.bs).mono ?_
  rintro e w1 ⟨rfl, hr1, hb1, hs1⟩
  have Hr1 := Lib.hid hr1
  have Hb1 := Lib.hid hb1
  clear hr1 hb1
  go_wp2_with fail
  refine (seek_yes w.heap.size S _ 6 _ rfl _ Hr1.out (by omega)).mono ?_
  rintro e w2 ⟨rfl, hr2, ht2⟩
  have Hr2 := Lib.hid hr2
  have Ht2 := Lib.hid ht2
  clear hr2 ht2
  go_wp2_with fail
  refine (u16_yes w.heap.size S _ _ Hr2.out (by omega)).mono ?_
  rintro e w3 ⟨rfl, hr3, ht3⟩
  have Hr3 := Lib.hid hr3
  have Ht3 := Lib.hid ht3
  clear hr3 ht3
  go_wp2_with fail
  refine (u16_yes w.heap.size S _ _ Hr3.out (by omega)).mono ?_
  rintro e w4 ⟨rfl, hr4, ht4⟩
  have Hr4 := Lib.hid hr4
  have Ht4 := Lib.hid ht4
  clear hr4 ht4
  have Hb := Lib.hid (Hb1.out.trans (((Ht2.out.trans Ht3.out).trans Ht4.out).below (Nat.le_refl _) Hb1.out.size))
  go_wp2_with (first | (go_at_call 15; refine (done_yes w.heap.size _ _ _ Hr4.out.rd).mono ?_; rintro e w5 ⟨rfl, rfl⟩) | (go_at_call 66; refine (left_yes w.heap.size S _ _ Hr4.out).mono ?_; rintro e w5 ⟨rfl, q, rfl⟩))
  go_ret2
  exact ⟨Below.trans Hb.out ⟨rfl, rfl, rfl, Nat.le_refl _, fun _ _ => rfl⟩, _, rfl, SegsAt.nil _ _⟩

theorem load6_yes (S : Src) (w : World) (h : InM w S) (hk : 10 ≤ S.len) (hz : 0 < be2 S 8) (hx : ¬ (S.len : Int) - 10 < 2 * be2 S 8) (hy : ¬ 65536 < be2 S 6 + be2 S 8) :
    Calls Try.prog 40 #[.slice (some ⟨S.b, S.o, none⟩) S.len S.cap] w (LoadPost (some [seg6 S]) w) := by
  have H := Lib.hid h
  have b60 := (be2_bd h.bs (a := 6) (by omega)).1
  have b61 := (be2_bd h.bs (a := 6) (by omega)).2
  have b81 := (be2_bd h.bs (a := 8) (by omega)).2
  have hc : (be2 S 8 == 0) = false := by simp; omega
  have hn : be2 S 8 = ((be2 S 8).toNat : Int) := by omega
  have HN := Lib.hid hn
  clear h hn
  go_enter Try.func40, Try.ntmps40
  go_wp2_with fail
  refine (new_any S _ H.out.hlen H.out.hc H.out.hb H.out.bs).mono ?_
  rintro e w1 ⟨rfl, hr1, hb1, hs1⟩
  have Hr1 := Lib.hid hr1
  have Hb1 := Lib.hid hb1
  clear hr1 hb1
  go_wp2_with fail
  refine (seek_yes w.heap.size S _ 6 _ rfl _ Hr1.out (by omega)).mono ?_
  rintro e w2 ⟨rfl, hr2, ht2⟩
  have Hr2 := Lib.hid hr2
  have Ht2 := Lib.hid ht2
  clear hr2 ht2
  go_wp2_with fail
  refine (u16_yes w.heap.size S _ _ Hr2.out (by omega)).mono ?_
  rintro e w3 ⟨rfl, hr3, ht3⟩
  have Hr3 := Lib.hid hr3
  have Ht3 := Lib.hid ht3
  clear hr3 ht3
  go_wp2_with fail
  refine (u16_yes w.heap.size S _ _ Hr3.out (by omega)).mono ?_
  rintro e w4 ⟨rfl, hr4, ht4⟩
  have Hr4 := Lib.hid hr4
  have Ht4 := Lib.hid ht4
  clear hr4 ht4
  have Hb := Lib.hid (Hb1.out.trans (((Ht2.out.trans Ht3.out).trans Ht4.out).below (Nat.le_refl _) Hb1.out.size))
  go_wp2_with (first | (go_at_call 15; refine (done_yes w.heap.size _ _ _ Hr4.out.rd).mono ?_; rintro e w5 ⟨rfl, rfl⟩) | (go_at_call 66; refine (left_yes w.heap.size S _ _ Hr4.out).mono ?_; rintro e w5 ⟨rfl, q, rfl⟩))
  refine (words_any w.heap.size S 10 (be2 S 8).toNat _ HN.out false _ (Hr4.out.drewN q) (by omega)).mono ?_
  rintro e w6 ⟨v, rfl, hr6, ht6, ho6⟩
  have hw := wst_yes S 10 (be2 S 8).toNat (by omega)
  rw [hw] at ho6
  obtain ⟨g, cap, rfl, hg1, hg2⟩ := World.ownsRow.form ho6 (by rw [nums_len]; omega)
  have Ho6 := Lib.hid ho6
  have Hl := Lib.hid (nums_len S 10 (be2 S 8).toNat)
  have Hb6 := Lib.hid (Below.trans Hb.out (Below.trans (b := w4.drewN q) ⟨rfl, rfl, rfl, Nat.le_refl _, fun _ _ => rfl⟩ (ht6.below (Nat.le_refl _) Hb.out.size)))
  have Hs := Lib.hid Hb.out.size
  clear hr6 ht6 ho6 hw
  go_wp2
  go_ret2
  refine ⟨Hb6.out.alloc Hb6.out.size _, _, rfl, ?_⟩
  refine SegsAt.one (s := seg6 S) (lv := .slice (some ⟨g, 0, none⟩) (nums S 10 (be2 S 8).toNat).length cap) Hb6.out.size (.inr ⟨_, rfl, ?_, own_mono Ho6.out Hs.out⟩)
  intro e
  have := Hl.out
  rw [e] at this
  simp at this
  omega

end Go.Proofs.Ythfppmamnnnnmaa
