/-
  charmap.size.
-/
import Derived.Test.YthfppmamnnnnmaaWire2
set_option linter.unusedVariables false
namespace Go.Proofs.Ythfppmamnnnnmaa
open Go.RowKit

/-- Bytes in memory that a reader may be made over. -/
structure InM (w : World) (S : Src) : Prop where
  hlen : S.len ≤ 2000000000
  hc : S.len ≤ S.cap
  hb : S.b < w.heap.size
  bs : Bs w S.b S.o S.len S.f
theorem InM.below {w w' : World} {S : Src} (h : InM w S) (hb : Below w.heap.size w w') : InM w' S :=
  ⟨h.hlen, h.hc, Nat.lt_of_lt_of_le h.hb hb.size, h.bs.keep (hb.block _ h.hb)⟩

/-- How many bytes a subtable says that it has. -/
def sizeB (S : Src) (x : Int) : Int :=
  if x = 12 then (if 16 ≤ S.len then num (fun i => S.f (4 + i)) 4 else -1)
  else (if 4 ≤ S.len then num (fun i => S.f (2 + i)) 2 else -1)

theorem neq30 (b : Bool) : ((if b = true then (30 : Int) else 0) != 0) = b := by cases b <;> rfl

theorem size_12 (S : Src) (w : World) (h : InM w S) :
    Calls Try.prog 17 #[.slice (some ⟨S.b, S.o, none⟩) S.len S.cap, .int .i64 12] w fun e w' => e = .returned (.int .i64 (sizeB S 12)) ∧ Below w.heap.size w w' := by
  have H := Lib.hid h
  clear h
  by_cases hk : 16 ≤ S.len
  all_goals
    go_enter Try.func17, Try.ntmps17
    go_wp2_with fail
    refine (new_any S _ H.out.hlen H.out.hc H.out.hb H.out.bs).mono ?_
    rintro e w1 ⟨rfl, hr1, hb1, hs1⟩
    have Hr1 := Lib.hid hr1
    have Hb1 := Lib.hid hb1
    clear hr1 hb1
    go_wp2_with fail
    refine (seek_any w.heap.size S _ 4 _ rfl _ _ Hr1.out (by omega)).mono ?_
    rintro e w2 ⟨rfl, hr2, ht2⟩
    have Hr2 := Lib.hid hr2
    have Ht2 := Lib.hid ht2
    clear hr2 ht2
    go_wp2_with fail
    refine (u32_any w.heap.size S _ _ _ Hr2.out).mono ?_
    rintro e w3 ⟨rfl, hr3, ht3⟩
    have Hr3 := Lib.hid hr3
    have Ht3 := Lib.hid ht3
    clear hr3 ht3
    go_wp2_with fail
    refine (seek_any w.heap.size S _ 16 _ rfl _ _ Hr3.out (by omega)).mono ?_
    rintro e w4 ⟨rfl, hr4, ht4⟩
    have Hr4 := Lib.hid hr4
    have Ht4 := Lib.hid ht4
    clear hr4 ht4
    go_wp2_with fail
    refine (done_any w.heap.size _ _ _ _ Hr4.out.rd).mono ?_
    rintro e w5 ⟨rfl, rfl⟩
    have Hb := Lib.hid (Hb1.out.trans (((Ht2.out.trans Ht3.out).trans Ht4.out).below (Nat.le_refl _) Hb1.out.size))
    clear Hr2 Hr3 Hr4 Ht2 Ht3 Ht4
  · have e1 : (!skB S 16 !okB S (skAt S 4 0 false) 4 !skB S 4 false) = false := by
      have h4 : 4 ≤ S.len := by omega
      have h8 : 8 ≤ S.len := by omega
      simp [skB, skAt, okB, h4, h8, hk]
    have e2 : numB S (skAt S 4 0 false) 4 (!skB S 4 false) = sizeB S 12 := by
      have h4 : 4 ≤ S.len := by omega
      have h8 : 8 ≤ S.len := by omega
      simp [skB, skAt, okB, numB, sizeB, h4, h8, hk]
    have E2 := Lib.hid e2
    clear e2
    rw [e1]
    go_wp2
    go_ret
    exact ⟨by rw [← E2.out]; rfl, Hb.out⟩
  · have e1 : (!skB S 16 !okB S (skAt S 4 0 false) 4 !skB S 4 false) = true := by
      simp [skB, hk]
    have e2 : -1 = sizeB S 12 := by
      simp [sizeB, hk]
    have E2 := Lib.hid e2
    clear e2
    rw [e1]
    go_wp2
    go_ret
    exact ⟨by rw [← E2.out]; rfl, Hb.out⟩

theorem size_any (S : Src) (x : Int) (hx : x ≠ 12) (w : World) (h : InM w S) :
    Calls Try.prog 17 #[.slice (some ⟨S.b, S.o, none⟩) S.len S.cap, .int .i64 x] w fun e w' => e = .returned (.int .i64 (sizeB S x)) ∧ Below w.heap.size w w' := by
  have H := Lib.hid h
  have HX := Lib.hid hx
  have hx2 : (x == 12) = false := by simpa using hx
  clear h hx
  by_cases hk : 4 ≤ S.len
  all_goals
    go_enter Try.func17, Try.ntmps17
    go_wp2_with fail
    refine (new_any S _ H.out.hlen H.out.hc H.out.hb H.out.bs).mono ?_
    rintro e w1 ⟨rfl, hr1, hb1, hs1⟩
    have Hr1 := Lib.hid hr1
    have Hb1 := Lib.hid hb1
    clear hr1 hb1
    go_wp2_with fail
    refine (seek_any w.heap.size S _ 2 _ rfl _ _ Hr1.out (by omega)).mono ?_
    rintro e w2 ⟨rfl, hr2, ht2⟩
    have Hr2 := Lib.hid hr2
    have Ht2 := Lib.hid ht2
    clear hr2 ht2
    go_wp2_with fail
    refine (u16_any w.heap.size S _ _ _ Hr2.out).mono ?_
    rintro e w3 ⟨rfl, hr3, ht3⟩
    have Hr3 := Lib.hid hr3
    have Ht3 := Lib.hid ht3
    clear hr3 ht3
    go_wp2_with fail
    refine (done_any w.heap.size _ _ _ _ Hr3.out.rd).mono ?_
    rintro e w5 ⟨rfl, rfl⟩
    have Hb := Lib.hid (Hb1.out.trans ((Ht2.out.trans Ht3.out).below (Nat.le_refl _) Hb1.out.size))
    clear Hr2 Hr3 Ht2 Ht3
  · have e1 : (!okB S (skAt S 2 0 false) 2 !skB S 2 false) = false := by
      have h2 : 2 ≤ S.len := by omega
      simp [skB, skAt, okB, h2, hk]
    have e2 : numB S (skAt S 2 0 false) 2 (!skB S 2 false) = sizeB S x := by
      have h2 : 2 ≤ S.len := by omega
      have := HX.out
      simp [skB, skAt, okB, numB, sizeB, h2, hk, this]
    have E2 := Lib.hid e2
    clear e2
    rw [e1]
    go_wp2
    go_ret
    exact ⟨by rw [← E2.out]; rfl, Hb.out⟩
  · have e1 : (!okB S (skAt S 2 0 false) 2 !skB S 2 false) = true := by
      simp only [okB, skAt, skB]
      by_cases h2 : 2 ≤ S.len <;> simp [h2]
      omega
    have e2 : -1 = sizeB S x := by
      have := HX.out
      simp [sizeB, hk, this]
    have E2 := Lib.hid e2
    clear e2
    rw [e1]
    go_wp2
    go_ret
    exact ⟨by rw [← E2.out]; rfl, Hb.out⟩

end Go.Proofs.Ythfppmamnnnnmaa
