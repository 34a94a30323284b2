/-
  'each' of 'made4' over the two parts, with each of the four closures.
-/
import Derived.Test.YthfppmamnnnnmaaMade
set_option linter.unusedVariables false
namespace Go.Proofs.Ythfppmamnnnnmaa
open Go.RowKit

theorem Env4.cells {w : World} {bw bp gp cap g0 g1 p : Nat} (h : Env4 w bw bp gp cap g0 g1 p) : w.cell? ⟨gp, 0, none⟩ = some (part0 g0) ∧ w.cell? ⟨gp, 1, none⟩ = some (part1 g1) := by
  obtain ⟨cs, hg, h0, h1⟩ := h.gp
  exact ⟨(hg.cell 0).trans h0, (hg.cell 1).trans h1⟩

set_option maxHeartbeats 2000000 in
theorem each54 (bw bp gp cap g0 g1 p : Nat) (hcap : 2 ≤ cap) (xs : List Int) (w : World) (h : Env4 w bw bp gp cap g0 g1 p) (hw : Wr w p xs 32) (hx : xs.length + 4 ≤ 32) :
    Calls Try.prog 53 #[.func (.func 54) #[] #[.pointer (some ⟨bw, 0, none⟩)], .pointer (some ⟨bp, 0, none⟩)] w fun e w' => e = .returned (.tuple #[]) ∧ Wr w' p (xs ++ (nb 2 (67) 2 ++ nb 2 (65535) 2)) 32 ∧ WrStep w w' p := by
  have c0 : w.cell? ⟨bp, 0, none⟩ = some (.slice (some ⟨gp, 0, none⟩) 2 cap) := h.bp.cell 0
  have c1 : w.cell? ⟨gp, 0, none⟩ = some (part0 g0) := h.cells.1
  have HE := Lib.hid h
  have HW := Lib.hid hw
  clear h hw
  obtain ⟨s0, hs0⟩ : ∃ s0, s0 = part0 g0 := ⟨_, rfl⟩
  obtain ⟨s1, hs1⟩ : ∃ s1, s1 = part1 g1 := ⟨_, rfl⟩
  unfold part0 at c1
  go_enter Try.func53, Try.ntmps53
  go_wp2_with fail
  refine wp_loop_rounds 3 ?_
  rw [rounds_succ]
  go_wp2_with fail
  refine (put54_0 bw bp gp cap g0 g1 p xs w HE.out HW.out (by omega)).mono ?_
  rintro e w1 ⟨rfl, hp1, hst1⟩
  have HP1 := Lib.hid hp1
  have HS1 := Lib.hid hst1
  have HE1 := Lib.hid (HE.out.step HW.out hst1)
  have d1 : w1.cell? ⟨gp, 1, none⟩ = some (part1 g1) := HE1.out.cells.2
  unfold part1 at d1
  clear hp1 hst1 c0 c1
  go_wp2_with fail
  rw [rounds_succ]
  go_wp2_with fail
  refine (put54_1 bw bp gp cap g0 g1 p (xs ++ nb 2 (67) 2) w1 HE1.out HP1.out (by simp [nb_len]; omega)).mono ?_
  rintro e w2 ⟨rfl, hp2, hst2⟩
  have HP2 := Lib.hid hp2
  have HS2 := Lib.hid (HS1.out.trans hst2)
  clear hp2 hst2 d1
  go_wp2_with fail
  rw [rounds_succ]
  go_wp2
  go_end0
  exact ⟨rfl, by have := HP2.out; rwa [List.append_assoc] at this, HS2.out⟩

set_option maxHeartbeats 2000000 in
theorem each55 (bw bp gp cap g0 g1 p : Nat) (hcap : 2 ≤ cap) (xs : List Int) (w : World) (h : Env4 w bw bp gp cap g0 g1 p) (hw : Wr w p xs 32) (hx : xs.length + 4 ≤ 32) :
    Calls Try.prog 53 #[.func (.func 55) #[] #[.pointer (some ⟨bw, 0, none⟩)], .pointer (some ⟨bp, 0, none⟩)] w fun e w' => e = .returned (.tuple #[]) ∧ Wr w' p (xs ++ (nb 2 (65) 2 ++ nb 2 (65535) 2)) 32 ∧ WrStep w w' p := by
  have c0 : w.cell? ⟨bp, 0, none⟩ = some (.slice (some ⟨gp, 0, none⟩) 2 cap) := h.bp.cell 0
  have c1 : w.cell? ⟨gp, 0, none⟩ = some (part0 g0) := h.cells.1
  have HE := Lib.hid h
  have HW := Lib.hid hw
  clear h hw
  obtain ⟨s0, hs0⟩ : ∃ s0, s0 = part0 g0 := ⟨_, rfl⟩
  obtain ⟨s1, hs1⟩ : ∃ s1, s1 = part1 g1 := ⟨_, rfl⟩
  unfold part0 at c1
  go_enter Try.func53, Try.ntmps53
  go_wp2_with fail
  refine wp_loop_rounds 3 ?_
  rw [rounds_succ]
  go_wp2_with fail
  refine (put55_0 bw bp gp cap g0 g1 p xs w HE.out HW.out (by omega)).mono ?_
  rintro e w1 ⟨rfl, hp1, hst1⟩
  have HP1 := Lib.hid hp1
  have HS1 := Lib.hid hst1
  have HE1 := Lib.hid (HE.out.step HW.out hst1)
  have d1 : w1.cell? ⟨gp, 1, none⟩ = some (part1 g1) := HE1.out.cells.2
  unfold part1 at d1
  clear hp1 hst1 c0 c1
  go_wp2_with fail
  rw [rounds_succ]
  go_wp2_with fail
  refine (put55_1 bw bp gp cap g0 g1 p (xs ++ nb 2 (65) 2) w1 HE1.out HP1.out (by simp [nb_len]; omega)).mono ?_
  rintro e w2 ⟨rfl, hp2, hst2⟩
  have HP2 := Lib.hid hp2
  have HS2 := Lib.hid (HS1.out.trans hst2)
  clear hp2 hst2 d1
  go_wp2_with fail
  rw [rounds_succ]
  go_wp2
  go_end0
  exact ⟨rfl, by have := HP2.out; rwa [List.append_assoc] at this, HS2.out⟩

set_option maxHeartbeats 2000000 in
theorem each56 (bw bp gp cap g0 g1 p : Nat) (hcap : 2 ≤ cap) (xs : List Int) (w : World) (h : Env4 w bw bp gp cap g0 g1 p) (hw : Wr w p xs 32) (hx : xs.length + 4 ≤ 32) :
    Calls Try.prog 53 #[.func (.func 56) #[] #[.pointer (some ⟨bw, 0, none⟩)], .pointer (some ⟨bp, 0, none⟩)] w fun e w' => e = .returned (.tuple #[]) ∧ Wr w' p (xs ++ (nb 2 (-64) 2 ++ nb 2 (1) 2)) 32 ∧ WrStep w w' p := by
  have c0 : w.cell? ⟨bp, 0, none⟩ = some (.slice (some ⟨gp, 0, none⟩) 2 cap) := h.bp.cell 0
  have c1 : w.cell? ⟨gp, 0, none⟩ = some (part0 g0) := h.cells.1
  have HE := Lib.hid h
  have HW := Lib.hid hw
  clear h hw
  obtain ⟨s0, hs0⟩ : ∃ s0, s0 = part0 g0 := ⟨_, rfl⟩
  obtain ⟨s1, hs1⟩ : ∃ s1, s1 = part1 g1 := ⟨_, rfl⟩
  unfold part0 at c1
  go_enter Try.func53, Try.ntmps53
  go_wp2_with fail
  refine wp_loop_rounds 3 ?_
  rw [rounds_succ]
  go_wp2_with fail
  refine (put56_0 bw bp gp cap g0 g1 p xs w HE.out HW.out (by omega)).mono ?_
  rintro e w1 ⟨rfl, hp1, hst1⟩
  have HP1 := Lib.hid hp1
  have HS1 := Lib.hid hst1
  have HE1 := Lib.hid (HE.out.step HW.out hst1)
  have d1 : w1.cell? ⟨gp, 1, none⟩ = some (part1 g1) := HE1.out.cells.2
  unfold part1 at d1
  clear hp1 hst1 c0 c1
  go_wp2_with fail
  rw [rounds_succ]
  go_wp2_with fail
  refine (put56_1 bw bp gp cap g0 g1 p (xs ++ nb 2 (-64) 2) w1 HE1.out HP1.out (by simp [nb_len]; omega)).mono ?_
  rintro e w2 ⟨rfl, hp2, hst2⟩
  have HP2 := Lib.hid hp2
  have HS2 := Lib.hid (HS1.out.trans hst2)
  clear hp2 hst2 d1
  go_wp2_with fail
  rw [rounds_succ]
  go_wp2
  go_end0
  exact ⟨rfl, by have := HP2.out; rwa [List.append_assoc] at this, HS2.out⟩

set_option maxHeartbeats 2000000 in
theorem each57 (bw bp gp cap g0 g1 p : Nat) (hcap : 2 ≤ cap) (xs : List Int) (w : World) (h : Env4 w bw bp gp cap g0 g1 p) (hw : Wr w p xs 32) (hx : xs.length + 4 ≤ 32) :
    Calls Try.prog 53 #[.func (.func 57) #[] #[.pointer (some ⟨bw, 0, none⟩)], .pointer (some ⟨bp, 0, none⟩)] w fun e w' => e = .returned (.tuple #[]) ∧ Wr w' p (xs ++ (nb 2 (0) 2 ++ nb 2 (0) 2)) 32 ∧ WrStep w w' p := by
  have c0 : w.cell? ⟨bp, 0, none⟩ = some (.slice (some ⟨gp, 0, none⟩) 2 cap) := h.bp.cell 0
  have c1 : w.cell? ⟨gp, 0, none⟩ = some (part0 g0) := h.cells.1
  have HE := Lib.hid h
  have HW := Lib.hid hw
  clear h hw
  obtain ⟨s0, hs0⟩ : ∃ s0, s0 = part0 g0 := ⟨_, rfl⟩
  obtain ⟨s1, hs1⟩ : ∃ s1, s1 = part1 g1 := ⟨_, rfl⟩
  unfold part0 at c1
  go_enter Try.func53, Try.ntmps53
  go_wp2_with fail
  refine wp_loop_rounds 3 ?_
  rw [rounds_succ]
  go_wp2_with fail
  refine (put57_0 bw bp gp cap g0 g1 p xs w HE.out HW.out (by omega)).mono ?_
  rintro e w1 ⟨rfl, hp1, hst1⟩
  have HP1 := Lib.hid hp1
  have HS1 := Lib.hid hst1
  have HE1 := Lib.hid (HE.out.step HW.out hst1)
  have d1 : w1.cell? ⟨gp, 1, none⟩ = some (part1 g1) := HE1.out.cells.2
  unfold part1 at d1
  clear hp1 hst1 c0 c1
  go_wp2_with fail
  rw [rounds_succ]
  go_wp2_with fail
  refine (put57_1 bw bp gp cap g0 g1 p (xs ++ nb 2 (0) 2) w1 HE1.out HP1.out (by simp [nb_len]; omega)).mono ?_
  rintro e w2 ⟨rfl, hp2, hst2⟩
  have HP2 := Lib.hid hp2
  have HS2 := Lib.hid (HS1.out.trans hst2)
  clear hp2 hst2 d1
  go_wp2_with fail
  rw [rounds_succ]
  go_wp2
  go_end0
  exact ⟨rfl, by have := HP2.out; rwa [List.append_assoc] at this, HS2.out⟩

end Go.Proofs.Ythfppmamnnnnmaa
