/-
  'mayMake' and 'runs' at the pairs of 'lives'.
-/
import Derived.Test.YthfppmamnnnnmaaEach
set_option linter.unusedVariables false
namespace Go.Proofs.Ythfppmamnnnnmaa
open Go.RowKit

theorem Try.info38 : (Try.prog.info? 38).map (fun i => (i.zero, i.size, i.bytes)) = some (some (.slice none 0 0), 1, 24) := by kernel_rfl

def Pairs3 (w : World) (g0 : Nat) : Prop := Blk w g0 37 #[.int .i64 65, .int .i64 1, .int .i64 66, .int .i64 2, .int .i64 67, .int .i64 3]

theorem most_4 (w : World) : Calls Try.prog 47 #[.int .i64 4] w fun e w' => e = .returned (.tuple #[.int .i64 65534, .int .i64 65535]) ∧ w = w' := by
  go_enter Try.func47, Try.ntmps47
  go_wp2
  go_ret2
  exact ⟨rfl, rfl⟩

set_option maxHeartbeats 2000000 in
theorem mayMake_3 (g0 : Nat) (w : World) (h : Pairs3 w g0) : Calls Try.prog 27 #[.int .i64 4, .slice (some ⟨g0, 0, none⟩) 3 3] w fun e w' => e = .returned (.bool true) ∧ Below w.heap.size w w' := by
  unfold Pairs3 at h
  have a0 : w.cell? ⟨g0, 0, none⟩ = some (.int .i64 65) := h.cell 0
  have a1 : w.cell? ⟨g0, 1, none⟩ = some (.int .i64 1) := h.cell 1
  have b0 := (h.alloc (.cells #[.int .i64 65, .int .i64 1] 37)).cell 2
  have b1 := (h.alloc (.cells #[.int .i64 65, .int .i64 1] 37)).cell 3
  have d0 := ((h.alloc (.cells #[.int .i64 65, .int .i64 1] 37)).alloc (.cells #[.int .i64 66, .int .i64 2] 37)).cell 4
  have d1 := ((h.alloc (.cells #[.int .i64 65, .int .i64 1] 37)).alloc (.cells #[.int .i64 66, .int .i64 2] 37)).cell 5
  simp only [List.getElem?_toArray, List.getElem?_cons_succ, List.getElem?_cons_zero] at b0 b1 d0 d1
  clear h
  go_enter Try.func27, Try.ntmps27
  go_wp2_with (go_at_call 47; refine (most_4 _).mono ?_; rintro e w1 ⟨rfl, rfl⟩)
  refine wp_loop_rounds 4 ?_
  rw [rounds_succ]
  go_wp2_with fail
  rw [rounds_succ]
  go_wp2_with fail
  rw [rounds_succ]
  go_wp2_with fail
  rw [rounds_succ]
  go_wp2
  go_ret
  exact ⟨rfl, (((Below.refl _ w).alloc (Nat.le_refl _) _).alloc (by simp) _).alloc (by simp; omega) _⟩

set_option maxHeartbeats 4000000 in
theorem runs_3 (g0 : Nat) (w : World) (h : Pairs3 w g0) : Calls Try.prog 52 #[.slice (some ⟨g0, 0, none⟩) 3 3] w fun e w' =>
    ∃ v, e = .returned v ∧ w'.ownsRow w.heap.size 38 1 v 1 [part0 g0] ∧ Below w.heap.size w w' := by
  unfold Pairs3 at h
  obtain ⟨i0, hi, hz0, hz1, hz2⟩ := info_parts Try.info38
  have a0 : w.cell? ⟨g0, 0, none⟩ = some (.int .i64 65) := h.cell 0
  have a1 : w.cell? ⟨g0, 1, none⟩ = some (.int .i64 1) := h.cell 1
  have a2 : w.cell? ⟨g0, 2, none⟩ = some (.int .i64 66) := h.cell 2
  have a3 : w.cell? ⟨g0, 3, none⟩ = some (.int .i64 2) := h.cell 3
  have a4 : w.cell? ⟨g0, 4, none⟩ = some (.int .i64 67) := h.cell 4
  have a5 : w.cell? ⟨g0, 5, none⟩ = some (.int .i64 3) := h.cell 5
  clear h
  go_enter Try.func52, Try.ntmps52
  go_wp2_with fail
  refine wp_loop_rounds 4 ?_
  rw [rounds_succ]
  go_wp2_with fail
  go_quiet (fail)
  go_wp2_with fail
  rw [rounds_succ]
  go_wp2_with fail
  go_quiet (fail)
  go_wp2_with fail
  rw [rounds_succ]
  go_wp2_with fail
  go_quiet (fail)
  go_wp2_with (at_builtin; refine held_ ?_)
  refine unheld_ ?_
  refine wpList_append_own _ rfl (.tmp 46) (.tmp 51) 79 rfl w.heap.size 38 i0 _ 1 24 Try.underlying79 hi hz0 hz1 hz2 rfl (by decide) (.slice none 0 0) 0 [] rfl (World.ownsRow_nil _ _ _ _) ⟨w.heap.size, 0, none⟩ 1 1 [part0 g0] rfl rfl (cells_new_at _ [part0 g0] 38 _ (by simp)) (by simp [Value.oneCell', part0]) (by unfold maxLen; omega) (by omega) (by simp) ?_
  intro v' w8 hown hg hx
  rw [Nat.zero_add, List.nil_append] at hown
  have HO := Lib.hid hown
  have HB := Lib.hid (Below.grown (w := (w.drewN _).alloc (.cells #[part0 g0] 38)) (Below.alloc (B := w.heap.size) (a := w) (w := w.drewN _) ⟨rfl, rfl, rfl, Nat.le_refl _, fun _ _ => rfl⟩ (Nat.le_refl _) _) hg (by simp) (fun k e => by simp [Value.ownBlock] at e))
  clear hown hg hx
  go_wp2_with fail
  rw [rounds_succ]
  go_wp2
  go_ret
  exact ⟨v', rfl, HO.out, HB.out⟩

end Go.Proofs.Ythfppmamnnnnmaa
