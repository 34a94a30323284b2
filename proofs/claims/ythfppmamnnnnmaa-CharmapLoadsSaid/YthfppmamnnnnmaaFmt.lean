/-
  charmap.isFormat, by way of slices.Contains and slices.Index at ints.
-/
import Derived.Test.YthfppmamnnnnmaaBase
set_option linter.unusedVariables false
namespace Go.Proofs.Ythfppmamnnnnmaa
open Go.RowKit

def anyB (g : Nat → Int) (n : Nat) (x : Int) : Bool := (List.range n).any fun i => g i == x

def IndexPost (g : Nat → Int) (n : Nat) (x : Int) (w : World) (e : Ending) (w' : World) : Prop :=
  ∃ j : Int, e = .returned (.int .i64 j) ∧ decide (0 ≤ j) = anyB g n x ∧ w = w'

set_option maxHeartbeats 400000 in
theorem index_any (b : Nat) (n cap : Nat) (g : Nat → Int) (x : Int) (w : World) (hn : n ≤ 100000) (hc : ∀ i, i < n → w.cell? ⟨b, i, none⟩ = some (.int .i64 (g i))) :
    Calls Try.prog 60 #[.slice (some ⟨b, 0, none⟩) n cap, .int .i64 x] w (IndexPost g n x w) := by
  have HC := Lib.hid hc
  clear hc
  go_enter Try.func60, Try.ntmps60
  go_wp2_with fail
  go_loop [8] (fun i => ∃ k : Nat, k ≤ n ∧ i = .int .i64 k ∧ ∀ j, j < k → g j ≠ x) (fun i => n - (intOf i).toNat)
  case atStart => exact ⟨0, Nat.zero_le _, rfl, fun j hj => absurd hj (by omega)⟩
  case round =>
    obtain ⟨k, hk, rfl, hne⟩ := hrel
    have HN := Lib.hid hne
    clear hne
    by_cases hlt : k < n
    · have hck := HC.out k hlt
      by_cases hx : g k = x
      · have hx2 : (x == g k) = true := by simp [hx]
        have HX := Lib.hid hx
        clear hx
        go_wp2
        go_ret
        refine ⟨_, rfl, ?_, rfl⟩
        have : anyB g n x = true := by
          unfold anyB
          rw [List.any_eq_true]
          exact ⟨k, List.mem_range.2 hlt, by simp [HX.out]⟩
        rw [this]; simp
      · have hx2 : (x == g k) = false := by simp; exact fun e => hx e.symm
        have HX := Lib.hid hx
        clear hx
        go_wp2
        go_round
        case rel =>
          refine ⟨k + 1, by omega, by go_num, fun j hj => ?_⟩
          by_cases e : j = k
          · subst e; exact HX.out
          · exact HN.out j (by omega)
        case measure => simp [intOf]; omega
    · obtain rfl : k = n := by omega
      go_wp2
      go_ret
      refine ⟨-1, rfl, ?_, rfl⟩
      have : anyB g k x = false := by
        unfold anyB
        rw [List.any_eq_false]
        intro i hi
        have := HN.out i (List.mem_range.1 hi)
        simpa using this
      rw [this]; rfl

theorem contains_any (b : Nat) (n cap : Nat) (g : Nat → Int) (x : Int) (w : World) (hn : n ≤ 100000) (hc : ∀ i, i < n → w.cell? ⟨b, i, none⟩ = some (.int .i64 (g i))) :
    Calls Try.prog 35 #[.slice (some ⟨b, 0, none⟩) n cap, .int .i64 x] w fun e w' => e = .returned (.bool (anyB g n x)) ∧ w = w' := by
  have HC := Lib.hid hc
  clear hc
  go_enter Try.func35, Try.ntmps35
  go_wp2_with (go_at_call 60; refine (index_any b n cap g x _ hn HC.out).mono ?_; rintro e w' ⟨j, rfl, hj, rfl⟩; have HJ := Lib.hid hj; clear hj)
  go_ret
  exact ⟨by rw [← HJ.out]; rfl, rfl⟩

/-- Is it one of the formats? -/
def fmtB (x : Int) : Bool := x == 0 || x == 4 || x == 6 || x == 12

theorem isFormat_any (x : Int) (w : World) :
    Calls Try.prog 16 #[.int .i64 x] w fun e w' => e = .returned (.bool (fmtB x)) ∧ Below w.heap.size w w' := by
  have hg : ∀ i, i < 4 → (w.alloc (.cells #[.int .i64 0, .int .i64 4, .int .i64 6, .int .i64 12] 3)).cell? ⟨w.heap.size, i, none⟩ = some (.int .i64 (([0, 4, 6, 12] : List Int).getD i 0)) := by
    intro i hi
    rw [World.cell?_alloc_new]
    rcases (by omega : i = 0 ∨ i = 1 ∨ i = 2 ∨ i = 3) with rfl | rfl | rfl | rfl <;> rfl
  have H := Lib.hid (contains_any w.heap.size 4 4 (fun i => ([0, 4, 6, 12] : List Int).getD i 0) x (w.alloc (.cells #[.int .i64 0, .int .i64 4, .int .i64 6, .int .i64 12] 3)) (by omega) hg)
  clear hg
  go_enter Try.func16, Try.ntmps16
  go_wp2_with (go_at_call 35; refine H.out.mono ?_; rintro e w' ⟨rfl, rfl⟩)
  go_ret
  refine ⟨?_, (Below.refl _ _).alloc (Nat.le_refl _) _⟩
  have : anyB (fun i => ([0, 4, 6, 12] : List Int).getD i 0) 4 x = fmtB x := by
    simp [anyB, fmtB, List.range_succ, Bool.or_assoc]
    rw [Bool.eq_iff_iff]
    simp
    omega
  rw [← this]; rfl

end Go.Proofs.Ythfppmamnnnnmaa
