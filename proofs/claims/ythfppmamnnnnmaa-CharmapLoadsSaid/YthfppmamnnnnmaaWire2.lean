/-
  The reader (package wire), more: New, Seek, Take; the copy of a slice of bytes.
-/
import Derived.Test.YthfppmamnnnnmaaWire
set_option linter.unusedVariables false
namespace Go.Proofs.Ythfppmamnnnnmaa
open Go.RowKit

theorem new_any (S : Src) (w : World) (hlen : S.len ≤ 2000000000) (hc : S.len ≤ S.cap) (hb : S.b < w.heap.size) (hB : Bs w S.b S.o S.len S.f) :
    Calls Try.prog 13 #[.slice (some ⟨S.b, S.o, none⟩) S.len S.cap] w fun e w' => e = .returned (.pointer (some ⟨w.heap.size, 0, none⟩)) ∧ RdS w' w.heap.size S 0 false ∧ Below w.heap.size w w' ∧ w.heap.size < w'.heap.size := by
  have HB := Lib.hid hB
  clear hB
  go_enter Try.func13, Try.ntmps13
  go_wp2
  go_ret
  refine ⟨rfl, ⟨Blk.new _ _ _, by omega, hlen, hc, by omega, ?_⟩, (Below.refl _ _).alloc (Nat.le_refl _) _, by simp⟩
  exact HB.out.keep (Below.heap_alloc _ _ _ hb)

/-- May a reader be told to stand at n? -/
def skB (S : Src) (n : Nat) (bad : Bool) : Bool := !bad && decide (n ≤ S.len)
/-- Where it stands then. -/
def skAt (S : Src) (n at_ : Nat) (bad : Bool) : Nat := if skB S n bad then n else at_

theorem seek_any (r : Nat) (S : Src) (at_ n : Nat) (m : Int) (hm : m = n) (bad : Bool) (w : World) (h : RdS w r S at_ bad) (hn : n ≤ 2000000000) :
    Calls Try.prog 36 #[.pointer (some ⟨r, 0, none⟩), .int .i64 m] w fun e w' => e = .returned (.bool (skB S n bad)) ∧ RdS w' r S (skAt S n at_ bad) (!skB S n bad) ∧ Turns w w' r := by
  subst hm
  have H := Lib.hid h
  have hl := h.hlen
  have hat := h.hat
  clear h
  have h0 : w.cell? ⟨r, 0, none⟩ = some (.slice (some ⟨S.b, S.o, none⟩) S.len S.cap) := H.out.rd.cell 0
  have h1 : w.cell? ⟨r, 1, none⟩ = some (.int .i64 at_) := H.out.rd.cell 1
  have hf := H.out.rd.frozen 1
  have hN : ¬ (n : Int) < 0 := by omega
  cases bad
  · by_cases hk : n ≤ S.len
    · have hG : ¬ (S.len : Int) < (n : Int) := by omega
      go_enter Try.func36, Try.ntmps36
      go_wp2_with (go_at_call 34; refine (wrong_any r _ _ _ _ H.out.rd).mono ?_; rintro e w' ⟨rfl, rfl⟩)
      go_ret
      have t := (Turns.refl w r).setCell (p := ⟨r, 1, none⟩) (.inl rfl) (.int .i64 (n : Int))
      have hx : skB S n false = true := by simp [skB, hk]
      have hy : skAt S n at_ false = n := by simp [skAt, hx]
      rw [hx, hy]
      exact ⟨rfl, H.out.step t (by simpa [Rd] using (Blk.set_ H.out.rd 1 (.int .i64 (n : Int)))) hk, t⟩
    · have hG : (S.len : Int) < (n : Int) := by omega
      go_enter Try.func36, Try.ntmps36
      go_wp2_with (first | (go_at_call 34; refine (wrong_any r _ _ _ _ H.out.rd).mono ?_; rintro e w' ⟨rfl, rfl⟩) | (go_at_call 61; refine (spoil_any r _ _ _ _ H.out.rd).mono ?_; rintro e w' ⟨rfl, rfl⟩))
      go_ret
      have t := (Turns.refl w r).setCell (p := ⟨r, 2, none⟩) (.inl rfl) (.bool true)
      have hx : skB S n false = false := by simp [skB, hk]
      have hy : skAt S n at_ false = at_ := by simp [skAt, hx]
      rw [hx, hy]
      exact ⟨rfl, H.out.step t (by simpa [Rd] using (Blk.set_ H.out.rd 2 (.bool true))) hat, t⟩
  · go_enter Try.func36, Try.ntmps36
    go_wp2_with (first | (go_at_call 34; refine (wrong_any r _ _ _ _ H.out.rd).mono ?_; rintro e w' ⟨rfl, rfl⟩) | (go_at_call 61; refine (spoil_any r _ _ _ _ H.out.rd).mono ?_; rintro e w' ⟨rfl, rfl⟩))
    go_ret
    have t := (Turns.refl w r).setCell (p := ⟨r, 2, none⟩) (.inl rfl) (.bool true)
    have hx : skB S n true = false := by simp [skB]
    have hy : skAt S n at_ true = at_ := by simp [skAt, hx]
    rw [hx, hy]
    exact ⟨rfl, H.out.step t (by simpa [Rd] using (Blk.set_ H.out.rd 2 (.bool true))) hat, t⟩

end Go.Proofs.Ythfppmamnnnnmaa
