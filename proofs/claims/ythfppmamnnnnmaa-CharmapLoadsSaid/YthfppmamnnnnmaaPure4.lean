/-
  Format 4, plainly: what the loader keeps.
-/
import Derived.Test.YthfppmamnnnnmaaListed
set_option linter.unusedVariables false
namespace Go.Proofs.Ythfppmamnnnnmaa
open Go.RowKit

def end4 (S : Src) (n k : Nat) : Int := be2 S (14 + 2 * k)
def first4 (S : Src) (n k : Nat) : Int := be2 S (16 + 2 * n + 2 * k)
def delta4 (S : Src) (n k : Nat) : Int := be2 S (16 + 4 * n + 2 * k)
def off4 (S : Src) (n k : Nat) : Int := be2 S (16 + 6 * n + 2 * k)
/-- Has segment k a list? -/
def has4 (S : Src) (n k : Nat) : Bool := off4 S n k != 0 && !(off4 S n k == 65535 && first4 S n k == 65535)
def cnt4 (S : Src) (n k : Nat) : Nat := (end4 S n k - first4 S n k + 1).toNat
/-- What 'listed' makes of an offset. -/
def listedO (S : Src) (a off c : Nat) : Option (List Int) := if off % 2 = 0 then listO S (a + off) c else none
def list4 (S : Src) (n k : Nat) : Option (List Int) := listedO S (16 + 6 * n + 2 * k) (off4 S n k).toNat (cnt4 S n k)
def seg4 (S : Src) (n k : Nat) : Seg :=
  { first := first4 S n k, last := end4 S n k, glyph := first4 S n k + delta4 S n k, rounds := true, list := if has4 S n k then list4 S n k else none, delta := delta4 S n k }
def bad4 (S : Src) (n k : Nat) (last : Int) : Prop :=
  end4 S n k < first4 S n k ∨ first4 S n k ≤ last ∨ (has4 S n k = true ∧ list4 S n k = none)
open Classical in
/-- What k segments leave: the last code point, the segments; none: one may not be. -/
noncomputable def st4 (S : Src) (n : Nat) : Nat → Option (Int × List Seg)
  | 0 => some (-1, [])
  | k + 1 => (st4 S n k).bind fun p => if bad4 S n k p.1 then none else some (end4 S n k, p.2 ++ [seg4 S n k])
noncomputable def load4O (S : Src) (n : Nat) : Option (List Seg) := (st4 S n n).bind fun p => if p.1 = 65535 then some p.2 else none

theorem st4_none (S : Src) (n : Nat) {k : Nat} (h : st4 S n k = none) : ∀ m, k ≤ m → st4 S n m = none := by
  intro m
  induction m with
  | zero => intro hk; obtain rfl : k = 0 := by omega
            exact h
  | succ m ih =>
    intro hk
    by_cases e : k = m + 1
    · subst e; exact h
    · rw [st4, ih (by omega)]; rfl
theorem st4_bad {S : Src} {n k : Nat} {last : Int} {l : List Seg} (h : st4 S n k = some (last, l)) (hb : bad4 S n k last) : st4 S n (k + 1) = none := by
  rw [st4, h]
  exact if_pos hb
theorem st4_good {S : Src} {n k : Nat} {last : Int} {l : List Seg} (h : st4 S n k = some (last, l)) (hb : ¬ bad4 S n k last) : st4 S n (k + 1) = some (end4 S n k, l ++ [seg4 S n k]) := by
  rw [st4, h]
  exact if_neg hb
theorem load4O_none {S : Src} {n k : Nat} (h : st4 S n k = none) (hk : k ≤ n) : load4O S n = none := by
  rw [load4O, st4_none S n h n hk]; rfl
theorem st4_len (S : Src) (n : Nat) : ∀ k p, st4 S n k = some p → p.2.length = k := by
  intro k
  induction k with
  | zero => intro p h; simp [st4] at h; subst h; rfl
  | succ k ih =>
    intro p h
    rw [st4] at h
    cases hk : st4 S n k with
    | none => rw [hk] at h; simp at h
    | some q =>
      rw [hk] at h
      simp only [Option.bind_some] at h
      split at h
      · cases h
      · injection h with h; subst h; simp [ih q hk]
theorem st4_last (S : Src) (n : Nat) (hS : ∀ a, a + 2 ≤ S.len → 0 ≤ be2 S a ∧ be2 S a < 65536) : ∀ k p, st4 S n k = some p → 14 + 2 * k ≤ S.len → -1 ≤ p.1 ∧ p.1 ≤ 65535 := by
  intro k
  induction k with
  | zero => intro p h _; simp [st4] at h; subst h; decide
  | succ k ih =>
    intro p h hl
    rw [st4] at h
    cases hk : st4 S n k with
    | none => rw [hk] at h; simp at h
    | some q =>
      rw [hk] at h
      simp only [Option.bind_some] at h
      split at h
      · cases h
      · injection h with h; subst h
        have := hS (14 + 2 * k) (by omega)
        simp only [end4]
        omega

theorem listed_any (S : Src) (s : Seg) (a off c : Nat) (at_ offi : Int) (hat : at_ = a) (hoffi : offi = off) (w : World) (h : InM w S) (hf0 : 0 ≤ s.first) (hfl : s.first ≤ s.last) (hl1 : s.last < 65536) (hc : s.last - s.first + 1 = (c : Int)) (ha : a + off ≤ 1000000000) :
    Calls Try.prog 65 #[.slice (some ⟨S.b, S.o, none⟩) S.len S.cap, .agg (segCells s (.slice none 0 0)).toArray, .int .i64 at_, .int .i64 offi] w (ListedPost s (listedO S a off c) w) := by
  by_cases he : off % 2 = 0
  · have := listed_even S s a off c at_ offi hat hoffi w h he hf0 hfl hl1 hc ha
    simpa [listedO, he] using this
  · have := listed_odd S s at_ offi w h (by omega) (by omega)
    simpa [listedO, he] using this

end Go.Proofs.Ythfppmamnnnnmaa
