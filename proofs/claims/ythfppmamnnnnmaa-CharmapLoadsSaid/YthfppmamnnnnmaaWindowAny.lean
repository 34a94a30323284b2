/-
  'window' at every code point; the document's 'Load' in one word.
-/
import Derived.Test.YthfppmamnnnnmaaWindowLo
import Derived.Test.YthfppmamnnnnmaaWindowHi
set_option linter.unusedVariables false
namespace Go.Proofs.Ythfppmamnnnnmaa
open Go.RowKit

theorem window_any (p px : Nat) (S : Src) (f n from_ stop_ : Int) (l : List Seg) (w : World) (hm : MapAt w p f n l) (hx : RMapAt w px S f n) (hf : fmtB f = true) (hlo : loadO S f = some l) (hl : SegsOk l) :
    Calls Try.prog 9 #[.pointer (some ⟨p, 0, none⟩), .pointer (some ⟨px, 0, none⟩), .int .i64 from_, .int .i64 stop_] w fun e w' => e = .returned (.bool true) ∧ Below w.heap.size w w' := by
  by_cases h1 : from_ < -10
  · exact window_lo p px S f n from_ stop_ l w hm hx hf hlo hl h1
  · by_cases h2 : 1114112 < from_
    · exact window_hi p px S f n from_ stop_ l w hm hx hf hlo hl h2
    · exact window_in p px S f n from_ stop_ l w hm hx hf hlo hl (by omega) (by omega)

/-- What a call of the document's 'Load' leaves. -/
def RLPost (S : Src) (n : Int) (w : World) (e : Ending) (w' : World) : Prop :=
  Below w.heap.size w w' ∧ ((∃ c, LoadR S n = .error c ∧ c ≠ 0 ∧ e = .returned (.tuple #[.pointer none, .int .i64 c])) ∨
    ∃ f l p T, LoadR S n = .ok (f, l) ∧ e = .returned (.tuple #[.pointer (some ⟨p, 0, none⟩), .int .i64 0]) ∧ RMapAt w' p T f n ∧ fmtB f = true ∧ loadO T f = some l ∧ SegsOk l)

theorem rl_ok (S : Src) (n : Int) (m : Nat) (w : World) (hI : InM w S) (h1 : ¬ (n < 1 ∨ 65535 < n)) (hs : ¬ S.len < 2) (hf : fmtB (be2 S 0) = true) (hm : sizeB S (be2 S 0) = (m : Int)) (hm2 : m ≤ S.len)
    (h : Calls Try.prog 6 #[.slice (some ⟨S.b, S.o, none⟩) S.len S.cap, .int .i64 n] w (RPost S n (be2 S 0) m (loadO { S with len := m } (be2 S 0)) w)) :
    Calls Try.prog 6 #[.slice (some ⟨S.b, S.o, none⟩) S.len S.cap, .int .i64 n] w (RLPost S n w) := by
  refine h.mono fun e w' hp => ?_
  obtain ⟨hb, hp⟩ := hp
  refine ⟨hb, ?_⟩
  have hR : LoadR S n = match loadO { S with len := m } (be2 S 0) with | none => .error 80 | some l => .ok (be2 S 0, l) := by
    unfold LoadR
    rw [if_neg h1, if_neg hs, if_neg (by rw [hf]; simp), if_neg (by rw [hm]; omega), hm]
    rfl
  cases ho : loadO { S with len := m } (be2 S 0) with
  | none =>
    rw [ho] at hp hR
    exact .inl ⟨80, hR, by decide, hp⟩
  | some l =>
    rw [ho] at hp hR
    obtain ⟨p, T, he, hr, hTf, hTl⟩ := hp
    refine .inr ⟨be2 S 0, l, p, T, hR, he, hr, hf, ?_, loadO_ok (hI.cut hm2) hf ho⟩
    rw [← ho]
    exact loadO_congr T { S with len := m } hTf hTl _

theorem RLoad_any (S : Src) (n : Int) (w : World) (hI : InM w S) (h1 : ¬ (n < 1 ∨ 65535 < n)) :
    Calls Try.prog 6 #[.slice (some ⟨S.b, S.o, none⟩) S.len S.cap, .int .i64 n] w (RLPost S n w) := by
  by_cases hs : S.len < 2
  · refine (RLoad_short S n S.len _ w hs S.cap).mono fun e w' h => ⟨h.2, .inl ⟨80, ?_, by decide, h.1⟩⟩
    unfold LoadR
    rw [if_neg h1, if_pos hs]
  · cases hf : fmtB (be2 S 0)
    · refine (RLoad_fmt S n w hI (by omega) hf).mono fun e w' h => ⟨h.2, .inl ⟨81, ?_, by decide, h.1⟩⟩
      unfold LoadR
      rw [if_neg h1, if_neg hs, if_pos hf]
    · by_cases hx : sizeB S (be2 S 0) < 0 ∨ (S.len : Int) < sizeB S (be2 S 0)
      · refine (RLoad_size S n w hI (by omega) hf hx).mono fun e w' h => ⟨h.2, .inl ⟨80, ?_, by decide, h.1⟩⟩
        unfold LoadR
        rw [if_neg h1, if_neg hs, if_neg (by rw [hf]; simp), if_pos hx]
      · obtain ⟨m, hm⟩ : ∃ m : Nat, sizeB S (be2 S 0) = (m : Int) := ⟨(sizeB S (be2 S 0)).toNat, by omega⟩
        have hm2 : m ≤ S.len := by omega
        refine rl_ok S n m w hI h1 hs hf hm hm2 ?_
        have hff := hf
        unfold fmtB at hff
        rcases (by simpa using hff : ((be2 S 0 = 0 ∨ be2 S 0 = 4) ∨ be2 S 0 = 6) ∨ be2 S 0 = 12) with ((h | h) | h) | h
        · rw [h] at hm ⊢; exact RLoad_0 S n m w hI (by omega) h hm hm2
        · rw [h] at hm ⊢; exact RLoad_4 S n m w hI (by omega) h hm hm2
        · rw [h] at hm ⊢; exact RLoad_6 S n m w hI (by omega) h hm hm2
        · rw [h] at hm ⊢; exact RLoad_12 S n m w hI (by omega) h hm hm2

end Go.Proofs.Ythfppmamnnnnmaa
