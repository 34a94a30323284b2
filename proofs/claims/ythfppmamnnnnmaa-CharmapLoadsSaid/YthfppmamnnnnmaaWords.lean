/-
  Numbers read one behind the other (charmap.words).
-/
import Derived.Test.YthfppmamnnnnmaaWire2
set_option linter.unusedVariables false
namespace Go.Proofs.Ythfppmamnnnnmaa
open Go.RowKit

/-- The state and the numbers behind k numbers of two bytes. -/
def wst (S : Src) (a : Nat) (bad : Bool) : Nat → Nat × Bool × List Int
  | 0 => (a, bad, [])
  | k + 1 => (atB S (wst S a bad k).1 2 (wst S a bad k).2.1, !okB S (wst S a bad k).1 2 (wst S a bad k).2.1, (wst S a bad k).2.2 ++ [numB S (wst S a bad k).1 2 (wst S a bad k).2.1])

theorem wst_len (S : Src) (a : Nat) (bad : Bool) (k : Nat) : (wst S a bad k).2.2.length = k := by
  induction k with
  | zero => rfl
  | succ k ih => simp [wst, ih]

/-- Of a slice of ints that the call has made: it holds the list l. -/
def OwnI (w : World) (B : Nat) (v : Value) (l : List Int) : Prop := w.ownsRow B 3 1 v l.length (l.map (Value.int .i64))

theorem Try.info3 : (Try.prog.info? 3).map (fun i => (i.zero, i.size, i.bytes)) = some (some (.int .i64 0), 1, 8) := by kernel_rfl

theorem OwnI.turns {w w' : World} {B r : Nat} {v : Value} {l : List Int} (h : OwnI w B v l) (t : Turns w w' r) (hr : r < B) : OwnI w' B v l :=
  World.ownsRow.kept h t.g (by
    right
    intro e
    have := (World.ownsRow.lt h r e).1
    omega)
theorem OwnI.snoc {w' : World} {B : Nat} {v : Value} {l : List Int} {x : Int} (h : w'.ownsRow B 3 1 v (l.length + 1) (l.map (Value.int .i64) ++ [.int .i64 x])) : OwnI w' B v (l ++ [x]) := by
  unfold OwnI
  simpa using h

/-- What 'words' leaves. -/
def WordsPost (S : Src) (r a : Nat) (bad : Bool) (n : Nat) (w : World) (e : Ending) (w' : World) : Prop :=
  ∃ v, e = .returned v ∧ RdS w' r S (wst S a bad n).1 (wst S a bad n).2.1 ∧ Turns w w' r ∧ OwnI w' w.heap.size v (wst S a bad n).2.2

set_option maxHeartbeats 400000 in
theorem words_any (r : Nat) (S : Src) (at_ n : Nat) (m : Int) (hm : m = n) (bad : Bool) (w : World) (h : RdS w r S at_ bad) (hn : n ≤ 100000) :
    Calls Try.prog 63 #[.pointer (some ⟨r, 0, none⟩), .int .i64 m] w (WordsPost S r at_ bad n w) := by
  subst hm
  obtain ⟨i0, hi, hz0, hz1, hz2⟩ := info_parts Try.info3
  have H := Lib.hid h
  have hrlt := Lib.hid (Blk.lt h.rd)
  clear h
  go_enter Try.func63, Try.ntmps63
  go_wp2_with fail
  go_loopw [5, 7] (fun v i wr => ∃ k : Nat, k ≤ n ∧ i = .int .i64 k ∧ RdS wr r S (wst S at_ bad k).1 (wst S at_ bad k).2.1 ∧ Turns w wr r ∧ OwnI wr w.heap.size v (wst S at_ bad k).2.2) (fun _ i _ => n - (intOf i).toNat)
  case atStart => exact ⟨0, Nat.zero_le _, rfl, H.out, Turns.refl _ _, World.ownsRow_nil _ _ _ _⟩
  case round =>
    obtain ⟨k, hk, rfl, hr, ht, ho⟩ := hrel
    have Hr := Lib.hid hr
    have Ht := Lib.hid ht
    have Ho := Lib.hid ho
    clear hr ht ho
    by_cases hlt : k < n
    · have HL := Lib.hid (wst_len S at_ bad k)
      go_wp2_with fail
      refine (u16_any r S _ _ _ Hr.out).mono ?_
      rintro e w1 ⟨rfl, hr1, ht1⟩
      have HO := Lib.hid (Ho.out.turns ht1 hrlt.out)
      have Hr1 := Lib.hid hr1
      have Ht1 := Lib.hid ht1
      have Hs := Lib.hid ht1.size
      have Hs0 := Lib.hid Ht.out.size
      clear hr1 ht1 Ho Hr
      go_wp2_with (at_builtin; refine wpList_append_own _ rfl (.tmp 9) (.tmp 12) 57 rfl w.heap.size 3 i0 (.int .i64 0) 1 8 Try.underlying57 hi hz0 hz1 hz2 rfl (by decide) _ _ _ rfl (World.ownsRow.alloc HO.out _) ⟨w1.heap.size, 0, none⟩ 1 1 [.int .i64 (numB S (wst S at_ bad k).1 2 (wst S at_ bad k).2.1)] rfl rfl (cell_one_new _ _ _) (by simp [Value.oneCell']) ?c3 ?c4 ?c5 ?_)
      case c3 => have := HL.out; unfold maxLen; omega
      case c4 => have := HL.out; omega
      case c5 => have := Hs.out; have := Hs0.out; simp; omega
      intro v' w2 hown hg hx
      have HW := Lib.hid hown
      have hrow : ∀ g, Value.ownBlock u5 = some g → w.heap.size ≤ g := fun g e => (World.ownsRow.lt HO.out g e).1
      have HR := Lib.hid ((Hr1.out.alloc _).grown hg (fun g e => by have := hrow g e; have := hrlt.out; omega))
      have HT := Lib.hid (((Ht.out.trans Ht1.out).alloc _).grown hg (fun g e => .inr (hrow g e)))
      clear hrow
      clear hown hg hx
      go_wp2
      go_roundw
      case rel => exact ⟨k + 1, by omega, by go_num, HR.out, HT.out, OwnI.snoc HW.out⟩
      case measure => simp [intOf]; omega
    · obtain rfl : k = n := by omega
      go_wp2
      go_ret
      exact ⟨_, rfl, Hr.out, Ht.out, Ho.out⟩

end Go.Proofs.Ythfppmamnnnnmaa
