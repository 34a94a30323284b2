/-
  Plain words for memory over the seat's program: a block known whole, bytes that read as a function.
-/
import Derived.Test.YthfppmamnnnnmaaRows
import Derived.WalkKit
import Derived.WalkSpells
import Derived.WalkLawsBesides
import Derived.Deep.QuietTactic
import Derived.BigQuiet
import Derived.Handy
import Derived.Lib.Hide
namespace Go.Proofs.Ythfppmamnnnnmaa
open Go.RowKit

/-- A goal at which the walk is to stand. -/
def Held_ (p : Prop) : Prop := p
theorem held_ {p : Prop} (h : Held_ p) : p := h
theorem unheld_ {p : Prop} (h : p) : Held_ p := h

/-- Block g is just the cells cs of element type t, none frozen. -/
def Blk (w : World) (g : Nat) (t : TypeId) (cs : Array Value) : Prop := w.heap[g]? = some (.cells cs t (0, 0))

section
variable {w w' : World} {g : Nat} {t : TypeId} {cs : Array Value}
theorem Blk.lt (h : Blk w g t cs) : g < w.heap.size := (Array.getElem?_eq_some_iff.1 h).1
theorem Blk.cell (h : Blk w g t cs) (i : Nat) : w.cell? ⟨g, i, none⟩ = cs[i]? := cell_of_row w g i cs t (0, 0) h
theorem Blk.frozen (h : Blk w g t cs) (i : Nat) : w.frozen? ⟨g, i, none⟩ = false := by
  unfold Blk at h
  simp [World.frozen?, h]
theorem Blk.new (w : World) (t : TypeId) (cs : Array Value) : Blk (w.alloc (.cells cs t)) w.heap.size t cs := heap_alloc_new w _
theorem Blk.drewN (h : Blk w g t cs) (n : Nat) : Blk (w.drewN n) g t cs := h
theorem Blk.alloc (h : Blk w g t cs) (o : Obj) : Blk (w.alloc o) g t cs := (Below.heap_alloc w o g h.lt).trans h
theorem Blk.set_ (h : Blk w g t cs) (i : Nat) (u : Value) : Blk (w.setCell ⟨g, i, none⟩ u) g t (cs.setIfInBounds i u) := by
  unfold Blk at h ⊢
  simp [World.setCell, Array.getElem?_modify, h]
theorem Blk.far (h : Blk w g t cs) {p : Addr} (hp : g ≠ p.block) (u : Value) : Blk (w.setCell p u) g t cs := (Below.heap_setCell w p u g hp).trans h
theorem Blk.below {B : Nat} (h : Blk w g t cs) (hb : Below B w w') (hg : g < B) : Blk w' g t cs := (hb.block g hg).trans h
theorem Blk.grown {row : Option Nat} (h : Blk w g t cs) (hb : w.grownBy w' row) (hg : some g ≠ row) : Blk w' g t cs := (hb.block g h.lt hg).trans h
end

/-- The reader in block r. -/
def Rd (w : World) (r : Nat) (v : Value) (at_ : Int) (bad : Bool) : Prop := Blk w r 65 #[v, .int .i64 at_, .bool bad]

/-- From w to w' the one old block that has turned is r; what else is there is new. -/
structure Turns (w w' : World) (r : Nat) : Prop where
  g : w.grownBy w' (some r)
theorem Turns.size {w w' : World} {r : Nat} (h : Turns w w' r) : w.heap.size ≤ w'.heap.size := h.g.size
theorem Turns.below {w w' : World} {r B : Nat} (h : Turns w w' r) (hB : B ≤ r) (hs : B ≤ w.heap.size) : Below B w w' :=
  ⟨h.g.os, h.g.tape, h.g.output, h.g.size, fun k hk => h.g.block k (by omega) (fun e => by cases e; omega)⟩
theorem Turns.trans {a b c : World} {r : Nat} (h : Turns a b r) (k : Turns b c r) : Turns a c r :=
  ⟨k.g.os.trans h.g.os, k.g.tape.trans h.g.tape, k.g.output.trans h.g.output, Nat.le_trans h.g.size k.g.size,
    fun i hi hne => (k.g.block i (Nat.lt_of_lt_of_le hi h.g.size) hne).trans (h.g.block i hi hne)⟩
theorem Turns.refl (w : World) (r : Nat) : Turns w w r := ⟨⟨rfl, rfl, rfl, Nat.le_refl _, fun _ _ _ => rfl⟩⟩
theorem Turns.drewN {a w : World} {r : Nat} (h : Turns a w r) (n : Nat) : Turns a (w.drewN n) r := ⟨⟨h.g.os, h.g.tape, h.g.output, h.g.size, h.g.block⟩⟩
theorem Turns.alloc {a w : World} {r : Nat} (h : Turns a w r) (o : Obj) : Turns a (w.alloc o) r :=
  ⟨⟨h.g.os, h.g.tape, h.g.output, Nat.le_trans h.g.size (by simp), fun i hi hne => (Below.heap_alloc w o i (Nat.lt_of_lt_of_le hi h.g.size)).trans (h.g.block i hi hne)⟩⟩
theorem Turns.setCell {a w : World} {r : Nat} (h : Turns a w r) {p : Addr} (hp : p.block = r ∨ a.heap.size ≤ p.block) (u : Value) : Turns a (w.setCell p u) r :=
  ⟨⟨h.g.os, h.g.tape, h.g.output, by simpa [World.setCell] using h.g.size, fun i hi hne => (Below.heap_setCell w p u i (by
    rintro rfl
    rcases hp with hp | hp
    · exact hne (by rw [hp])
    · omega)).trans (h.g.block i hi hne)⟩⟩
theorem Turns.of_below {a w : World} (h : Below a.heap.size a w) (r : Nat) : Turns a w r := ⟨⟨h.os, h.tape, h.output, h.size, fun i hi _ => h.block i hi⟩⟩
theorem Turns.grown {a w w' : World} {r : Nat} {row : Option Nat} (h : Turns a w r) (hg : w.grownBy w' row) (hr : ∀ k, row = some k → k = r ∨ a.heap.size ≤ k) : Turns a w' r :=
  ⟨⟨hg.os.trans h.g.os, hg.tape.trans h.g.tape, hg.output.trans h.g.output, Nat.le_trans h.g.size hg.size, fun i hi hne =>
    (hg.block i (Nat.lt_of_lt_of_le hi h.g.size) (fun e => by
      rcases hr i e.symm with h1 | h1
      · exact hne (by rw [h1])
      · omega)).trans (h.g.block i hi hne)⟩⟩
theorem Blk.turns {w w' : World} {g r : Nat} {t : TypeId} {cs : Array Value} (h : Blk w g t cs) (k : Turns w w' r) (hne : g ≠ r) : Blk w' g t cs :=
  (k.g.block g h.lt (fun e => hne (by injection e))).trans h

/-- The reader in block r has moved on: nothing else that was there has turned. -/
structure Moved (w w' : World) (r : Nat) (v : Value) (at_ : Nat) (bad : Bool) : Prop where
  t : Turns w w' r
  rd : Rd w' r v at_ bad

set_option maxHeartbeats 400000 in
theorem wrong_any (r : Nat) (v : Value) (at_ : Int) (bad : Bool) (w : World) (h : Rd w r v at_ bad) :
    Calls Try.prog 34 #[.pointer (some ⟨r, 0, none⟩)] w fun e w' => e = .returned (.bool bad) ∧ w = w' := by
  have h2 : w.cell? ⟨r, 2, none⟩ = some (.bool bad) := h.cell 2
  clear h
  go_enter Try.func34, Try.ntmps34
  go_wp2
  go_ret
  exact ⟨rfl, rfl⟩

set_option maxHeartbeats 400000 in
theorem spoil_any (r : Nat) (v : Value) (at_ : Int) (bad : Bool) (w : World) (h : Rd w r v at_ bad) :
    Calls Try.prog 61 #[.pointer (some ⟨r, 0, none⟩)] w fun e w' => e = .returned (.tuple #[]) ∧ w.setCell ⟨r, 2, none⟩ (.bool true) = w' := by
  have h2 : w.cell? ⟨r, 2, none⟩ = some (.bool bad) := h.cell 2
  have h3 := h.frozen 2
  clear h
  go_enter Try.func61, Try.ntmps61
  go_wp2
  go_end0
  exact ⟨rfl, rfl⟩


theorem ofInt_i64 (a : Nat) (ha : a < 9223372036854775808) : (BitVec.ofInt 64 (a : Int)).toNat = a := by
  rw [BitVec.ofInt_natCast, BitVec.toNat_ofNat]; exact Nat.mod_eq_of_lt (by omega)
theorem i64_or_nat (a b : Nat) (ha : a < 9223372036854775808) (hb : b < 9223372036854775808) : bits .or .i64 (a : Int) (b : Int) = ((a ||| b : Nat) : Int) := by
  have hx : a ||| b < 2 ^ 63 := Nat.or_lt_two_pow (by omega) (by omega)
  show IntKind.i64.wrap ((BitVec.ofInt 64 (a : Int) ||| BitVec.ofInt 64 (b : Int)).toNat : Int) = _
  rw [BitVec.toNat_or, ofInt_i64 a ha, ofInt_i64 b hb, IntKind.wrap_i64]
  omega
theorem or_step (a c : Int) (h0 : 0 ≤ a) (h1 : a < 16777216) (h2 : 0 ≤ c) (h3 : c < 256) : bits .or .i64 (a * 256) c = a * 256 + c := by
  obtain ⟨x, rfl⟩ := Int.eq_ofNat_of_zero_le h0
  obtain ⟨y, rfl⟩ := Int.eq_ofNat_of_zero_le h2
  have e := Nat.two_pow_add_eq_or_of_lt (i := 8) (b := y) (by omega) x
  rw [show ((x : Int) * 256) = ((x * 256 : Nat) : Int) by omega, i64_or_nat _ _ (by omega) (by omega), show x * 256 = 2 ^ 8 * x by omega, ← e]
  omega
end Go.Proofs.Ythfppmamnnnnmaa
