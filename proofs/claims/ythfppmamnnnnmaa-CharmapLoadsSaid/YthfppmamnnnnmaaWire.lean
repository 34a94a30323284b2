/-
  The reader (package wire): contracts of its methods.
-/
import Derived.Test.YthfppmamnnnnmaaBase
set_option linter.unusedVariables false
namespace Go.Proofs.Ythfppmamnnnnmaa
open Go.RowKit

/-- The number that the first k bytes of f tell, the highest first. -/
def num (f : Nat → Int) : Nat → Int
  | 0 => 0
  | k + 1 => num f k * 256 + f k

/-- Bytes in memory: from offset o of block b on, n bytes that read as f. -/
def Bs (w : World) (b o n : Nat) (f : Nat → Int) : Prop := ∀ i, i < n → w.cell? ⟨b, o + i, none⟩ = some (.int .u8 (f i)) ∧ 0 ≤ f i ∧ f i < 256

theorem Bs.keep {w w' : World} {b o n : Nat} {f : Nat → Int} (h : Bs w b o n f) (hk : w'.heap[b]? = w.heap[b]?) : Bs w' b o n f :=
  fun i hi => ⟨(World.cell?_of_block (a := ⟨b, o + i, none⟩) hk).trans (h i hi).1, (h i hi).2⟩
theorem Bs.lt {w : World} {b o n : Nat} {f : Nat → Int} (h : Bs w b o n f) (hn : 0 < n) : b < w.heap.size := World.block_lt_of_cell? w _ (h 0 hn).1

theorem num_bd (f : Nat → Int) (n : Nat) (h : ∀ i, i < n → 0 ≤ f i ∧ f i < 256) : ∀ k, k ≤ n → k ≤ 4 → 0 ≤ num f k ∧ num f k < 256 ^ k := by
  intro k
  induction k with
  | zero => simp [num]
  | succ k ih =>
    intro h1 h2
    have := ih (by omega) (by omega)
    have hk := h k (by omega)
    simp only [num, Int.pow_succ]
    omega
theorem num_lt (f : Nat → Int) (n : Nat) (h : ∀ i, i < n → 0 ≤ f i ∧ f i < 256) (k : Nat) (hk : k < n) (hn : n ≤ 4) : 0 ≤ num f k ∧ num f k < 16777216 := by
  have := num_bd f n h k (by omega) (by omega)
  rcases (by omega : k = 0 ∨ k = 1 ∨ k = 2 ∨ k = 3) with rfl | rfl | rfl | rfl <;> omega

/-- What a reader reads: len bytes from offset o of block b on. -/
structure Src where
  b : Nat
  o : Nat
  len : Nat
  cap : Nat
  f : Nat → Int

/-- The reader in block r over S stands at at_. -/
structure RdS (w : World) (r : Nat) (S : Src) (at_ : Nat) (bad : Bool) : Prop where
  rd : Rd w r (.slice (some ⟨S.b, S.o, none⟩) S.len S.cap) at_ bad
  hat : at_ ≤ S.len
  hlen : S.len ≤ 2000000000
  hc : S.len ≤ S.cap
  hbr : S.b < r
  bs : Bs w S.b S.o S.len S.f

theorem RdS.step {w w' : World} {r : Nat} {S : Src} {a a' : Nat} {bad bad' : Bool} (h : RdS w r S a bad) (t : Turns w w' r) (hr : Rd w' r (.slice (some ⟨S.b, S.o, none⟩) S.len S.cap) a' bad') (ha : a' ≤ S.len) : RdS w' r S a' bad' :=
  ⟨hr, ha, h.hlen, h.hc, h.hbr, fun i hi => by
    have hlt := h.bs.lt (by omega)
    exact h.bs.keep (t.g.block S.b hlt (fun e => by have := h.hbr; injection e with e; omega)) i hi⟩
theorem RdS.below {w w' : World} {r : Nat} {S : Src} {a : Nat} {bad : Bool} (h : RdS w r S a bad) (t : Below w.heap.size w w') : RdS w' r S a bad :=
  ⟨Blk.below h.rd t (Blk.lt h.rd), h.hat, h.hlen, h.hc, h.hbr, fun i hi => by
    have hlt := h.bs.lt (by omega)
    exact h.bs.keep (t.block S.b hlt) i hi⟩
theorem RdS.drewN {w : World} {r : Nat} {S : Src} {a : Nat} {bad : Bool} (h : RdS w r S a bad) (n : Nat) : RdS (w.drewN n) r S a bad := ⟨h.rd, h.hat, h.hlen, h.hc, h.hbr, h.bs⟩

theorem RdS.keep {w w' : World} {r : Nat} {S : Src} {a : Nat} {bad : Bool} (h : RdS w r S a bad) (hk : ∀ k, k ≤ r → w'.heap[k]? = w.heap[k]?) : RdS w' r S a bad :=
  ⟨(hk r (Nat.le_refl _)).trans h.rd, h.hat, h.hlen, h.hc, h.hbr, h.bs.keep (hk _ (by have := h.hbr; omega))⟩
theorem RdS.grown {w w' : World} {r : Nat} {S : Src} {a : Nat} {bad : Bool} {row : Option Nat} (h : RdS w r S a bad) (hg : w.grownBy w' row) (hr : ∀ k, row = some k → r < k) : RdS w' r S a bad :=
  h.keep fun k hk => hg.block k (by have := Blk.lt h.rd; omega) (fun e => by have := hr k e.symm; omega)
theorem RdS.alloc {w : World} {r : Nat} {S : Src} {a : Nat} {bad : Bool} (h : RdS w r S a bad) (o : Obj) : RdS (w.alloc o) r S a bad :=
  h.keep fun k hk => Below.heap_alloc w o k (by have := Blk.lt h.rd; omega)

/-- Are the next n bytes there? -/
def okB (S : Src) (at_ n : Nat) (bad : Bool) : Bool := !bad && decide (at_ + n ≤ S.len)
/-- Where a reader stands behind n bytes. -/
def atB (S : Src) (at_ n : Nat) (bad : Bool) : Nat := if okB S at_ n bad then at_ + n else at_
theorem atB_le {S : Src} {at_ n : Nat} {bad : Bool} (h : at_ ≤ S.len) : atB S at_ n bad ≤ S.len := by
  unfold atB okB
  split
  · rename_i h1; simp at h1; omega
  · exact h
/-- The number that the next n bytes tell. -/
def numB (S : Src) (at_ n : Nat) (bad : Bool) : Int := if okB S at_ n bad then num (fun i => S.f (at_ + i)) n else 0

theorem next_bad (r : Nat) (S : Src) (at_ : Nat) (n : Nat) (w : World) (h : RdS w r S at_ true) :
    Calls Try.prog 59 #[.pointer (some ⟨r, 0, none⟩), .int .i64 n] w fun e w' => e = .returned (.slice none 0 0) ∧ Moved w w' r (.slice (some ⟨S.b, S.o, none⟩) S.len S.cap) at_ true := by
  have hr := h.rd
  clear h
  go_enter Try.func59, Try.ntmps59
  go_wp2_with fail
  go_quiet ((go_at_call 34; exact Calls.quiet_of_same ((wrong_any r _ _ _ _ (hr.drewN _)).mono fun e w' ⟨a, b⟩ => ⟨a, b.symm⟩)))
  go_wp2_with (go_at_call 61; refine (spoil_any r _ _ _ _ (hr.drewN _)).mono ?_; rintro e w' ⟨rfl, rfl⟩)
  go_ret
  exact ⟨rfl, (((Turns.refl w r).drewN _).setCell (.inl rfl) _), by simpa [Rd] using (Blk.set_ (Blk.drewN hr _) 2 (.bool true))⟩

/-- 'next': bytes that are not there. -/
theorem next_no (r : Nat) (S : Src) (at_ n : Nat) (w : World) (h : RdS w r S at_ false) (hn : S.len < at_ + n) (hn2 : n ≤ 2000000000) :
    Calls Try.prog 59 #[.pointer (some ⟨r, 0, none⟩), .int .i64 n] w fun e w' => e = .returned (.slice none 0 0) ∧ Moved w w' r (.slice (some ⟨S.b, S.o, none⟩) S.len S.cap) at_ true := by
  obtain ⟨h, hat, hlen, hc, _, _⟩ := h
  have h0 : w.cell? ⟨r, 0, none⟩ = some (.slice (some ⟨S.b, S.o, none⟩) S.len S.cap) := h.cell 0
  have h1 : w.cell? ⟨r, 1, none⟩ = some (.int .i64 at_) := h.cell 1
  have hN : ¬ (n : Int) < 0 := by omega
  have hG : (S.len : Int) - (at_ : Int) < (n : Int) := by omega
  have hW : IntKind.i64.wrap ((S.len : Int) - (at_ : Int)) = (S.len : Int) - (at_ : Int) := IntWalk.i64_in _ (by omega)
  go_enter Try.func59, Try.ntmps59
  go_wp2_with fail
  go_quiet ((go_at_call 34; exact Calls.quiet_of_same ((wrong_any r _ _ _ _ (h.drewN _)).mono fun e w' ⟨a, b⟩ => ⟨a, b.symm⟩)))
  go_wp2_with (go_at_call 61; refine (spoil_any r _ _ _ _ (h.drewN _)).mono ?_; rintro e w' ⟨rfl, rfl⟩)
  go_ret
  exact ⟨rfl, (((Turns.refl w r).drewN _).setCell (.inl rfl) _), by simpa [Rd] using (Blk.set_ (Blk.drewN h _) 2 (.bool true))⟩

/-- 'next': bytes that are there. -/
theorem next_yes (r : Nat) (S : Src) (at_ n : Nat) (w : World) (h : RdS w r S at_ false) (hat : at_ + n ≤ S.len) (hn0 : 0 < n) :
    Calls Try.prog 59 #[.pointer (some ⟨r, 0, none⟩), .int .i64 n] w fun e w' => e = .returned (.slice (some ⟨S.b, S.o + at_, none⟩) n (S.cap - at_)) ∧ Moved w w' r (.slice (some ⟨S.b, S.o, none⟩) S.len S.cap) (at_ + n) false := by
  obtain ⟨h, _, hlen, hc, _, _⟩ := h
  have h0 : w.cell? ⟨r, 0, none⟩ = some (.slice (some ⟨S.b, S.o, none⟩) S.len S.cap) := h.cell 0
  have h1 : w.cell? ⟨r, 1, none⟩ = some (.int .i64 at_) := h.cell 1
  have hf := h.frozen 1
  have hN : ¬ (n : Int) < 0 := by omega
  have hne : ¬ S.cap = at_ := by omega
  have hG : ¬ (S.len : Int) - (at_ : Int) < (n : Int) := by omega
  have hW2 : IntKind.i64.wrap ((at_ : Int) + (n : Int)) = (at_ : Int) + (n : Int) := IntWalk.i64_in _ (by omega)
  have hW : IntKind.i64.wrap ((S.len : Int) - (at_ : Int)) = (S.len : Int) - (at_ : Int) := IntWalk.i64_in _ (by omega)
  go_enter Try.func59, Try.ntmps59
  go_wp2_with fail
  go_quiet ((go_at_call 34; exact Calls.quiet_of_same ((wrong_any r _ _ _ _ (h.drewN _)).mono fun e w' ⟨a, b⟩ => ⟨a, b.symm⟩)))
  go_wp2_with fail
  go_quiet (fail)
  go_wp2
  go_ret
  exact ⟨by simp, (((Turns.refl w r).drewN _).setCell (.inl rfl) _), by simpa [Rd] using (Blk.set_ (Blk.drewN h _) 1 (.int .i64 ((at_ : Int) + n)))⟩

theorem number_none (r : Nat) (v : Value) (at_ n : Nat) (w : World)
    (h : Calls Try.prog 59 #[.pointer (some ⟨r, 0, none⟩), .int .i64 n] w fun e w' => e = .returned (.slice none 0 0) ∧ Moved w w' r v at_ true) :
    Calls Try.prog 33 #[.pointer (some ⟨r, 0, none⟩), .int .i64 n] w fun e w' => e = .returned (.int .i64 0) ∧ Moved w w' r v at_ true := by
  have H := Lib.hid h
  clear h
  go_enter Try.func33, Try.ntmps33
  go_wp2_with (go_at_call 59; refine H.out.mono ?_; rintro e w' ⟨rfl, hm⟩)
  have Hm := Lib.hid hm
  clear hm
  refine wp_loop_once ?_
  go_wp2
  go_ret
  exact ⟨rfl, Hm.out⟩

/-- 'number': bytes that are there. -/
theorem number_yes (r : Nat) (S : Src) (at_ n : Nat) (w : World) (h : RdS w r S at_ false) (hat : at_ + n ≤ S.len) (hn0 : 0 < n) (hn4 : n ≤ 4) :
    Calls Try.prog 33 #[.pointer (some ⟨r, 0, none⟩), .int .i64 n] w fun e w' => e = .returned (.int .i64 (num (fun i => S.f (at_ + i)) n)) ∧ Moved w w' r (.slice (some ⟨S.b, S.o, none⟩) S.len S.cap) (at_ + n) false := by
  have hbd : ∀ i, i < n → 0 ≤ S.f (at_ + i) ∧ S.f (at_ + i) < 256 := fun i hi => (h.bs (at_ + i) (by omega)).2
  have HF := Lib.hid hbd
  have Hnum : Hid (∀ k, k < n → 0 ≤ num (fun i => S.f (at_ + i)) k ∧ num (fun i => S.f (at_ + i)) k < 16777216) := fun k hk => num_lt _ n hbd k hk hn4
  have HB := Lib.hid h
  clear h hbd
  go_enter Try.func33, Try.ntmps33
  go_wp2_with (go_at_call 59; refine (next_yes r S at_ n _ HB.out hat hn0).mono ?_; rintro e w' ⟨rfl, hm⟩)
  have Hm := Lib.hid hm
  have hcell : ∀ i, i < n → w'.cell? ⟨S.b, S.o + at_ + i, none⟩ = some (.int .u8 (S.f (at_ + i))) := fun i hi => by
    have := ((HB.out.step hm.t hm.rd hat).bs (at_ + i) (by omega)).1
    rwa [← Nat.add_assoc] at this
  have HC := Lib.hid hcell
  clear hcell hm
  go_loop [5, 12] (fun x i => ∃ k : Nat, k ≤ n ∧ i = .int .i64 k ∧ x = .int .i64 (num (fun i => S.f (at_ + i)) k)) (fun _ i => n - (intOf i).toNat)
  case atStart => exact ⟨0, Nat.zero_le _, rfl, rfl⟩
  case round =>
    obtain ⟨k, hk, rfl, rfl⟩ := hrel
    have hlen := HB.out.hlen
    by_cases hlt : k < n
    · have hck := HC.out k hlt
      have hf0 := (HF.out k hlt).1
      have hf1 := (HF.out k hlt).2
      have hn0 := (Hnum.out k (by omega)).1
      have hn1 := (Hnum.out k (by omega)).2
      have Ho := Lib.hid (or_step _ _ hn0 hn1 hf0 hf1)
      go_wp2
      go_round
      case rel => exact ⟨k + 1, by omega, by go_num, by rw [Ho.out]; rfl⟩
      case measure => simp [intOf]; omega
    · obtain rfl : k = n := by omega
      go_wp2
      go_ret
      exact ⟨rfl, Hm.out⟩

/-- 'number', whatever the reader's state. -/
theorem number_any (r : Nat) (S : Src) (at_ n : Nat) (m : Int) (hm : m = n) (bad : Bool) (w : World) (h : RdS w r S at_ bad) (hn0 : 0 < n) (hn4 : n ≤ 4) :
    Calls Try.prog 33 #[.pointer (some ⟨r, 0, none⟩), .int .i64 m] w fun e w' => e = .returned (.int .i64 (numB S at_ n bad)) ∧ RdS w' r S (atB S at_ n bad) (!okB S at_ n bad) ∧ Turns w w' r := by
  subst hm
  have hl := h.hlen
  by_cases hb : bad = true
  · subst hb
    refine (number_none r _ at_ n w (next_bad r S at_ n w h)).mono ?_
    rintro e w' ⟨rfl, hm⟩
    simp only [numB, atB, okB, Bool.not_true, Bool.false_and, Bool.false_eq_true, if_false, Bool.not_false]
    exact ⟨trivial, h.step hm.t hm.rd h.hat, hm.t⟩
  · obtain rfl : bad = false := by simpa using hb
    by_cases hk : at_ + n ≤ S.len
    · refine (number_yes r S at_ n w h hk hn0 hn4).mono ?_
      rintro e w' ⟨rfl, hm⟩
      simp only [numB, atB, okB, Bool.not_false, Bool.true_and, hk, decide_true, if_true, Bool.not_true]
      exact ⟨trivial, h.step hm.t hm.rd hk, hm.t⟩
    · refine (number_none r _ at_ n w (next_no r S at_ n w h (by omega) (by omega))).mono ?_
      rintro e w' ⟨rfl, hm⟩
      simp only [numB, atB, okB, Bool.not_false, Bool.true_and, hk, decide_false, Bool.false_eq_true, if_false, Bool.not_true]
      exact ⟨trivial, h.step hm.t hm.rd h.hat, hm.t⟩

theorem u16_any (r : Nat) (S : Src) (at_ : Nat) (bad : Bool) (w : World) (h : RdS w r S at_ bad) :
    Calls Try.prog 14 #[.pointer (some ⟨r, 0, none⟩)] w fun e w' => e = .returned (.int .i64 (numB S at_ 2 bad)) ∧ RdS w' r S (atB S at_ 2 bad) (!okB S at_ 2 bad) ∧ Turns w w' r := by
  have H := Lib.hid h
  clear h
  go_enter Try.func14, Try.ntmps14
  go_wp2_with (go_at_call 33; refine (number_any r S at_ 2 _ rfl bad _ H.out (by omega) (by omega)).mono ?_; rintro e w' ⟨rfl, hm⟩)
  go_ret
  exact ⟨rfl, hm⟩

theorem u32_any (r : Nat) (S : Src) (at_ : Nat) (bad : Bool) (w : World) (h : RdS w r S at_ bad) :
    Calls Try.prog 37 #[.pointer (some ⟨r, 0, none⟩)] w fun e w' => e = .returned (.int .i64 (numB S at_ 4 bad)) ∧ RdS w' r S (atB S at_ 4 bad) (!okB S at_ 4 bad) ∧ Turns w w' r := by
  have H := Lib.hid h
  clear h
  go_enter Try.func37, Try.ntmps37
  go_wp2_with (go_at_call 33; refine (number_any r S at_ 4 _ rfl bad _ H.out (by omega) (by omega)).mono ?_; rintro e w' ⟨rfl, hm⟩)
  go_ret
  exact ⟨rfl, hm⟩

theorem done_any (r : Nat) (v : Value) (at_ : Int) (bad : Bool) (w : World) (h : Rd w r v at_ bad) :
    Calls Try.prog 15 #[.pointer (some ⟨r, 0, none⟩)] w fun e w' => e = .returned (.int .i64 (if bad then 30 else 0)) ∧ w = w' := by
  have H := Lib.hid h
  clear h
  cases bad
  · go_enter Try.func15, Try.ntmps15
    go_wp2_with (go_at_call 34; refine (wrong_any r _ _ _ _ H.out).mono ?_; rintro e w' ⟨rfl, rfl⟩)
    go_ret
    exact ⟨rfl, rfl⟩
  · go_enter Try.func15, Try.ntmps15
    go_wp2_with (go_at_call 34; refine (wrong_any r _ _ _ _ H.out).mono ?_; rintro e w' ⟨rfl, rfl⟩)
    go_ret
    exact ⟨rfl, rfl⟩

theorem at_any (r : Nat) (v : Value) (at_ : Int) (bad : Bool) (w : World) (h : Rd w r v at_ bad) :
    Calls Try.prog 64 #[.pointer (some ⟨r, 0, none⟩)] w fun e w' => e = .returned (.int .i64 at_) ∧ w = w' := by
  have h1 : w.cell? ⟨r, 1, none⟩ = some (.int .i64 at_) := h.cell 1
  clear h
  go_enter Try.func64, Try.ntmps64
  go_wp2
  go_ret
  exact ⟨rfl, rfl⟩

theorem left_any (r : Nat) (S : Src) (at_ : Nat) (bad : Bool) (w : World) (h : RdS w r S at_ bad) :
    Calls Try.prog 66 #[.pointer (some ⟨r, 0, none⟩)] w fun e w' => e = .returned (.int .i64 (if bad then 0 else (S.len : Int) - at_)) ∧ ∃ q, w' = w.drewN q := by
  have H := Lib.hid h.rd
  have hl := h.hlen
  have hat := h.hat
  clear h
  have h0 : w.cell? ⟨r, 0, none⟩ = some (.slice (some ⟨S.b, S.o, none⟩) S.len S.cap) := H.out.cell 0
  have h1 : w.cell? ⟨r, 1, none⟩ = some (.int .i64 at_) := H.out.cell 1
  cases bad
  · have hW : IntKind.i64.wrap ((S.len : Int) - (at_ : Int)) = (S.len : Int) - (at_ : Int) := IntWalk.i64_in _ (by omega)
    go_enter Try.func66, Try.ntmps66
    go_wp2_with (go_at_call 34; refine (wrong_any r _ _ _ _ H.out).mono ?_; rintro e w' ⟨rfl, rfl⟩)
    go_quiet (fail)
    go_wp2
    go_ret
    exact ⟨rfl, _, rfl⟩
  · go_enter Try.func66, Try.ntmps66
    go_wp2_with (go_at_call 34; refine (wrong_any r _ _ _ _ H.out).mono ?_; rintro e w' ⟨rfl, rfl⟩)
    go_ret
    exact ⟨rfl, 0, rfl⟩

end Go.Proofs.Ythfppmamnnnnmaa
