/-
  slices.Clone at bytes; (*Reader).Take.
-/
import Derived.Test.YthfppmamnnnnmaaLoad6
set_option linter.unusedVariables false
namespace Go.Proofs.Ythfppmamnnnnmaa
open Go.RowKit

theorem Try.info5 : (Try.prog.info? 5).map (fun i => (i.zero, i.size, i.bytes)) = some (some (.int .u8 0), 1, 1) := by kernel_rfl

/-- What a copy leaves. -/
def ClonePost (n : Nat) (xs : List Value) (w : World) (e : Ending) (w' : World) : Prop :=
  ∃ v, e = .returned v ∧ Below w.heap.size w w' ∧ w'.ownsRow w.heap.size 5 1 v n xs

theorem add_none (b o j : Nat) : (⟨b, o, none⟩ : Addr).add j = ⟨b, o + j, none⟩ := by
  unfold Addr.add
  split <;> simp_all

theorem ownsRow_empty (w : World) (t : TypeId) (z : Nat) : (w.alloc (.cells #[] t)).ownsRow w.heap.size t z (.slice (some ⟨w.heap.size, 0, none⟩) 0 0) 0 [] :=
  ⟨by simp, .inr ⟨w.heap.size, 0, #[], rfl, Nat.le_refl _, heap_alloc_new w _, Nat.le_refl _, by decide, by simp, by simp⟩⟩

set_option maxHeartbeats 400000 in
theorem clone_any (b o n cap : Nat) (xs : List Value) (w : World) (hx : xs.length = n) (hn : n ≤ 2000000000) (h1 : ∀ u ∈ xs, u.oneCell' = true) (hc : ∀ j u, xs[j]? = some u → w.cell? ⟨b, o + j, none⟩ = some u) :
    Calls Try.prog 70 #[.slice (some ⟨b, o, none⟩) n cap] w (ClonePost n xs w) := by
  obtain ⟨i0, hi, hz0, hz1, hz2⟩ := info_parts Try.info5
  have HC := Lib.hid hc
  have HX := Lib.hid hx
  have H1 := Lib.hid h1
  have he := Lib.run_eql_slice_nil (P := Try.prog)
  clear hc hx h1
  go_enter Try.func70, Try.ntmps70
  go_wp2_with (at_builtin; refine wpList_append_own _ rfl (.tmp 5) (.tmp 6) 22 rfl w.heap.size 5 i0 _ 1 1 Try.underlying22 hi hz0 hz1 hz2 rfl (by decide) _ _ _ rfl (ownsRow_empty w 5 1) ⟨b, o, none⟩ n cap xs rfl ?hl ?hc H1.out ?c3 ?c4 ?c5 ?_)
  case hl => rw [HX.out]; omega
  case hc =>
    intro j u hu
    have := HC.out j u hu
    rw [add_none, World.cell?_alloc_lt w _ _ (World.block_lt_of_cell? w _ this)]
    exact this
  case c3 => unfold maxLen; omega
  case c4 => omega
  case c5 => simp
  intro v' w2 hown hg _
  have HW := Lib.hid hown
  have HB := Lib.hid (Below.grown ((Below.refl w.heap.size w).alloc (Nat.le_refl _) _) hg (by simp) (fun k e => by simp [Value.ownBlock] at e; omega))
  clear hown hg
  go_wp2
  go_ret
  exact ⟨v', rfl, HB.out, HW.out⟩

theorem take_yes (r : Nat) (S : Src) (a n : Nat) (m : Int) (hm : m = n) (w : World) (h : RdS w r S a false) (ha : a + n ≤ S.len) (hn0 : 0 < n) :
    Calls Try.prog 62 #[.pointer (some ⟨r, 0, none⟩), .int .i64 m] w fun e w' => (∃ v, e = .returned v) ∧ RdS w' r S (a + n) false ∧ Turns w w' r := by
  subst hm
  have H := Lib.hid h
  have hl := h.hlen
  clear h
  go_enter Try.func62, Try.ntmps62
  go_wp2_with fail
  refine (next_yes r S a n _ H.out ha hn0).mono ?_
  rintro e w1 ⟨rfl, hm⟩
  have H1 := Lib.hid (H.out.step hm.t hm.rd ha)
  have T1 := Lib.hid hm.t
  clear hm
  go_wp2_with fail
  refine (clone_any S.b (S.o + a) n (S.cap - a) ((upto S.f a n).map (Value.int .u8)) _ (by simp [upto_len]) (by omega) (by simp [Value.oneCell']) ?_).mono ?_
  · intro j u hu
    have hj : j < n := by
      have := (List.getElem?_eq_some_iff.1 hu).1
      simpa [upto_len] using this
    have := (H1.out.bs (a + j) (by omega)).1
    rw [← Nat.add_assoc] at this
    rw [this, ← hu]
    simp [upto, hj]
  rintro e w2 ⟨v, rfl, hb, _⟩
  have H2 := Lib.hid (H1.out.below hb)
  have T2 := Lib.hid (T1.out.trans (Turns.of_below hb r))
  clear hb
  go_wp2
  go_ret
  exact ⟨⟨v, rfl⟩, H2.out, T2.out⟩

end Go.Proofs.Ythfppmamnnnnmaa
