/-
  charmap.load0.
-/
import Derived.Test.YthfppmamnnnnmaaSegs
import Derived.Test.YthfppmamnnnnmaaSize
import Derived.Deep.AppendLies
set_option linter.unusedVariables false
namespace Go.Proofs.Ythfppmamnnnnmaa
open Go.RowKit

/-- k numbers of f from a on. -/
def upto (f : Nat → Int) (a k : Nat) : List Int := (List.range k).map fun i => f (a + i)
theorem upto_succ (f : Nat → Int) (a k : Nat) : upto f a (k + 1) = upto f a k ++ [f (a + k)] := by simp [upto, List.range_succ]
theorem upto_len (f : Nat → Int) (a k : Nat) : (upto f a k).length = k := by simp [upto]

def seg0 (S : Src) : Seg := { first := 0, last := 255, glyph := 0, rounds := false, list := some (upto S.f 6 256), delta := 0 }

/-- What a loader leaves. -/
def LoadPost (o : Option (List Seg)) (w : World) (e : Ending) (w' : World) : Prop :=
  Below w.heap.size w w' ∧ match o with
  | none => ∃ v, e = .returned (.tuple #[v, .bool false])
  | some l => ∃ v, e = .returned (.tuple #[v, .bool true]) ∧ SegsAt w' w.heap.size v l

theorem SegsAt.one {w : World} {B : Nat} {s : Seg} {lv : Value} (hB : B ≤ w.heap.size) (hlv : LV w B lv s.list) :
    SegsAt (w.alloc (.cells (segCells s lv).toArray 59)) B (.slice (some ⟨w.heap.size, 0, none⟩) 1 1) [s] := by
  refine ⟨[lv], rfl, ⟨by simp [segCells], .inr ⟨w.heap.size, 1, (segCells s lv).toArray, rfl, hB, heap_alloc_new w _, Nat.le_refl _, by decide, by simp [segCells], by simp [segCells]⟩⟩, ?_⟩
  intro i s' lv' a b
  match i with
  | 0 =>
    simp at a b
    subst a b
    exact hlv.below ((Below.refl _ _).alloc (Nat.le_refl _) _)
  | i + 1 => simp at a

theorem load0_no (S : Src) (w : World) (h : InM w S) (hk : S.len < 262) :
    Calls Try.prog 38 #[.slice (some ⟨S.b, S.o, none⟩) S.len S.cap] w (LoadPost none w) := by
  have hk2 : (S.len : Int) < 262 := by omega
  clear h
  go_enter Try.func38, Try.ntmps38
  go_wp2
  go_ret2
  exact ⟨Below.refl _ _, _, rfl⟩

set_option maxRecDepth 100000 in
set_option maxHeartbeats 400000 in
theorem load0_yes (S : Src) (w : World) (h : InM w S) (hk : 262 ≤ S.len) :
    Calls Try.prog 38 #[.slice (some ⟨S.b, S.o, none⟩) S.len S.cap] w (LoadPost (some [seg0 S]) w) := by
  obtain ⟨i0, hi, hz0, hz1, hz2⟩ := info_parts Try.info3
  have hk2 : ¬ (S.len : Int) < 262 := by omega
  have hc := h.hc
  have hc2 : ¬ S.cap = 6 := by omega
  have hc3 : 262 ≤ S.cap := by omega
  have H := Lib.hid h
  clear h
  go_enter Try.func38, Try.ntmps38
  go_wp2_with fail
  go_loopw [14] (fun i wr => ∃ (k : Nat) (lv : Value), k ≤ 256 ∧ i = .int .i64 k ∧ Below w.heap.size w wr ∧ Blk wr w.heap.size 59 #[.int .i64 0, .int .i64 255, .int .i64 0, .bool false, lv, .int .i64 0] ∧ OwnI wr (w.heap.size + 1) lv (upto S.f 6 k)) (fun i _ => 256 - (intOf i).toNat)
  case atStart => exact ⟨0, _, Nat.zero_le _, rfl, (Below.refl _ _).alloc (Nat.le_refl _) _, Blk.new _ _ _, World.ownsRow_nil _ _ _ _⟩
  case round =>
    obtain ⟨k, lv, hk, rfl, hb, hs, ho⟩ := hrel
    have HB := Lib.hid hb
    have HS := Lib.hid hs
    have HO := Lib.hid ho
    have HL := Lib.hid (upto_len S.f 6 k)
    clear hb hs ho
    have h4 : wr.cell? ⟨w.heap.size, 4, none⟩ = some lv := HS.out.cell 4
    have hf4 := HS.out.frozen 4
    by_cases hlt : k < 256
    · have hck : wr.cell? ⟨S.b, S.o + 6 + k, none⟩ = some (.int .u8 (S.f (6 + k))) := by
        have := (H.out.bs.keep (HB.out.block _ H.out.hb) (6 + k) (by omega)).1
        rwa [← Nat.add_assoc] at this
      have hf0 := (H.out.bs (6 + k) (by omega)).2.1
      have hf1 := (H.out.bs (6 + k) (by omega)).2.2
      go_wp2_with (at_builtin; refine wpList_append_own _ rfl (.tmp 19) (.tmp 22) 57 rfl (w.heap.size + 1) 3 i0 (.int .i64 0) 1 8 Try.underlying57 hi hz0 hz1 hz2 rfl (by decide) _ _ _ rfl (World.ownsRow.alloc HO.out _) ⟨wr.heap.size, 0, none⟩ 1 1 [.int .i64 (S.f (6 + k))] rfl rfl (cell_one_new _ _ _) (by simp [Value.oneCell']) ?c3 ?c4 ?c5 ?_)
      case c3 => have := HL.out; unfold maxLen; omega
      case c4 => have := HL.out; omega
      case c5 => have := Blk.lt HS.out; simp; omega
      intro v' w2 hown hg hx
      obtain ⟨g', cap', rfl, hg1, hg2⟩ := World.ownsRow.form hown (by omega)
      have hS2 : Blk w2 w.heap.size 59 #[.int .i64 0, .int .i64 255, .int .i64 0, .bool false, lv, .int .i64 0] := (HS.out.alloc _).grown hg (by
        intro e
        have := (World.ownsRow.lt HO.out _ e.symm).1
        omega)
      have hB2 : Below w.heap.size w w2 := (HB.out.alloc HB.out.size _).grown hg (by have := HB.out.size; simp; omega) (fun g e => by have := (World.ownsRow.lt HO.out _ e).1; omega)
      have c4 : w2.cell? ⟨w.heap.size, 4, none⟩ = some lv := hS2.cell 4
      have f4 := hS2.frozen 4
      have HW := Lib.hid hown
      have HS2 := Lib.hid hS2
      have HB2 := Lib.hid hB2
      clear hown hg hx h4 hf4 hS2 hB2
      go_wp2
      go_roundw
      case rel =>
        refine ⟨k + 1, _, by omega, by go_num, HB2.out.setCell (Nat.le_refl _) _, HS2.out.set_ 4 _, ?_⟩
        rw [upto_succ]
        exact OwnI.turns (OwnI.snoc HW.out) ((Turns.refl w2 w.heap.size).setCell (.inl rfl) _) (by omega)
      case measure => simp [intOf]; omega
    · have hge : ¬ (k : Int) < 256 := by omega
      have h0 : wr.cell? ⟨w.heap.size, 0, none⟩ = some (.int .i64 0) := HS.out.cell 0
      have h1 : wr.cell? ⟨w.heap.size, 1, none⟩ = some (.int .i64 255) := HS.out.cell 1
      have h2 : wr.cell? ⟨w.heap.size, 2, none⟩ = some (.int .i64 0) := HS.out.cell 2
      have h3 : wr.cell? ⟨w.heap.size, 3, none⟩ = some (.bool false) := HS.out.cell 3
      have h5 : wr.cell? ⟨w.heap.size, 5, none⟩ = some (.int .i64 0) := HS.out.cell 5
      go_wp2
      go_ret2
      have hk256 : k = 256 := by omega
      refine ⟨HB.out.alloc HB.out.size _, _, rfl, SegsAt.one (s := seg0 S) (lv := lv) HB.out.size (.inr ⟨_, rfl, ?_, ?_⟩)⟩
      · intro e; have := upto_len S.f 6 256; rw [e] at this; simp at this
      · rw [hk256] at HO
        exact own_mono HO.out (by omega)

end Go.Proofs.Ythfppmamnnnnmaa
