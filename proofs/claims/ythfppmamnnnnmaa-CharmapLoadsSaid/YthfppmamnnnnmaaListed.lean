/-
  charmap.listed.
-/
import Derived.Test.YthfppmamnnnnmaaLoad6
import Derived.Deep.RegionWith
import Derived.StillTailTactics
set_option linter.unusedVariables false
namespace Go.Proofs.Ythfppmamnnnnmaa
open Go.RowKit

theorem wst_bad (S : Src) (a : Nat) : ∀ n, (wst S a true n).2.1 = true := by
  intro n
  induction n with
  | zero => rfl
  | succ n ih => simp [wst, okB, ih]
theorem wst_no (S : Src) (a : Nat) : ∀ n, S.len < a + 2 * n → 0 < n → (wst S a false n).2.1 = true := by
  intro n
  induction n with
  | zero => intro _ h; omega
  | succ n ih =>
    intro h _
    by_cases h1 : a + 2 * n ≤ S.len
    · rw [wst, wst_yes S a n h1]
      simp [okB]
      omega
    · by_cases h0 : 0 < n
      · simp [wst, okB, ih (by omega) h0]
      · have : n = 0 := by omega
        subst this
        have hq : ¬ a + 2 ≤ S.len := by omega
        simp [wst, okB, hq]

/-- c numbers from place p on, if they are there. -/
def listO (S : Src) (p c : Nat) : Option (List Int) := if p + 2 * c ≤ S.len then some (nums S p c) else none

theorem Turns.drew {a w : World} {r : Nat} (h : Turns a w r) : Turns a w.drew r := ⟨⟨h.g.os, h.g.tape, h.g.output, h.g.size, h.g.block⟩⟩

/-- What 'listed' leaves. -/
def ListedPost (s : Seg) (o : Option (List Int)) (w : World) (e : Ending) (w' : World) : Prop :=
  Below w.heap.size w w' ∧ match o with
  | none => ∃ A m c, e = .returned (.tuple #[.agg (segCells s (.slice A m c)).toArray, .bool false])
  | some l => ∃ lv, e = .returned (.tuple #[.agg (segCells s lv).toArray, .bool true]) ∧ LV w' w.heap.size lv (some l)

set_option maxHeartbeats 400000 in
theorem listed_odd (S : Src) (s : Seg) (at_ off : Int) (w : World) (h : InM w S) (h0 : 0 ≤ off) (hodd : off % 2 ≠ 0) :
    Calls Try.prog 65 #[.slice (some ⟨S.b, S.o, none⟩) S.len S.cap, .agg (segCells s (.slice none 0 0)).toArray, .int .i64 at_, .int .i64 off] w (ListedPost s none w) := by
  have hne : (off % 2 == 0) = false := by simpa using hodd
  have hne2 : (off % 2 != 0) = true := by simpa using hodd
  clear h hodd
  unfold segCells
  go_enter Try.func65, Try.ntmps65
  go_wp2
  go_returns
  exact ⟨(((Below.refl _ _).alloc (Nat.le_refl _) _).alloc (by simp) _), _, _, _, rfl⟩

theorem wst_seek (S : Src) (p c : Nat) (hc : 0 < c) :
    (p + 2 * c ≤ S.len ∧ (wst S (skAt S p 0 false) (!skB S p false) c).2.1 = false ∧ (wst S (skAt S p 0 false) (!skB S p false) c).2.2 = nums S p c ∧ listO S p c = some (nums S p c)) ∨
    ((wst S (skAt S p 0 false) (!skB S p false) c).2.1 = true ∧ listO S p c = none) := by
  by_cases h : p + 2 * c ≤ S.len
  · left
    have e1 : skB S p false = true := by simp [skB]; omega
    have e2 : skAt S p 0 false = p := by simp [skAt, e1]
    rw [e1, e2, Bool.not_true, wst_yes S p c h]
    exact ⟨h, rfl, rfl, by simp [listO, h]⟩
  · right
    refine ⟨?_, by simp [listO, h]⟩
    by_cases h1 : p ≤ S.len
    · have e1 : skB S p false = true := by simp [skB]; omega
      have e2 : skAt S p 0 false = p := by simp [skAt, e1]
      rw [e1, e2, Bool.not_true]
      exact wst_no S p c (by omega) hc
    · have e1 : skB S p false = false := by simp [skB]; omega
      rw [e1, Bool.not_false]
      exact wst_bad S _ c

set_option maxRecDepth 100000 in
set_option maxHeartbeats 1600000 in
theorem listed_even (S : Src) (s : Seg) (a off c : Nat) (at_ offi : Int) (hat : at_ = a) (hoffi : offi = off) (w : World) (h : InM w S) (heven : off % 2 = 0) (hf0 : 0 ≤ s.first) (hfl : s.first ≤ s.last) (hl1 : s.last < 65536) (hc : s.last - s.first + 1 = (c : Int)) (ha : a + off ≤ 1000000000) :
    Calls Try.prog 65 #[.slice (some ⟨S.b, S.o, none⟩) S.len S.cap, .agg (segCells s (.slice none 0 0)).toArray, .int .i64 at_, .int .i64 offi] w (ListedPost s (listO S (a + off) c) w) := by
  subst hat
  subst hoffi
  have HC := Lib.hid hc
  have hc1 : 0 < c := by omega
  have hc2 : c ≤ 65536 := by omega
  have hne : ((off : Int) % 2 == 0) = true := by simp; omega
  have hne2 : ((off : Int) % 2 != 0) = false := by simp; omega
  have H := Lib.hid h
  clear h hc heven
  unfold segCells
  go_enter Try.func65, Try.ntmps65
  go_wp2_with fail
  have HB0 : Hid (Below w.heap.size w ((w.alloc (.cells (segCells s (.slice none 0 0)).toArray 59)).alloc (.cells #[.int .i64 0, .int .i64 0, .int .i64 0, .bool false, .slice none 0 0, .int .i64 0] 59))) := ((Below.refl _ _).alloc (Nat.le_refl _) _).alloc (by simp) _
  have HS0 : Hid (Blk ((w.alloc (.cells (segCells s (.slice none 0 0)).toArray 59)).alloc (.cells #[.int .i64 0, .int .i64 0, .int .i64 0, .bool false, .slice none 0 0, .int .i64 0] 59)) w.heap.size 59 (segCells s (.slice none 0 0)).toArray) := (Blk.new w _ _).alloc _
  have HR0 : Hid (Blk ((w.alloc (.cells (segCells s (.slice none 0 0)).toArray 59)).alloc (.cells #[.int .i64 0, .int .i64 0, .int .i64 0, .bool false, .slice none 0 0, .int .i64 0] 59)) (w.heap.size + 1) 59 #[.int .i64 0, .int .i64 0, .int .i64 0, .bool false, .slice none 0 0, .int .i64 0]) := by
    have := Blk.new (w.alloc (.cells (segCells s (.slice none 0 0)).toArray 59)) 59 #[.int .i64 0, .int .i64 0, .int .i64 0, .bool false, .slice none 0 0, .int .i64 0]
    show Blk _ _ _ _
    simpa using this
  have HZ0 : Hid (((w.alloc (.cells (segCells s (.slice none 0 0)).toArray 59)).alloc (.cells #[.int .i64 0, .int .i64 0, .int .i64 0, .bool false, .slice none 0 0, .int .i64 0] 59)).heap.size = w.heap.size + 2) := by
    show _ = _
    simp
  unfold segCells at HB0 HS0 HR0 HZ0
  generalize (w.alloc (.cells [Value.int .i64 s.first, Value.int .i64 s.last, Value.int .i64 s.glyph, Value.bool s.rounds, Value.slice none 0 0, Value.int .i64 s.delta].toArray 59)).alloc (.cells #[.int .i64 0, .int .i64 0, .int .i64 0, .bool false, .slice none 0 0, .int .i64 0] 59) = W at HB0 HS0 HR0 HZ0 ⊢
  have H0 := Lib.hid (H.out.below HB0.out)
  refine (new_any S W H0.out.hlen H0.out.hc H0.out.hb H0.out.bs).mono ?_
  rintro e w1 ⟨rfl, hr1, hb1, hs1⟩
  have Hr1 := Lib.hid hr1
  have Hb1 := Lib.hid hb1
  have HS1 := Lib.hid (Blk.below HS0.out hb1 (by have := HZ0.out; omega))
  have HR1 := Lib.hid (Blk.below HR0.out hb1 (by have := HZ0.out; omega))
  clear hr1 hb1 hs1
  go_wp2_with fail
  refine (seek_any W.heap.size S _ (a + off) _ (by omega) _ _ Hr1.out (by omega)).mono ?_
  rintro e w2 ⟨rfl, hr2, ht2⟩
  have Hr2 := Lib.hid hr2
  have Hb2 := Lib.hid (Below.trans Hb1.out (ht2.below (Nat.le_refl _) Hb1.out.size))
  have HS2 := Lib.hid (Blk.below HS0.out Hb2.out (by have := HZ0.out; omega))
  have HR2 := Lib.hid (Blk.below HR0.out Hb2.out (by have := HZ0.out; omega))
  have c0 : w2.cell? ⟨w.heap.size, 0, none⟩ = some (.int .i64 s.first) := HS2.out.cell 0
  have c1 : w2.cell? ⟨w.heap.size, 1, none⟩ = some (.int .i64 s.last) := HS2.out.cell 1
  clear hr2 ht2 HS1 HR1 Hr1 Hb1
  go_wp2_with fail
  refine (words_any W.heap.size S _ c _ HC.out _ _ Hr2.out (by omega)).mono ?_
  rintro e w3 ⟨lv, rfl, hr3, ht3, ho3⟩
  have Hb3 := Lib.hid (Below.trans Hb2.out (ht3.below (Nat.le_refl _) Hb2.out.size))
  have HS3 := Lib.hid (Blk.below HS0.out Hb3.out (by have := HZ0.out; omega))
  have HR3 := Lib.hid (Blk.below HR0.out Hb3.out (by have := HZ0.out; omega))
  obtain ⟨g, cap, rfl, hg1, hg2⟩ := World.ownsRow.form ho3 (by rw [wst_len]; omega)
  have Hr3 := Lib.hid hr3
  have Ho3 := Lib.hid ho3
  clear hr3 ht3 ho3 Hr2 HS2 HR2 c0 c1
  have d4 : w3.cell? ⟨w.heap.size, 4, none⟩ = some (.slice none 0 0) := HS3.out.cell 4
  have f4 := HS3.out.frozen 4
  go_wp2_with fail
  have HB4 : Hid (Below w.heap.size w (w3.setCell ⟨w.heap.size, 4, none⟩ (.slice (some ⟨g, 0, none⟩) (wst S (skAt S (a + off) 0 false) (!skB S (a + off) false) c).2.2.length cap))) := Below.setCell (Below.trans HB0.out (Below.mono Hb3.out (by have := HZ0.out; omega))) (Nat.le_refl _) _
  have HS4 := Lib.hid (HS3.out.set_ 4 (.slice (some ⟨g, 0, none⟩) (wst S (skAt S (a + off) 0 false) (!skB S (a + off) false) c).2.2.length cap))
  have HR4 := Lib.hid (HR3.out.far (p := ⟨w.heap.size, 4, none⟩) (by simp) (.slice (some ⟨g, 0, none⟩) (wst S (skAt S (a + off) 0 false) (!skB S (a + off) false) c).2.2.length cap))
  have HD4 := Lib.hid (Blk.far Hr3.out.rd (p := ⟨w.heap.size, 4, none⟩) (by have := HZ0.out; simp; omega) (.slice (some ⟨g, 0, none⟩) (wst S (skAt S (a + off) 0 false) (!skB S (a + off) false) c).2.2.length cap))
  have HO4 := Lib.hid (OwnI.turns Ho3.out ((Turns.refl w3 w.heap.size).setCell (p := ⟨w.heap.size, 4, none⟩) (.inl rfl) (.slice (some ⟨g, 0, none⟩) (wst S (skAt S (a + off) 0 false) (!skB S (a + off) false) c).2.2.length cap)) (by have := Hb2.out.size; have := HZ0.out; omega))
  clear HS3 HR3 Hr3 Ho3 d4 f4
  generalize w3.setCell ⟨w.heap.size, 4, none⟩ (.slice (some ⟨g, 0, none⟩) (wst S (skAt S (a + off) 0 false) (!skB S (a + off) false) c).2.2.length cap) = W4 at HB4 HS4 HR4 HD4 HO4 ⊢
  have c0 : W4.cell? ⟨w.heap.size, 0, none⟩ = some (.int .i64 s.first) := HS4.out.cell 0
  have c1 : W4.cell? ⟨w.heap.size, 1, none⟩ = some (.int .i64 s.last) := HS4.out.cell 1
  have c2 : W4.cell? ⟨w.heap.size, 2, none⟩ = some (.int .i64 s.glyph) := HS4.out.cell 2
  have c3 : W4.cell? ⟨w.heap.size, 3, none⟩ = some (.bool s.rounds) := HS4.out.cell 3
  have c4 : W4.cell? ⟨w.heap.size, 4, none⟩ = some (.slice (some ⟨g, 0, none⟩) (wst S (skAt S (a + off) 0 false) (!skB S (a + off) false) c).2.2.length cap) := HS4.out.cell 4
  have c5 : W4.cell? ⟨w.heap.size, 5, none⟩ = some (.int .i64 s.delta) := HS4.out.cell 5
  have r0 : W4.cell? ⟨w.heap.size + 1, 0, none⟩ = some (.int .i64 0) := HR4.out.cell 0
  have r1 : W4.cell? ⟨w.heap.size + 1, 1, none⟩ = some (.int .i64 0) := HR4.out.cell 1
  have r2 : W4.cell? ⟨w.heap.size + 1, 2, none⟩ = some (.int .i64 0) := HR4.out.cell 2
  have r3 : W4.cell? ⟨w.heap.size + 1, 3, none⟩ = some (.bool false) := HR4.out.cell 3
  have r4 : W4.cell? ⟨w.heap.size + 1, 4, none⟩ = some (.slice none 0 0) := HR4.out.cell 4
  have r5 : W4.cell? ⟨w.heap.size + 1, 5, none⟩ = some (.int .i64 0) := HR4.out.cell 5
  have q0 := HR4.out.frozen 0
  have q1 := HR4.out.frozen 1
  have q2 := HR4.out.frozen 2
  have q3 := HR4.out.frozen 3
  have q4 := HR4.out.frozen 4
  have q5 := HR4.out.frozen 5
  rcases wst_seek S (a + off) c hc1 with ⟨hle, hb, hl, ho⟩ | ⟨hb, ho⟩
  · have HO := Lib.hid ho
    have HL := Lib.hid hl
    rw [hb] at HD4
    clear hle hb hl ho
    go_region_with ((go_at_call 15; refine (done_any W.heap.size _ _ _ _ (show Rd W4.drew _ _ _ _ from HD4.out)).mono ?_; rintro e w' ⟨rfl, rfl⟩))
    all_goals go_wp2
    all_goals refine bodyPost_ret (v := .tuple #[.agg #[.int .i64 s.first, .int .i64 s.last, .int .i64 s.glyph, .bool s.rounds, .slice (some ⟨g, 0, none⟩) (wst S (skAt S (a + off) 0 false) (!skB S (a + off) false) c).2.2.length cap, .int .i64 s.delta], .bool true]) (by simp [results, Try.results65, go_sem, r0, r1, r2, r3, r4, r5]) rfl ?_
    all_goals
      have hb4 := HB4.out
      have hz : w.heap.size + 1 < w2.heap.size := by have := Hb2.out.size; have := HZ0.out; omega
      rw [HO.out]
      refine ⟨by go_grown, _, rfl, .inr ⟨_, rfl, ?_, ?_⟩⟩
      · intro e; have := nums_len S (a + off) c; rw [e] at this; simp at this; omega
      · rw [← HL.out]
        refine own_mono (OwnI.turns (r := w.heap.size + 1) HO4.out ?_ hz) (by omega)
        repeat (first | with_reducible exact Turns.refl _ _ | with_reducible refine Turns.setCell ?_ (.inl rfl) _ | with_reducible refine Turns.drew ?_)
  · have HO := Lib.hid ho
    rw [hb] at HD4
    clear hb ho
    go_region_with ((go_at_call 15; refine (done_any W.heap.size _ _ _ _ (show Rd W4.drew _ _ _ _ from HD4.out)).mono ?_; rintro e w' ⟨rfl, rfl⟩))
    all_goals go_wp2
    all_goals refine bodyPost_ret (v := .tuple #[.agg #[.int .i64 s.first, .int .i64 s.last, .int .i64 s.glyph, .bool s.rounds, .slice (some ⟨g, 0, none⟩) (wst S (skAt S (a + off) 0 false) (!skB S (a + off) false) c).2.2.length cap, .int .i64 s.delta], .bool false]) (by simp [results, Try.results65, go_sem, r0, r1, r2, r3, r4, r5]) rfl ?_
    all_goals
      have hb4 := HB4.out
      rw [HO.out]
      exact ⟨by go_grown, _, _, _, rfl⟩

end Go.Proofs.Ythfppmamnnnnmaa
