/-
  'lives' answers true.
-/
import Derived.Test.YthfppmamnnnnmaaMake
import Derived.Test.YthfppmamnnnnmaaMain
set_option linter.unusedVariables false
namespace Go.Proofs.Ythfppmamnnnnmaa
open Go.RowKit

def S0 : Src := ⟨0, 0, 32, 32, fun i => B32.getD i 0⟩
def l4 : List Seg := [⟨65, 67, 65537, true, none, 65472⟩, ⟨65535, 65535, 65536, true, none, 1⟩]

open Classical in
theorem st4_0 : st4 S0 2 1 = some (67, [⟨65, 67, 65537, true, none, 65472⟩]) := by
  have e : st4 S0 2 0 = some (-1, []) := rfl
  have h : ¬ bad4 S0 2 0 (-1) := by
    unfold bad4
    have h1 : end4 S0 2 0 = 67 := by decide +kernel
    have h2 : first4 S0 2 0 = 65 := by decide +kernel
    have h3 : has4 S0 2 0 = false := by decide +kernel
    rw [h1, h2, h3]
    simp
  have hs : seg4 S0 2 0 = ⟨65, 67, 65537, true, none, 65472⟩ := by rfl
  have h1 : end4 S0 2 0 = 67 := by decide +kernel
  show ((st4 S0 2 0).bind fun p => if bad4 S0 2 0 p.1 then none else some (end4 S0 2 0, p.2 ++ [seg4 S0 2 0])) = _
  rw [e, Option.bind_some, if_neg h, hs, h1]
  rfl

open Classical in
theorem st4_1 : st4 S0 2 2 = some (65535, l4) := by
  have h : ¬ bad4 S0 2 1 67 := by
    unfold bad4
    have h1 : end4 S0 2 1 = 65535 := by decide +kernel
    have h2 : first4 S0 2 1 = 65535 := by decide +kernel
    have h3 : has4 S0 2 1 = false := by decide +kernel
    rw [h1, h2, h3]
    simp
  have hs : seg4 S0 2 1 = ⟨65535, 65535, 65536, true, none, 1⟩ := by rfl
  have h1 : end4 S0 2 1 = 65535 := by decide +kernel
  show ((st4 S0 2 1).bind fun p => if bad4 S0 2 1 p.1 then none else some (end4 S0 2 1, p.2 ++ [seg4 S0 2 1])) = _
  rw [st4_0, Option.bind_some, if_neg h, hs, h1]
  rfl

theorem loadR_32 : LoadR S0 3 = .ok (4, l4) := by
  have h0 : be2 S0 0 = 4 := by decide +kernel
  have h1 : sizeB S0 4 = 32 := by decide +kernel
  have h2 : be2 S0 6 = 4 := by decide +kernel
  have hok : Ok4 S0 := by decide +kernel
  have hl : loadO S0 4 = some l4 := by
    unfold loadO
    rw [if_neg (by decide), if_pos rfl, if_pos hok, h2]
    show load4O S0 2 = _
    unfold load4O
    rw [st4_1]
    rfl
  unfold LoadR
  rw [if_neg (by decide), if_neg (by decide), h0, if_neg (by decide), h1, if_neg (by decide)]
  show (match loadO S0 4 with | none => Except.error 80 | some l => Except.ok (4, l)) = (Except.ok (4, l4) : Except Int (Int × List Seg))
  rw [hl]

def S2 : Src := ⟨0, 0, 4, 4, fun i => [0, 2, 0, 0].getD i 0⟩
theorem loadR_2 : LoadR S2 3 = .error 81 := by
  have h0 : be2 S2 0 = 2 := by decide +kernel
  unfold LoadR
  rw [if_neg (by decide), if_neg (by decide), h0, if_pos (by decide)]

theorem loadO_l4 : fmtB 4 = true ∧ SegsOk l4 := by
  refine ⟨rfl, ⟨?_, ?_, by decide⟩⟩
  · intro s hs
    simp [l4] at hs
    rcases hs with rfl | rfl
    · exact ⟨by decide, by decide, by decide, by decide, by decide, by decide, by decide, fun l h => by cases h⟩
    · exact ⟨by decide, by decide, by decide, by decide, by decide, by decide, by decide, fun l h => by cases h⟩
  · intro i j s t hij hs ht
    have hj : j < 2 := (List.getElem?_eq_some_iff.1 ht).1
    obtain rfl : i = 0 := by omega
    obtain rfl : j = 1 := by omega
    simp [l4] at hs ht
    subst hs ht
    decide

theorem v65 : glyphV l4 3 65 = 1 := by decide +kernel
theorem v66 : glyphV l4 3 66 = 2 := by decide +kernel
theorem v67 : glyphV l4 3 67 = 0 := by decide +kernel
theorem v68 : glyphV l4 3 68 = 0 := by decide +kernel

/-- The bytes of 'Make', as they lie. -/
theorem src_32 {w : World} {v : Value} {B : Nat} (h : w.ownsRow B 5 1 v 32 (B32.map (Value.int .u8))) :
    ∃ T : Src, v = .slice (some ⟨T.b, T.o, none⟩) 32 T.cap ∧ T.len = 32 ∧ InM w T ∧ LoadR T 3 = .ok (4, l4) := by
  have hh := h
  rcases h.2 with ⟨_, h3⟩ | ⟨g, cap, cur, rfl, _, hg, hnc, _, _⟩
  · omega
  · refine ⟨⟨g, 0, 32, cap, fun i => B32.getD i 0⟩, rfl, rfl, ⟨by show 32 ≤ 2000000000; omega, hnc, (Array.getElem?_eq_some_iff.1 hg).1, fun i hi => ⟨?_, ?_⟩⟩, (LoadR_congr _ S0 rfl rfl 3).trans loadR_32⟩
    · have hi' : i < 32 := hi
      have hx : B32[i]? = some (B32.getD i 0) := by
        rw [List.getD_eq_getElem?_getD, List.getElem?_eq_getElem (show i < B32.length from hi')]
        rfl
      have := World.ownsRow.cells hh (g := g) rfl i (.int .u8 (B32.getD i 0)) (by rw [List.getElem?_map, hx]; rfl)
      rwa [add_none] at this
    · have hi' : i < 32 := hi
      have : ∀ i, i < 32 → 0 ≤ B32.getD i 0 ∧ B32.getD i 0 < 256 := by decide +kernel
      exact this i hi'

theorem src_4 (w : World) : InM (w.alloc (.cells #[.int .u8 0, .int .u8 2, .int .u8 0, .int .u8 0] 5)) ⟨w.heap.size, 0, 4, 4, S2.f⟩ ∧ LoadR ⟨w.heap.size, 0, 4, 4, S2.f⟩ 3 = .error 81 := by
  refine ⟨⟨by show 4 ≤ 2000000000; omega, by show 4 ≤ 4; omega, by simp, fun i hi => ?_⟩, (LoadR_congr _ S2 rfl rfl 3).trans loadR_2⟩
  have hi' : i < 4 := hi
  have hb := Blk.new w 5 #[.int .u8 0, .int .u8 2, .int .u8 0, .int .u8 0]
  have hc := hb.cell (0 + i)
  rw [Nat.zero_add] at hc ⊢
  have hf : ∀ i, i < 4 → 0 ≤ S2.f i ∧ S2.f i < 256 := by decide +kernel
  rcases (by omega : i = 0 ∨ i = 1 ∨ i = 2 ∨ i = 3) with rfl | rfl | rfl | rfl <;> exact ⟨hc, hf _ hi'⟩

set_option maxHeartbeats 4000000 in
theorem lives_ok : LivesOk := by
  intro w
  have hee := eql_func_nil
  have HP : Hid (Pairs3 (w.alloc (.cells #[.int .i64 65, .int .i64 1, .int .i64 66, .int .i64 2, .int .i64 67, .int .i64 3] 37)) w.heap.size) := Blk.new w 37 _
  have HB0 := Lib.hid ((Below.refl w.heap.size w).alloc (Nat.le_refl _) (.cells #[.int .i64 65, .int .i64 1, .int .i64 66, .int .i64 2, .int .i64 67, .int .i64 3] 37))
  go_enter Try.func4, Try.ntmps4
  go_wp2_with fail
  refine (Make_3 w.heap.size _ HP.out).mono ?_
  rintro e w1 ⟨v, rfl, ho, hb1⟩
  have HB1 := Lib.hid (HB0.out.trans (hb1.mono HB0.out.size))
  obtain ⟨T, rfl, hTl, hT, hR⟩ := src_32 ho
  have HT := Lib.hid hT
  have HR := Lib.hid hR
  have HTL := Lib.hid hTl
  clear ho hb1 hT hR hTl
  go_wp2_with fail
  rw [← HTL.out]
  refine (Load_yes T 3 4 l4 w1 HT.out HR.out).mono ?_
  rintro e w2 ⟨⟨p, rfl, hm⟩, hb2⟩
  rw [HTL.out]
  have HB2 := Lib.hid (HB1.out.trans (hb2.mono HB1.out.size))
  have HM2 := Lib.hid hm
  clear hm hb2
  have HI := Lib.hid (src_4 w2)
  go_wp2_with fail
  refine (Load_err ⟨w2.heap.size, 0, 4, 4, S2.f⟩ 3 81 _ HI.out.1 HI.out.2).mono ?_
  rintro e w3 ⟨rfl, hb3⟩
  have hb3' : Below w2.heap.size w2 w3 := ((Below.refl _ w2).alloc (Nat.le_refl _) _).trans (hb3.mono (by simp))
  have HB3 := Lib.hid (HB2.out.trans (hb3'.mono HB2.out.size))
  have HM3 := Lib.hid (HM2.out.below hb3')
  clear hb3 hb3'
  go_wp2_with fail
  refine (All_any p 0 99 w3).mono ?_
  rintro e w4 ⟨rfl, hb4, hs4, k0, k1, k2⟩
  have HB4 := Lib.hid (HB3.out.trans (hb4.mono HB3.out.size))
  have HM4 := Lib.hid (HM3.out.below hb4)
  clear hb4 hs4 k0 k1 k2
  go_wp2_with fail
  refine (Glyph_any p 4 3 l4 65 w4 HM4.out loadO_l4.2).mono ?_
  rintro e w5 ⟨rfl, hb5⟩
  rw [v65]
  have HB5 := Lib.hid (HB4.out.trans (hb5.mono HB4.out.size))
  have HM5 := Lib.hid (HM4.out.below hb5)
  clear hb5
  go_wp2_with fail
  refine (Glyph_any p 4 3 l4 66 w5 HM5.out loadO_l4.2).mono ?_
  rintro e w6 ⟨rfl, hb6⟩
  rw [v66]
  have HB6 := Lib.hid (HB5.out.trans (hb6.mono HB5.out.size))
  have HM6 := Lib.hid (HM5.out.below hb6)
  clear hb6
  go_wp2_with fail
  refine (Glyph_any p 4 3 l4 67 w6 HM6.out loadO_l4.2).mono ?_
  rintro e w7 ⟨rfl, hb7⟩
  rw [v67]
  have HB7 := Lib.hid (HB6.out.trans (hb7.mono HB6.out.size))
  have HM7 := Lib.hid (HM6.out.below hb7)
  clear hb7
  go_wp2_with fail
  refine (Glyph_any p 4 3 l4 68 w7 HM7.out loadO_l4.2).mono ?_
  rintro e w8 ⟨rfl, hb8⟩
  rw [v68]
  have HB8 := Lib.hid (HB7.out.trans (hb8.mono HB7.out.size))
  have HM8 := Lib.hid (HM7.out.below hb8)
  clear hb8
  go_wp2_with fail
  refine (Format_any p 4 3 l4 w8 HM8.out).mono ?_
  rintro e w9 ⟨rfl, rfl⟩
  go_wp2
  go_ret
  exact ⟨rfl, HB8.out⟩

end Go.Proofs.Ythfppmamnnnnmaa
