/-
  (segment).at and (*Map).Glyph.
-/
import Derived.Test.YthfppmamnnnnmaaFind
set_option linter.unusedVariables false
namespace Go.Proofs.Ythfppmamnnnnmaa
open Go.RowKit

/-- Numbers of a segment that a loader keeps. -/
structure SegOk (s : Seg) : Prop where
  f0 : 0 ≤ s.first
  fl : s.first ≤ s.last
  l1 : s.last ≤ 1114111
  g0 : 0 ≤ s.glyph
  g1 : s.glyph < 5000000000
  d0 : 0 ≤ s.delta
  d1 : s.delta < 65536
  li : ∀ l, s.list = some l → (l.length : Int) = s.last - s.first + 1 ∧ ∀ v ∈ l, 0 ≤ v ∧ v < 65536

/-- A code point's glyph in a segment. -/
def segV (s : Seg) (code : Int) : Int :=
  match s.list with
  | none => if s.rounds = true then (s.glyph + code - s.first) % 65536 else s.glyph + code - s.first
  | some l => if l.getD (code - s.first).toNat 0 = 0 then 0 else (l.getD (code - s.first).toNat 0 + s.delta) % 65536

theorem at_any_seg (s : Seg) (hs : SegOk s) (B : Nat) (lv : Value) (code : Int) (w : World) (hlv : LV w B lv s.list) (h1 : s.first ≤ code) (h2 : code ≤ s.last) :
    Calls Try.prog 25 #[.agg (segCells s lv).toArray, .int .i64 code] w fun e w' => e = .returned (.int .i64 (segV s code)) ∧ Below w.heap.size w w' := by
  obtain ⟨f0, fl, l1, g0, g1, d0, d1, hli⟩ := hs
  have he := Lib.run_eql_slice_nil (P := Try.prog)
  have hb : Below w.heap.size w (w.alloc (.cells (segCells s lv).toArray 59)) := (Below.refl _ _).alloc (Nat.le_refl _) _
  have HB := Lib.hid hb
  clear hb
  unfold segCells at *
  rcases hlv with ⟨hn, rfl⟩ | ⟨l, hn, hne, ho⟩
  · cases hr : s.rounds
    · have hV : Hid (segV s code = s.glyph + code - s.first) := by show _ = _; simp [segV, hn, hr]
      clear hn hr hli
      go_enter Try.func25, Try.ntmps25
      go_wp2
      go_ret
      rw [hV.out]
      exact ⟨rfl, (Below.refl _ _).alloc (Nat.le_refl _) _⟩
    · have hV : Hid (segV s code = (s.glyph + code - s.first) % 65536) := by show _ = _; simp [segV, hn, hr]
      clear hn hr hli
      go_enter Try.func25, Try.ntmps25
      go_wp2
      go_ret
      rw [hV.out]
      exact ⟨rfl, (Below.refl _ _).alloc (Nat.le_refl _) _⟩
  · obtain ⟨hlen, hval⟩ := hli l hn
    obtain ⟨g, cap, rfl, _, hgl⟩ := World.ownsRow.form ho (List.length_pos_iff.2 hne)
    obtain ⟨k, hk⟩ : ∃ k : Nat, code = s.first + (k : Int) := ⟨(code - s.first).toNat, by omega⟩
    have hkl : k < l.length := by omega
    have hx : l[k]? = some l[k] := List.getElem?_eq_getElem hkl
    have hc0 : (w.alloc (.cells #[.int .i64 s.first, .int .i64 s.last, .int .i64 s.glyph, .bool s.rounds, .slice (some ⟨g, 0, none⟩) l.length cap, .int .i64 s.delta] 59)).cell? ⟨g, k, none⟩ = some (.int .i64 l[k]) := by
      rw [World.cell?_alloc_lt _ _ _ hgl]
      exact OwnI.cellAt ho hx
    have hv0 := (hval _ (List.getElem_mem hkl)).1
    have hv1 := (hval _ (List.getElem_mem hkl)).2
    have hV : Hid (segV s code = if l[k] = 0 then 0 else (l[k] + s.delta) % 65536) := by
      show _ = _
      have : (code - s.first).toNat = k := by omega
      simp only [segV, hn, this, List.getD_eq_getElem?_getD, hx, Option.getD_some]
    obtain ⟨x, hxx⟩ : ∃ x, x = l[k] := ⟨_, rfl⟩
    rw [← hxx] at hc0 hv0 hv1 hV
    obtain ⟨L, hL⟩ : ∃ L, L = l.length := ⟨_, rfl⟩
    rw [← hL] at hkl hc0 hlen ⊢
    have hidx : (code - s.first) = (k : Int) := by omega
    have HK := Lib.hid hk
    clear hk hn hli ho hxx hx hval hL
    by_cases hz : x = 0
    · have hz2 : (x != 0) = false := by simp [hz]
      have HZ := Lib.hid hz
      clear hz
      go_enter Try.func25, Try.ntmps25
      go_wp2
      go_ret
      rw [hV.out, if_pos HZ.out]
      exact ⟨rfl, (Below.refl _ _).alloc (Nat.le_refl _) _⟩
    · have hz2 : (x != 0) = true := by simpa using hz
      have HZ := Lib.hid hz
      clear hz
      go_enter Try.func25, Try.ntmps25
      go_wp2
      go_ret
      rw [hV.out, if_neg HZ.out]
      exact ⟨rfl, (Below.refl _ _).alloc (Nat.le_refl _) _⟩

/-- A code point's glyph, there or not. -/
def rawV (l : List Seg) (code : Int) : Int :=
  match l.find? (fun s => decide (code ≤ s.last)) with
  | none => 0
  | some s => if code < s.first then 0 else segV s code
def glyphV (l : List Seg) (n code : Int) : Int := if code < 0 ∨ 1114111 < code then 0 else if rawV l code < n then rawV l code else 0

theorem IsFind.find {l : List Seg} {code : Int} {i : Nat} (h : IsFind l code i) : l.find? (fun s => decide (code ≤ s.last)) = l[i]? := by
  by_cases hi : i < l.length
  · have hx : l[i]? = some l[i] := List.getElem?_eq_getElem hi
    rw [hx, List.find?_eq_some_iff_getElem]
    refine ⟨by simpa using h.hi i _ (Nat.le_refl _) hx, i, hi, rfl, fun j hj => ?_⟩
    have := h.lo j _ hj (List.getElem?_eq_getElem (by omega))
    simp
    omega
  · have hx : l[i]? = none := List.getElem?_eq_none (by omega)
    rw [hx, List.find?_eq_none]
    intro s hs
    obtain ⟨k, hk, rfl⟩ := List.mem_iff_getElem.1 hs
    have := h.lo k _ (by omega) (List.getElem?_eq_getElem hk)
    simp
    omega

/-- All that the loaders see to. -/
structure SegsOk (l : List Seg) : Prop where
  ok : ∀ s ∈ l, SegOk s
  ri : Rises l
  le : l.length ≤ 1000000000

theorem Glyph_out (p : Nat) (f n : Int) (l : List Seg) (code : Int) (w : World) (h : MapAt w p f n l) (hc : code < 0 ∨ 1114111 < code) :
    Calls Try.prog 7 #[.pointer (some ⟨p, 0, none⟩), .int .i64 code] w fun e w' => e = .returned (.int .i64 (glyphV l n code)) ∧ Below w.heap.size w w' := by
  have hV : Hid (glyphV l n code = 0) := by show _ = _; simp [glyphV, hc]
  clear h
  by_cases h1 : code < 0
  case' neg => have h2 : 1114111 < code := by omega
  all_goals
    go_enter Try.func7, Try.ntmps7
    go_wp2
    go_ret
    rw [hV.out]
    exact ⟨rfl, Below.refl _ _⟩

set_option maxHeartbeats 800000 in
theorem Glyph_in (p : Nat) (f n : Int) (l : List Seg) (code : Int) (w : World) (h : MapAt w p f n l) (hl : SegsOk l) (h0 : 0 ≤ code) (h1 : code ≤ 1114111) :
    Calls Try.prog 7 #[.pointer (some ⟨p, 0, none⟩), .int .i64 code] w fun e w' => e = .returned (.int .i64 (glyphV l n code)) ∧ Below w.heap.size w w' := by
  have hV : Hid (glyphV l n code = if rawV l code < n then rawV l code else 0) := by
    show _ = _
    rw [glyphV, if_neg (by omega)]
  have hn0 : ¬ code < 0 := by omega
  have hn1 : ¬ 1114111 < code := by omega
  have H := Lib.hid h
  have HL := Lib.hid hl
  have hle := hl.le
  clear h hl
  go_enter Try.func7, Try.ntmps7
  go_wp2_with fail
  refine (find_any p f n l code _ H.out HL.out.ri hle).mono ?_
  rintro e w1 ⟨⟨i, rfl, hf⟩, hb1⟩
  obtain ⟨v, B, hm1, hm2⟩ := H.out.below hb1
  have HB1 := Lib.hid hb1
  have HF := Lib.hid hf.find
  have hile := hf.le
  clear hf hb1
  obtain ⟨L, hL⟩ : ∃ L, L = l.length := ⟨_, rfl⟩
  have HLL := Lib.hid hL
  by_cases hi : i < l.length
  · obtain ⟨s, hs⟩ : ∃ s, l[i]? = some s := ⟨_, List.getElem?_eq_getElem hi⟩
    obtain ⟨g, cap, lv, rfl, _, hcap, hcm, hlv, hcell⟩ := hm2.read hs
    obtain ⟨lA, lm, lc, rfl⟩ := hlv.form
    have HSs := Lib.hid hs
    have HC := Lib.hid hcell
    have HLV := Lib.hid hlv
    have HOK := Lib.hid (HL.out.ok s (List.mem_of_getElem? hs))
    have cl : w1.cell? ⟨p, 2, none⟩ = some (.slice (some ⟨g, 0, none⟩) l.length cap) := hm1.cell 2
    have cn : w1.cell? ⟨p, 1, none⟩ = some (.int .i64 n) := hm1.cell 1
    have HM := Lib.hid hm1
    rw [← hL] at cl hi hile hle hcap
    have hne : ((i : Int) == (L : Int)) = false := by simp; omega
    have hfind := HF.out
    rw [hs] at hfind
    clear hcell hs hm2 hlv hL hm1
    have c0 : w1.cell? ⟨g, i * 6, none⟩ = some (.int .i64 s.first) := HC.out 0 (by omega)
    have c1 : w1.cell? ⟨g, i * 6 + 1, none⟩ = some (.int .i64 s.last) := HC.out 1 (by omega)
    have c2 : w1.cell? ⟨g, i * 6 + 2, none⟩ = some (.int .i64 s.glyph) := HC.out 2 (by omega)
    have c3 : w1.cell? ⟨g, i * 6 + 3, none⟩ = some (.bool s.rounds) := HC.out 3 (by omega)
    have c4 : w1.cell? ⟨g, i * 6 + 4, none⟩ = some (.slice lA lm lc) := HC.out 4 (by omega)
    have c5 : w1.cell? ⟨g, i * 6 + 5, none⟩ = some (.int .i64 s.delta) := HC.out 5 (by omega)
    by_cases hfirst : code < s.first
    · have hR : Hid (rawV l code = 0) := by
        show _ = _
        simp only [rawV, hfind, if_pos hfirst]
      clear hfind HF
      go_wp2
      go_ret
      rw [hV.out, hR.out]
      exact ⟨by simp, HB1.out⟩
    · have hR : Hid (rawV l code = segV s code) := by
        show _ = _
        simp only [rawV, hfind, if_neg hfirst]
      have hlast : Hid (code ≤ s.last) := by
        have := List.find?_some hfind
        show code ≤ s.last
        simpa using this
      clear hfind HF
      go_wp2_with fail
      refine (at_any_seg s HOK.out B (.slice lA lm lc) code _ HLV.out (by omega) hlast.out).mono ?_
      rintro e w2 ⟨rfl, hb2⟩
      have HB2 := Lib.hid (HB1.out.trans (hb2.mono HB1.out.size))
      have HM2 := Lib.hid (Blk.below HM.out hb2 (Blk.lt HM.out))
      have cn2 : w2.cell? ⟨p, 1, none⟩ = some (.int .i64 n) := HM2.out.cell 1
      clear hb2 cl cn c0 c1 c2 c3 c4 c5
      obtain ⟨x, hx⟩ : ∃ x, x = segV s code := ⟨_, rfl⟩
      rw [← hx]
      have HX := Lib.hid hx
      clear hx
      by_cases hxn : x < n
      · go_wp2
        go_ret
        rw [hV.out, hR.out, ← HX.out, if_pos hxn]
        exact ⟨rfl, HB2.out⟩
      · have HXN := Lib.hid hxn
        go_wp2
        go_ret
        rw [hV.out, hR.out, ← HX.out, if_neg (by have := HXN.out; omega)]
        exact ⟨rfl, HB2.out⟩
  · obtain ⟨A, c, rfl⟩ := hm2.form
    have cl : w1.cell? ⟨p, 2, none⟩ = some (.slice A l.length c) := hm1.cell 2
    have HM := Lib.hid hm1
    rw [← hL] at cl hi hile hle
    have hne : ((i : Int) == (L : Int)) = true := by simp; omega
    have hR : Hid (rawV l code = 0) := by
      have hfind := HF.out
      have := HLL.out
      rw [List.getElem?_eq_none (by omega)] at hfind
      show _ = _
      simp only [rawV, hfind]
    clear hm2 hL hm1 HF
    go_wp2
    go_ret
    rw [hV.out, hR.out]
    exact ⟨by simp, HB1.out⟩

theorem Glyph_any (p : Nat) (f n : Int) (l : List Seg) (code : Int) (w : World) (h : MapAt w p f n l) (hl : SegsOk l) :
    Calls Try.prog 7 #[.pointer (some ⟨p, 0, none⟩), .int .i64 code] w fun e w' => e = .returned (.int .i64 (glyphV l n code)) ∧ Below w.heap.size w w' := by
  by_cases hc : code < 0 ∨ 1114111 < code
  · exact Glyph_out p f n l code w h hc
  · exact Glyph_in p f n l code w h hl (by omega) (by omega)

theorem Format_any (p : Nat) (f n : Int) (l : List Seg) (w : World) (h : MapAt w p f n l) :
    Calls Try.prog 12 #[.pointer (some ⟨p, 0, none⟩)] w fun e w' => e = .returned (.int .i64 f) ∧ w = w' := by
  obtain ⟨v, B, h1, _⟩ := h
  have c0 : w.cell? ⟨p, 0, none⟩ = some (.int .i64 f) := h1.cell 0
  clear h1
  go_enter Try.func12, Try.ntmps12
  go_wp2
  go_ret
  exact ⟨rfl, rfl⟩

end Go.Proofs.Ythfppmamnnnnmaa
