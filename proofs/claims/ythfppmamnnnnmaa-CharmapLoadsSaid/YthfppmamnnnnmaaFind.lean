/-
  (*Map).find, by way of slices.BinarySearchFunc.
-/
import Derived.Test.YthfppmamnnnnmaaLoad
set_option linter.unusedVariables false
namespace Go.Proofs.Ythfppmamnnnnmaa
open Go.RowKit

def cmpI (a b : Int) : Int := if a < b then -1 else if b < a then 1 else 0

theorem cmp_any (a b : Int) (w : World) : Calls Try.prog 45 #[.int .i64 a, .int .i64 b] w fun e w' => e = .returned (.int .i64 (cmpI a b)) ∧ w = w' := by
  have ha : (a != a) = false := by simp
  have hb : (b != b) = false := by simp
  by_cases h1 : a < b
  · have h : cmpI a b = -1 := by simp [cmpI, h1]
    rw [h]; clear h
    go_enter Try.func45, Try.ntmps45
    go_wp2
    go_ret
    exact ⟨rfl, rfl⟩
  · by_cases h2 : b < a
    · have h : cmpI a b = 1 := by simp [cmpI, h1, h2]
      rw [h]; clear h
      go_enter Try.func45, Try.ntmps45
      go_wp2
      go_ret
      exact ⟨rfl, rfl⟩
    · have h : cmpI a b = 0 := by simp [cmpI, h1, h2]
      rw [h]; clear h
      go_enter Try.func45, Try.ntmps45
      go_wp2
      go_ret
      exact ⟨rfl, rfl⟩

theorem findf_any (s : Seg) (A : Option Addr) (m c : Nat) (code : Int) (w : World) :
    Calls Try.prog 44 #[.agg #[.int .i64 s.first, .int .i64 s.last, .int .i64 s.glyph, .bool s.rounds, .slice A m c, .int .i64 s.delta], .int .i64 code] w fun e w' => e = .returned (.int .i64 (cmpI s.last code)) ∧ Below w.heap.size w w' := by
  go_enter Try.func44, Try.ntmps44
  go_wp2_with (go_at_call 45; refine (cmp_any _ _ _).mono ?_; rintro e w' ⟨rfl, rfl⟩)
  go_ret
  exact ⟨rfl, (Below.refl _ _).alloc (Nat.le_refl _) _⟩

/-- i is where code is found: all before end before it, all from there on end at it or behind it. -/
structure IsFind (l : List Seg) (code : Int) (i : Nat) : Prop where
  le : i ≤ l.length
  lo : ∀ k s, k < i → l[k]? = some s → s.last < code
  hi : ∀ k s, i ≤ k → l[k]? = some s → code ≤ s.last

/-- Segments whose ends rise. -/
def Rises (l : List Seg) : Prop := ∀ (i j : Nat) (s t : Seg), i < j → l[i]? = some s → l[j]? = some t → s.last < t.first ∧ s.last < t.last

def BsPost (l : List Seg) (code : Int) (w : World) (e : Ending) (w' : World) : Prop :=
  ∃ (i : Nat) (b : Bool), e = .returned (.tuple #[.int .i64 i, .bool b]) ∧ IsFind l code i ∧ Below w.heap.size w w'

theorem LV.form {w : World} {B : Nat} {lv : Value} {o : Option (List Int)} (h : LV w B lv o) : ∃ A m c, lv = .slice A m c := by
  rcases h with ⟨_, rfl⟩ | ⟨l, _, h2, h3⟩
  · exact ⟨none, 0, 0, rfl⟩
  · obtain ⟨g, cap, hv, _, _⟩ := World.ownsRow.form h3 (List.length_pos_iff.2 h2)
    exact ⟨_, _, _, hv⟩

theorem bs_nil (B : Nat) (A : Option Addr) (c : Nat) (code : Int) (w : World) :
    Calls Try.prog 43 #[.slice A 0 c, .int .i64 code, .func (.func 44) #[] #[]] w (BsPost [] code w) := by
  go_enter Try.func43, Try.ntmps43
  go_wp2_with fail
  refine wp_loop_once ?_
  go_wp2
  go_ret2
  exact ⟨0, false, rfl, ⟨Nat.le_refl _, fun k s hk h => by simp at h, fun k s hk h => by simp at h⟩, Below.refl _ _⟩

set_option maxHeartbeats 800000 in
theorem bs_some (B g cap : Nat) (l : List Seg) (code : Int) (w : World) (hl : l ≠ []) (hlen : l.length ≤ 1000000000) (hs : SegsAt w B (.slice (some ⟨g, 0, none⟩) l.length cap) l) (hr : Rises l) :
    Calls Try.prog 43 #[.slice (some ⟨g, 0, none⟩) l.length cap, .int .i64 code, .func (.func 44) #[] #[]] w (BsPost l code w) := by
  have HS := Lib.hid hs
  have HR := Lib.hid hr
  clear hs hr
  obtain ⟨n, hn⟩ : ∃ n, n = l.length := ⟨_, rfl⟩
  have hn0 : 0 < n := by rw [hn]; exact List.length_pos_iff.2 hl
  have HN := Lib.hid hn
  rw [← hn]
  rw [← hn] at hlen
  clear hl hn
  go_enter Try.func43, Try.ntmps43
  go_wp2_with fail
  go_loopw [9, 10] (fun vi vj wr => ∃ i j : Nat, vi = .int .i64 i ∧ vj = .int .i64 j ∧ i ≤ j ∧ j ≤ n ∧ (∀ k s, k < i → l[k]? = some s → s.last < code) ∧ (∀ k s, j ≤ k → l[k]? = some s → code ≤ s.last) ∧ Below w.heap.size w wr) (fun vi vj _ => (intOf vj).toNat - (intOf vi).toNat)
  case atStart =>
    exact ⟨0, n, rfl, rfl, Nat.zero_le _, Nat.le_refl _, fun k s hk => by omega, fun k s hk h => by
      have := (List.getElem?_eq_some_iff.1 h).1
      have := HN.out
      omega, Below.refl _ _⟩
  case round =>
    obtain ⟨i, j, rfl, rfl, hij, hjn, hlo, hhi, hb⟩ := hrel
    have HLo := Lib.hid hlo
    have HHi := Lib.hid hhi
    have HB := Lib.hid hb
    clear hlo hhi hb
    by_cases hlt : i < j
    · have hh1 : (i + j) / 2 < n := by omega
      have hx : l[(i + j) / 2]? = some (l[(i + j) / 2]'(by have := HN.out; omega)) := List.getElem?_eq_getElem _
      obtain ⟨s, hs⟩ : ∃ s, l[(i + j) / 2]? = some s := ⟨_, hx⟩
      clear hx
      obtain ⟨g', cap', lv, hv, _, hcap, hcm, hlv, hcell⟩ := (HS.out.below HB.out).read hs
      obtain ⟨rfl, rfl⟩ : g' = g ∧ cap' = cap := by
        simp at hv
        exact ⟨hv.1.symm, hv.2.symm⟩
      obtain ⟨lA, lm, lc, rfl⟩ := hlv.form
      have HSs := Lib.hid hs
      have HC := Lib.hid hcell
      clear hcell hs hv hlv
      have c0 : wr.cell? ⟨g', (i + j) / 2 * 6, none⟩ = some (.int .i64 s.first) := HC.out 0 (by omega)
      have c1 : wr.cell? ⟨g', (i + j) / 2 * 6 + 1, none⟩ = some (.int .i64 s.last) := HC.out 1 (by omega)
      have c2 : wr.cell? ⟨g', (i + j) / 2 * 6 + 2, none⟩ = some (.int .i64 s.glyph) := HC.out 2 (by omega)
      have c3 : wr.cell? ⟨g', (i + j) / 2 * 6 + 3, none⟩ = some (.bool s.rounds) := HC.out 3 (by omega)
      have c4 : wr.cell? ⟨g', (i + j) / 2 * 6 + 4, none⟩ = some (.slice lA lm lc) := HC.out 4 (by omega)
      have c5 : wr.cell? ⟨g', (i + j) / 2 * 6 + 5, none⟩ = some (.int .i64 s.delta) := HC.out 5 (by omega)
      by_cases hcmp : s.last < code
      · have hc0 : cmpI s.last code < 0 := by simp [cmpI, hcmp]
        have HCM := Lib.hid hcmp
        clear hcmp
        go_wp2_with (go_at_call 44; refine (findf_any s _ _ _ _ _).mono ?_; rintro e w1 ⟨rfl, hb1⟩; have HB1 := Lib.hid (HB.out.trans (hb1.mono HB.out.size)); clear hb1)
        go_roundw
        case rel =>
          refine ⟨(i + j) / 2 + 1, j, by go_num, rfl, by omega, hjn, fun k s' hk h => ?_, HHi.out, HB1.out⟩
          by_cases hk2 : k = (i + j) / 2
          · subst hk2; rw [HSs.out] at h; injection h with h; subst h; exact HCM.out
          · have := (HR.out k _ s' s (by omega) h HSs.out).2
            have := HCM.out
            omega
        case measure => simp [intOf]; omega
      · have hc0 : ¬ cmpI s.last code < 0 := by simp only [cmpI, hcmp, if_false]; split <;> omega
        have HCM := Lib.hid hcmp
        clear hcmp
        go_wp2_with (go_at_call 44; refine (findf_any s _ _ _ _ _).mono ?_; rintro e w1 ⟨rfl, hb1⟩; have HB1 := Lib.hid (HB.out.trans (hb1.mono HB.out.size)); clear hb1)
        go_roundw
        case rel =>
          refine ⟨i, (i + j) / 2, rfl, by go_num, by omega, by omega, HLo.out, fun k s' hk h => ?_, HB1.out⟩
          by_cases hk2 : k = (i + j) / 2
          · subst hk2; rw [HSs.out] at h; injection h with h; subst h; have := HCM.out; omega
          · have := (HR.out _ k s s' (by omega) HSs.out h).2
            have := HCM.out
            omega
        case measure => simp [intOf]; omega
    · obtain rfl : i = j := by omega
      have HF : Hid (IsFind l code i) := ⟨by have := HN.out; omega, HLo.out, HHi.out⟩
      by_cases hin : i < n
      · have hx : l[i]? = some (l[i]'(by have := HN.out; omega)) := List.getElem?_eq_getElem _
        obtain ⟨s, hs⟩ : ∃ s, l[i]? = some s := ⟨_, hx⟩
        clear hx
        obtain ⟨g', cap', lv, hv, _, hcap, hcm, hlv, hcell⟩ := (HS.out.below HB.out).read hs
        obtain ⟨rfl, rfl⟩ : g' = g ∧ cap' = cap := by
          simp at hv
          exact ⟨hv.1.symm, hv.2.symm⟩
        obtain ⟨lA, lm, lc, rfl⟩ := hlv.form
        have HSs := Lib.hid hs
        have HC := Lib.hid hcell
        clear hcell hs hv hlv
        have c0 : wr.cell? ⟨g', i * 6, none⟩ = some (.int .i64 s.first) := HC.out 0 (by omega)
        have c1 : wr.cell? ⟨g', i * 6 + 1, none⟩ = some (.int .i64 s.last) := HC.out 1 (by omega)
        have c2 : wr.cell? ⟨g', i * 6 + 2, none⟩ = some (.int .i64 s.glyph) := HC.out 2 (by omega)
        have c3 : wr.cell? ⟨g', i * 6 + 3, none⟩ = some (.bool s.rounds) := HC.out 3 (by omega)
        have c4 : wr.cell? ⟨g', i * 6 + 4, none⟩ = some (.slice lA lm lc) := HC.out 4 (by omega)
        have c5 : wr.cell? ⟨g', i * 6 + 5, none⟩ = some (.int .i64 s.delta) := HC.out 5 (by omega)
        go_wp2_with (go_at_call 44; refine (findf_any s _ _ _ _ _).mono ?_; rintro e w1 ⟨rfl, hb1⟩; have HB1 := Lib.hid (HB.out.trans (hb1.mono HB.out.size)); clear hb1)
        go_ret2
        exact ⟨i, _, rfl, HF.out, HB1.out⟩
      · go_wp2
        go_ret2
        exact ⟨i, _, rfl, HF.out, HB.out⟩

theorem find_any (p : Nat) (f n : Int) (l : List Seg) (code : Int) (w : World) (h : MapAt w p f n l) (hr : Rises l) (hlen : l.length ≤ 1000000000) :
    Calls Try.prog 24 #[.pointer (some ⟨p, 0, none⟩), .int .i64 code] w fun e w' => (∃ i : Nat, e = .returned (.int .i64 i) ∧ IsFind l code i) ∧ Below w.heap.size w w' := by
  obtain ⟨v, B, h1, h2⟩ := h
  obtain ⟨A, c, rfl⟩ := h2.form
  have c2 : w.cell? ⟨p, 2, none⟩ = some (.slice A l.length c) := h1.cell 2
  have H2 := Lib.hid h2
  have HR := Lib.hid hr
  clear h1 h2 hr
  have hbs : Calls Try.prog 43 #[.slice A l.length c, .int .i64 code, .func (.func 44) #[] #[]] w (BsPost l code w) := by
    by_cases hl : l = []
    · subst hl; exact bs_nil B A c code w
    · obtain ⟨s, hs⟩ : ∃ s, l[0]? = some s := ⟨_, List.getElem?_eq_getElem (List.length_pos_iff.2 hl)⟩
      obtain ⟨g', cap', lv, hv, _⟩ := H2.out.read hs
      simp only [Value.slice.injEq] at hv
      obtain ⟨rfl, _, rfl⟩ := hv
      exact bs_some B g' c l code w hl hlen H2.out HR.out
  have HB := Lib.hid hbs
  clear hbs
  go_enter Try.func24, Try.ntmps24
  go_wp2_with (go_at_call 43; refine HB.out.mono ?_; rintro e w1 ⟨i, b, rfl, hf, hb⟩; have HF := Lib.hid hf; have HB1 := Lib.hid hb; clear hf hb)
  go_ret
  exact ⟨⟨i, rfl, HF.out⟩, HB1.out⟩

end Go.Proofs.Ythfppmamnnnnmaa
