/-
  The pairs that a map has from a code point on; what going over its segments comes to.
-/
import Derived.Test.YthfppmamnnnnmaaWf
set_option linter.unusedVariables false
namespace Go.Proofs.Ythfppmamnnnnmaa
open Go.RowKit

/-- The code points with a glyph, out of k from a on. -/
def wantL (V : Int → Int) (a : Int) : Nat → List (Int × Int)
  | 0 => []
  | k + 1 => wantL V a k ++ (if V (a + k) = 0 then [] else [(a + k, V (a + k))])

theorem wantL_add (V : Int → Int) (a : Int) (j k : Nat) : wantL V a (j + k) = wantL V a j ++ wantL V (a + j) k := by
  induction k with
  | zero => simp [wantL]
  | succ k ih =>
    have e : a + (j : Int) + (k : Int) = a + ((j + k : Nat) : Int) := by omega
    rw [← Nat.add_assoc]
    simp only [wantL]
    rw [ih, e, List.append_assoc]

theorem wantL_zero (V : Int → Int) (a : Int) (k : Nat) (h : ∀ d, a ≤ d → d < a + k → V d = 0) : wantL V a k = [] := by
  induction k with
  | zero => rfl
  | succ k ih => simp only [wantL]; rw [ih (fun d h1 h2 => h d h1 (by omega)), h (a + k) (by omega) (by omega)]; rfl

theorem wantL_skip (V : Int → Int) (a : Int) (j k : Nat) (hj : j ≤ k) (h : ∀ d, a + j ≤ d → d < a + k → V d = 0) : wantL V a k = wantL V a j := by
  obtain ⟨i, rfl⟩ := Nat.exists_eq_add_of_le hj
  rw [wantL_add, wantL_zero V _ i (fun d h1 h2 => h d h1 (by omega)), List.append_nil]

theorem wantL_len (V : Int → Int) (a : Int) (k : Nat) : (wantL V a k).length ≤ k := by
  induction k with
  | zero => simp [wantL]
  | succ k ih => simp only [wantL]; split <;> simp <;> omega

theorem wantL_prefix (V : Int → Int) (a : Int) (j k : Nat) (hj : j ≤ k) : wantL V a j <+: wantL V a k := by
  obtain ⟨i, rfl⟩ := Nat.exists_eq_add_of_le hj
  rw [wantL_add]
  exact List.prefix_append _ _

/-- Where going over the segments stands: i is the next one, all code points before c are over. -/
structure OutInv (l : List Seg) (F T : Int) (i : Nat) (c : Int) : Prop where
  c0 : F ≤ c
  c1 : c ≤ T
  lo : ∀ j s, j < i → l[j]? = some s → s.last < c ∨ c = T
  hi : ∀ j s, i ≤ j → l[j]? = some s → c ≤ s.first ∨ c = F
  fl : ∀ j s, i ≤ j → l[j]? = some s → F ≤ s.last

theorem OutInv.start {l : List Seg} {F T : Int} {i : Nat} (h : IsFind l F i) (hT : F ≤ T) : OutInv l F T i F :=
  ⟨Int.le_refl _, hT, fun j s a b => .inl (h.lo j s a b), fun j s a b => .inr rfl, fun j s a b => h.hi j s a b⟩

theorem glyphV_zero {l : List Seg} {n d : Int} (h : rawV l d = 0) : glyphV l n d = 0 := by
  unfold glyphV
  rw [h]
  split <;> simp

theorem OutInv.stop {l : List Seg} {F T : Int} {i : Nat} {c : Int} (h : OutInv l F T i c) (hl : SegsOk l) (n : Int) (hs : ∀ s, l[i]? = some s → T ≤ s.first) (d : Int) (h1 : c ≤ d) (h2 : d < T) : glyphV l n d = 0 := by
  refine glyphV_zero (rawV_out fun k s hk => ?_)
  by_cases hi : k < i
  · rcases h.lo k s hi hk with a | a
    · right; omega
    · omega
  · left
    by_cases e : k = i
    · subst e; have := hs s hk; omega
    · have hk' := (List.getElem?_eq_some_iff.1 hk).1
      have hx : l[i]? = some (l[i]'(by omega)) := List.getElem?_eq_getElem (by omega)
      have a := hl.ri i k _ s (by omega) hx hk
      have b := (hl.ok _ (List.mem_of_getElem? hx)).fl
      have c := hs _ hx
      omega

theorem OutInv.gap {l : List Seg} {F T : Int} {i : Nat} {c : Int} {s : Seg} (h : OutInv l F T i c) (hl : SegsOk l) (n : Int) (hs : l[i]? = some s) (hT : s.first < T) (d : Int) (h1 : c ≤ d) (h2 : d < s.first) : glyphV l n d = 0 := by
  refine glyphV_zero (rawV_out fun k t hk => ?_)
  by_cases hi : k < i
  · rcases h.lo k t hi hk with a | a
    · right; omega
    · omega
  · left
    by_cases e : k = i
    · subst e; rw [hs] at hk; cases hk; omega
    · have a := hl.ri i k _ t (by omega) hs hk
      have b := (hl.ok _ (List.mem_of_getElem? hs)).fl
      omega

theorem OutInv.next {l : List Seg} {F T : Int} {i : Nat} {c c' : Int} {s : Seg} (h : OutInv l F T i c) (hl : SegsOk l) (hs : l[i]? = some s) (h0 : F ≤ c') (h1 : c' ≤ T) (h2 : c' ≤ s.last + 1) (h3 : c' = s.last + 1 ∨ c' = T) : OutInv l F T (i + 1) c' := by
  refine ⟨h0, h1, fun j t hj ht => ?_, fun j t hj ht => ?_, fun j t hj ht => h.fl j t (by omega) ht⟩
  · by_cases e : j = i
    · subst e; rw [hs] at ht; cases ht
      rcases h3 with a | a
      · left; omega
      · right; exact a
    · have a := hl.ri j i t s (by omega) ht hs
      rcases h3 with b | b
      · left; omega
      · right; exact b
  · have a := hl.ri i j s t (by omega) hs ht
    left; omega

/-- The greater and the lesser of two, as 'max' and 'min' take them. -/
def mx (a b : Int) : Int := if a < b then b else a
def mn (a b : Int) : Int := if b < a then b else a
theorem mx_cases (a b : Int) : a ≤ mx a b ∧ b ≤ mx a b ∧ (mx a b = a ∨ mx a b = b) := by unfold mx; split <;> omega
theorem mn_cases (a b : Int) : mn a b ≤ a ∧ mn a b ≤ b ∧ (mn a b = a ∨ mn a b = b) := by unfold mn; split <;> omega
theorem max_int (ats : Array TypeId) (ty : TypeId) (k k' : IntKind) (a b : Int) : Builtin.max_ ats ty #[.int k a, .int k' b] = pure (.int k (mx a b)) := rfl
theorem min_int (ats : Array TypeId) (ty : TypeId) (k k' : IntKind) (a b : Int) : Builtin.min_ ats ty #[.int k a, .int k' b] = pure (.int k (mn a b)) := rfl

theorem OutInv.enter {l : List Seg} {F T : Int} {i : Nat} {c : Int} {s : Seg} (h : OutInv l F T i c) (hl : SegsOk l) (n : Int) (hs : l[i]? = some s) (hT : s.first < T) :
    wantL (glyphV l n) F (mx s.first F - F).toNat = wantL (glyphV l n) F (c - F).toNat := by
  have c0 := h.c0
  have c1 := h.c1
  have hh := h.hi i s (Nat.le_refl _) hs
  have a : F ≤ mx s.first F ∧ s.first ≤ mx s.first F ∧ (mx s.first F = F ∨ mx s.first F = s.first) := by unfold mx; split <;> omega
  refine wantL_skip _ _ _ _ (by omega) fun d h1 h2 => ?_
  exact h.gap hl n hs hT d (by omega) (by omega)

theorem OutInv.done {l : List Seg} {F T : Int} {i : Nat} {c : Int} (h : OutInv l F T i c) (hl : SegsOk l) (n : Int) (hs : ∀ s, l[i]? = some s → T ≤ s.first) :
    wantL (glyphV l n) F (c - F).toNat = wantL (glyphV l n) F (T - F).toNat := by
  have c0 := h.c0
  have c1 := h.c1
  exact (wantL_skip _ _ _ _ (by omega) fun d h1 h2 => h.stop hl n hs d (by omega) (by omega)).symm

theorem glyphV_seg {l : List Seg} (hl : SegsOk l) {i : Nat} {s : Seg} (hs : l[i]? = some s) (n : Int) {d : Int} (h1 : s.first ≤ d) (h2 : d ≤ s.last) (h3 : 0 ≤ d) (h4 : d ≤ 1114111) :
    glyphV l n d = if segV s d < n then segV s d else 0 := by
  unfold glyphV
  rw [if_neg (by omega), rawV_in hl.ri hs h1 h2]

theorem wantL_step (V : Int → Int) (a c : Int) (h : a ≤ c) : wantL V a (c + 1 - a).toNat = wantL V a (c - a).toNat ++ (if V c = 0 then [] else [(c, V c)]) := by
  have e : (c + 1 - a).toNat = (c - a).toNat + 1 := by omega
  rw [e]
  simp only [wantL]
  have e2 : a + ((c - a).toNat : Int) = c := by omega
  rw [e2]

theorem glyphV_far {l : List Seg} {n d : Int} (h : d < 0 ∨ 1114111 < d) : glyphV l n d = 0 := by
  unfold glyphV
  rw [if_pos h]

/-- The pairs of 300 code points, and of those among them that may have one. -/
theorem wantL_window (l : List Seg) (n from_ : Int) (h0 : -10 ≤ from_) (h1 : from_ ≤ 1114112) :
    wantL (glyphV l n) (mx from_ 0) (mn (from_ + 300) 1114112 - mx from_ 0).toNat = wantL (glyphV l n) from_ 300 := by
  have hm : (mx from_ 0 = from_ ∧ 0 ≤ from_) ∨ (mx from_ 0 = 0 ∧ from_ < 0) := by unfold mx; split <;> omega
  obtain ⟨T, hT⟩ : ∃ T, T = mn (from_ + 300) 1114112 := ⟨_, rfl⟩
  have hT' : (T = from_ + 300 ∧ from_ + 300 ≤ 1114112) ∨ (T = 1114112 ∧ 1114112 ≤ from_ + 300) := by rw [hT]; have := mn_cases (from_ + 300) 1114112; omega
  rw [← hT]
  rcases hm with ⟨hm, hf⟩ | ⟨hm, hf⟩
  · rw [hm]
    exact (wantL_skip _ _ _ _ (by omega) fun d a b => glyphV_far (by omega)).symm
  · rw [hm]
    have e : (300 : Nat) = (0 - from_).toNat + (T - 0).toNat := by omega
    rw [e, wantL_add, wantL_zero _ from_ _ (fun d a b => glyphV_far (by omega)), List.nil_append]
    congr 1
    omega

end Go.Proofs.Ythfppmamnnnnmaa
