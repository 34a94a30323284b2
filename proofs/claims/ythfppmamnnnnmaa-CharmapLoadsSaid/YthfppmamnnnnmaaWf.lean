/-
  What the loaders keep: segments that rise, numbers in their bounds. No program in sight.
-/
import Derived.Test.YthfppmamnnnnmaaGlyph
set_option linter.unusedVariables false
namespace Go.Proofs.Ythfppmamnnnnmaa
open Go.RowKit

theorem be2_eq' (S : Src) (a : Nat) : be2 S a = S.f a * 256 + S.f (a + 1) := by simp [be2, num]

theorem listO_some {S : Src} {p c : Nat} {l : List Int} (h : listO S p c = some l) : p + 2 * c ≤ S.len ∧ l = nums S p c := by
  unfold listO at h
  split at h
  · injection h with h; exact ⟨by assumption, h.symm⟩
  · cases h
theorem listedO_some {S : Src} {a off c : Nat} {l : List Int} (h : listedO S a off c = some l) : off % 2 = 0 ∧ a + off + 2 * c ≤ S.len ∧ l = nums S (a + off) c := by
  unfold listedO at h
  split at h
  · obtain ⟨h1, h2⟩ := listO_some h
    exact ⟨by assumption, h1, h2⟩
  · cases h

theorem st4_get (S : Src) (n : Nat) : ∀ k last l, st4 S n k = some (last, l) →
    (∀ j, j < k → l[j]? = some (seg4 S n j) ∧ first4 S n j ≤ end4 S n j ∧ end4 S n j ≤ last ∧ -1 < first4 S n j ∧ (has4 S n j = true → list4 S n j ≠ none)) ∧
    (∀ i j, i < j → j < k → end4 S n i < first4 S n j) ∧ (k = 0 → last = -1) ∧ (0 < k → last = end4 S n (k - 1)) := by
  intro k
  induction k with
  | zero =>
    intro last l h
    simp [st4] at h
    exact ⟨fun j hj => by omega, fun i j _ hj => by omega, fun _ => h.1.symm, fun hk => by omega⟩
  | succ k ih =>
    intro last l h
    rw [st4] at h
    cases hk : st4 S n k with
    | none => rw [hk] at h; simp at h
    | some q =>
      obtain ⟨la, l0⟩ := q
      rw [hk] at h
      simp only [Option.bind_some] at h
      split at h
      · cases h
      · rename_i hb
        simp only [Option.some.injEq, Prod.mk.injEq] at h
        obtain ⟨rfl, rfl⟩ := h
        obtain ⟨i1, i2, i3, i4⟩ := ih la l0 hk
        have hlen : l0.length = k := st4_len S n k _ hk
        have hA : ¬ end4 S n k < first4 S n k := fun h => hb (.inl h)
        have hB : ¬ first4 S n k ≤ la := fun h => hb (.inr (.inl h))
        have hlow : -1 ≤ la := by
          by_cases h0 : k = 0
          · rw [i3 h0]; omega
          · have := i1 (k - 1) (by omega)
            omega
        refine ⟨fun j hj => ?_, fun i j hij hj => ?_, fun h => by omega, fun _ => by simp⟩
        · by_cases hjk : j = k
          · subst hjk
            refine ⟨by rw [List.getElem?_append_right (by omega), hlen]; simp, by omega, Int.le_refl _, by omega, fun h1 h2 => hb (.inr (.inr ⟨h1, h2⟩))⟩
          · obtain ⟨a1, a2, a3, a4, a5⟩ := i1 j (by omega)
            refine ⟨by rw [List.getElem?_append_left (by omega)]; exact a1, a2, by omega, a4, a5⟩
        · by_cases hjk : j = k
          · subst hjk
            have := (i1 i hij).2.2.1
            omega
          · exact i2 i j hij (by omega)

theorem st12_get (S : Src) : ∀ k last l, st12 S k = some (last, l) →
    (∀ j, j < k → l[j]? = some (seg12 S j) ∧ (seg12 S j).first ≤ (seg12 S j).last ∧ (seg12 S j).last ≤ last ∧ (seg12 S j).last ≤ 1114111 ∧ -1 < (seg12 S j).first) ∧
    (∀ i j, i < j → j < k → (seg12 S i).last < (seg12 S j).first) ∧ (-1 ≤ last) := by
  intro k
  induction k with
  | zero =>
    intro last l h
    simp [st12] at h
    exact ⟨fun j hj => by omega, fun i j _ hj => by omega, by omega⟩
  | succ k ih =>
    intro last l h
    rw [st12] at h
    cases hk : st12 S k with
    | none => rw [hk] at h; simp at h
    | some q =>
      obtain ⟨la, l0⟩ := q
      rw [hk] at h
      simp only [Option.bind_some] at h
      split at h
      · cases h
      · rename_i hb
        simp only [Option.some.injEq, Prod.mk.injEq] at h
        obtain ⟨rfl, rfl⟩ := h
        obtain ⟨i1, i2, i3⟩ := ih la l0 hk
        have hlen : l0.length = k := st12_len S k _ hk
        refine ⟨fun j hj => ?_, fun i j hij hj => ?_, by omega⟩
        · by_cases hjk : j = k
          · subst hjk
            refine ⟨by rw [List.getElem?_append_right (by omega), hlen]; simp, by omega, Int.le_refl _, by omega, by omega⟩
          · obtain ⟨a1, a2, a3, a4, a5⟩ := i1 j (by omega)
            refine ⟨by rw [List.getElem?_append_left (by omega)]; exact a1, a2, by omega, a4, a5⟩
        · by_cases hjk : j = k
          · subst hjk
            have := (i1 i hij).2.2.1
            omega
          · exact i2 i j hij (by omega)

theorem load4O_st {S : Src} {n : Nat} {l : List Seg} (h : load4O S n = some l) : st4 S n n = some (65535, l) := by
  unfold load4O at h
  cases hk : st4 S n n with
  | none => rw [hk] at h; simp at h
  | some q =>
    obtain ⟨la, l0⟩ := q
    rw [hk] at h
    simp only [Option.bind_some] at h
    split at h
    · rename_i hq
      injection h with h
      have hq' : la = 65535 := hq
      have h' : l0 = l := h
      rw [hq', h']
    · cases h

theorem loadO_4 {S : Src} {l : List Seg} (h : loadO S 4 = some l) : Ok4 S ∧ st4 S (be2 S 6 / 2).toNat (be2 S 6 / 2).toNat = some (65535, l) := by
  unfold loadO at h
  rw [if_neg (by decide), if_pos rfl] at h
  split at h
  · exact ⟨by assumption, load4O_st h⟩
  · cases h
theorem loadO_12 {S : Src} {l : List Seg} (h : loadO S 12 = some l) : Ok12 S ∧ ∃ last, st12 S (be4 S 12).toNat = some (last, l) := by
  unfold loadO at h
  rw [if_neg (by decide), if_neg (by decide), if_neg (by decide)] at h
  split at h
  · rename_i hk
    obtain ⟨q, h1, h2⟩ := Option.map_eq_some_iff.1 h
    exact ⟨hk, q.1, by rw [h1, ← h2]⟩
  · cases h
theorem loadO_6 {S : Src} {l : List Seg} (h : loadO S 6 = some l) : Ok6 S ∧ ((be2 S 8 = 0 ∧ l = []) ∨ (be2 S 8 ≠ 0 ∧ l = [seg6 S])) := by
  unfold loadO at h
  rw [if_neg (by decide), if_neg (by decide), if_pos rfl] at h
  split at h
  · rename_i hk
    split at h
    · rename_i h0; injection h with h; exact ⟨hk, .inl ⟨h0, h.symm⟩⟩
    · rename_i h0; injection h with h; exact ⟨hk, .inr ⟨h0, h.symm⟩⟩
  · cases h
theorem loadO_0 {S : Src} {l : List Seg} (h : loadO S 0 = some l) : 262 ≤ S.len ∧ l = [seg0 S] := by
  unfold loadO at h
  rw [if_pos rfl] at h
  split at h
  · injection h with h; exact ⟨by assumption, h.symm⟩
  · cases h

theorem Rises.one (s : Seg) : Rises [s] := by
  intro i j a b hij _ hb
  have := (List.getElem?_eq_some_iff.1 hb).1
  simp at this
  omega

theorem nums_bd {w : World} {S : Src} (h : InM w S) {a c : Nat} (ha : a + 2 * c ≤ S.len) : ∀ v ∈ nums S a c, 0 ≤ v ∧ v < 65536 := by
  intro v hv
  simp only [nums, List.mem_map, List.mem_range] at hv
  obtain ⟨i, hi, rfl⟩ := hv
  exact be2_bd h.bs (by omega)

theorem loadO_ok {w : World} {S : Src} {x : Int} {l : List Seg} (h : InM w S) (hx : fmtB x = true) (hl : loadO S x = some l) : SegsOk l := by
  have hc : x = 0 ∨ x = 4 ∨ x = 6 ∨ x = 12 := by simpa [fmtB, or_assoc] using hx
  rcases hc with rfl | rfl | rfl | rfl
  · obtain ⟨h1, rfl⟩ := loadO_0 hl
    refine ⟨fun s hs => ?_, Rises.one _, by simp⟩
    simp only [List.mem_singleton] at hs
    subst hs
    refine ⟨by simp [seg0], by simp [seg0], by simp [seg0], by simp [seg0], by simp [seg0], by simp [seg0], by simp [seg0], fun l hl => ?_⟩
    simp only [seg0, Option.some.injEq] at hl
    subst hl
    refine ⟨by rw [upto_len]; rfl, fun v hv => ?_⟩
    simp only [upto, List.mem_map, List.mem_range] at hv
    obtain ⟨i, hi, rfl⟩ := hv
    have := (h.bs (6 + i) (by omega)).2
    omega
  · obtain ⟨hk, hst⟩ := loadO_4 hl
    obtain ⟨k1, k2, k3, k4⟩ := hk
    obtain ⟨n, hn⟩ : ∃ n, n = (be2 S 6 / 2).toNat := ⟨_, rfl⟩
    rw [← hn] at hst
    obtain ⟨g1, g2, _, _⟩ := st4_get S n n _ _ hst
    have hlen : l.length = n := st4_len S n n _ hst
    have hle : 16 + 8 * n ≤ S.len := by omega
    refine ⟨fun s hs => ?_, ?_, by have := h.hlen; omega⟩
    · obtain ⟨j, hj, rfl⟩ := List.mem_iff_getElem.1 hs
      obtain ⟨a1, a2, a3, a4, a5⟩ := g1 j (by omega)
      rw [List.getElem?_eq_getElem hj] at a1
      injection a1 with a1
      rw [a1]
      have f1 : 0 ≤ first4 S n j ∧ first4 S n j < 65536 := be2_bd h.bs (by omega)
      have e1 : 0 ≤ end4 S n j ∧ end4 S n j < 65536 := be2_bd h.bs (by omega)
      have d1 : 0 ≤ delta4 S n j ∧ delta4 S n j < 65536 := be2_bd h.bs (by omega)
      refine ⟨f1.1, a2, ?_, ?_, ?_, d1.1, d1.2, fun l' hl' => ?_⟩
      · simp only [seg4]; omega
      · simp only [seg4]; omega
      · simp only [seg4]; omega
      · simp only [seg4] at hl'
        split at hl'
        · obtain ⟨b1, b2, rfl⟩ := listedO_some hl'
          exact ⟨by rw [nums_len]; simp only [cnt4, seg4]; omega, nums_bd h b2⟩
        · cases hl'
    · intro i j s t hij hs ht
      have hj := (List.getElem?_eq_some_iff.1 ht).1
      have hi := (List.getElem?_eq_some_iff.1 hs).1
      have := (g1 i (by omega)).1
      rw [hs] at this
      injection this with this
      subst this
      have := (g1 j (by omega))
      rw [ht] at this
      have h2 := this.1
      injection h2 with h2
      subst h2
      have := g2 i j hij (by omega)
      simp only [seg4]
      omega
  · obtain ⟨hk, hor⟩ := loadO_6 hl
    obtain ⟨k1, k2, k3⟩ := hk
    rcases hor with ⟨h0, rfl⟩ | ⟨h0, rfl⟩
    · exact ⟨fun s hs => by simp at hs, fun i j s t _ hs => by simp at hs, by simp⟩
    · have b6 := be2_bd h.bs (a := 6) (by omega)
      have b8 := be2_bd h.bs (a := 8) (by omega)
      refine ⟨fun s hs => ?_, Rises.one _, by simp⟩
      simp only [List.mem_singleton] at hs
      subst hs
      refine ⟨b6.1, ?_, ?_, by simp [seg6], by simp [seg6], by simp [seg6], by simp [seg6], fun l hl => ?_⟩
      · simp only [seg6]; omega
      · simp only [seg6]; omega
      · simp only [seg6, Option.some.injEq] at hl
        subst hl
        exact ⟨by rw [nums_len]; simp only [seg6]; omega, nums_bd h (by omega)⟩
  · obtain ⟨hk, last, hst⟩ := loadO_12 hl
    obtain ⟨k1, k2⟩ := hk
    obtain ⟨g1, g2, _⟩ := st12_get S _ _ _ hst
    have hlen : l.length = (be4 S 12).toNat := st12_len S _ _ hst
    have hle : 16 + 12 * (be4 S 12).toNat ≤ S.len := by omega
    refine ⟨fun s hs => ?_, ?_, by have := h.hlen; omega⟩
    · obtain ⟨j, hj, rfl⟩ := List.mem_iff_getElem.1 hs
      obtain ⟨a1, a2, a3, a4, a5⟩ := g1 j (by omega)
      rw [List.getElem?_eq_getElem hj] at a1
      injection a1 with a1
      rw [a1]
      have gl : 0 ≤ be4 S (16 + 12 * j + 4 + 4) ∧ be4 S (16 + 12 * j + 4 + 4) < 4294967296 := be4_bd h.bs (by omega)
      refine ⟨by omega, a2, a4, gl.1, ?_, by simp [seg12], by simp [seg12], fun l' hl' => by cases hl'⟩
      simp only [seg12]; omega
    · intro i j s t hij hs ht
      have hj := (List.getElem?_eq_some_iff.1 ht).1
      have hi := (List.getElem?_eq_some_iff.1 hs).1
      have := (g1 i (by omega)).1
      rw [hs] at this
      injection this with this
      subst this
      have := (g1 j (by omega))
      rw [ht] at this
      have h2 := this.1
      injection h2 with h2
      subst h2
      have h3 := g2 i j hij (by omega)
      have h4 := this.2.1
      omega

theorem rawV_in {l : List Seg} (hr : Rises l) {k : Nat} {s : Seg} {code : Int} (hs : l[k]? = some s) (h1 : s.first ≤ code) (h2 : code ≤ s.last) : rawV l code = segV s code := by
  have hf : IsFind l code k := by
    have hk := (List.getElem?_eq_some_iff.1 hs).1
    refine ⟨by omega, fun j t hj ht => ?_, fun j t hj ht => ?_⟩
    · have := (hr j k t s hj ht hs).1
      omega
    · by_cases e : k = j
      · subst e; rw [hs] at ht; injection ht with ht; subst ht; exact h2
      · have := (hr k j s t (by omega) hs ht).2
        omega
  unfold rawV
  rw [hf.find, hs]
  simp only
  rw [if_neg (by omega)]
theorem rawV_out {l : List Seg} {code : Int} (h : ∀ (k : Nat) (s : Seg), l[k]? = some s → code < s.first ∨ s.last < code) : rawV l code = 0 := by
  unfold rawV
  cases hf : l.find? (fun s => decide (code ≤ s.last)) with
  | none => rfl
  | some s =>
    have h1 := List.find?_some hf
    obtain ⟨k, hk, rfl⟩ := List.mem_iff_getElem.1 (List.mem_of_find?_eq_some hf)
    have h2 := h k _ (List.getElem?_eq_getElem hk)
    simp only [decide_eq_true_eq] at h1
    simp only
    rw [if_pos (by omega)]

end Go.Proofs.Ythfppmamnnnnmaa
