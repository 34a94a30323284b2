/-
  Segments of a subtable, as they lie in memory.
-/
import Derived.Test.YthfppmamnnnnmaaWords
set_option linter.unusedVariables false
namespace Go.Proofs.Ythfppmamnnnnmaa
open Go.RowKit

structure Seg where
  first : Int
  last : Int
  glyph : Int
  rounds : Bool
  list : Option (List Int)
  delta : Int

def segCells (s : Seg) (lv : Value) : List Value := [.int .i64 s.first, .int .i64 s.last, .int .i64 s.glyph, .bool s.rounds, lv, .int .i64 s.delta]

/-- The list of a segment: nil, or numbers of the call's own. -/
def LV (w : World) (B : Nat) (lv : Value) (o : Option (List Int)) : Prop :=
  (o = none ∧ lv = .slice none 0 0) ∨ (∃ l, o = some l ∧ l ≠ [] ∧ OwnI w B lv l)

/-- The slice value v holds the segments l, and their lists lie from block B on. -/
def SegsAt (w : World) (B : Nat) (v : Value) (l : List Seg) : Prop :=
  ∃ lvs : List Value, lvs.length = l.length ∧ w.ownsRow B 59 6 v l.length (List.zipWith segCells l lvs).flatten ∧
    ∀ (i : Nat) (s : Seg) (lv : Value), l[i]? = some s → lvs[i]? = some lv → LV w B lv s.list

theorem own_ne {w : World} {B B' : Nat} {e e' : TypeId} {z z' n n' : Nat} {v v' : Value} {xs xs' : List Value} (h : w.ownsRow B e z v n xs) (h' : w.ownsRow B' e' z' v' n' xs') (hne : e ≠ e') :
    v.ownBlock = none ∨ v.ownBlock ≠ v'.ownBlock := by
  rcases h.2 with ⟨rfl, _⟩ | ⟨g, cap, cur, rfl, _, hh, _⟩
  · exact .inl rfl
  · right
    rcases h'.2 with ⟨rfl, _⟩ | ⟨g', cap', cur', rfl, _, hh', _⟩
    · simp [Value.ownBlock]
    · intro e
      have e : g = g' := by simpa [Value.ownBlock] using e
      subst e
      rw [hh] at hh'
      injection hh' with hh'
      injection hh' with _ ht
      exact hne ht

theorem own_blk_ne {w : World} {B : Nat} {e t : TypeId} {z n g : Nat} {v : Value} {xs : List Value} {cs : Array Value} (h : w.ownsRow B e z v n xs) (hb : Blk w g t cs) (hne : e ≠ t) :
    v.ownBlock = none ∨ v.ownBlock ≠ some g := by
  rcases h.2 with ⟨rfl, _⟩ | ⟨g', cap, cur, rfl, _, hh, _⟩
  · exact .inl rfl
  · right
    intro e
    have e : g' = g := by simpa [Value.ownBlock] using e
    subst e
    unfold Blk at hb
    rw [hh] at hb
    injection hb with hb
    injection hb with _ ht
    exact hne ht

theorem own_mono {w : World} {B B' : Nat} {e : TypeId} {z n : Nat} {v : Value} {xs : List Value} (h : w.ownsRow B e z v n xs) (hB : B' ≤ B) : w.ownsRow B' e z v n xs := by
  refine ⟨h.1, ?_⟩
  rcases h.2 with h1 | ⟨g, cap, cur, hv, hg, r⟩
  · exact .inl h1
  · exact .inr ⟨g, cap, cur, hv, by omega, r⟩

theorem own_below {w w' : World} {B : Nat} {e : TypeId} {z n : Nat} {v : Value} {xs : List Value} (h : w.ownsRow B e z v n xs) (hb : Below w.heap.size w w') : w'.ownsRow B e z v n xs :=
  h.kept (row := none) ⟨hb.os, hb.tape, hb.output, hb.size, fun k hk _ => hb.block k hk⟩ (by cases v.ownBlock <;> simp)

theorem LV.kept {w w' : World} {B : Nat} {lv : Value} {o : Option (List Int)} {row : Option Nat} (h : LV w B lv o) (hg : w.grownBy w' row) (hne : ∀ l, OwnI w B lv l → lv.ownBlock = none ∨ lv.ownBlock ≠ row) : LV w' B lv o := by
  rcases h with h | ⟨l, h1, h2, h3⟩
  · exact .inl h
  · exact .inr ⟨l, h1, h2, World.ownsRow.kept h3 hg (hne l h3)⟩
theorem LV.below {w w' : World} {B : Nat} {lv : Value} {o : Option (List Int)} (h : LV w B lv o) (hb : Below w.heap.size w w') : LV w' B lv o := by
  rcases h with h | ⟨l, h1, h2, h3⟩
  · exact .inl h
  · exact .inr ⟨l, h1, h2, own_below h3 hb⟩
theorem LV.mono {w : World} {B B' : Nat} {lv : Value} {o : Option (List Int)} (h : LV w B lv o) (hB : B' ≤ B) : LV w B' lv o := by
  rcases h with h | ⟨l, h1, h2, h3⟩
  · exact .inl h
  · exact .inr ⟨l, h1, h2, own_mono h3 hB⟩

theorem SegsAt.nil (w : World) (B : Nat) : SegsAt w B (.slice none 0 0) [] :=
  ⟨[], rfl, World.ownsRow_nil _ _ _ _, fun i s lv h => by simp at h⟩
theorem SegsAt.below {w w' : World} {B : Nat} {v : Value} {l : List Seg} (h : SegsAt w B v l) (hb : Below w.heap.size w w') : SegsAt w' B v l := by
  obtain ⟨lvs, h1, h2, h3⟩ := h
  exact ⟨lvs, h1, own_below h2 hb, fun i s lv a b => (h3 i s lv a b).below hb⟩
theorem SegsAt.mono {w : World} {B B' : Nat} {v : Value} {l : List Seg} (h : SegsAt w B v l) (hB : B' ≤ B) : SegsAt w B' v l := by
  obtain ⟨lvs, h1, h2, h3⟩ := h
  exact ⟨lvs, h1, own_mono h2 hB, fun i s lv a b => (h3 i s lv a b).mono hB⟩
/-- Another block than the segments' and their lists' has turned. -/
theorem SegsAt.kept {w w' : World} {B r : Nat} {v : Value} {l : List Seg} (h : SegsAt w B v l) (t : Turns w w' r) (hr : r < B) : SegsAt w' B v l := by
  obtain ⟨lvs, h1, h2, h3⟩ := h
  refine ⟨lvs, h1, World.ownsRow.kept h2 t.g ?_, fun i s lv a b => (h3 i s lv a b).kept t.g ?_⟩
  · right; intro e; have := (World.ownsRow.lt h2 r e).1; omega
  · intro l hl; right; intro e; have := (World.ownsRow.lt hl r e).1; omega

theorem zipWith_snoc (l : List Seg) (lvs : List Value) (h : lvs.length = l.length) (s : Seg) (lv : Value) :
    (List.zipWith segCells (l ++ [s]) (lvs ++ [lv])).flatten = (List.zipWith segCells l lvs).flatten ++ segCells s lv := by
  rw [List.zipWith_append (by rw [h])]
  simp

/-- The row has taken one segment more. -/
theorem SegsAt.snoc {w w' : World} {B : Nat} {v v' : Value} {l : List Seg} {lvs : List Value} {s : Seg} {lv : Value}
    (h1 : lvs.length = l.length) (h2 : w.ownsRow B 59 6 v l.length (List.zipWith segCells l lvs).flatten)
    (h3 : ∀ (i : Nat) (s : Seg) (lv : Value), l[i]? = some s → lvs[i]? = some lv → LV w B lv s.list) (hlv : LV w B lv s.list)
    (hown : w'.ownsRow B 59 6 v' (l.length + 1) ((List.zipWith segCells l lvs).flatten ++ segCells s lv)) (hg : w.grownBy w' v.ownBlock) : SegsAt w' B v' (l ++ [s]) := by
  refine ⟨lvs ++ [lv], by simp [h1], by rw [zipWith_snoc l lvs h1]; simpa using hown, fun i s' lv' a b => ?_⟩
  have hk : ∀ lv s, LV w B lv s → LV w' B lv s := fun lv s hx => hx.kept hg fun l' hl' => own_ne hl' h2 (by decide)
  by_cases hi : i < l.length
  · rw [List.getElem?_append_left hi] at a
    rw [List.getElem?_append_left (by omega)] at b
    exact hk _ _ (h3 i s' lv' a b)
  · have e : i = l.length := by
      have := (List.getElem?_eq_some_iff.1 a).1
      simp at this
      omega
    subst e
    simp at a
    rw [← h1] at b
    simp at b
    subst a b
    exact hk _ _ hlv

theorem flat6 : ∀ (L : List (List Value)) (hL : ∀ x ∈ L, x.length = 6) (i j : Nat) (hj : j < 6) (x : List Value) (hx : L[i]? = some x), L.flatten[i * 6 + j]? = x[j]? := by
  intro L
  induction L with
  | nil => intro _ i j _ x hx; simp at hx
  | cons y L ih =>
    intro hL i j hj x hx
    have hy : y.length = 6 := hL y (by simp)
    rw [List.flatten_cons]
    cases i with
    | zero =>
      simp at hx
      subst hx
      rw [List.getElem?_append_left (by omega)]
      simp
    | succ i =>
      rw [List.getElem?_append_right (by omega), hy, show (i + 1) * 6 + j - 6 = i * 6 + j by omega]
      exact ih (fun x hx => hL x (List.mem_cons_of_mem _ hx)) i j hj x (by simpa using hx)

/-- The cells of segment i. -/
theorem SegsAt.read {w : World} {B : Nat} {v : Value} {l : List Seg} (h : SegsAt w B v l) {i : Nat} {s : Seg} (hs : l[i]? = some s) :
    ∃ g cap lv, v = .slice (some ⟨g, 0, none⟩) l.length cap ∧ B ≤ g ∧ l.length ≤ cap ∧ cap ≤ maxLen ∧ LV w B lv s.list ∧
      ∀ j, j < 6 → w.cell? ⟨g, i * 6 + j, none⟩ = (segCells s lv)[j]? := by
  obtain ⟨lvs, h1, h2, h3⟩ := h
  have hi := (List.getElem?_eq_some_iff.1 hs).1
  have hlv : lvs[i]? = some (lvs[i]'(by omega)) := List.getElem?_eq_getElem (by omega)
  have hL : ∀ x ∈ List.zipWith segCells l lvs, x.length = 6 := by
    intro x hx
    obtain ⟨j, hj, rfl⟩ := List.mem_iff_getElem.1 hx
    simp [segCells]
  have hz : (List.zipWith segCells l lvs)[i]? = some (segCells s (lvs[i]'(by omega))) := by
    rw [List.getElem?_zipWith, hs, hlv]
  have hh := h2
  rcases h2.2 with ⟨rfl, h0⟩ | ⟨g, cap, cur, rfl, hB, hg, hnc, hcm, _⟩
  · omega
  · refine ⟨g, cap, _, rfl, hB, hnc, hcm, h3 i s _ hs hlv, fun j hj => ?_⟩
    have hf := flat6 _ hL i j hj _ hz
    have hjj : (segCells s (lvs[i]'(by omega)))[j]? = some ((segCells s (lvs[i]'(by omega)))[j]'(by simp [segCells]; omega)) := List.getElem?_eq_getElem _
    rw [hjj] at hf ⊢
    have := World.ownsRow.cells hh (g := g) rfl _ _ hf
    rw [← this]
    congr 1
    unfold Addr.add
    split <;> simp_all

theorem Try.info59 : (Try.prog.info? 59).map (fun i => (i.zero, i.size, i.bytes)) = some (some (.agg #[.int .i64 0, .int .i64 0, .int .i64 0, .bool false, .slice none 0 0, .int .i64 0]), 6, 64) := by kernel_rfl

theorem cells_new (w : World) (xs : List Value) (t : TypeId) : ∀ j u, xs[j]? = some u → (w.alloc (.cells xs.toArray t)).cell? ((⟨w.heap.size, 0, none⟩ : Addr).add j) = some u := by
  intro j u hj
  have e : ((⟨w.heap.size, 0, none⟩ : Addr).add j) = ⟨w.heap.size, j, none⟩ := by
    unfold Addr.add
    split <;> simp_all
  rw [e, World.cell?_alloc_new]
  simpa using hj

theorem cells_new_at (w : World) (xs : List Value) (t : TypeId) (n : Nat) (hn : n = w.heap.size) : ∀ j u, xs[j]? = some u → (w.alloc (.cells xs.toArray t)).cell? ((⟨n, 0, none⟩ : Addr).add j) = some u := by
  subst hn
  exact cells_new w xs t

end Go.Proofs.Ythfppmamnnnnmaa
