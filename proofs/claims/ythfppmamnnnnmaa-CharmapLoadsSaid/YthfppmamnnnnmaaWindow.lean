/-
  'window': a map's glyphs from a code point on, one by one and gone over.
-/
import Derived.Deep.RegionHeld3
import Derived.RegionTactic
import Derived.BigRegion
import Derived.Maps.AppendAt
import Derived.Test.YthfppmamnnnnmaaAll
import Derived.Test.YthfppmamnnnnmaaRGlyph
set_option linter.unusedVariables false
namespace Go.Proofs.Ythfppmamnnnnmaa
open Go.RowKit Go.Shelf

attribute [local go_sem] Oper.semAt_some

theorem Try.info37 : (Try.prog.info? 37).map (fun i => (i.zero, i.size, i.bytes)) = some (some (.agg #[.int .i64 0, .int .i64 0]), 2, 16) := by kernel_rfl

theorem equalIn_func_nil (w : World) (d : Nat) (fn : Fn) (fi ca : Array Value) : (Op.equalIn (d + 1) 40 (.func fn fi ca) .nilFunc).run Try.prog w = .ok false w := by
  simp [Op.equalIn, run_underlying Try.underlying40]
theorem eql_func_nil (w : World) (fn : Fn) (fi ca : Array Value) : (binOp .eql 40 (.func fn fi ca) .nilFunc).run Try.prog w = .ok (.bool false) w := by
  simp only [binOp]
  simp [Op.equal, Op.maxDepth, equalIn_func_nil w 9999]

theorem below_drewN (n : Nat) (w : World) (q : Nat) : Below n w (w.drewN q) := ⟨rfl, rfl, rfl, Nat.le_refl _, fun _ _ => rfl⟩
theorem MapAt.drewN {w : World} {p : Nat} {f n : Int} {l : List Seg} (h : MapAt w p f n l) (q : Nat) : MapAt (w.drewN q) p f n l := h.below (below_drewN _ w q)

def pairCells (l : List (Int × Int)) : List Value := (l.map fun x => [Value.int .i64 x.1, Value.int .i64 x.2]).flatten

theorem pairCells_snoc (l : List (Int × Int)) (a b : Int) : pairCells (l ++ [(a, b)]) = pairCells l ++ [.int .i64 a, .int .i64 b] := by
  simp [pairCells]

/-- The pairs lie in memory of the call's own. -/
def WantAt (w : World) (B : Nat) (V : Int → Int) (a : Int) (k : Nat) (v : Value) : Prop :=
  w.ownsRow B 37 2 v (wantL V a k).length (pairCells (wantL V a k))

theorem WantAt.form {w : World} {B : Nat} {V : Int → Int} {a : Int} {k : Nat} {v : Value} (h : WantAt w B V a k v) : ∃ A c, v = .slice A (wantL V a k).length c := by
  rcases h.2 with ⟨rfl, h0⟩ | ⟨g, cap, _, rfl, _⟩
  · exact ⟨none, 0, by rw [h0]⟩
  · exact ⟨_, _, rfl⟩

theorem WantAt.miss {w : World} {B : Nat} {V : Int → Int} {a : Int} {k : Nat} {v : Value} (h : WantAt w B V a k v) (hz : V (a + k) = 0) : WantAt w B V a (k + 1) v := by
  unfold WantAt at *
  simp only [wantL, hz, if_true, List.append_nil]
  exact h

theorem WantAt.hit {w : World} {B : Nat} {V : Int → Int} {a : Int} {k : Nat} {v : Value} (hz : V (a + k) ≠ 0) (h : w.ownsRow B 37 2 v ((wantL V a k).length + 1) (pairCells (wantL V a k) ++ [.int .i64 (a + k), .int .i64 (V (a + k))])) : WantAt w B V a (k + 1) v := by
  unfold WantAt
  simp only [wantL, hz, if_false]
  rw [pairCells_snoc, List.length_append]
  exact h

theorem pairCells_get : ∀ (l : List (Int × Int)) (k : Nat) (y1 y2 : Int), l[k]? = some (y1, y2) → (pairCells l)[k * 2]? = some (.int .i64 y1) ∧ (pairCells l)[k * 2 + 1]? = some (.int .i64 y2)
  | [], k, y1, y2, h => by simp at h
  | x :: l, 0, y1, y2, h => by
    simp at h
    subst h
    simp [pairCells]
  | x :: l, k + 1, y1, y2, h => by
    have := pairCells_get l k y1 y2 (by simpa using h)
    have e : pairCells (x :: l) = .int .i64 x.1 :: .int .i64 x.2 :: pairCells l := by simp [pairCells]
    rw [e, show (k + 1) * 2 + 1 = k * 2 + 1 + 1 + 1 by omega, show (k + 1) * 2 = k * 2 + 1 + 1 by omega]
    simpa using this

theorem own_kept_cell {w W : World} {B0 n₀ B g n cap z : Nat} {e : TypeId} {xs : List Value} (h : w.ownsRow B0 e z (.slice (some ⟨g, 0, none⟩) n cap) n xs) (hk : KeepB n₀ B w W) (hne : g ≠ B) {i : Nat} {v : Value} (hx : xs[i]? = some v) : W.cell? ⟨g, i, none⟩ = some v := by
  have h1 := World.ownsRow.cells h (g := g) rfl i v hx
  have e1 : ((⟨g, 0, none⟩ : Addr).add i) = ⟨g, i, none⟩ := by
    unfold Addr.add
    split <;> simp_all
  rw [e1] at h1
  rcases h.2 with ⟨h0, _⟩ | ⟨g', cap', cur, h0, _, hh, _⟩
  · cases h0
  · cases h0
    have hb : Blk w g e cur := hh
    rw [(hk.c _ _ _ hne hb).cell]
    rw [hb.cell] at h1
    exact h1

theorem own_form2 {w : World} {B : Nat} {e : TypeId} {z n : Nat} {v : Value} {xs : List Value} (h : w.ownsRow B e z v n xs) (h0 : 0 < n) : ∃ g cap, v = .slice (some ⟨g, 0, none⟩) n cap ∧ n ≤ cap ∧ cap ≤ maxLen := by
  rcases h.2 with ⟨_, h1⟩ | ⟨g, cap, cur, h1, _, _, h2, h3, _⟩
  · omega
  · exact ⟨g, cap, h1, h2, h3⟩

theorem prefix_snoc {ws pre : List (Int × Int)} {y : Int × Int} (h : pre <+: ws) (hy : ws[pre.length]? = some y) : pre ++ [y] <+: ws := by
  obtain ⟨t, rfl⟩ := h
  rw [List.getElem?_append_right (Nat.le_refl _)] at hy
  cases t with
  | nil => simp at hy
  | cons z t =>
    simp at hy
    subst hy
    exact ⟨t, by simp⟩

theorem prefix_not {ws pre : List (Int × Int)} {x y : Int × Int} (hy : ws[pre.length]? = some y) (hne : y ≠ x) : ¬ pre ++ [x] <+: ws := by
  rintro ⟨t, rfl⟩
  rw [List.append_assoc, List.getElem?_append_right (Nat.le_refl _)] at hy
  simp at hy
  exact hne hy.symm

theorem keeps_drewN (B : Nat) (W : World) (q : Nat) : KeepsFrom B W (W.drewN q) := ⟨Nat.le_refl _, fun _ _ _ h _ => h⟩
theorem keepB_drewN (n₀ B : Nat) (W : World) (q : Nat) : KeepB n₀ B W (W.drewN q) := ⟨below_drewN _ _ _, fun _ _ _ _ h => h⟩
theorem keepB_set {n₀ B : Nat} (W : World) (hB : n₀ ≤ B) (u : Value) : KeepB n₀ B W (W.setCell ⟨B, 0, none⟩ u) :=
  ⟨(Below.refl _ W).setCell (p := ⟨B, 0, none⟩) hB _, fun _ _ _ hne h => h.far hne _⟩

/-! A region of a round that reads alone: one walk of it serves every order. -/
def noDefer (ops : Array Oper) : Bool := ops.toList.all fun o => match o.op with | .defer _ => false | _ => true

theorem noDefer_spec {ops : Array Oper} (h : noDefer ops = true) {i : Nat} {o : Oper} (ho : ops[i]? = some o) : ∀ c, o.op ≠ .defer c := by
  intro c hc
  have hm : o ∈ ops.toList := by
    rw [← Array.getElem?_toList] at ho
    exact List.mem_of_getElem? ho
  have := List.all_eq_true.1 h o hm
  rw [hc] at this
  cases this

theorem wpOp_round {n : Nat} {ops : Array Oper} {Q : Exit → Act → World → Prop} {i l : Nat} {K K' : Act → World → Prop} {a : Act} {w : World} (hd : noDefer ops = true) (hk : ∀ a w, K a w → K' a w)
    (h : wpOpIn Fence.wide n Try.prog ops Q i K a w) : wpOpIn (Fence.wide.inRound l) n Try.prog ops Q i K' a w := by
  refine wpOpIn_mono hk ?_
  unfold wpOpIn at *
  split
  · rename_i ho; simpa only [ho] using h
  · rename_i o ho
    simp only [ho] at h
    split
    · rename_i hw
      simp only [hw, if_true] at h
      unfold Oper.wpIn at *
      refine ⟨h.1, ?_⟩
      rw [Fence.inRound_round, Oper.semAt_some _ _ _ (noDefer_spec hd ho)]
      exact h.2
    · rename_i hw; simp only [hw] at h; exact h

theorem wpAny_round {n l : Nat} {ops : Array Oper} {Q : Exit → Act → World → Prop} (hd : noDefer ops = true) : ∀ (fuel : Nat) (listed : Array Bool) (a : Act) (w : World),
    wpAnyIn Fence.wide n Try.prog .any ops Q fuel listed a w → wpAnyIn (Fence.wide.inRound l) n Try.prog .any ops Q fuel listed a w
  | 0, _, _, _, h => h
  | fuel + 1, _, _, _, h => ⟨h.1, fun i hi => wpOp_round hd (fun a w => wpAny_round hd fuel _ a w) (h.2 i hi)⟩

theorem region_round {id n lp : Nat} {Q : Exit → Act → World → Prop} {a : Act} {w : World} {l : List Oper} (hm : Try.prog.follows .mixedOrders = true) (hB : Region.lexB .any l.toArray = true) (hd : noDefer l.toArray = true)
    (h : wpQuietIn Fence.wide n Try.prog l.toArray (fun w' => ∃ n, w' = w.drewN n) (fun a' => ∀ w', (∃ n, w' = w.drewN n) → Q .normal a' w') l a) : (Code.region id l.toArray true).wpIn (Fence.wide.inRound lp) n Try.prog Q a w := by
  have hB2 := hB
  simp only [Region.lexB, Bool.and_eq_true] at hB2
  refine wpIn_region_any hm (wpAny_round hd _ _ _ _ (wpAnyIn_of_quiet (C := fun w' => ∃ n, w' = w.drewN n) (Q := fun a' => ∀ w', (∃ n, w' = w.drewN n) → Q .normal a' w') rfl (fun _ w' hw' h => h w' hw') _ _ _ _ ⟨1, rfl⟩ ?_))
  have := wpAnyQIn_lex (F := Fence.wide) (n := n) (C := fun w' => ∃ n, w' = w.drewN n) (md := .any) hB2.1 l 0 (Array.replicate l.toArray.size false) a (by simp) (by simpa using hB2.2) h
  simpa using this

/-- What a round of a loop over a function is handed: the variable in a box of its own. -/
def BoxAx {α : Type} (a : Act) (xi bi : Nat) (t : TypeId) (B0 : Nat) (cs : α → Array Value) (val : α → Value) (x : α) (a' : Act) (W : World) : Prop :=
  ∃ Bx, B0 ≤ Bx ∧ Blk W Bx t (cs x) ∧ a' = { tmps := (a.tmps.setIfInBounds xi (val x)).setIfInBounds bi (.pointer (some ⟨Bx, 0, none⟩)), defers := [] }

theorem blk_own {W W' : World} {g : Nat} {t : TypeId} {cs : Array Value} {row : Option Nat} (h : Blk W g t cs) (hg : W.grownBy W' row) (hr : ∀ r, row = some r → ∃ o : Obj, W.heap[r]? = some o ∧ o.isCells = false) : Blk W' g t cs := by
  refine h.grown hg fun e => ?_
  obtain ⟨o, ho, hc⟩ := hr g e.symm
  unfold Blk at h
  rw [h] at ho
  cases ho
  simp [Obj.isCells] at hc

theorem boxAx_own {α : Type} (a : Act) (xi bi : Nat) (t : TypeId) (B0 : Nat) (cs : α → Array Value) (val : α → Value) (x : α) (a' : Act) (B : Nat) : OwnFrom B (fun (_ : Unit) W => BoxAx a xi bi t B0 cs val x a' W) := by
  intro _ W W' row ⟨Bx, h1, h2, h3⟩ hg hr
  exact ⟨Bx, h1, blk_own h2 hg (fun r e => (hr r e).2), h3⟩

theorem keepB_own {β : Type} (n₀ B : Nat) (w0 : World) (hn : n₀ ≤ w0.heap.size) : OwnFrom w0.heap.size (fun (_ : β) W => KeepB n₀ B w0 W) := by
  intro _ W W' row h hg hr
  exact ⟨h.b.grown hg (Nat.le_trans hn h.b.size) (fun k e => Nat.le_trans hn (hr k e).1), fun g t cs hne hb => blk_own (h.c g t cs hne hb) hg (fun r e => (hr r e).2)⟩

/-- **A loop over a function, its variable boxed.** -/
theorem range_boxed {α : Type} {g : Operand} {ps : Array Tmp} {assign body : Code} {Q : Exit → Act → World → Prop} {a : Act} {w : World} {n : Nat}
    (h1 : 1 ≤ n) {gf : Nat} {lb : Array Value} (hg : a.eval g = .func (.func gf) #[] lb) (eg : ∀ args w, (callFunc gf args).run Try.prog w = .ok (.enter gf args) w)
    {encs : α → Array Value} {n₀ B : Nat} {S Sp : List α → Prop} {N : Nat} {w0 : World} (hseq : SeqStopsK Fence.wide (n - 1) Try.prog gf lb encs (KeepB n₀ B) S Sp N w0)
    (hn₀ : n₀ ≤ w.heap.size) (hb0 : Below w0.heap.size w0 w) (hps : ∀ x, (encs x).size = ps.size) (xi bi : Nat) (t : TypeId) (cs : α → Array Value) (val : α → Value)
    (I : List α → World → Prop) (Ix : Code → List α → World → Prop) (hI : OwnFrom w.heap.size I) (hIx : ∀ c, OwnFrom w.heap.size (Ix c)) (h0 : I [] w)
    (hassign : ∀ (l : Nat) (pre : List α) (x : α) (W : World) (K : Act → World → Prop), I pre W → (∀ a' W', KeepsFrom w.heap.size W W' → KeepB n₀ B W W' → I pre W' → BoxAx a xi bi t w.heap.size cs val x a' W' → K a' W') →
      assign.wpIn (Fence.wide.inRound l) (n - 1 - 1) Try.prog (Exit.then K (fun _ _ _ => False)) { tmps := (ps.zip (encs x)).foldl (fun t (p, v) => t.setIfInBounds p v) a.tmps, defers := [] } W)
    (hbody : ∀ (l : Nat) (pre : List α) (x : α) (a' : Act) (W : World), w.heap.size ≤ l → (∃ r, W.heap[l]? = some (.loop r)) → I pre W → BoxAx a xi bi t w.heap.size cs val x a' W → pre.length < N → body.wpIn (Fence.wide.inRound l) (n - 1 - 1) Try.prog (ownPostG w.heap.size (KeepB n₀ B) I Ix (pre ++ [x]) W) a' W)
    (hdone : ∀ (D : Nat) (xs : List α) (W : World), w.heap.size ≤ D → S xs → I xs W → W.heap[D]? = some (.deferred (some [])) → Q .normal { a with defers := { target := .collected D, args := #[] } :: a.defers } W)
    (hstop : ∀ (D : Nat) (c : Code) (pre : List α) (W : World), w.heap.size ≤ D → Sp pre → Ix c pre W → W.heap[D]? = some (.deferred (some [])) → c.wpIn Fence.wide n Try.prog Q { a with defers := { target := .collected D, args := #[] } :: a.defers } W) :
    (Code.rangeFunc g ps assign body).wpIn Fence.wide n Try.prog Q a w :=
  wpIn_rangeFunc_ownH rfl h1 hg trivial eg hseq (fun h k => h.trans k) (fun W l o o' hl h h1 h2 => KeepB.book hn₀ W l o o' hl h h1 h2) hb0 hps I Ix hI hIx h0 (BoxAx a xi bi t w.heap.size cs val) (fun x a' => boxAx_own _ _ _ _ _ _ _ _ _ _) hassign hbody hdone hstop

theorem WantAt.miss0 {w : World} {B : Nat} {V : Int → Int} {k : Nat} {v : Value} (h : WantAt w B V 0 k v) (hz : V k = 0) : WantAt w B V 0 (k + 1) v := h.miss (by rw [Int.zero_add]; exact hz)
theorem WantAt.hit0 {w : World} {B : Nat} {V : Int → Int} {k : Nat} {v : Value} (hz : V k ≠ 0) (h : w.ownsRow B 37 2 v ((wantL V 0 k).length + 1) (pairCells (wantL V 0 k) ++ [.int .i64 k, .int .i64 (V k)])) : WantAt w B V 0 (k + 1) v :=
  WantAt.hit (by rw [Int.zero_add]; exact hz) (by rw [Int.zero_add]; exact h)
theorem wantL_window0 (l : List Seg) (n : Int) : wantL (glyphV l n) (mx 0 0) (mn 300 1114112 - mx 0 0).toNat = wantL (glyphV l n) 0 300 := wantL_window l n 0 (by omega) (by omega)

set_option maxRecDepth 100000 in
set_option maxHeartbeats 4000000 in
theorem window_in (p px : Nat) (S : Src) (f n from_ stop_ : Int) (l : List Seg) (w : World) (hm : MapAt w p f n l) (hx : RMapAt w px S f n) (hf : fmtB f = true) (hlo : loadO S f = some l) (hl : SegsOk l) (h1 : -10 ≤ from_) (h2 : from_ ≤ 1114112) :
    Calls Try.prog 9 #[.pointer (some ⟨p, 0, none⟩), .pointer (some ⟨px, 0, none⟩), .int .i64 from_, .int .i64 stop_] w fun e w' => e = .returned (.bool true) ∧ Below w.heap.size w w' := by
  refine (callsIn_wide (n := 9)).1 ?_
  have HM := Lib.hid hm
  have HX := Lib.hid hx
  have HF := Lib.hid hf
  have HLO := Lib.hid hlo
  have HL := Lib.hid hl
  clear hm hx hf hlo hl
  refine callsIn_of_wp_marks Try.func9 rfl trivial ?_ rfl
  refine wpIn_wide.2 ?_
  simp only [Try.ntmps9, List.size_toArray, List.length_cons, List.length_nil, Nat.reduceAdd, Nat.reduceSub, Array.replicate_succ, Array.replicate_zero, List.push_toArray, List.append_toArray, List.nil_append, List.cons_append]
  have HSZ : Hid (((w.alloc (.cells #[.int .i64 stop_] 3)).alloc (.cells #[.bool false] 4)).heap.size = w.heap.size + 2) := by show _ = _; simp
  have HB0 := Lib.hid (((Below.refl _ w).alloc (Nat.le_refl _) (.cells #[.int .i64 stop_] 3)).alloc (by simp) (.cells #[.bool false] 4))
  have HS := Lib.hid ((Blk.new w 3 #[.int .i64 stop_]).alloc (.cells #[.bool false] 4))
  have HR := Blk.new (w.alloc (.cells #[.int .i64 stop_] 3)) 4 #[.bool false]
  rw [World.size_alloc] at HR
  replace HR := Lib.hid HR
  obtain ⟨i0, hi, hz0, hz1, hz2⟩ := info_parts Try.info37
  go_wp2_with fail
  go_at_call 11
  obtain ⟨w2, hw2⟩ : ∃ w2, w2 = (w.alloc (.cells #[.int .i64 stop_] 3)).alloc (.cells #[.bool false] 4) := ⟨_, rfl⟩
  rw [← hw2] at HB0 HS HR HSZ ⊢
  clear hw2
  refine (All_any p from_ (from_ + 300) w2).mono ?_
  rintro e w3 ⟨rfl, hb3, hs3, k0, k1, k2⟩
  have HB3 := Lib.hid hb3
  have Hs3 := Lib.hid hs3
  clear hs3
  have HS3 := Lib.hid (HS.out.below hb3 HS.out.lt)
  have HR3 := Lib.hid (HR.out.below hb3 HR.out.lt)
  have HM3 := Lib.hid (HM.out.below (HB0.out.trans (hb3.mono (by have := HSZ.out; omega))))
  have HX3 := Lib.hid (HX.out.below (HB0.out.trans (hb3.mono (by have := HSZ.out; omega))))
  have K0 := Lib.hid k0
  have K1 := Lib.hid k1
  have K2 := Lib.hid k2
  clear hb3 k0 k1 k2
  have cf : w3.cell? ⟨px, 1, none⟩ = some (.int .i64 f) := HX3.out.blk.cell 1
  have hff : (f != f) = false := by simp
  have hee := eql_func_nil
  go_wp2
  go_quiet ((go_at_call 12; exact Calls.quiet_of_same ((Format_any p f n l _ (HM3.out.drewN _)).mono fun _ _ h => ⟨h.1, h.2.symm⟩)))
  obtain ⟨w4, hw4⟩ : ∃ w4, w4 = w3.drewN nq := ⟨_, rfl⟩
  have Hs4 : Hid (w4.heap.size = w3.heap.size) := by show _ = _; rw [hw4]; rfl
  have hb4 : Below w2.heap.size w2 w4 := by rw [hw4]; exact HB3.out.trans (below_drewN _ _ _)
  have HB4 := Lib.hid hb4
  have HS4 : Hid (Blk w4 w.heap.size 3 #[.int .i64 stop_]) := by show Blk _ _ _ _; rw [hw4]; exact HS3.out.drewN _
  have HR4 : Hid (Blk w4 (w.heap.size + 1) 4 #[.bool false]) := by show Blk _ _ _ _; rw [hw4]; exact HR3.out.drewN _
  have HM4 : Hid (MapAt w4 p f n l) := by show MapAt _ _ _ _ _; rw [hw4]; exact HM3.out.drewN _
  have HX4 : Hid (RMapAt w4 px S f n) := by show RMapAt _ _ _ _ _; rw [hw4]; exact HX3.out.below (below_drewN _ _ _)
  have K0' : Hid (Blk w4 w2.heap.size 24 #[.pointer (some ⟨p, 0, none⟩)]) := by show Blk _ _ _ _; rw [hw4]; exact K0.out.drewN _
  have K1' : Hid (Blk w4 (w2.heap.size + 1) 3 #[.int .i64 from_]) := by show Blk _ _ _ _; rw [hw4]; exact K1.out.drewN _
  have K2' : Hid (Blk w4 (w2.heap.size + 2) 3 #[.int .i64 (from_ + 300)]) := by show Blk _ _ _ _; rw [hw4]; exact K2.out.drewN _
  rw [← hw4]
  clear hw4 cf hff hee HS HR HM HX HB3 HS3 HR3 HM3 HX3 K0 K1 K2 hb4
  have HW5 := Lib.hid (Blk.new w4 38 #[.slice none 0 0])
  have Hs5 : Hid ((w4.alloc (.cells #[.slice none 0 0] 38)).heap.size = w4.heap.size + 1) := by show _ = _; simp
  obtain ⟨w5, hw5⟩ : ∃ w5, w5 = w4.alloc (.cells #[.slice none 0 0] 38) := ⟨_, rfl⟩
  have HB5 : Hid (Below w4.heap.size w4 w5) := by show Below _ _ _; rw [hw5]; exact (Below.refl _ _).alloc (Nat.le_refl _) _
  rw [← hw5] at HW5 Hs5
  go_wp2_with fail
  rw [← hw5]
  clear hw5
  go_loopw [11] (fun x wr => ∃ (k : Nat) (v : Value), k ≤ 300 ∧ x = .int .i64 (from_ + k) ∧ Hid (Blk wr w4.heap.size 38 #[v]) ∧ Hid (WantAt wr w5.heap.size (glyphV l n) from_ k v) ∧ Hid (Turns w5 wr w4.heap.size))
    (fun x _ => (from_ + 300 - intOf x).toNat)
  case atStart => exact ⟨0, _, by omega, by simp, HW5, Lib.hid (World.ownsRow_nil _ _ _ _), Lib.hid (Turns.refl _ _)⟩
  case round =>
    obtain ⟨k, v, hk, rfl, HWr, HOr, HTr⟩ := hrel
    have Hb4 := Lib.hid (HB5.out.trans (HTr.out.below (Nat.le_refl _) (by have := Hs5.out; omega)))
    have hsr := HTr.out.size
    obtain ⟨A, cp, rfl⟩ := HOr.out.form
    by_cases hk3 : k < 300
    · have hgg : (glyphV l n (from_ + k) != glyphV l n (from_ + k)) = false := by simp
      go_wp2_with fail
      refine (RGlyph_any px S f n l _ wr (HX4.out.below Hb4.out) HF.out HLO.out).mono ?_
      rintro e w6 ⟨rfl, q, rfl⟩
      go_wp2_with fail
      refine (Glyph_any p f n l _ _ ((HM4.out.below Hb4.out).drewN q) HL.out).mono ?_
      rintro e w7 ⟨rfl, hb7⟩
      have hs7 : wr.heap.size ≤ w7.heap.size := hb7.size
      have hb7' : Below wr.heap.size wr w7 := (below_drewN _ _ _).trans hb7
      have HW7 := Lib.hid (HWr.out.below hb7' HWr.out.lt)
      have HO7 : Hid (WantAt w7 w5.heap.size (glyphV l n) from_ k (.slice A (wantL (glyphV l n) from_ k).length cp)) := own_below HOr.out hb7'
      have HT7 := Lib.hid (HTr.out.trans (Turns.of_below hb7' _))
      have hwl := wantL_len (glyphV l n) from_ k
      clear hb7 hb7' HWr HOr HTr Hb4
      obtain ⟨G, hG⟩ : ∃ G, G = glyphV l n (from_ + k) := ⟨_, rfl⟩
      rw [← hG] at hgg ⊢
      have HG := Lib.hid hG
      clear hG
      have c7 : w7.cell? ⟨w4.heap.size, 0, none⟩ = some (.slice A (wantL (glyphV l n) from_ k).length cp) := HW7.out.cell 0
      have f7 := HW7.out.frozen 0
      by_cases hG0 : G = 0
      · have hz : (G != 0) = false := by simp [hG0]
        have HG0 := Lib.hid hG0
        clear hG0
        go_wp2
        go_roundw
        case rel => exact ⟨k + 1, _, by omega, by simp; omega, HW7, Lib.hid (HO7.out.miss (by rw [← HG.out]; exact HG0.out)), HT7⟩
        case measure => simp [intOf]; omega
      · have hz : (G != 0) = true := by simpa using hG0
        have HG0 := Lib.hid hG0
        clear hG0
        go_wp2_with (at_builtin; refine held_ ?_)
        refine unheld_ ?_
        refine wpList_append_own _ rfl (.tmp 54) (.tmp 58) 38 rfl w5.heap.size 37 i0 _ 2 16 Try.underlying38 hi hz0 hz1 hz2 rfl (by decide) (.slice A (wantL (glyphV l n) from_ k).length cp) (wantL (glyphV l n) from_ k).length (pairCells (wantL (glyphV l n) from_ k)) rfl (World.ownsRow.alloc HO7.out _) ⟨w7.heap.size, 0, none⟩ 1 1 [.int .i64 (from_ + k), .int .i64 G] rfl rfl (cells_new _ _ _) ?h1 ?c3 ?c4 ?c5 ?_
        case h1 => simp [Value.oneCell']
        case c3 => unfold maxLen; omega
        case c4 => omega
        case c5 => simp; omega
        intro v' w8 hown hg hx
        have hrow : ∀ g, Value.ownBlock (.slice A (wantL (glyphV l n) from_ k).length cp) = some g → w5.heap.size ≤ g := fun g e => (World.ownsRow.lt HO7.out g e).1
        have HWn := Lib.hid (own_blk_ne HO7.out HW7.out (by decide))
        have HW8 := Lib.hid ((HW7.out.alloc _).grown hg (by
          rcases HWn.out with e | e
          · rw [e]; simp
          · exact fun e' => e e'.symm))
        have HT8 := Lib.hid ((HT7.out.alloc _).grown hg (fun g e => .inr (hrow g e)))
        have HO8 := Lib.hid hown
        obtain ⟨g8, cap8, rfl, _, _⟩ := World.ownsRow.form hown (by omega)
        have c8 : w8.cell? ⟨w4.heap.size, 0, none⟩ = some (.slice A (wantL (glyphV l n) from_ k).length cp) := HW8.out.cell 0
        have f8 := HW8.out.frozen 0
        clear hrow hown hg hx c7 f7 HW7 HT7
        go_wp2
        go_roundw
        case rel =>
          exact ⟨k + 1, _, by omega, by simp; omega, Lib.hid (HW8.out.set_ 0 _), Lib.hid (WantAt.hit (by rw [← HG.out]; exact HG0.out) (by
            rw [← HG.out]
            exact World.ownsRow.kept HO8.out (grownBy_setCell' _ _ _) (own_blk_ne HO8.out HW8.out (by decide)))), Lib.hid (HT8.out.setCell (.inl rfl) _)⟩
        case measure => simp [intOf]; omega
    · obtain rfl : k = 300 := by omega
      obtain ⟨V, hV⟩ : ∃ V, V = glyphV l n := ⟨_, rfl⟩
      have HV := Lib.hid hV
      rw [← hV] at HOr HWr ⊢
      obtain ⟨ws, hws⟩ : ∃ ws, ws = wantL V from_ 300 := ⟨_, rfl⟩
      have HWS := Lib.hid hws
      have hOr : wr.ownsRow w5.heap.size 37 2 (.slice A (wantL V from_ 300).length cp) (wantL V from_ 300).length (pairCells (wantL V from_ 300)) := HOr.out
      rw [← hws] at hOr HWr
      have HO9 := Lib.hid hOr
      clear HOr hOr hV hws
      have HN9 := Lib.hid (Blk.new wr 3 #[.int .i64 0])
      have HW9 := Lib.hid (HWr.out.alloc (.cells #[.int .i64 0] 3))
      have HT9 := Lib.hid (HTr.out.alloc (.cells #[.int .i64 0] 3))
      have HO9 := Lib.hid (World.ownsRow.alloc HO9.out (.cells #[.int .i64 0] 3))
      have Hs9 : Hid ((wr.alloc (.cells #[.int .i64 0] 3)).heap.size = wr.heap.size + 1) := by show _ = _; simp
      obtain ⟨w9, hw9⟩ : ∃ w9, w9 = wr.alloc (.cells #[.int .i64 0] 3) := ⟨_, rfl⟩
      rw [← hw9] at HN9 HW9 HT9 HO9 Hs9
      go_wp2_with fail
      rw [← hw9]
      clear hw9
      obtain ⟨nb, hnb⟩ : ∃ nb, nb = wr.heap.size := ⟨_, rfl⟩
      rw [← hnb] at HN9 Hs9 ⊢
      have Hnb := Lib.hid hnb
      clear hnb
      refine (wpIn_wide (n := 9)).1 ?_
      refine range_boxed (by omega) rfl (enters_of Try.func32 (by kernel_rfl) rfl) (iter_stops 8 (by omega) w4.heap.size nb p w2.heap.size (w2.heap.size + 1) (w2.heap.size + 2) f n from_ (from_ + 300) l w4 w9 HM4.out HL.out K0'.out K1'.out K2'.out rfl ?hFT ?hb ?hB)
        ?hn0 (Below.refl _ _) (fun _ => rfl) 61 14 37 (fun x => #[.int .i64 x.1, .int .i64 x.2]) (fun x => .agg #[.int .i64 x.1, .int .i64 x.2])
        (fun pre W => (pre <+: ws ∧ Blk W nb 3 #[.int .i64 pre.length]) ∧ KeepB w4.heap.size nb w9 W)
        (fun c pre W => (c = .ret ∧ (Blk W (w.heap.size + 1) 4 #[.bool true] ∨ ¬ pre <+: ws)) ∧ Below w.heap.size w9 W) ?hI ?hIx ?h0 ?assign ?body ?done ?stop
      case hFT => have := mx_cases from_ 0; have := mn_cases (from_ + 300) 1114112; omega
      case hb => exact HB5.out.trans (HT9.out.below (Nat.le_refl _) (by have := Hs5.out; omega))
      case hB => rw [Hs9.out]; omega
      case hn0 => have := HT9.out.size; have := Hs5.out; omega
      case hI => exact OwnFrom.and (OwnFrom.and (ownFrom_pure _ _) (fun s W W' row h hg hr => blk_own h hg (fun r e => (hr r e).2))) (keepB_own _ _ _ (by have := HT9.out.size; have := Hs5.out; omega))
      case hIx =>
        intro c s W W' row h hg hr
        have hsz : w.heap.size ≤ w9.heap.size := by have := HT9.out.size; have := Hs5.out; have := HB4.out.size; have := HSZ.out; omega
        exact ⟨⟨h.1.1, h.1.2.imp (fun b => blk_own b hg (fun r e => (hr r e).2)) id⟩, h.2.grown hg (Nat.le_trans hsz h.2.size) (fun k e => Nat.le_trans hsz (hr k e).1)⟩
      case h0 => exact ⟨⟨List.nil_prefix, HN9.out⟩, Below.refl _ _, fun _ _ _ _ h => h⟩
      case assign =>
        intro lp pre x W K hI hK
        obtain ⟨⟨hp, hn⟩, hk⟩ := hI
        dsimp only [encP]
        gi_wp2
        exact hK _ _ ((KeepsOthers.alloc _ _).from _) ⟨(Below.refl _ W).alloc (Nat.le_trans (by have := HT9.out.size; have := Hs5.out; omega) hk.b.size) _, fun g t cs _ hb => hb.alloc _⟩ ⟨⟨hp, hn.alloc _⟩, hk.trans ⟨(Below.refl _ W).alloc (Nat.le_trans (by have := HT9.out.size; have := Hs5.out; omega) hk.b.size) _, fun g t cs _ hb => hb.alloc _⟩⟩ ⟨W.heap.size, hk.b.size, Blk.new W 37 _, rfl⟩
      case body =>
        rintro lp pre x a' W hlp ⟨r, hr⟩ ⟨⟨hp, hn⟩, hk⟩ ⟨Bx, hBx, bX, rfl⟩ hlt
        simp only [List.setIfInBounds_toArray, List.set_cons_succ, List.set_cons_zero]
        have c13 : W.cell? ⟨nb, 0, none⟩ = some (.int .i64 pre.length) := hn.cell 0
        have f13 : W.frozen? ⟨nb, 0, none⟩ = false := hn.frozen 0
        have hw4nb' : w4.heap.size < nb := by have := HTr.out.size; have := Hs5.out; have := Hnb.out; omega
        have hw4nb : w4.heap.size ≠ nb := by omega
        have h4w : w.heap.size + 2 ≤ w4.heap.size := by have := HB4.out.size; have := HSZ.out; omega
        have c10 : W.cell? ⟨w4.heap.size, 0, none⟩ = some (.slice A ws.length cp) := (hk.c _ _ _ hw4nb HW9.out).cell 0
        have cx0 : W.cell? ⟨Bx, 0, none⟩ = some (.int .i64 x.1) := bX.cell 0
        have cx1 : W.cell? ⟨Bx, 1, none⟩ = some (.int .i64 x.2) := bX.cell 1
        have HR9 : Blk W (w.heap.size + 1) 4 #[.bool false] := hk.c _ _ _ (by omega) ((HR4.out.below HB5.out HR4.out.lt).turns HT9.out (by omega))
        have HS9 : Blk W w.heap.size 3 #[.int .i64 stop_] := hk.c _ _ _ (by omega) ((HS4.out.below HB5.out HS4.out.lt).turns HT9.out (by omega))
        have cR : W.cell? ⟨w.heap.size + 1, 0, none⟩ = some (.bool false) := HR9.cell 0
        have fR := HR9.frozen 0
        have cS : W.cell? ⟨w.heap.size, 0, none⟩ = some (.int .i64 stop_) := HS9.cell 0
        have hwsl : ws.length ≤ 300 := by rw [HWS.out]; exact wantL_len _ _ _
        by_cases hlen : pre.length < ws.length
        · obtain ⟨g, cap2, hgv, hcap, hcm⟩ := own_form2 HO9.out (by omega)
          obtain ⟨rfl, rfl⟩ : A = some ⟨g, 0, none⟩ ∧ cp = cap2 := by simpa using hgv
          obtain ⟨y, hy⟩ : ∃ y, ws[pre.length]? = some y := ⟨_, List.getElem?_eq_getElem hlen⟩
          obtain ⟨y1, y2⟩ := y
          obtain ⟨x1, x2⟩ := x
          dsimp only at cx0 cx1 bX
          have hgb : g ≠ nb := by
            rcases own_blk_ne HO9.out HN9.out (by decide) with e | e
            · simp [Value.ownBlock] at e
            · simpa [Value.ownBlock] using e
          have cy0 : W.cell? ⟨g, pre.length * 2, none⟩ = some (.int .i64 y1) := own_kept_cell HO9.out hk hgb (pairCells_get ws _ _ _ hy).1
          have cy1 : W.cell? ⟨g, pre.length * 2 + 1, none⟩ = some (.int .i64 y2) := own_kept_cell HO9.out hk hgb (pairCells_get ws _ _ _ hy).2
          have HY := Lib.hid hy
          have HP := Lib.hid hp
          have HK := Lib.hid hk
          have HN := Lib.hid hn
          have HRW := Lib.hid HR9
          clear hy hp hk hn hgv bX HR9 HS9
          by_cases hxy : y1 = x1 ∧ y2 = x2
          · obtain ⟨rfl, rfl⟩ := hxy
            gi_wp2
            refine region_round (by kernel_rfl) (by kernel_rfl) (by kernel_rfl) ?_
            repeat (quiet_step_in (fail))
            refine wpQuietIn_nil ?_
            rintro _ ⟨nq2, rfl⟩
            by_cases hst : ((pre.length : Int) + 1 = stop_)
            · gi_wp2
              refine ⟨((keeps_drewN _ _ _).trans ((KeepsOthers.setCell _ _ _).from _)).trans ((KeepsOthers.setCell _ _ _).from _), ⟨rfl, .inl ?_⟩, ?_⟩
              · exact ((HRW.out.drewN nq2).far (by show w.heap.size + 1 ≠ nb; omega) _).set_ 0 _
              · exact (((HK.out.b.mono (by omega)).trans (below_drewN _ _ _)).setCell (p := ⟨nb, 0, none⟩) (by show w.heap.size ≤ nb; omega) _).setCell (p := ⟨w.heap.size + 1, 0, none⟩) (by simp) _
            · gi_wp2
              exact ⟨(keeps_drewN _ _ _).trans ((KeepsOthers.setCell _ _ _).from _), (keepB_drewN _ _ _ _).trans (keepB_set _ (by omega) _), ⟨prefix_snoc HP.out HY.out, by simpa using (HN.out.drewN nq2).set_ 0 (.int .i64 (pre.length + 1))⟩, (HK.out.trans (keepB_drewN _ _ _ _)).trans (keepB_set _ (by omega) _)⟩
          · have hnp := Lib.hid (prefix_not HY.out (x := (x1, x2)) (fun e => hxy (by simpa using e)))
            have hor : y1 ≠ x1 ∨ (y1 = x1 ∧ y2 ≠ x2) := by omega
            clear hxy
            rcases hor with h | ⟨rfl, h⟩
            case' inl => have hb : (y1 == x1) = false := by simpa using h
            case' inr => have hb : (y2 == x2) = false := by simpa using h
            all_goals
              gi_wp2
              refine region_round (by kernel_rfl) (by kernel_rfl) (by kernel_rfl) ?_
              repeat (quiet_step_in (fail))
              refine wpQuietIn_nil ?_
              rintro _ ⟨nq2, rfl⟩
              gi_wp2
              exact ⟨(keeps_drewN _ _ _).trans ((KeepsOthers.setCell _ _ _).from _), ⟨rfl, .inr hnp.out⟩, ((HK.out.b.mono (by omega)).trans (below_drewN _ _ _)).setCell (p := ⟨w.heap.size + 1, 0, none⟩) (by simp) _⟩
        · have hlen' : ws.length ≤ pre.length := by omega
          gi_wp2
          refine region_round (by kernel_rfl) (by kernel_rfl) (by kernel_rfl) ?_
          repeat (quiet_step_in (fail))
          refine wpQuietIn_nil ?_
          rintro _ ⟨nq2, rfl⟩
          gi_wp2
          exact ⟨(keeps_drewN _ _ _).trans ((KeepsOthers.setCell _ _ _).from _), ⟨rfl, .inr fun hpp => by have := hpp.length_le; simp at this; omega⟩, ((hk.b.mono (by omega)).trans (below_drewN _ _ _)).setCell (p := ⟨w.heap.size + 1, 0, none⟩) (by simp) _⟩
      case done =>
        rintro D xs W hD rfl ⟨⟨hp, hn⟩, hk⟩ hK
        have hD2 := hD
        have hxs : wantL (glyphV l n) (mx from_ 0) (mn (from_ + 300) 1114112 - mx from_ 0).toNat = ws := by rw [HWS.out, HV.out]; exact wantL_window l n from_ h1 h2
        rw [hxs] at hn
        have hw4nb' : w4.heap.size < nb := by have := HTr.out.size; have := Hs5.out; have := Hnb.out; omega
        have h4w : w.heap.size + 2 ≤ w4.heap.size := by have := HB4.out.size; have := HSZ.out; omega
        have c13 : W.cell? ⟨nb, 0, none⟩ = some (.int .i64 ws.length) := hn.cell 0
        have c10 : W.cell? ⟨w4.heap.size, 0, none⟩ = some (.slice A ws.length cp) := (hk.c _ _ _ (by omega) HW9.out).cell 0
        have HR9 : Blk W (w.heap.size + 1) 4 #[.bool false] := hk.c _ _ _ (by omega) ((HR4.out.below HB5.out HR4.out.lt).turns HT9.out (by omega))
        have cR : W.cell? ⟨w.heap.size + 1, 0, none⟩ = some (.bool false) := HR9.cell 0
        have fR := HR9.frozen 0
        have HRR := Lib.hid HR9
        have HK := Lib.hid hk
        clear hp hn hk HR9
        have HBw := Lib.hid ((((HB0.out.trans (HB4.out.mono (by have := HSZ.out; omega))).trans (HB5.out.mono (by omega))).trans (HT9.out.below (B := w.heap.size) (by omega) (by have := Hs5.out; omega))).trans (HK.out.b.mono (by omega)))
        have hDw : w.heap.size ≤ D := by have := HT9.out.size; have := Hs5.out; omega
        go_wp2
        have hK' := (KeepsOthers.setCell W ⟨w.heap.size + 1, 0, none⟩ (.bool true)).same D _ hK rfl
        refine ⟨by simp, .inl ⟨_, _, rfl, run_takeDeferred hK', ?_⟩⟩
        have hR2 : Blk (W.setCell ⟨w.heap.size + 1, 0, none⟩ (.bool true)) (w.heap.size + 1) 4 #[.bool true] := HRR.out.set_ 0 _
        have hc5 := cell_kept (hR2.cell 0) (grownBy_putObj' _ D (.deferred none)) (fun r e => by cases e; exact ⟨_, hK', rfl⟩)
        refine ⟨.bool true, ?_, rfl, (HBw.out.setCell (p := ⟨w.heap.size + 1, 0, none⟩) (by simp) _).trans (belowK_b (w := w) (Nat.le_refl _) _ D _ _ hDw hK' rfl rfl)⟩
        simp [results, Try.f9, go_sem, hc5]
      case stop =>
        rintro D c pre W hD hpre ⟨⟨rfl, hor⟩, hB⟩ hK
        have hxs : wantL (glyphV l n) (mx from_ 0) (mn (from_ + 300) 1114112 - mx from_ 0).toNat = ws := by rw [HWS.out, HV.out]; exact wantL_window l n from_ h1 h2
        rw [hxs] at hpre
        have hR : Blk W (w.heap.size + 1) 4 #[.bool true] := by
          rcases hor with h | h
          · exact h
          · exact absurd hpre h
        have h4w : w.heap.size + 2 ≤ w4.heap.size := by have := HB4.out.size; have := HSZ.out; omega
        have HBw := Lib.hid ((((HB0.out.trans (HB4.out.mono (by have := HSZ.out; omega))).trans (HB5.out.mono (by omega))).trans (HT9.out.below (B := w.heap.size) (by omega) (by have := Hs5.out; omega))).trans hB)
        have hDw : w.heap.size ≤ D := by have := HT9.out.size; have := Hs5.out; omega
        gi_wp2
        refine ⟨by simp, .inl ⟨_, _, rfl, run_takeDeferred hK, ?_⟩⟩
        have hc5 := cell_kept (hR.cell 0) (grownBy_putObj' _ D (.deferred none)) (fun r e => by cases e; exact ⟨_, hK, rfl⟩)
        refine ⟨.bool true, ?_, rfl, HBw.out.trans (belowK_b (w := w) (Nat.le_refl _) W D _ _ hDw hK rfl rfl)⟩
        simp [results, Try.f9, go_sem, hc5]

end Go.Proofs.Ythfppmamnnnnmaa
