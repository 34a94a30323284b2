/-
  (*Map).All and its iterator.
-/
import Derived.RangeFuncNested
import Derived.RangeFuncBound
import Derived.RangeFuncCalls
import Derived.RangeFuncLeaves
import Derived.Shelf.Abstract
import Derived.Shelf.RegionOpen
import Derived.OwnWalkIn
import Derived.TacticsInMore
import Derived.LoopNIn
import Derived.LoopIn
import Derived.Test.YthfppmamnnnnmaaWant
set_option linter.unusedVariables false
namespace Go.Proofs.Ythfppmamnnnnmaa
open Go.RowKit Go.Shelf

attribute [local go_sem] Oper.semAt_some max_int min_int

theorem All_any (p : Nat) (a b : Int) (w : World) :
    Calls Try.prog 11 #[.pointer (some ⟨p, 0, none⟩), .int .i64 a, .int .i64 b] w fun e w' =>
      e = .returned (.func (.func 32) #[] #[.pointer (some ⟨w.heap.size, 0, none⟩), .pointer (some ⟨w.heap.size + 1, 0, none⟩), .pointer (some ⟨w.heap.size + 2, 0, none⟩)]) ∧
      Below w.heap.size w w' ∧ w'.heap.size = w.heap.size + 3 ∧ Blk w' w.heap.size 24 #[.pointer (some ⟨p, 0, none⟩)] ∧ Blk w' (w.heap.size + 1) 3 #[.int .i64 a] ∧ Blk w' (w.heap.size + 2) 3 #[.int .i64 b] := by
  go_enter Try.func11, Try.ntmps11
  go_wp2
  go_ret
  have e1 : (w.alloc (.cells #[.pointer (some ⟨p, 0, none⟩)] 24)).heap.size = w.heap.size + 1 := by simp
  have e2 : ((w.alloc (.cells #[.pointer (some ⟨p, 0, none⟩)] 24)).alloc (.cells #[.int .i64 a] 3)).heap.size = w.heap.size + 2 := by simp
  have b1 := Blk.new w 24 #[.pointer (some ⟨p, 0, none⟩)]
  have b2 := Blk.new (w.alloc (.cells #[.pointer (some ⟨p, 0, none⟩)] 24)) 3 #[.int .i64 a]
  have b3 := Blk.new ((w.alloc (.cells #[.pointer (some ⟨p, 0, none⟩)] 24)).alloc (.cells #[.int .i64 a] 3)) 3 #[.int .i64 b]
  rw [e1] at b2
  rw [e2] at b3
  exact ⟨rfl, (((Below.refl _ w).alloc (Nat.le_refl _) _).alloc (by simp) _).alloc (by simp; omega) _, by simp, (b1.alloc _).alloc _, b2.alloc _, b3⟩

/-- What a round of the loop over a map keeps: what lay below n₀, and all cells but those of block B. -/
structure KeepB (n₀ B : Nat) (W W' : World) : Prop where
  b : Below n₀ W W'
  c : ∀ g t cs, g ≠ B → Blk W g t cs → Blk W' g t cs

theorem KeepB.trans {n₀ B : Nat} {A C D : World} (h : KeepB n₀ B A C) (k : KeepB n₀ B C D) : KeepB n₀ B A D :=
  ⟨h.b.trans k.b, fun g t cs hg hb => k.c g t cs hg (h.c g t cs hg hb)⟩

theorem KeepB.book {n₀ B : Nat} {w : World} (hn : n₀ ≤ w.heap.size) (W : World) (l : Nat) (o o' : Obj) (hl : w.heap.size ≤ l) (h : W.heap[l]? = some o) (h1 : o.isCells = false) (h2 : o.isWalk = false) : KeepB n₀ B W (W.putObj l o') := by
  refine ⟨belowK_b hn W l o o' hl h h1 h2, fun g t cs hg hb => ?_⟩
  have hne : g ≠ l := by
    rintro rfl
    unfold Blk at hb
    rw [h] at hb
    cases hb
    simp [Obj.isCells] at h1
  have := (grownBy_putObj' W l o').block g hb.lt (fun e => hne (by cases e; rfl))
  exact this.trans hb

def encP (x : Int × Int) : Array Value := #[.agg #[.int .i64 x.1, .int .i64 x.2]]

theorem kept_below {β : Type} {n : Nat} {J : β → World → Prop} (hJ : AbidesFrom n J) {s : β} {W W' : World} (h : J s W) (hb : Below W.heap.size W W') : J s W' :=
  hJ s W W' none h ⟨hb.os, hb.tape, hb.output, hb.size, fun k hk _ => hb.block k hk⟩ (fun r e => by cases e)

/-- How the iterator ends. -/
def IterPost (xs : List (Int × Int)) (J Jx : List (Int × Int) → World → Prop) (e : Ending) (W' : World) : Prop :=
  (∃ v, e = .returned v) ∧ ((∃ ys, ys = xs ∧ J ys W') ∨ (∃ pre, pre <+: xs ∧ Jx pre W'))

theorem cell_keep {w w' : World} {n : Nat} {a : Addr} {v : Value} (h : w.cell? a = some v) (hn : n = w.heap.size) (hb : Below n w w') : w'.cell? a = some v := by
  have hlt : a.block < n := by
    rw [hn]
    by_cases hx : a.block < w.heap.size
    · exact hx
    · have : w.heap[a.block]? = none := Array.getElem?_eq_none (by omega)
      simp [World.cell?, this] at h
  exact (hb.cell (p := a) hlt).trans h

set_option maxRecDepth 100000 in
set_option maxHeartbeats 4000000 in
theorem iter_in (k : Nat) (hk : 1 ≤ k) (ll n₀ B p b0 b1 b2 : Nat) (f n from_ to_ : Int) (l : List Seg) (w0 : World) (hm : MapAt w0 p f n l) (hl : SegsOk l)
    (h0 : Blk w0 b0 24 #[.pointer (some ⟨p, 0, none⟩)]) (h1 : Blk w0 b1 3 #[.int .i64 from_]) (h2 : Blk w0 b2 3 #[.int .i64 to_]) (hn0 : n₀ = w0.heap.size)
    (F T : Int) (hF : F = mx from_ 0) (hT : T = mn to_ 1114112) (hFT : F ≤ T) (J Jx : List (Int × Int) → World → Prop)
    (hY : ∀ pre x W, J pre W → pre.length < (T - F).toNat → YieldAt Fence.wide (k - 1) Try.prog ll (encP x) W fun e W' =>
      (e = .returned (.bool true) ∧ J (pre ++ [x]) W' ∧ KeepB n₀ B W W') ∨ (e = .returned (.bool false) ∧ Jx (pre ++ [x]) W'))
    (W : World) (hW : Below n₀ w0 W) (hB : B < W.heap.size) (hJ : AbidesFrom W.heap.size J) (hJ0 : J [] W) :
    CallsIn Fence.wide k Try.prog 32 #[.func (.yield ll) #[] #[], .pointer (some ⟨b0, 0, none⟩), .pointer (some ⟨b1, 0, none⟩), .pointer (some ⟨b2, 0, none⟩)] W (IterPost (wantL (glyphV l n) F (T - F).toNat) J Jx) := by
  have HM := Lib.hid hm
  have HL := Lib.hid hl
  have H0 := Lib.hid h0
  have H1 := Lib.hid h1
  have H2 := Lib.hid h2
  have HJ := Lib.hid hJ
  have HY := Lib.hid hY
  have HW := Lib.hid hW
  have hle := hl.le
  have hn0W : n₀ ≤ W.heap.size := by rw [hn0]; exact hW.size
  have HJ0 := Lib.hid hJ0
  have a0 : W.cell? ⟨b0, 0, none⟩ = some (.pointer (some ⟨p, 0, none⟩)) := (Blk.below h0 hW (by rw [hn0]; exact h0.lt)).cell 0
  have a1 : W.cell? ⟨b1, 0, none⟩ = some (.int .i64 from_) := (Blk.below h1 hW (by rw [hn0]; exact h1.lt)).cell 0
  have a2 : W.cell? ⟨b2, 0, none⟩ = some (.int .i64 to_) := (Blk.below h2 hW (by rw [hn0]; exact h2.lt)).cell 0
  clear hm hl h0 h1 h2 hJ hY hW hJ0
  refine callsIn_of_wp Try.func32 rfl trivial ?_ rfl
  simp only [Try.ntmps32, List.size_toArray, List.length_cons, List.length_nil, Nat.reduceAdd, Nat.reduceSub, Array.replicate_succ, Array.replicate_zero, List.push_toArray, List.append_toArray, List.nil_append, List.cons_append]
  gi_wp2_with fail
  refine ⟨trivial, ?_⟩
  refine (callsIn_wide.2 (find_any p f n l _ W (HM.out.below (by rw [← hn0]; exact HW.out)) HL.out.ri hle)).mono ?_
  rintro e w1 ⟨⟨i0, rfl, hfi⟩, hb1⟩
  rw [← hF] at hfi
  rw [← hF, ← hT]
  have HO := Lib.hid (OutInv.start hfi hFT)
  have hi0 := hfi.le
  have hs1 := hb1.size
  have HB1 := Lib.hid (HW.out.trans (hb1.mono hn0W))
  have HJ1 := Lib.hid (kept_below HJ.out HJ0.out hb1)
  clear hfi hb1 a0 a1 a2
  have F0 : 0 ≤ F := by have := mx_cases from_ 0; omega
  have T1 : T ≤ 1114112 := by have := mn_cases to_ 1114112; omega
  have HF := Lib.hid hF
  have HT := Lib.hid hT
  clear hF hT
  gi_wp2
  gi_loopw [7] (fun x wr => ∃ (j : Nat) (c : Int), x = .int .i64 j ∧ Hid (OutInv l F T j c) ∧ j ≤ l.length ∧ Hid (J (wantL (glyphV l n) F (c - F).toNat) wr) ∧ Hid (Below n₀ w0 wr) ∧ W.heap.size ≤ wr.heap.size)
    (fun x _ => l.length - (intOf x).toNat)
  case atStart => exact ⟨i0, F, rfl, HO, hi0, Lib.hid (by show J _ _; simpa [wantL] using HJ1.out), HB1, hs1⟩
  case round =>
    obtain ⟨j, c, rfl, HO', hj, HJr, HBr, hsr⟩ := hrel
    clear HO hi0 HJ1 HB1 hs1
    obtain ⟨v0, B0, hm1, hm2⟩ := HM.out
    have a0 : wr.cell? ⟨b0, 0, none⟩ = some (.pointer (some ⟨p, 0, none⟩)) := cell_keep (H0.out.cell 0) hn0 HBr.out
    have cn : wr.cell? ⟨p, 1, none⟩ = some (.int .i64 n) := cell_keep (hm1.cell 1) hn0 HBr.out
    obtain ⟨A0, cp0, rfl⟩ := hm2.form
    have cl : wr.cell? ⟨p, 2, none⟩ = some (.slice A0 l.length cp0) := cell_keep (hm1.cell 2) hn0 HBr.out
    have HM1 := Lib.hid hm1
    by_cases hjl : j < l.length
    · obtain ⟨s, hs⟩ : ∃ s, l[j]? = some s := ⟨_, List.getElem?_eq_getElem hjl⟩
      obtain ⟨g, cap, lv, hgv, _, hcap, hcm, hlv, hcell⟩ := hm2.read hs
      obtain ⟨rfl, rfl⟩ : A0 = some ⟨g, 0, none⟩ ∧ cp0 = cap := by simpa using hgv
      obtain ⟨lA, lm, lc, rfl⟩ := hlv.form
      have q0 : wr.cell? ⟨g, j * 6, none⟩ = some (.int .i64 s.first) := cell_keep (hcell 0 (by omega)) hn0 HBr.out
      have q1 : wr.cell? ⟨g, j * 6 + 1, none⟩ = some (.int .i64 s.last) := cell_keep (hcell 1 (by omega)) hn0 HBr.out
      have q2 : wr.cell? ⟨g, j * 6 + 2, none⟩ = some (.int .i64 s.glyph) := cell_keep (hcell 2 (by omega)) hn0 HBr.out
      have q3 : wr.cell? ⟨g, j * 6 + 3, none⟩ = some (.bool s.rounds) := cell_keep (hcell 3 (by omega)) hn0 HBr.out
      have q4 : wr.cell? ⟨g, j * 6 + 4, none⟩ = some (.slice lA lm lc) := cell_keep (hcell 4 (by omega)) hn0 HBr.out
      have q5 : wr.cell? ⟨g, j * 6 + 5, none⟩ = some (.int .i64 s.delta) := cell_keep (hcell 5 (by omega)) hn0 HBr.out
      have HLV := Lib.hid hlv
      have HS := Lib.hid hs
      have HOK := Lib.hid (HL.out.ok s (List.mem_of_getElem? hs))
      obtain ⟨L, hLL⟩ : ∃ L, L = l.length := ⟨_, rfl⟩
      have hle' : L ≤ 1000000000 := by omega
      rw [← hLL] at cl hjl hcap
      have HLL := Lib.hid hLL
      clear hcell hgv hm1 hm2 hlv hs hLL
      by_cases hsf : s.first < T
      · have HSF := Lib.hid hsf
        gi_wp2
        obtain ⟨wo, rfl⟩ : ∃ wo, wo = wr := ⟨_, rfl⟩
        have hb2 : Below wo.heap.size wo (wo.alloc (.cells #[.int .i64 s.first, .int .i64 s.last, .int .i64 s.glyph, .bool s.rounds, .slice lA lm lc, .int .i64 s.delta] 59)) := (Below.refl _ _).alloc (Nat.le_refl _) _
        have HK0 : Hid (Blk (wo.alloc (.cells #[.int .i64 s.first, .int .i64 s.last, .int .i64 s.glyph, .bool s.rounds, .slice lA lm lc, .int .i64 s.delta] 59)) wo.heap.size 59 (segCells s (.slice lA lm lc)).toArray) := Blk.new wo 59 _
        have hsz : W.heap.size ≤ (wo.alloc (.cells #[.int .i64 s.first, .int .i64 s.last, .int .i64 s.glyph, .bool s.rounds, .slice lA lm lc, .int .i64 s.delta] 59)).heap.size := by simp; omega
        obtain ⟨wa, hwa⟩ : ∃ wa, wa = wo.alloc (.cells #[.int .i64 s.first, .int .i64 s.last, .int .i64 s.glyph, .bool s.rounds, .slice lA lm lc, .int .i64 s.delta] 59) := ⟨_, rfl⟩
        rw [← hwa] at hb2 HK0 hsz ⊢
        have HBa := Lib.hid (HBr.out.trans (hb2.mono (Nat.le_trans hn0W hsr)))
        have HJa := Lib.hid (kept_below HJ.out HJr.out hb2)
        have HEn := Lib.hid (HO'.out.enter HL.out n HS.out HSF.out)
        have hm3 := mx_cases s.first F
        have hc0 := HO'.out.c0
        have hc1 := HO'.out.c1
        have hok := HOK.out.fl
        have hfl := HO'.out.fl j s (Nat.le_refl _) HS.out
        have hBlt : B < wo.heap.size := by omega
        clear hwa hb2 a0 cn cl q0 q1 q2 q3 q4 q5
        gi_loopw [9] (fun x wi => ∃ (d : Int), x = .int .i64 d ∧ mx s.first F ≤ d ∧ d ≤ T ∧ d ≤ s.last + 1 ∧ Hid (J (wantL (glyphV l n) F (d - F).toNat) wi) ∧ Hid (Below n₀ w0 wi) ∧ W.heap.size ≤ wi.heap.size ∧ Hid (Blk wi wo.heap.size 59 (segCells s (.slice lA lm lc)).toArray))
          (fun x _ => (T - intOf x).toNat)
        case atStart => exact ⟨_, rfl, Int.le_refl _, by omega, by omega, Lib.hid (by show J _ _; rw [HEn.out]; exact HJa.out), HBa, hsz, HK0⟩
        case round =>
          obtain ⟨d, rfl, hd0, hd1, hd2, HJi, HBi, hsi, HKi⟩ := hrel
          clear HBa HJa HEn hsz HK0
          have HM2 := Lib.hid (HM.out.below (by rw [← hn0]; exact HBi.out))
          have a0 : wr.cell? ⟨b0, 0, none⟩ = some (.pointer (some ⟨p, 0, none⟩)) := cell_keep (H0.out.cell 0) hn0 HBi.out
          have cn : wr.cell? ⟨p, 1, none⟩ = some (.int .i64 n) := cell_keep (HM1.out.cell 1) hn0 HBi.out
          have q0 : wr.cell? ⟨wo.heap.size, 0, none⟩ = some (.int .i64 s.first) := HKi.out.cell 0
          have q1 : wr.cell? ⟨wo.heap.size, 1, none⟩ = some (.int .i64 s.last) := HKi.out.cell 1
          have q2 : wr.cell? ⟨wo.heap.size, 2, none⟩ = some (.int .i64 s.glyph) := HKi.out.cell 2
          have q3 : wr.cell? ⟨wo.heap.size, 3, none⟩ = some (.bool s.rounds) := HKi.out.cell 3
          have q4 : wr.cell? ⟨wo.heap.size, 4, none⟩ = some (.slice lA lm lc) := HKi.out.cell 4
          have q5 : wr.cell? ⟨wo.heap.size, 5, none⟩ = some (.int .i64 s.delta) := HKi.out.cell 5
          by_cases hd : d ≤ s.last ∧ d < T
          · obtain ⟨hd3, hd4⟩ := hd
            have HV := Lib.hid (glyphV_seg HL.out HS.out n (d := d) (by omega) hd3 (by omega) (by omega))
            have HSt := Lib.hid (wantL_step (glyphV l n) F d (by omega))
            gi_wp2_with fail
            refine ⟨trivial, ?_⟩
            refine (callsIn_wide.2 (at_any_seg s HOK.out B0 (.slice lA lm lc) d wr (HLV.out.below (by rw [← hn0]; exact HBi.out)) (by omega) hd3)).mono ?_
            rintro e w2 ⟨rfl, hb2⟩
            have hs2 := hb2.size
            have HB2 := Lib.hid (HBi.out.trans (hb2.mono (Nat.le_trans hn0W hsi)))
            have HJ2 := Lib.hid (kept_below HJ.out HJi.out hb2)
            have HK2 := Lib.hid (HKi.out.below hb2 HKi.out.lt)
            have a0 : w2.cell? ⟨b0, 0, none⟩ = some (.pointer (some ⟨p, 0, none⟩)) := cell_keep (H0.out.cell 0) hn0 HB2.out
            have cn : w2.cell? ⟨p, 1, none⟩ = some (.int .i64 n) := cell_keep (HM1.out.cell 1) hn0 HB2.out
            obtain ⟨x, hx⟩ : ∃ x, x = segV s d := ⟨_, rfl⟩
            rw [← hx] at HV ⊢
            clear hb2 q0 q1 q2 q3 q4 q5 HJi HBi HKi hx
            by_cases hx0 : x = 0
            · have hz : (x != 0) = false := by simp [hx0]
              have HX0 := Lib.hid hx0
              clear hx0
              gi_wp2
              refine ⟨fun _ h => (by cases h), ?_⟩
              gi_wp2
              go_roundw
              case rel => exact ⟨d + 1, rfl, by omega, by omega, by omega, Lib.hid (by show J _ _; rw [HSt.out, if_pos (by rw [HV.out]; rw [HX0.out]; split <;> rfl), List.append_nil]; exact HJ2.out), HB2, by omega, HK2⟩
              case measure => simp [intOf]; omega
            · have hz : (x != 0) = true := by simpa using hx0
              have HX0 := Lib.hid hx0
              clear hx0
              by_cases hxn : x < n
              · have HXN := Lib.hid hxn
                obtain ⟨fn, tmps, assign, body, hy, hR⟩ := HY.out _ (d, x) w2 HJ2.out (by have := wantL_len (glyphV l n) F (d - F).toNat; omega)
                simp only [encP] at hy
                have HVx : Hid (glyphV l n d ≠ 0) := by show _ ≠ _; rw [HV.out, if_pos HXN.out]; exact HX0.out
                have HSx : Hid (wantL (glyphV l n) F (d + 1 - F).toNat = wantL (glyphV l n) F (d - F).toNat ++ [(d, x)]) := by
                  show _ = _
                  rw [HSt.out, if_neg HVx.out, HV.out, if_pos HXN.out]
                gi_wp2
                refine hR.mono ?_
                rintro e W3 (⟨rfl, hJ3, hk3⟩ | ⟨rfl, hJx3⟩)
                · have HK3 := Lib.hid (hk3.c _ _ _ (by omega) HK2.out)
                  have HB3 := Lib.hid (HB2.out.trans hk3.b)
                  have hs3 := hk3.b.size
                  have HJ3 := Lib.hid hJ3
                  clear hk3 hJ3
                  gi_wp2
                  go_roundw
                  case rel => exact ⟨d + 1, rfl, by omega, by omega, by omega, Lib.hid (by show J _ _; rw [HSx.out]; exact HJ3.out), HB3, by omega, HK3⟩
                  case measure => simp [intOf]; omega
                · have HJx := Lib.hid hJx3
                  clear hJx3
                  gi_wp2
                  refine bodyPost_ret (results_none rfl _ _ _) rfl ?_
                  exact ⟨⟨_, rfl⟩, .inr ⟨_, by have := wantL_prefix (glyphV l n) F (d + 1 - F).toNat (T - F).toNat (by omega); rw [HSx.out] at this; exact this, HJx.out⟩⟩
              · have HXN := Lib.hid hxn
                gi_wp2
                refine ⟨fun _ h => (by cases h), ?_⟩
                gi_wp2
                go_roundw
                case rel => exact ⟨d + 1, rfl, by omega, by omega, by omega, Lib.hid (by show J _ _; rw [HSt.out, if_pos (by rw [HV.out]; rw [if_neg (Int.not_lt.2 HXN.out)]), List.append_nil]; exact HJ2.out), HB2, by omega, HK2⟩
                case measure => simp [intOf]; omega
          · have hd' : s.last < d ∨ T ≤ d := by omega
            have HN := Lib.hid (HO'.out.next HL.out HS.out (c' := d) (by omega) (by omega) (by omega) (by omega))
            clear hd
            gi_wp2
            all_goals exact ⟨⟨j + 1, d, by simp, HN, by have := HLL.out; omega, HJi, HBi, by omega⟩, by have := HLL.out; simp [intOf]; omega⟩
      · have HE := Lib.hid (HO'.out.done HL.out n (fun s' hs' => by rw [HS.out] at hs'; cases hs'; omega))
        gi_wp2
        go_end0
        exact ⟨⟨_, rfl⟩, .inl ⟨_, rfl, by rw [← HE.out]; exact HJr.out⟩⟩
    · have HE := Lib.hid (HO'.out.done HL.out n (fun s' hs' => by have := (List.getElem?_eq_some_iff.1 hs').1; omega))
      clear hm1 hm2
      gi_wp2
      go_end0
      exact ⟨⟨_, rfl⟩, .inl ⟨_, rfl, by rw [← HE.out]; exact HJr.out⟩⟩

theorem iter_stops (k : Nat) (hk : 1 ≤ k) (n₀ B p b0 b1 b2 : Nat) (f n from_ to_ : Int) (l : List Seg) (w0 w : World) (hm : MapAt w0 p f n l) (hl : SegsOk l)
    (h0 : Blk w0 b0 24 #[.pointer (some ⟨p, 0, none⟩)]) (h1 : Blk w0 b1 3 #[.int .i64 from_]) (h2 : Blk w0 b2 3 #[.int .i64 to_]) (hn0 : n₀ = w0.heap.size)
    (hFT : mx from_ 0 ≤ mn to_ 1114112) (hb : Below n₀ w0 w) (hB : B < w.heap.size) :
    SeqStopsK Fence.wide k Try.prog 32 #[.pointer (some ⟨b0, 0, none⟩), .pointer (some ⟨b1, 0, none⟩), .pointer (some ⟨b2, 0, none⟩)] encP (KeepB n₀ B)
      (fun ys => ys = wantL (glyphV l n) (mx from_ 0) (mn to_ 1114112 - mx from_ 0).toNat) (fun pre => pre <+: wantL (glyphV l n) (mx from_ 0) (mn to_ 1114112 - mx from_ 0).toNat) (mn to_ 1114112 - mx from_ 0).toNat w := by
  intro ll J Jx W hW hJ _ hY hJ0
  have := iter_in k hk ll n₀ B p b0 b1 b2 f n from_ to_ l w0 hm hl h0 h1 h2 hn0 _ _ rfl rfl hFT J Jx hY W (hb.trans (hW.mono (by rw [hn0]; exact hb.size))) (by have := hW.size; omega) hJ hJ0
  exact this

end Go.Proofs.Ythfppmamnnnnmaa
