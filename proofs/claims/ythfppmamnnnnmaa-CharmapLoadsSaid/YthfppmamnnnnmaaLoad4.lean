/-
  charmap.load4.
-/
import Derived.Test.YthfppmamnnnnmaaPure4
import Derived.Test.YthfppmamnnnnmaaClone
import Derived.RegionTactic
import Derived.BigRegion
import Derived.Deep.RegionHeld3
set_option linter.unusedVariables false
namespace Go.Proofs.Ythfppmamnnnnmaa
open Go.RowKit

theorem load4_bad (S : Src) (w : World) (h : InM w S) (t : Int) (ht : numB S (skAt S 6 0 false) 2 (!skB S 6 false) = t) (h0 : 0 ≤ t) (h1 : t < 65536)
    (hx : S.len % 2 ≠ 0 ∨ t % 2 ≠ 0 ∨ t / 2 < 1 ∨ (S.len : Int) < 16 + 8 * (t / 2)) :
    Calls Try.prog 39 #[.slice (some ⟨S.b, S.o, none⟩) S.len S.cap] w (LoadPost none w) := by
  have H := Lib.hid h
  have HT := Lib.hid ht
  have hl := h.hlen
  clear h ht
  by_cases hA : S.len % 2 ≠ 0
  case' pos => have a1 : ((S.len : Int) % 2 != 0) = true := by simp; omega
  case' neg =>
    have a1 : ((S.len : Int) % 2 != 0) = false := by simp; omega
    by_cases hB : t % 2 ≠ 0
    case' pos => have a2 : (t % 2 != 0) = true := by simpa using hB
    case' neg =>
      have a2 : (t % 2 != 0) = false := by simpa using hB
      by_cases hC : t / 2 < 1
      case' neg => have hD : (S.len : Int) < 16 + 8 * (t / 2) := by omega
  all_goals
    try clear hA
    try clear hB
    go_enter Try.func39, Try.ntmps39
    go_wp2_with fail
    refine (new_any S _ H.out.hlen H.out.hc H.out.hb H.out.bs).mono ?_
    rintro e w1 ⟨rfl, hr1, hb1, hs1⟩
    have Hr1 := Lib.hid hr1
    have Hb1 := Lib.hid hb1
    clear hr1 hb1
    go_wp2_with fail
    refine (seek_any w.heap.size S _ 6 _ rfl _ _ Hr1.out (by omega)).mono ?_
    rintro e w2 ⟨rfl, hr2, ht2⟩
    have Hr2 := Lib.hid hr2
    have Ht2 := Lib.hid ht2
    clear hr2 ht2
    go_wp2_with fail
    refine (u16_any w.heap.size S _ _ _ Hr2.out).mono ?_
    rintro e w3 ⟨rfl, hr3, ht3⟩
    rw [HT.out]
    have Hr3 := Lib.hid hr3
    have Ht3 := Lib.hid ht3
    clear hr3 ht3
    go_wp2
    go_ret2
    exact ⟨Hb1.out.trans ((Ht2.out.trans Ht3.out).below (Nat.le_refl _) Hb1.out.size), _, rfl⟩

theorem OwnI.cellAt {w : World} {B g m cap : Nat} {l : List Int} (h : OwnI w B (.slice (some ⟨g, 0, none⟩) m cap) l) {k : Nat} {x : Int} (hx : l[k]? = some x) : w.cell? ⟨g, k, none⟩ = some (.int .i64 x) := by
  have := World.ownsRow.cells h (g := g) rfl k (.int .i64 x) (by simp [hx])
  rwa [add_none, Nat.zero_add] at this
theorem nums_at (S : Src) (a n k : Nat) (hk : k < n) : (nums S a n)[k]? = some (be2 S (a + 2 * k)) := by
  simp [nums, hk]

theorem six_turns (w : World) (g : Nat) (v0 v1 v2 v3 v4 v5 : Value) (o : Obj) : Turns w (((((((w.setCell ⟨g, 0, none⟩ v0).setCell ⟨g, 1, none⟩ v1).setCell ⟨g, 2, none⟩ v2).setCell ⟨g, 3, none⟩ v3).setCell ⟨g, 4, none⟩ v4).setCell ⟨g, 5, none⟩ v5).alloc o) g := by
  refine Turns.alloc ?_ _
  refine Turns.setCell ?_ (.inl rfl) _
  refine Turns.setCell ?_ (.inl rfl) _
  refine Turns.setCell ?_ (.inl rfl) _
  refine Turns.setCell ?_ (.inl rfl) _
  refine Turns.setCell ?_ (.inl rfl) _
  refine Turns.setCell ?_ (.inl rfl) _
  exact Turns.refl _ _
theorem six_size (w : World) (g : Nat) (v0 v1 v2 v3 v4 v5 : Value) : ((((((w.setCell ⟨g, 0, none⟩ v0).setCell ⟨g, 1, none⟩ v1).setCell ⟨g, 2, none⟩ v2).setCell ⟨g, 3, none⟩ v3).setCell ⟨g, 4, none⟩ v4).setCell ⟨g, 5, none⟩ v5).heap.size = w.heap.size := by simp

/-- The four rows of numbers of a subtable of format 4. -/
structure Rows4 (w : World) (B : Nat) (S : Src) (n : Nat) (vE vF vD vO : Value) : Prop where
  e : OwnI w B vE (nums S 14 n)
  f : OwnI w B vF (nums S (16 + 2 * n) n)
  d : OwnI w B vD (nums S (16 + 4 * n) n)
  o : OwnI w B vO (nums S (16 + 6 * n) n)
theorem Rows4.below {w w' : World} {B n : Nat} {S : Src} {vE vF vD vO : Value} (h : Rows4 w B S n vE vF vD vO) (hb : Below w.heap.size w w') : Rows4 w' B S n vE vF vD vO :=
  ⟨own_below h.e hb, own_below h.f hb, own_below h.d hb, own_below h.o hb⟩
theorem Rows4.kept {w w' : World} {B B' n m : Nat} {S : Src} {vE vF vD vO v : Value} {xs : List Value} (h : Rows4 w B S n vE vF vD vO) (hv : w.ownsRow B' 59 6 v m xs) (hg : w.grownBy w' v.ownBlock) : Rows4 w' B S n vE vF vD vO :=
  ⟨World.ownsRow.kept h.e hg (own_ne h.e hv (by decide)), World.ownsRow.kept h.f hg (own_ne h.f hv (by decide)), World.ownsRow.kept h.d hg (own_ne h.d hv (by decide)), World.ownsRow.kept h.o hg (own_ne h.o hv (by decide))⟩

set_option maxRecDepth 100000 in
set_option maxHeartbeats 1600000 in
theorem load4_go (S : Src) (n : Nat) (w : World) (h : InM w S) (he : S.len % 2 = 0) (hn : be2 S 6 = 2 * (n : Int)) (hn1 : 1 ≤ n) (hl4 : 16 + 8 * n ≤ S.len) :
    Calls Try.prog 39 #[.slice (some ⟨S.b, S.o, none⟩) S.len S.cap] w (LoadPost (load4O S n) w) := by
  obtain ⟨i0, hi, hz0, hz1, hz2⟩ := info_parts Try.info59
  have H := Lib.hid h
  have hl := h.hlen
  have HB2 := Lib.hid (fun a (ha : a + 2 ≤ S.len) => be2_bd (a := a) h.bs ha)
  have hn65 := (be2_bd (a := 6) h.bs (by omega)).2
  have hn2 : n < 32768 := by omega
  have HN := Lib.hid hn
  have a1 : ((S.len : Int) % 2 != 0) = false := by simp; omega
  obtain ⟨t, ht⟩ : ∃ t, t = be2 S 6 := ⟨_, rfl⟩
  have HT := Lib.hid ht
  have ht1 : t ≤ 2 * (n : Int) := by omega
  have ht2 : 2 * (n : Int) ≤ t := by omega
  have a2 : (t % 2 != 0) = false := by simp; omega
  have HTN : Hid (t / 2 = (n : Int)) := by show _ = _; omega
  have hC : ¬ t / 2 < 1 := by omega
  have hD : ¬ (S.len : Int) < 16 + 8 * (t / 2) := by omega
  clear h he hn ht hn65
  go_enter Try.func39, Try.ntmps39
  go_wp2_with fail
  refine (new_any S _ H.out.hlen H.out.hc H.out.hb H.out.bs).mono ?_
  rintro e w1 ⟨rfl, hr1, hb1, hs1⟩
  have Hr1 := Lib.hid hr1
  have Hb1 := Lib.hid hb1
  have hr0 : Hid (w.heap.size < w1.heap.size) := hs1
  clear hr1 hb1 hs1
  go_wp2_with fail
  refine (seek_yes w.heap.size S _ 6 _ rfl _ Hr1.out (by omega)).mono ?_
  rintro e w2 ⟨rfl, hr2, ht2'⟩
  have Hr2 := Lib.hid hr2
  have T2 := Lib.hid ht2'
  clear hr2 ht2'
  go_wp2_with fail
  refine (u16_yes w.heap.size S _ _ Hr2.out (by omega)).mono ?_
  rintro e w3 ⟨rfl, hr3, ht3⟩
  rw [← HT.out]
  have Hr3 := Lib.hid hr3
  have T3 := Lib.hid (T2.out.trans ht3)
  clear hr3 ht3 T2 Hr2 Hr1
  go_wp2_with fail
  refine (take_yes w.heap.size S _ 6 _ rfl _ Hr3.out (by omega) (by omega)).mono ?_
  rintro e w4 ⟨⟨v4, rfl⟩, hr4, ht4⟩
  have Hr4 := Lib.hid hr4
  have T4 := Lib.hid (T3.out.trans ht4)
  clear hr4 ht4 T3 Hr3
  go_wp2_with fail
  refine (words_any w.heap.size S _ n _ HTN.out false _ Hr4.out (by omega)).mono ?_
  rintro e w5 ⟨v5, rfl, hr5, ht5, ho5⟩
  rw [wst_yes S _ n (by omega)] at hr5 ho5
  have Hr5 := Lib.hid hr5
  have T5 := Lib.hid (T4.out.trans ht5)
  have Ho5 := Lib.hid (own_mono ho5 (show w.heap.size + 1 ≤ w4.heap.size by have := T4.out.size; have := hr0.out; omega))
  clear hr5 ht5 ho5 T4 Hr4
  go_wp2_with fail
  refine (u16_yes w.heap.size S _ _ Hr5.out (by omega)).mono ?_
  rintro e w6 ⟨rfl, hr6, ht6⟩
  have Hr6 := Lib.hid hr6
  have T6 := Lib.hid (T5.out.trans ht6)
  have Ho6 := Lib.hid (OwnI.turns Ho5.out ht6 (by omega))
  clear hr6 ht6 T5 Hr5 Ho5
  go_wp2_with fail
  refine (words_any w.heap.size S _ n _ HTN.out false _ Hr6.out (by omega)).mono ?_
  rintro e w7 ⟨v7, rfl, hr7, ht7, ho7⟩
  rw [wst_yes S _ n (by omega)] at hr7 ho7
  have Hr7 := Lib.hid hr7
  have T7 := Lib.hid (T6.out.trans ht7)
  have Ho7 := Lib.hid (own_mono ho7 (show w.heap.size + 1 ≤ w6.heap.size by have := T6.out.size; have := hr0.out; omega))
  have Hp7 := Lib.hid (OwnI.turns Ho6.out ht7 (by omega))
  clear hr7 ht7 ho7 T6 Hr6 Ho6
  go_wp2_with fail
  refine (words_any w.heap.size S _ n _ HTN.out false _ Hr7.out (by omega)).mono ?_
  rintro e w8 ⟨v8, rfl, hr8, ht8, ho8⟩
  rw [wst_yes S _ n (by omega)] at hr8 ho8
  have Hr8 := Lib.hid hr8
  have T8 := Lib.hid (T7.out.trans ht8)
  have Ho8 := Lib.hid (own_mono ho8 (show w.heap.size + 1 ≤ w7.heap.size by have := T7.out.size; have := hr0.out; omega))
  have Hp8 := Lib.hid (OwnI.turns Hp7.out ht8 (by omega))
  have Hq8 := Lib.hid (OwnI.turns Ho7.out ht8 (by omega))
  clear hr8 ht8 ho8 T7 Hr7 Ho7 Hp7
  go_wp2_with fail
  refine (at_any w.heap.size _ _ _ _ Hr8.out.rd).mono ?_
  rintro e w9 ⟨rfl, rfl⟩
  go_wp2_with fail
  refine (words_any w.heap.size S _ n _ HTN.out false _ Hr8.out (by omega)).mono ?_
  rintro e w9 ⟨v9, rfl, hr9, ht9, ho9⟩
  rw [wst_yes S _ n (by omega)] at hr9 ho9
  have T9 := Lib.hid (T8.out.trans ht9)
  have HO := Lib.hid (own_mono ho9 (show w.heap.size + 1 ≤ w8.heap.size by have := T8.out.size; have := hr0.out; omega))
  have HE := Lib.hid (OwnI.turns Hp8.out ht9 (by omega))
  have HF := Lib.hid (OwnI.turns Hq8.out ht9 (by omega))
  have HD := Lib.hid (OwnI.turns Ho8.out ht9 (by omega))
  have HR : Hid (Rows4 w9 (w.heap.size + 1) S n v5 v7 v8 v9) := by
    refine ⟨HE.out, ?_, ?_, ?_⟩
    · have := HF.out
      rwa [show 14 + 2 * n + 2 = 16 + 2 * n by omega] at this
    · have := HD.out
      rwa [show 14 + 2 * n + 2 + 2 * n = 16 + 4 * n by omega] at this
    · have := HO.out
      rwa [show 14 + 2 * n + 2 + 2 * n + 2 * n = 16 + 6 * n by omega] at this
  obtain ⟨gE, cE, rfl, _, _⟩ := World.ownsRow.form HE.out (by rw [nums_len]; omega)
  obtain ⟨gF, cF, rfl, _, _⟩ := World.ownsRow.form HF.out (by rw [nums_len]; omega)
  obtain ⟨gD, cD, rfl, _, _⟩ := World.ownsRow.form HD.out (by rw [nums_len]; omega)
  obtain ⟨gO, cO, rfl, _, _⟩ := World.ownsRow.form HO.out (by rw [nums_len]; omega)
  have HB := Lib.hid (Below.trans Hb1.out (T9.out.below (Nat.le_refl _) Hb1.out.size))
  have Hs1 := Lib.hid (Nat.lt_of_lt_of_le hr0.out T9.out.size)
  clear hr9 ht9 ho9 T8 Hr8 Ho8 Hp8 Hq8 HE HF HD HO T9 Hb1 hr0
  simp only [nums_len] at HR ⊢
  go_wp2_with fail
  go_loopw [12, 13, 66] (fun v lv i wr => ∃ (k : Nat) (last : Int) (l : List Seg), k ≤ n ∧ i = .int .i64 k ∧ lv = .int .i64 last ∧ st4 S n k = some (last, l) ∧ w.heap.size < wr.heap.size ∧
      Rows4 wr (w.heap.size + 1) S n (.slice (some ⟨gE, 0, none⟩) n cE) (.slice (some ⟨gF, 0, none⟩) n cF) (.slice (some ⟨gD, 0, none⟩) n cD) (.slice (some ⟨gO, 0, none⟩) n cO) ∧ Below w.heap.size w wr ∧ SegsAt wr (w.heap.size + 1) v l) (fun _ _ i _ => n - (intOf i).toNat)
  case atStart => exact ⟨0, -1, [], Nat.zero_le _, rfl, rfl, rfl, Hs1.out, HR.out, HB.out, SegsAt.nil _ _⟩
  case round =>
    obtain ⟨k, last, l, hkn, rfl, rfl, hst, hsz, hro, hb, hs⟩ := hrel
    have hlast := st4_last S n HB2.out k _ hst (by omega)
    have hl0 : -1 ≤ last := hlast.1
    have hl1 : last ≤ 65535 := hlast.2
    have HST := Lib.hid hst
    have HL : Hid (l.length = k) := st4_len S n k _ hst
    have HRo := Lib.hid hro
    have HBr := Lib.hid hb
    have HSG := Lib.hid hs
    have HSZ := Lib.hid hsz
    clear hst hro hb hs hlast HB HR Hs1 hsz
    by_cases hlt : k < n
    · have cf : wr.cell? ⟨gF, k, none⟩ = some (.int .i64 (first4 S n k)) := HRo.out.f.cellAt (nums_at S _ n k hlt)
      have ce : wr.cell? ⟨gE, k, none⟩ = some (.int .i64 (end4 S n k)) := HRo.out.e.cellAt (nums_at S _ n k hlt)
      have cd : wr.cell? ⟨gD, k, none⟩ = some (.int .i64 (delta4 S n k)) := HRo.out.d.cellAt (nums_at S _ n k hlt)
      have f0 : 0 ≤ first4 S n k := (HB2.out _ (by omega)).1
      have f1 : first4 S n k < 65536 := (HB2.out _ (by omega)).2
      have e0 : 0 ≤ end4 S n k := (HB2.out _ (by omega)).1
      have e1 : end4 S n k < 65536 := (HB2.out _ (by omega)).2
      have d0 : 0 ≤ delta4 S n k := (HB2.out _ (by omega)).1
      have d1 : delta4 S n k < 65536 := (HB2.out _ (by omega)).2
      have o0 : 0 ≤ off4 S n k := (HB2.out _ (by omega)).1
      have o1 : off4 S n k < 65536 := (HB2.out _ (by omega)).2
      have htn : (k : Int) < t / 2 := by omega
      have nf := fun (o : Obj) => (World.cell?_alloc_lt wr o ⟨gF, k, none⟩ (World.block_lt_of_cell? wr _ cf)).trans cf
      have ne := fun (o : Obj) => (World.cell?_alloc_lt wr o ⟨gE, k, none⟩ (World.block_lt_of_cell? wr _ ce)).trans ce
      have nd := fun (o : Obj) => (World.cell?_alloc_lt wr o ⟨gD, k, none⟩ (World.block_lt_of_cell? wr _ cd)).trans cd
      go_wp2_with fail
      go_region
      clear nf ne nd cf ce cd
      have co : wr.cell? ⟨gO, k, none⟩ = some (.int .i64 (off4 S n k)) := HRo.out.o.cellAt (nums_at S _ n k hlt)
      have no := fun (o : Obj) => (World.cell?_alloc_lt wr o ⟨gO, k, none⟩ (World.block_lt_of_cell? wr _ co)).trans co
      by_cases hA : end4 S n k < first4 S n k
      · have HX : Hid (load4O S n = none) := load4O_none (st4_bad HST.out (.inl hA)) (by omega)
        go_wp2
        go_ret2
        rw [HX.out]
        exact ⟨(HBr.out.alloc (by have := HSZ.out; omega) _).drew, _, rfl⟩
      · by_cases hB : first4 S n k ≤ last
        · have HX : Hid (load4O S n = none) := load4O_none (st4_bad HST.out (.inr (.inl hB))) (by omega)
          go_wp2
          go_ret2
          rw [HX.out]
          exact ⟨(HBr.out.alloc (by have := HSZ.out; omega) _).drew, _, rfl⟩
        · obtain ⟨lvs, g1, g2, g3⟩ := HSG.out
          have G1 := Lib.hid g1
          have G2 := Lib.hid g2
          have G3 := Lib.hid g3
          clear g1 g2 g3 HSG
          by_cases hh : has4 S n k = true
          · have HH : Hid (has4 S n k = true) := hh
            clear hh
            have b1 : (off4 S n k != 0) = true := by
              have := HH.out
              simp only [has4, Bool.and_eq_true] at this
              exact this.1
            have HD4 : Hid ((off4 S n k == 65535 && first4 S n k == 65535) = false) := by
              have := HH.out
              simp only [has4, Bool.and_eq_true, Bool.not_eq_true'] at this
              exact this.2
            by_cases hX : (off4 S n k == 65535) = true
            case' pos =>
              have b3 : (first4 S n k == 65535) = false := by
                have := HD4.out
                simp only [hX, Bool.true_and] at this
                exact this
            case' neg =>
              have b2 : (off4 S n k == 65535) = false := by simpa using hX
              clear hX
            all_goals
              go_wp2_with fail
              have HW0 : Hid (Below wr.heap.size wr ((wr.alloc (.cells (segCells (seg4 S n k) (.slice none 0 0)).toArray 59)).drew)) := ((Below.refl _ _).alloc (Nat.le_refl _) _).drew
              have HK0 : Hid (Blk ((wr.alloc (.cells (segCells (seg4 S n k) (.slice none 0 0)).toArray 59)).drew) wr.heap.size 59 (segCells (seg4 S n k) (.slice none 0 0)).toArray) := Blk.new wr _ _
              have HI0 := Lib.hid (H.out.below (Below.trans HBr.out (HW0.out.mono (by have := HSZ.out; omega))))
              refine (listed_any S (seg4 S n k) (16 + 6 * n + 2 * k) (off4 S n k).toNat (cnt4 S n k) _ _ (by omega) (by omega) _ HI0.out f0 (by simp only [seg4]; omega) e1 (by simp only [seg4, cnt4]; omega) (by omega)).mono ?_
              rintro e w11 ⟨hb, hres⟩
              have HB11 := Lib.hid (Below.trans HW0.out (hb.mono HW0.out.size))
              have HK11 := Lib.hid (Blk.below HK0.out hb (Blk.lt HK0.out))
              clear hb
              cases hL : list4 S n k with
              | none =>
                have HX : Hid (load4O S n = none) := load4O_none (st4_bad HST.out (.inr (.inr ⟨HH.out, hL⟩))) (by omega)
                unfold list4 at hL
                rw [hL] at hres
                obtain ⟨lA, lm, lc, rfl⟩ := hres
                clear hL
                have c0 : w11.cell? ⟨wr.heap.size, 0, none⟩ = some (.int .i64 (first4 S n k)) := HK11.out.cell 0
                have c1 : w11.cell? ⟨wr.heap.size, 1, none⟩ = some (.int .i64 (end4 S n k)) := HK11.out.cell 1
                have c2 : w11.cell? ⟨wr.heap.size, 2, none⟩ = some (.int .i64 (first4 S n k + delta4 S n k)) := HK11.out.cell 2
                have c3 : w11.cell? ⟨wr.heap.size, 3, none⟩ = some (.bool true) := HK11.out.cell 3
                have c4 : w11.cell? ⟨wr.heap.size, 4, none⟩ = some (.slice none 0 0) := HK11.out.cell 4
                have c5 : w11.cell? ⟨wr.heap.size, 5, none⟩ = some (.int .i64 (delta4 S n k)) := HK11.out.cell 5
                have f0' := HK11.out.frozen 0
                have f1' := HK11.out.frozen 1
                have f2' := HK11.out.frozen 2
                have f3' := HK11.out.frozen 3
                have f4' := HK11.out.frozen 4
                have f5' := HK11.out.frozen 5
                unfold segCells
                go_wp2
                go_ret2
                rw [HX.out]
                have hb11 : Below w.heap.size w w11 := Below.trans HBr.out (HB11.out.mono (by have := HSZ.out; omega))
                have hsz := HSZ.out
                exact ⟨by go_grown, _, rfl⟩
              | some lst =>
                unfold list4 at hL
                rw [hL] at hres
                obtain ⟨lv, rfl, hlv⟩ := hres
                obtain ⟨lg, lm, lc, rfl⟩ : ∃ g m c, lv = .slice (some ⟨g, 0, none⟩) m c := by
                  rcases hlv with ⟨h1, _⟩ | ⟨l', _, h2, h3⟩
                  · cases h1
                  · obtain ⟨g, cap, hv, _, _⟩ := World.ownsRow.form h3 (List.length_pos_iff.2 h2)
                    exact ⟨g, _, cap, hv⟩
                have HLV := Lib.hid hlv
                have HL2 : Hid (list4 S n k = some lst) := hL
                clear hL hlv
                have c0 : w11.cell? ⟨wr.heap.size, 0, none⟩ = some (.int .i64 (first4 S n k)) := HK11.out.cell 0
                have c1 : w11.cell? ⟨wr.heap.size, 1, none⟩ = some (.int .i64 (end4 S n k)) := HK11.out.cell 1
                have c2 : w11.cell? ⟨wr.heap.size, 2, none⟩ = some (.int .i64 (first4 S n k + delta4 S n k)) := HK11.out.cell 2
                have c3 : w11.cell? ⟨wr.heap.size, 3, none⟩ = some (.bool true) := HK11.out.cell 3
                have c4 : w11.cell? ⟨wr.heap.size, 4, none⟩ = some (.slice none 0 0) := HK11.out.cell 4
                have c5 : w11.cell? ⟨wr.heap.size, 5, none⟩ = some (.int .i64 (delta4 S n k)) := HK11.out.cell 5
                have f0' := HK11.out.frozen 0
                have f1' := HK11.out.frozen 1
                have f2' := HK11.out.frozen 2
                have f3' := HK11.out.frozen 3
                have f4' := HK11.out.frozen 4
                have f5' := HK11.out.frozen 5
                unfold segCells
                go_wp2_with (at_builtin; refine held_ ?_)
                refine unheld_ ?_
                have hb11' := HB11.out
                have hsz := HSZ.out
                have tt6 := six_turns w11 wr.heap.size (.int .i64 (seg4 S n k).first) (.int .i64 (seg4 S n k).last) (.int .i64 (seg4 S n k).glyph) (.bool (seg4 S n k).rounds) (.slice (some ⟨lg, 0, none⟩) lm lc) (.int .i64 (seg4 S n k).delta) (.cells (segCells (seg4 S n k) (.slice (some ⟨lg, 0, none⟩) lm lc)).toArray 59)
                have HBx := Lib.hid (Below.trans hb11' (tt6.below (Nat.le_refl _) hb11'.size))
                have HLx := Lib.hid (HLV.out.kept tt6.g (fun l' hl' => by
                  right
                  intro e
                  have h5 := (World.ownsRow.lt hl' _ e).1
                  have h6 : wr.heap.size + 1 ≤ wr.heap.size := by simpa using h5
                  omega))
                clear tt6
                refine wpList_append_own _ rfl (.tmp 130) (.tmp 132) 48 rfl (w.heap.size + 1) 59 i0 _ 6 64 Try.underlying48 hi hz0 hz1 hz2 rfl (by decide) _ l.length (List.zipWith segCells l lvs).flatten rfl (own_below G2.out HBx.out) ⟨w11.heap.size, 0, none⟩ 1 1 (segCells (seg4 S n k) (.slice (some ⟨lg, 0, none⟩) lm lc)) rfl rfl ?hc ?h1 ?c3 ?c4 ?c5 ?_
                case hc => exact cells_new_at _ _ _ _ (six_size _ _ _ _ _ _ _ _).symm
                case h1 => simp [segCells, Value.oneCell']
                case c3 => rw [HL.out]; unfold maxLen; omega
                case c4 => rw [HL.out]; omega
                case c5 => exact Nat.le_trans hsz HBx.out.size
                intro v' w10 hown hg hx
                have hrow : ∀ g, Value.ownBlock u12 = some g → w.heap.size + 1 ≤ g := fun g e => (World.ownsRow.lt G2.out g e).1
                have hnb : Hid (¬ bad4 S n k last) := by
                  show ¬ _
                  rintro (h1 | h1 | ⟨_, h1⟩)
                  · omega
                  · omega
                  · rw [HL2.out] at h1; cases h1
                have hl4 : (seg4 S n k).list = some lst := by simp [seg4, HH.out, HL2.out]
                have HS8 := Lib.hid (SegsAt.snoc (s := seg4 S n k) G1.out (own_below G2.out HBx.out) (fun i s lv a b => (G3.out i s lv a b).below HBx.out) (by rw [hl4]; exact HLx.out.mono (by simp; omega)) hown hg)
                have HR8 := Lib.hid ((HRo.out.below HBx.out).kept (own_below G2.out HBx.out) hg)
                have HB8 := Lib.hid ((HBr.out.trans (HBx.out.mono (by omega))).grown hg (by have := HBx.out.size; omega) (fun g e => by have := hrow g e; omega))
                have HZ8 := Lib.hid (Nat.lt_of_lt_of_le hsz (Nat.le_trans HBx.out.size hg.size))
                clear hl4 hown hg hx hrow hsz G1 G2 G3 HBx HLx hb11' HLV HK11 HB11 HI0 HK0 HW0 c0 c1 c2 c3 c4 c5 f0' f1' f2' f3' f4' f5'
                go_wp2
                go_roundw
                case rel => exact ⟨k + 1, _, _, by omega, by go_num, rfl, st4_good HST.out hnb.out, HZ8.out, HR8.out, HB8.out, HS8.out⟩
                case measure => simp [intOf]; omega
          · have HH : Hid (has4 S n k = false) := by show _ = _; simpa using hh
            have hnb : Hid (¬ bad4 S n k last) := by
              show ¬ _
              rintro (h1 | h1 | ⟨h1, _⟩)
              · exact hA h1
              · exact hB h1
              · exact hh h1
            clear hh
            by_cases hC0 : off4 S n k = 0
            case' pos => have b1 : (off4 S n k != 0) = false := by simp [hC0]
            case' neg =>
              have b1 : (off4 S n k != 0) = true := by simpa using hC0
              have b2 : (off4 S n k == 65535) = true := by
                have := HH.out
                simp only [has4, b1, Bool.true_and, Bool.not_eq_false', Bool.and_eq_true] at this
                exact this.1
              have b3 : (first4 S n k == 65535) = true := by
                have := HH.out
                simp only [has4, b1, Bool.true_and, Bool.not_eq_false', Bool.and_eq_true] at this
                exact this.2
            all_goals
              clear hC0
              go_wp2_with (at_builtin; refine held_ ?_)
              refine unheld_ ?_
              refine wpList_append_own _ rfl (.tmp 130) (.tmp 132) 48 rfl (w.heap.size + 1) 59 i0 _ 6 64 Try.underlying48 hi hz0 hz1 hz2 rfl (by decide) _ l.length (List.zipWith segCells l lvs).flatten rfl ?own ⟨wr.heap.size + 1, 0, none⟩ 1 1 (segCells (seg4 S n k) (.slice none 0 0)) rfl rfl ?hc ?h1 ?c3 ?c4 ?c5 ?_
              case own => exact (World.ownsRow.alloc (World.ownsRow.alloc G2.out _) _)
              case hc =>
                exact cells_new_at (wr.alloc (.cells (segCells (seg4 S n k) (.slice none 0 0)).toArray 59)) _ _ _ (by simp)
              case h1 => simp [segCells, Value.oneCell']
              case c3 => rw [HL.out]; unfold maxLen; omega
              case c4 => rw [HL.out]; omega
              case c5 => have := HSZ.out; simp; omega
              intro v' w10 hown hg hx
              have hrow : ∀ g, Value.ownBlock u12 = some g → w.heap.size + 1 ≤ g := fun g e => (World.ownsRow.lt G2.out g e).1
              have hsz := HSZ.out
              have HBx : Below wr.heap.size wr (((wr.alloc (.cells (segCells (seg4 S n k) (.slice none 0 0)).toArray 59)).alloc (.cells (segCells (seg4 S n k) (.slice none 0 0)).toArray 59)).drew) := (((Below.refl _ _).alloc (Nat.le_refl _) _).alloc (by simp) _).drew
              have HS8 := Lib.hid (SegsAt.snoc (s := seg4 S n k) (lv := .slice none 0 0) G1.out (own_below G2.out HBx) (fun i s lv a b => (G3.out i s lv a b).below HBx) (.inl ⟨by simp [seg4, HH.out], rfl⟩) hown hg)
              have HR8 := Lib.hid ((HRo.out.below HBx).kept (own_below G2.out HBx) hg)
              have HB8 := Lib.hid ((HBr.out.trans (HBx.mono (by omega))).grown hg (by have := HBx.size; omega) (fun g e => by have := hrow g e; omega))
              have HZ8 := Lib.hid (Nat.lt_of_lt_of_le hsz (Nat.le_trans HBx.size hg.size))
              clear hown hg hx hrow HBx hsz G1 G2 G3
              go_wp2
              go_roundw
              case rel => exact ⟨k + 1, _, _, by omega, by go_num, rfl, st4_good HST.out hnb.out, HZ8.out, HR8.out, HB8.out, HS8.out⟩
              case measure => simp [intOf]; omega
    · have hge : ¬ (k : Int) < t / 2 := by omega
      have hkn' : k = n := by omega
      by_cases hq : last = 65535
      · have hq2 : (last == 65535) = true := by simpa using hq
        have HX : Hid (load4O S n = some l) := by
          have := HST.out
          rw [hkn'] at this
          show load4O S n = _
          rw [load4O, this]
          simp [hq]
        clear hq
        go_wp2
        go_ret2
        rw [HX.out]
        exact ⟨HBr.out, _, rfl, SegsAt.mono HSG.out (by omega)⟩
      · have hq2 : (last == 65535) = false := by simpa using hq
        have HX : Hid (load4O S n = none) := by
          have := HST.out
          rw [hkn'] at this
          show load4O S n = _
          rw [load4O, this]
          simp [hq]
        clear hq
        go_wp2
        go_ret2
        rw [HX.out]
        exact ⟨HBr.out, _, rfl⟩

end Go.Proofs.Ythfppmamnnnnmaa
