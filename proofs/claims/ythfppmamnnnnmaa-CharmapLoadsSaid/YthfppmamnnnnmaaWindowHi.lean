/-
  'window' from a code point that is out of bounds.
-/
import Derived.Test.YthfppmamnnnnmaaWindow
set_option linter.unusedVariables false
namespace Go.Proofs.Ythfppmamnnnnmaa
open Go.RowKit Go.Shelf

attribute [local go_sem] Oper.semAt_some

set_option maxRecDepth 100000 in
set_option maxHeartbeats 4000000 in
theorem window_hi (p px : Nat) (S : Src) (f n from_ stop_ : Int) (l : List Seg) (w : World) (hm : MapAt w p f n l) (hx : RMapAt w px S f n) (hf : fmtB f = true) (hlo : loadO S f = some l) (hl : SegsOk l) (hf_ : 1114112 < from_) :
    Calls Try.prog 9 #[.pointer (some ⟨p, 0, none⟩), .pointer (some ⟨px, 0, none⟩), .int .i64 from_, .int .i64 stop_] w fun e w' => e = .returned (.bool true) ∧ Below w.heap.size w w' := by
  refine (callsIn_wide (n := 9)).1 ?_
  have HM := Lib.hid hm
  have HX := Lib.hid hx
  have HF := Lib.hid hf
  have HLO := Lib.hid hlo
  have HL := Lib.hid hl
  clear hm hx hf hlo hl
  refine callsIn_of_wp_marks Try.func9 rfl trivial ?_ rfl
  refine wpIn_wide.2 ?_
  simp only [Try.ntmps9, List.size_toArray, List.length_cons, List.length_nil, Nat.reduceAdd, Nat.reduceSub, Array.replicate_succ, Array.replicate_zero, List.push_toArray, List.append_toArray, List.nil_append, List.cons_append]
  have HSZ : Hid (((w.alloc (.cells #[.int .i64 stop_] 3)).alloc (.cells #[.bool false] 4)).heap.size = w.heap.size + 2) := by show _ = _; simp
  have HB0 := Lib.hid (((Below.refl _ w).alloc (Nat.le_refl _) (.cells #[.int .i64 stop_] 3)).alloc (by simp) (.cells #[.bool false] 4))
  have HS := Lib.hid ((Blk.new w 3 #[.int .i64 stop_]).alloc (.cells #[.bool false] 4))
  have HR := Blk.new (w.alloc (.cells #[.int .i64 stop_] 3)) 4 #[.bool false]
  rw [World.size_alloc] at HR
  replace HR := Lib.hid HR
  obtain ⟨i0, hi, hz0, hz1, hz2⟩ := info_parts Try.info37
  go_wp2_with fail
  go_at_call 11
  obtain ⟨w2, hw2⟩ : ∃ w2, w2 = (w.alloc (.cells #[.int .i64 stop_] 3)).alloc (.cells #[.bool false] 4) := ⟨_, rfl⟩
  rw [← hw2] at HB0 HS HR HSZ ⊢
  clear hw2
  refine (All_any p 0 (300) w2).mono ?_
  rintro e w3 ⟨rfl, hb3, hs3, k0, k1, k2⟩
  have HB3 := Lib.hid hb3
  have Hs3 := Lib.hid hs3
  clear hs3
  have HS3 := Lib.hid (HS.out.below hb3 HS.out.lt)
  have HR3 := Lib.hid (HR.out.below hb3 HR.out.lt)
  have HM3 := Lib.hid (HM.out.below (HB0.out.trans (hb3.mono (by have := HSZ.out; omega))))
  have HX3 := Lib.hid (HX.out.below (HB0.out.trans (hb3.mono (by have := HSZ.out; omega))))
  have K0 := Lib.hid k0
  have K1 := Lib.hid k1
  have K2 := Lib.hid k2
  clear hb3 k0 k1 k2
  have cf : w3.cell? ⟨px, 1, none⟩ = some (.int .i64 f) := HX3.out.blk.cell 1
  have hff : (f != f) = false := by simp
  have hee := eql_func_nil
  go_wp2
  go_quiet ((go_at_call 12; exact Calls.quiet_of_same ((Format_any p f n l _ (HM3.out.drewN _)).mono fun _ _ h => ⟨h.1, h.2.symm⟩)))
  obtain ⟨w4, hw4⟩ : ∃ w4, w4 = w3.drewN nq := ⟨_, rfl⟩
  have Hs4 : Hid (w4.heap.size = w3.heap.size) := by show _ = _; rw [hw4]; rfl
  have hb4 : Below w2.heap.size w2 w4 := by rw [hw4]; exact HB3.out.trans (below_drewN _ _ _)
  have HB4 := Lib.hid hb4
  have HS4 : Hid (Blk w4 w.heap.size 3 #[.int .i64 stop_]) := by show Blk _ _ _ _; rw [hw4]; exact HS3.out.drewN _
  have HR4 : Hid (Blk w4 (w.heap.size + 1) 4 #[.bool false]) := by show Blk _ _ _ _; rw [hw4]; exact HR3.out.drewN _
  have HM4 : Hid (MapAt w4 p f n l) := by show MapAt _ _ _ _ _; rw [hw4]; exact HM3.out.drewN _
  have HX4 : Hid (RMapAt w4 px S f n) := by show RMapAt _ _ _ _ _; rw [hw4]; exact HX3.out.below (below_drewN _ _ _)
  have K0' : Hid (Blk w4 w2.heap.size 24 #[.pointer (some ⟨p, 0, none⟩)]) := by show Blk _ _ _ _; rw [hw4]; exact K0.out.drewN _
  have K1' : Hid (Blk w4 (w2.heap.size + 1) 3 #[.int .i64 0]) := by show Blk _ _ _ _; rw [hw4]; exact K1.out.drewN _
  have K2' : Hid (Blk w4 (w2.heap.size + 2) 3 #[.int .i64 (300)]) := by show Blk _ _ _ _; rw [hw4]; exact K2.out.drewN _
  rw [← hw4]
  clear hw4 cf hff hee HS HR HM HX HB3 HS3 HR3 HM3 HX3 K0 K1 K2 hb4
  have HW5 := Lib.hid (Blk.new w4 38 #[.slice none 0 0])
  have Hs5 : Hid ((w4.alloc (.cells #[.slice none 0 0] 38)).heap.size = w4.heap.size + 1) := by show _ = _; simp
  obtain ⟨w5, hw5⟩ : ∃ w5, w5 = w4.alloc (.cells #[.slice none 0 0] 38) := ⟨_, rfl⟩
  have HB5 : Hid (Below w4.heap.size w4 w5) := by show Below _ _ _; rw [hw5]; exact (Below.refl _ _).alloc (Nat.le_refl _) _
  rw [← hw5] at HW5 Hs5
  go_wp2_with fail
  rw [← hw5]
  clear hw5
  go_loopw [11] (fun x wr => ∃ (k : Nat) (v : Value), k ≤ 300 ∧ x = .int .i64 (k : Int) ∧ Hid (Blk wr w4.heap.size 38 #[v]) ∧ Hid (WantAt wr w5.heap.size (glyphV l n) 0 k v) ∧ Hid (Turns w5 wr w4.heap.size))
    (fun x _ => (300 - intOf x).toNat)
  case atStart => exact ⟨0, _, by omega, by simp, HW5, Lib.hid (World.ownsRow_nil _ _ _ _), Lib.hid (Turns.refl _ _)⟩
  case round =>
    obtain ⟨k, v, hk, rfl, HWr, HOr, HTr⟩ := hrel
    have Hb4 := Lib.hid (HB5.out.trans (HTr.out.below (Nat.le_refl _) (by have := Hs5.out; omega)))
    have hsr := HTr.out.size
    obtain ⟨A, cp, rfl⟩ := HOr.out.form
    by_cases hk3 : k < 300
    · have hgg : (glyphV l n (k : Int) != glyphV l n (k : Int)) = false := by simp
      go_wp2_with fail
      refine (RGlyph_any px S f n l _ wr (HX4.out.below Hb4.out) HF.out HLO.out).mono ?_
      rintro e w6 ⟨rfl, q, rfl⟩
      go_wp2_with fail
      refine (Glyph_any p f n l _ _ ((HM4.out.below Hb4.out).drewN q) HL.out).mono ?_
      rintro e w7 ⟨rfl, hb7⟩
      have hs7 : wr.heap.size ≤ w7.heap.size := hb7.size
      have hb7' : Below wr.heap.size wr w7 := (below_drewN _ _ _).trans hb7
      have HW7 := Lib.hid (HWr.out.below hb7' HWr.out.lt)
      have HO7 : Hid (WantAt w7 w5.heap.size (glyphV l n) 0 k (.slice A (wantL (glyphV l n) 0 k).length cp)) := own_below HOr.out hb7'
      have HT7 := Lib.hid (HTr.out.trans (Turns.of_below hb7' _))
      have hwl := wantL_len (glyphV l n) 0 k
      clear hb7 hb7' HWr HOr HTr Hb4
      obtain ⟨G, hG⟩ : ∃ G, G = glyphV l n (k : Int) := ⟨_, rfl⟩
      rw [← hG] at hgg ⊢
      have HG := Lib.hid hG
      clear hG
      have c7 : w7.cell? ⟨w4.heap.size, 0, none⟩ = some (.slice A (wantL (glyphV l n) 0 k).length cp) := HW7.out.cell 0
      have f7 := HW7.out.frozen 0
      by_cases hG0 : G = 0
      · have hz : (G != 0) = false := by simp [hG0]
        have HG0 := Lib.hid hG0
        clear hG0
        go_wp2
        go_roundw
        case rel => exact ⟨k + 1, _, by omega, by simp <;> omega, HW7, Lib.hid (HO7.out.miss0 (by rw [← HG.out]; exact HG0.out)), HT7⟩
        case measure => simp [intOf]; omega
      · have hz : (G != 0) = true := by simpa using hG0
        have HG0 := Lib.hid hG0
        clear hG0
        go_wp2_with (at_builtin; refine held_ ?_)
        refine unheld_ ?_
        refine wpList_append_own _ rfl (.tmp 54) (.tmp 58) 38 rfl w5.heap.size 37 i0 _ 2 16 Try.underlying38 hi hz0 hz1 hz2 rfl (by decide) (.slice A (wantL (glyphV l n) 0 k).length cp) (wantL (glyphV l n) 0 k).length (pairCells (wantL (glyphV l n) 0 k)) rfl (World.ownsRow.alloc HO7.out _) ⟨w7.heap.size, 0, none⟩ 1 1 [.int .i64 (k : Int), .int .i64 G] rfl rfl (cells_new _ _ _) ?h1 ?c3 ?c4 ?c5 ?_
        case h1 => simp [Value.oneCell']
        case c3 => unfold maxLen; omega
        case c4 => omega
        case c5 => simp; omega
        intro v' w8 hown hg hx
        have hrow : ∀ g, Value.ownBlock (.slice A (wantL (glyphV l n) 0 k).length cp) = some g → w5.heap.size ≤ g := fun g e => (World.ownsRow.lt HO7.out g e).1
        have HWn := Lib.hid (own_blk_ne HO7.out HW7.out (by decide))
        have HW8 := Lib.hid ((HW7.out.alloc _).grown hg (by
          rcases HWn.out with e | e
          · rw [e]; simp
          · exact fun e' => e e'.symm))
        have HT8 := Lib.hid ((HT7.out.alloc _).grown hg (fun g e => .inr (hrow g e)))
        have HO8 := Lib.hid hown
        obtain ⟨g8, cap8, rfl, _, _⟩ := World.ownsRow.form hown (by omega)
        have c8 : w8.cell? ⟨w4.heap.size, 0, none⟩ = some (.slice A (wantL (glyphV l n) 0 k).length cp) := HW8.out.cell 0
        have f8 := HW8.out.frozen 0
        clear hrow hown hg hx c7 f7 HW7 HT7
        go_wp2
        go_roundw
        case rel =>
          exact ⟨k + 1, _, by omega, by simp <;> omega, Lib.hid (HW8.out.set_ 0 _), Lib.hid (WantAt.hit0 (by rw [← HG.out]; exact HG0.out) (by
            rw [← HG.out]
            exact World.ownsRow.kept HO8.out (grownBy_setCell' _ _ _) (own_blk_ne HO8.out HW8.out (by decide)))), Lib.hid (HT8.out.setCell (.inl rfl) _)⟩
        case measure => simp [intOf]; omega
    · obtain rfl : k = 300 := by omega
      obtain ⟨V, hV⟩ : ∃ V, V = glyphV l n := ⟨_, rfl⟩
      have HV := Lib.hid hV
      rw [← hV] at HOr HWr ⊢
      obtain ⟨ws, hws⟩ : ∃ ws, ws = wantL V 0 300 := ⟨_, rfl⟩
      have HWS := Lib.hid hws
      have hOr : wr.ownsRow w5.heap.size 37 2 (.slice A (wantL V 0 300).length cp) (wantL V 0 300).length (pairCells (wantL V 0 300)) := HOr.out
      rw [← hws] at hOr HWr
      have HO9 := Lib.hid hOr
      clear HOr hOr hV hws
      have HN9 := Lib.hid (Blk.new wr 3 #[.int .i64 0])
      have HW9 := Lib.hid (HWr.out.alloc (.cells #[.int .i64 0] 3))
      have HT9 := Lib.hid (HTr.out.alloc (.cells #[.int .i64 0] 3))
      have HO9 := Lib.hid (World.ownsRow.alloc HO9.out (.cells #[.int .i64 0] 3))
      have Hs9 : Hid ((wr.alloc (.cells #[.int .i64 0] 3)).heap.size = wr.heap.size + 1) := by show _ = _; simp
      obtain ⟨w9, hw9⟩ : ∃ w9, w9 = wr.alloc (.cells #[.int .i64 0] 3) := ⟨_, rfl⟩
      rw [← hw9] at HN9 HW9 HT9 HO9 Hs9
      go_wp2_with fail
      rw [← hw9]
      clear hw9
      obtain ⟨nb, hnb⟩ : ∃ nb, nb = wr.heap.size := ⟨_, rfl⟩
      rw [← hnb] at HN9 Hs9 ⊢
      have Hnb := Lib.hid hnb
      clear hnb
      refine (wpIn_wide (n := 9)).1 ?_
      refine range_boxed (by omega) rfl (enters_of Try.func32 (by kernel_rfl) rfl) (iter_stops 8 (by omega) w4.heap.size nb p w2.heap.size (w2.heap.size + 1) (w2.heap.size + 2) f n 0 (300) l w4 w9 HM4.out HL.out K0'.out K1'.out K2'.out rfl ?hFT ?hb ?hB)
        ?hn0 (Below.refl _ _) (fun _ => rfl) 61 14 37 (fun x => #[.int .i64 x.1, .int .i64 x.2]) (fun x => .agg #[.int .i64 x.1, .int .i64 x.2])
        (fun pre W => (pre <+: ws ∧ Blk W nb 3 #[.int .i64 pre.length]) ∧ KeepB w4.heap.size nb w9 W)
        (fun c pre W => (c = .ret ∧ (Blk W (w.heap.size + 1) 4 #[.bool true] ∨ ¬ pre <+: ws)) ∧ Below w.heap.size w9 W) ?hI ?hIx ?h0 ?assign ?body ?done ?stop
      case hFT => have := mx_cases 0 0; have := mn_cases (300) 1114112; omega
      case hb => exact HB5.out.trans (HT9.out.below (Nat.le_refl _) (by have := Hs5.out; omega))
      case hB => rw [Hs9.out]; omega
      case hn0 => have := HT9.out.size; have := Hs5.out; omega
      case hI => exact OwnFrom.and (OwnFrom.and (ownFrom_pure _ _) (fun s W W' row h hg hr => blk_own h hg (fun r e => (hr r e).2))) (keepB_own _ _ _ (by have := HT9.out.size; have := Hs5.out; omega))
      case hIx =>
        intro c s W W' row h hg hr
        have hsz : w.heap.size ≤ w9.heap.size := by have := HT9.out.size; have := Hs5.out; have := HB4.out.size; have := HSZ.out; omega
        exact ⟨⟨h.1.1, h.1.2.imp (fun b => blk_own b hg (fun r e => (hr r e).2)) id⟩, h.2.grown hg (Nat.le_trans hsz h.2.size) (fun k e => Nat.le_trans hsz (hr k e).1)⟩
      case h0 => exact ⟨⟨List.nil_prefix, HN9.out⟩, Below.refl _ _, fun _ _ _ _ h => h⟩
      case assign =>
        intro lp pre x W K hI hK
        obtain ⟨⟨hp, hn⟩, hk⟩ := hI
        dsimp only [encP]
        gi_wp2
        exact hK _ _ ((KeepsOthers.alloc _ _).from _) ⟨(Below.refl _ W).alloc (Nat.le_trans (by have := HT9.out.size; have := Hs5.out; omega) hk.b.size) _, fun g t cs _ hb => hb.alloc _⟩ ⟨⟨hp, hn.alloc _⟩, hk.trans ⟨(Below.refl _ W).alloc (Nat.le_trans (by have := HT9.out.size; have := Hs5.out; omega) hk.b.size) _, fun g t cs _ hb => hb.alloc _⟩⟩ ⟨W.heap.size, hk.b.size, Blk.new W 37 _, rfl⟩
      case body =>
        rintro lp pre x a' W hlp ⟨r, hr⟩ ⟨⟨hp, hn⟩, hk⟩ ⟨Bx, hBx, bX, rfl⟩ hlt
        simp only [List.setIfInBounds_toArray, List.set_cons_succ, List.set_cons_zero]
        have c13 : W.cell? ⟨nb, 0, none⟩ = some (.int .i64 pre.length) := hn.cell 0
        have f13 : W.frozen? ⟨nb, 0, none⟩ = false := hn.frozen 0
        have hw4nb' : w4.heap.size < nb := by have := HTr.out.size; have := Hs5.out; have := Hnb.out; omega
        have hw4nb : w4.heap.size ≠ nb := by omega
        have h4w : w.heap.size + 2 ≤ w4.heap.size := by have := HB4.out.size; have := HSZ.out; omega
        have c10 : W.cell? ⟨w4.heap.size, 0, none⟩ = some (.slice A ws.length cp) := (hk.c _ _ _ hw4nb HW9.out).cell 0
        have cx0 : W.cell? ⟨Bx, 0, none⟩ = some (.int .i64 x.1) := bX.cell 0
        have cx1 : W.cell? ⟨Bx, 1, none⟩ = some (.int .i64 x.2) := bX.cell 1
        have HR9 : Blk W (w.heap.size + 1) 4 #[.bool false] := hk.c _ _ _ (by omega) ((HR4.out.below HB5.out HR4.out.lt).turns HT9.out (by omega))
        have HS9 : Blk W w.heap.size 3 #[.int .i64 stop_] := hk.c _ _ _ (by omega) ((HS4.out.below HB5.out HS4.out.lt).turns HT9.out (by omega))
        have cR : W.cell? ⟨w.heap.size + 1, 0, none⟩ = some (.bool false) := HR9.cell 0
        have fR := HR9.frozen 0
        have cS : W.cell? ⟨w.heap.size, 0, none⟩ = some (.int .i64 stop_) := HS9.cell 0
        have hwsl : ws.length ≤ 300 := by rw [HWS.out]; exact wantL_len _ _ _
        by_cases hlen : pre.length < ws.length
        · obtain ⟨g, cap2, hgv, hcap, hcm⟩ := own_form2 HO9.out (by omega)
          obtain ⟨rfl, rfl⟩ : A = some ⟨g, 0, none⟩ ∧ cp = cap2 := by simpa using hgv
          obtain ⟨y, hy⟩ : ∃ y, ws[pre.length]? = some y := ⟨_, List.getElem?_eq_getElem hlen⟩
          obtain ⟨y1, y2⟩ := y
          obtain ⟨x1, x2⟩ := x
          dsimp only at cx0 cx1 bX
          have hgb : g ≠ nb := by
            rcases own_blk_ne HO9.out HN9.out (by decide) with e | e
            · simp [Value.ownBlock] at e
            · simpa [Value.ownBlock] using e
          have cy0 : W.cell? ⟨g, pre.length * 2, none⟩ = some (.int .i64 y1) := own_kept_cell HO9.out hk hgb (pairCells_get ws _ _ _ hy).1
          have cy1 : W.cell? ⟨g, pre.length * 2 + 1, none⟩ = some (.int .i64 y2) := own_kept_cell HO9.out hk hgb (pairCells_get ws _ _ _ hy).2
          have HY := Lib.hid hy
          have HP := Lib.hid hp
          have HK := Lib.hid hk
          have HN := Lib.hid hn
          have HRW := Lib.hid HR9
          clear hy hp hk hn hgv bX HR9 HS9
          by_cases hxy : y1 = x1 ∧ y2 = x2
          · obtain ⟨rfl, rfl⟩ := hxy
            gi_wp2
            refine region_round (by kernel_rfl) (by kernel_rfl) (by kernel_rfl) ?_
            repeat (quiet_step_in (fail))
            refine wpQuietIn_nil ?_
            rintro _ ⟨nq2, rfl⟩
            by_cases hst : ((pre.length : Int) + 1 = stop_)
            · gi_wp2
              refine ⟨((keeps_drewN _ _ _).trans ((KeepsOthers.setCell _ _ _).from _)).trans ((KeepsOthers.setCell _ _ _).from _), ⟨rfl, .inl ?_⟩, ?_⟩
              · exact ((HRW.out.drewN nq2).far (by show w.heap.size + 1 ≠ nb; omega) _).set_ 0 _
              · exact (((HK.out.b.mono (by omega)).trans (below_drewN _ _ _)).setCell (p := ⟨nb, 0, none⟩) (by show w.heap.size ≤ nb; omega) _).setCell (p := ⟨w.heap.size + 1, 0, none⟩) (by simp) _
            · gi_wp2
              exact ⟨(keeps_drewN _ _ _).trans ((KeepsOthers.setCell _ _ _).from _), (keepB_drewN _ _ _ _).trans (keepB_set _ (by omega) _), ⟨prefix_snoc HP.out HY.out, by simpa using (HN.out.drewN nq2).set_ 0 (.int .i64 (pre.length + 1))⟩, (HK.out.trans (keepB_drewN _ _ _ _)).trans (keepB_set _ (by omega) _)⟩
          · have hnp := Lib.hid (prefix_not HY.out (x := (x1, x2)) (fun e => hxy (by simpa using e)))
            have hor : y1 ≠ x1 ∨ (y1 = x1 ∧ y2 ≠ x2) := by omega
            clear hxy
            rcases hor with h | ⟨rfl, h⟩
            case' inl => have hb : (y1 == x1) = false := by simpa using h
            case' inr => have hb : (y2 == x2) = false := by simpa using h
            all_goals
              gi_wp2
              refine region_round (by kernel_rfl) (by kernel_rfl) (by kernel_rfl) ?_
              repeat (quiet_step_in (fail))
              refine wpQuietIn_nil ?_
              rintro _ ⟨nq2, rfl⟩
              gi_wp2
              exact ⟨(keeps_drewN _ _ _).trans ((KeepsOthers.setCell _ _ _).from _), ⟨rfl, .inr hnp.out⟩, ((HK.out.b.mono (by omega)).trans (below_drewN _ _ _)).setCell (p := ⟨w.heap.size + 1, 0, none⟩) (by simp) _⟩
        · have hlen' : ws.length ≤ pre.length := by omega
          gi_wp2
          refine region_round (by kernel_rfl) (by kernel_rfl) (by kernel_rfl) ?_
          repeat (quiet_step_in (fail))
          refine wpQuietIn_nil ?_
          rintro _ ⟨nq2, rfl⟩
          gi_wp2
          exact ⟨(keeps_drewN _ _ _).trans ((KeepsOthers.setCell _ _ _).from _), ⟨rfl, .inr fun hpp => by have := hpp.length_le; simp at this; omega⟩, ((hk.b.mono (by omega)).trans (below_drewN _ _ _)).setCell (p := ⟨w.heap.size + 1, 0, none⟩) (by simp) _⟩
      case done =>
        rintro D xs W hD hxe ⟨⟨hp, hn⟩, hk⟩ hK
        have hD2 := hD
        have hxs : wantL (glyphV l n) (mx 0 0) (mn (300) 1114112 - mx 0 0).toNat = ws := by rw [HWS.out, HV.out]; exact wantL_window0 l n
        replace hxs := hxe.trans hxs
        rw [hxs] at hn
        clear hxe hxs
        have hw4nb' : w4.heap.size < nb := by have := HTr.out.size; have := Hs5.out; have := Hnb.out; omega
        have h4w : w.heap.size + 2 ≤ w4.heap.size := by have := HB4.out.size; have := HSZ.out; omega
        have c13 : W.cell? ⟨nb, 0, none⟩ = some (.int .i64 ws.length) := hn.cell 0
        have c10 : W.cell? ⟨w4.heap.size, 0, none⟩ = some (.slice A ws.length cp) := (hk.c _ _ _ (by omega) HW9.out).cell 0
        have HR9 : Blk W (w.heap.size + 1) 4 #[.bool false] := hk.c _ _ _ (by omega) ((HR4.out.below HB5.out HR4.out.lt).turns HT9.out (by omega))
        have cR : W.cell? ⟨w.heap.size + 1, 0, none⟩ = some (.bool false) := HR9.cell 0
        have fR := HR9.frozen 0
        have HRR := Lib.hid HR9
        have HK := Lib.hid hk
        clear hp hn hk HR9
        have HBw := Lib.hid ((((HB0.out.trans (HB4.out.mono (by have := HSZ.out; omega))).trans (HB5.out.mono (by omega))).trans (HT9.out.below (B := w.heap.size) (by omega) (by have := Hs5.out; omega))).trans (HK.out.b.mono (by omega)))
        have hDw : w.heap.size ≤ D := by have := HT9.out.size; have := Hs5.out; omega
        go_wp2
        have hK' := (KeepsOthers.setCell W ⟨w.heap.size + 1, 0, none⟩ (.bool true)).same D _ hK rfl
        refine ⟨by simp, .inl ⟨_, _, rfl, run_takeDeferred hK', ?_⟩⟩
        have hR2 : Blk (W.setCell ⟨w.heap.size + 1, 0, none⟩ (.bool true)) (w.heap.size + 1) 4 #[.bool true] := HRR.out.set_ 0 _
        have hc5 := cell_kept (hR2.cell 0) (grownBy_putObj' _ D (.deferred none)) (fun r e => by cases e; exact ⟨_, hK', rfl⟩)
        refine ⟨.bool true, ?_, rfl, (HBw.out.setCell (p := ⟨w.heap.size + 1, 0, none⟩) (by simp) _).trans (belowK_b (w := w) (Nat.le_refl _) _ D _ _ hDw hK' rfl rfl)⟩
        simp [results, Try.f9, go_sem, hc5]
      case stop =>
        rintro D c pre W hD hpre ⟨⟨rfl, hor⟩, hB⟩ hK
        have hxs : wantL (glyphV l n) (mx 0 0) (mn (300) 1114112 - mx 0 0).toNat = ws := by rw [HWS.out, HV.out]; exact wantL_window0 l n
        rw [hxs] at hpre
        have hR : Blk W (w.heap.size + 1) 4 #[.bool true] := by
          rcases hor with h | h
          · exact h
          · exact absurd hpre h
        have h4w : w.heap.size + 2 ≤ w4.heap.size := by have := HB4.out.size; have := HSZ.out; omega
        have HBw := Lib.hid ((((HB0.out.trans (HB4.out.mono (by have := HSZ.out; omega))).trans (HB5.out.mono (by omega))).trans (HT9.out.below (B := w.heap.size) (by omega) (by have := Hs5.out; omega))).trans hB)
        have hDw : w.heap.size ≤ D := by have := HT9.out.size; have := Hs5.out; omega
        gi_wp2
        refine ⟨by simp, .inl ⟨_, _, rfl, run_takeDeferred hK, ?_⟩⟩
        have hc5 := cell_kept (hR.cell 0) (grownBy_putObj' _ D (.deferred none)) (fun r e => by cases e; exact ⟨_, hK, rfl⟩)
        refine ⟨.bool true, ?_, rfl, HBw.out.trans (belowK_b (w := w) (Nat.le_refl _) W D _ _ hDw hK rfl rfl)⟩
        simp [results, Try.f9, go_sem, hc5]

end Go.Proofs.Ythfppmamnnnnmaa
