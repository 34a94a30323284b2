/-
  serifref08.find by formats; (*Map).Glyph of the document.
-/
import Derived.Test.YthfppmamnnnnmaaRFind
set_option linter.unusedVariables false
namespace Go.Proofs.Ythfppmamnnnnmaa
open Go.RowKit

theorem find_4 (S : Src) (l : List Seg) (code : Int) (w : World) (h : InM w S) (hl : loadO S 4 = some l) (c0 : 0 ≤ code) (c1 : code ≤ 1114111) :
    Calls Try.prog 26 #[.slice (some ⟨S.b, S.o, none⟩) S.len S.cap, .int .i64 4, .int .i64 code] w fun e w' => e = .returned (.int .i64 (rawV l code)) ∧ ∃ q, w' = w.drewN q := by
  have H := Lib.hid (find4_any S l code w h hl c0 c1)
  clear h hl
  go_enter Try.func26, Try.ntmps26
  go_wp2_with (go_at_call 46; refine H.out.mono ?_; rintro e w' ⟨rfl, q, rfl⟩)
  go_ret
  exact ⟨rfl, _, rfl⟩

theorem find_0 (S : Src) (l : List Seg) (code : Int) (w : World) (h : InM w S) (hl : loadO S 0 = some l) (c0 : 0 ≤ code) (c1 : code ≤ 1114111) :
    Calls Try.prog 26 #[.slice (some ⟨S.b, S.o, none⟩) S.len S.cap, .int .i64 0, .int .i64 code] w fun e w' => e = .returned (.int .i64 (rawV l code)) ∧ ∃ q, w' = w.drewN q := by
  obtain ⟨h1, rfl⟩ := loadO_0 hl
  have hlen := h.hlen
  by_cases hc : code < 256
  · obtain ⟨k, rfl⟩ : ∃ k : Nat, code = k := ⟨code.toNat, by omega⟩
    have hb := h.bs (6 + k) (by omega)
    have hck : w.cell? ⟨S.b, S.o + (6 + k), none⟩ = some (.int .u8 (S.f (6 + k))) := hb.1
    have x0 := hb.2.1
    have x1 := hb.2.2
    have HV : Hid (rawV [seg0 S] (k : Int) = S.f (6 + k)) := by
      show _ = _
      rw [rawV_in (Rises.one _) (k := 0) rfl (by simp [seg0]) (by simp only [seg0]; omega)]
      have hk : k < 256 := by omega
      have hg : (upto S.f 6 256).getD k 0 = S.f (6 + k) := by simp [upto, hk]
      simp only [segV, seg0, Int.sub_zero, Int.toNat_natCast, hg]
      split
      · rename_i h0; rw [h0]
      · omega
    clear h hl hb
    go_enter Try.func26, Try.ntmps26
    go_wp2
    go_ret
    rw [HV.out]
    exact ⟨rfl, 0, rfl⟩
  · have HV : Hid (rawV [seg0 S] code = 0) := by
      refine rawV_out fun k s hs => ?_
      have hk := (List.getElem?_eq_some_iff.1 hs).1
      simp at hk
      subst hk
      simp at hs
      subst hs
      simp only [seg0]
      omega
    clear h hl
    go_enter Try.func26, Try.ntmps26
    go_wp2
    go_ret
    rw [HV.out]
    exact ⟨rfl, 0, rfl⟩

theorem find_6 (S : Src) (l : List Seg) (code : Int) (w : World) (h : InM w S) (hl : loadO S 6 = some l) (c0 : 0 ≤ code) (c1 : code ≤ 1114111) :
    Calls Try.prog 26 #[.slice (some ⟨S.b, S.o, none⟩) S.len S.cap, .int .i64 6, .int .i64 code] w fun e w' => e = .returned (.int .i64 (rawV l code)) ∧ ∃ q, w' = w.drewN q := by
  obtain ⟨⟨k1, k2, k3⟩, hor⟩ := loadO_6 hl
  have hlen := h.hlen
  have H := Lib.hid h
  have b60 := (be2_bd h.bs (a := 6) (by omega)).1
  have b61 := (be2_bd h.bs (a := 6) (by omega)).2
  have b80 := (be2_bd h.bs (a := 8) (by omega)).1
  have b81 := (be2_bd h.bs (a := 8) (by omega)).2
  by_cases hin : be2 S 6 ≤ code ∧ code < be2 S 6 + be2 S 8
  · have hl2 : l = [seg6 S] := by
      rcases hor with ⟨h0, _⟩ | ⟨_, h0⟩
      · omega
      · exact h0
    subst hl2
    obtain ⟨i, hi⟩ : ∃ i : Nat, code = be2 S 6 + (i : Int) := ⟨(code - be2 S 6).toNat, by omega⟩
    have hp : 10 + 2 * i + 2 ≤ S.len := by omega
    have p0 := (be2_bd h.bs (a := 10 + 2 * i) hp).1
    have p1 := (be2_bd h.bs (a := 10 + 2 * i) hp).2
    have HV : Hid (rawV [seg6 S] code = be2 S (10 + 2 * i)) := by
      show _ = _
      rw [rawV_in (Rises.one _) (k := 0) rfl (by simp only [seg6]; omega) (by simp only [seg6]; omega)]
      have hg : (nums S 10 (be2 S 8).toNat).getD (code - be2 S 6).toNat 0 = be2 S (10 + 2 * i) := by
        rw [List.getD_eq_getElem?_getD, nums_at S _ _ _ (by omega)]
        simp only [Option.getD_some]
        congr 1
        omega
      simp only [segV, seg6, hg]
      split
      · rename_i h0; rw [h0]
      · omega
    have hA := hin.1
    have hB := hin.2
    have HI := Lib.hid hi
    clear h hl hor hin hi
    go_enter Try.func26, Try.ntmps26
    go_wp2_with fail
    refine (r16_any S 6 _ rfl _ H.out (by omega)).mono ?_
    rintro e w1 ⟨rfl, q, rfl⟩
    go_wp2_with fail
    refine (r16_any S 8 _ rfl _ (H.out.drewN _) (by omega)).mono ?_
    rintro e w1 ⟨rfl, q2, rfl⟩
    go_wp2_with fail
    refine (r16_any S (10 + 2 * i) _ (by have := HI.out; omega) _ (H.out.drewN _) (by omega)).mono ?_
    rintro e w1 ⟨rfl, q3, rfl⟩
    go_wp2
    go_ret
    rw [HV.out]
    exact ⟨rfl, _, rfl⟩
  · have HV : Hid (rawV l code = 0) := by
      refine rawV_out fun k s hs => ?_
      rcases hor with ⟨_, rfl⟩ | ⟨_, rfl⟩
      · simp at hs
      · have hk := (List.getElem?_eq_some_iff.1 hs).1
        simp at hk
        subst hk
        simp at hs
        subst hs
        simp only [seg6]
        omega
    have hHin := Lib.hid hin
    by_cases hA : be2 S 6 ≤ code
    case' pos => have hB : ¬ code < be2 S 6 + be2 S 8 := by omega
    all_goals
      clear h hl hor hin
      go_enter Try.func26, Try.ntmps26
      go_wp2_with fail
      refine (r16_any S 6 _ rfl _ H.out (by omega)).mono ?_
      rintro e w1 ⟨rfl, q, rfl⟩
      go_wp2_with fail
      refine (r16_any S 8 _ rfl _ (H.out.drewN _) (by omega)).mono ?_
      rintro e w1 ⟨rfl, q2, rfl⟩
      go_wp2
      go_ret
      rw [HV.out]
      exact ⟨rfl, _, rfl⟩

set_option maxRecDepth 100000 in
set_option maxHeartbeats 1600000 in
theorem find_12 (S : Src) (l : List Seg) (code : Int) (w : World) (h : InM w S) (hl : loadO S 12 = some l) (c0 : 0 ≤ code) (c1 : code ≤ 1114111) :
    Calls Try.prog 26 #[.slice (some ⟨S.b, S.o, none⟩) S.len S.cap, .int .i64 12, .int .i64 code] w fun e w' => e = .returned (.int .i64 (rawV l code)) ∧ ∃ q, w' = w.drewN q := by
  have HOK := Lib.hid (loadO_ok h rfl hl)
  obtain ⟨⟨k1, k2⟩, last, hst⟩ := loadO_12 hl
  have hbd := be4_bd h.bs (a := 12) (by omega)
  obtain ⟨n, hn⟩ : ∃ n, n = (be4 S 12).toNat := ⟨_, rfl⟩
  rw [← hn] at hst
  have hn2 : be4 S 12 = (n : Int) := by omega
  obtain ⟨g1, g2, _⟩ := st12_get S n _ _ hst
  have hll : l.length = n := st12_len S n _ hst
  have G1 := Lib.hid g1
  have HLL := Lib.hid hll
  have H := Lib.hid h
  have HN := Lib.hid hn2
  have hlen := h.hlen
  have HB4 := Lib.hid (fun a (ha : a + 4 ≤ S.len) => be4_bd (a := a) h.bs ha)
  have hle : 16 + 12 * n ≤ S.len := by omega
  clear h hl hst g1 g2 hn hn2 hll hbd k1 k2
  go_enter Try.func26, Try.ntmps26
  go_wp2_with fail
  go_loopw [9] (fun i wr => ∃ k : Nat, k ≤ n ∧ i = .int .i64 k ∧ (∀ j, j < k → code < (seg12 S j).first ∨ (seg12 S j).last < code) ∧ ∃ q, wr = w.drewN q) (fun i _ => n - (intOf i).toNat)
  case atStart => exact ⟨0, Nat.zero_le _, rfl, fun j hj => by omega, 0, rfl⟩
  case round =>
    obtain ⟨k, hkn, rfl, hno, q3, rfl⟩ := hrel
    have HNO := Lib.hid hno
    clear hno
    by_cases hlt : k < n
    · have f0 := (HB4.out (16 + 12 * k) (by omega)).1
      have f1 := (HB4.out (16 + 12 * k) (by omega)).2
      have e0 := (HB4.out (16 + 12 * k + 4) (by omega)).1
      have e1 := (HB4.out (16 + 12 * k + 4) (by omega)).2
      have v0 := (HB4.out (16 + 12 * k + 4 + 4) (by omega)).1
      have v1 := (HB4.out (16 + 12 * k + 4 + 4) (by omega)).2
      go_wp2_with fail
      refine (r32_any S 12 _ rfl _ (H.out.drewN _) (by omega)).mono ?_
      rintro e w1 ⟨rfl, q4, rfl⟩
      rw [HN.out]
      go_wp2_with fail
      refine (r32_any S (16 + 12 * k) _ (by omega) _ (H.out.drewN _) (by omega)).mono ?_
      rintro e w1 ⟨rfl, q5, rfl⟩
      go_wp2_with fail
      refine (r32_any S (16 + 12 * k + 4) _ (by omega) _ (H.out.drewN _) (by omega)).mono ?_
      rintro e w1 ⟨rfl, q6, rfl⟩
      by_cases hin : be4 S (16 + 12 * k) ≤ code ∧ code ≤ be4 S (16 + 12 * k + 4)
      · have HV : Hid (rawV l code = be4 S (16 + 12 * k + 4 + 4) + code - be4 S (16 + 12 * k)) := by
          show _ = _
          rw [rawV_in HOK.out.ri (G1.out k hlt).1 hin.1 hin.2]
          simp [segV, seg12]
        have hA := hin.1
        have hB := hin.2
        clear hin
        go_wp2_with fail
        refine (r32_any S (16 + 12 * k + 4 + 4) _ (by omega) _ (H.out.drewN _) (by omega)).mono ?_
        rintro e w1 ⟨rfl, q7, rfl⟩
        go_wp2
        go_ret
        rw [HV.out]
        exact ⟨rfl, _, rfl⟩
      · have HNI := Lib.hid hin
        by_cases hA : be4 S (16 + 12 * k) ≤ code
        case' pos => have hB : ¬ code ≤ be4 S (16 + 12 * k + 4) := by omega
        all_goals
          clear hin
          go_wp2
          go_roundw
          case rel =>
            refine ⟨k + 1, by omega, by go_num, fun j hj => ?_, _, rfl⟩
            by_cases hjk : j = k
            · subst hjk; have := HNI.out; simp only [seg12]; omega
            · exact HNO.out j (by omega)
          case measure => simp [intOf]; omega
    · have hge : ¬ (k : Int) < (n : Int) := by omega
      have HV : Hid (rawV l code = 0) := by
        refine rawV_out fun j s hs => ?_
        have hj := (List.getElem?_eq_some_iff.1 hs).1
        have hj2 : j < n := by have := HLL.out; omega
        have := (G1.out j hj2).1
        rw [hs] at this
        injection this with this
        subst this
        exact HNO.out j (by omega)
      go_wp2_with fail
      refine (r32_any S 12 _ rfl _ (H.out.drewN _) (by omega)).mono ?_
      rintro e w1 ⟨rfl, q4, rfl⟩
      rw [HN.out]
      go_wp2
      go_ret
      rw [HV.out]
      exact ⟨rfl, _, rfl⟩

theorem rfind_any (S : Src) (x : Int) (hx : fmtB x = true) (l : List Seg) (code : Int) (w : World) (h : InM w S) (hl : loadO S x = some l) (c0 : 0 ≤ code) (c1 : code ≤ 1114111) :
    Calls Try.prog 26 #[.slice (some ⟨S.b, S.o, none⟩) S.len S.cap, .int .i64 x, .int .i64 code] w fun e w' => e = .returned (.int .i64 (rawV l code)) ∧ ∃ q, w' = w.drewN q := by
  have hc : x = 0 ∨ x = 4 ∨ x = 6 ∨ x = 12 := by simpa [fmtB, or_assoc] using hx
  rcases hc with rfl | rfl | rfl | rfl
  · exact find_0 S l code w h hl c0 c1
  · exact find_4 S l code w h hl c0 c1
  · exact find_6 S l code w h hl c0 c1
  · exact find_12 S l code w h hl c0 c1

theorem RGlyph_any (p : Nat) (S : Src) (f n : Int) (l : List Seg) (code : Int) (w : World) (h : RMapAt w p S f n) (hf : fmtB f = true) (hl : loadO S f = some l) :
    Calls Try.prog 8 #[.pointer (some ⟨p, 0, none⟩), .int .i64 code] w fun e w' => e = .returned (.int .i64 (glyphV l n code)) ∧ ∃ q, w' = w.drewN q := by
  have c0 : w.cell? ⟨p, 0, none⟩ = some (.slice (some ⟨S.b, S.o, none⟩) S.len S.cap) := h.blk.cell 0
  have c1 : w.cell? ⟨p, 1, none⟩ = some (.int .i64 f) := h.blk.cell 1
  have c2 : w.cell? ⟨p, 2, none⟩ = some (.int .i64 n) := h.blk.cell 2
  by_cases hc : code < 0 ∨ 1114111 < code
  · have hV : Hid (glyphV l n code = 0) := by show _ = _; simp [glyphV, hc]
    clear h hl
    by_cases h1 : code < 0
    case' neg => have h2 : 1114111 < code := by omega
    all_goals
      go_enter Try.func8, Try.ntmps8
      go_wp2
      go_ret
      rw [hV.out]
      exact ⟨rfl, 0, rfl⟩
  · have hV : Hid (glyphV l n code = if rawV l code < n then rawV l code else 0) := by
      show _ = _
      rw [glyphV, if_neg hc]
    have h1 : ¬ code < 0 := by omega
    have h2 : ¬ 1114111 < code := by omega
    obtain ⟨x, hx⟩ : ∃ x, x = rawV l code := ⟨_, rfl⟩
    have hq : ∀ q, Calls Try.prog 26 #[.slice (some ⟨S.b, S.o, none⟩) S.len S.cap, .int .i64 f, .int .i64 code] (w.drewN q) fun e w' => e = .returned (.int .i64 x) ∧ ∃ m, w' = (w.drewN q).drewN m := fun q => by
      rw [hx]
      exact rfind_any S f hf l code (w.drewN q) (h.im.drewN q) hl (by omega) (by omega)
    rw [← hx] at hV
    have HQ := Lib.hid hq
    clear h hl hc hf hx hq
    by_cases hxn : x < n
    · have HXN : Hid ((if x < n then x else 0) = x) := if_pos hxn
      go_enter Try.func8, Try.ntmps8
      go_wp2_with fail
      go_quiet ((go_at_call 26; exact Calls.quiet_of (HQ.out _)))
      go_wp2
      go_ret
      rw [hV.out, HXN.out]
      exact ⟨rfl, _, rfl⟩
    · have HXN : Hid ((if x < n then x else 0) = 0) := if_neg hxn
      go_enter Try.func8, Try.ntmps8
      go_wp2_with fail
      go_quiet ((go_at_call 26; exact Calls.quiet_of (HQ.out _)))
      go_wp2
      go_ret
      rw [hV.out, HXN.out]
      exact ⟨rfl, _, rfl⟩

end Go.Proofs.Ythfppmamnnnnmaa
