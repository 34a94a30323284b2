/-
  serifref08.find4, find; (*Map).Glyph of the document.
-/
import Derived.Test.YthfppmamnnnnmaaRLoad
import Derived.Test.YthfppmamnnnnmaaWf
set_option linter.unusedVariables false
namespace Go.Proofs.Ythfppmamnnnnmaa
open Go.RowKit

theorem segV4_no (S : Src) (n k : Nat) (code : Int) (hh : has4 S n k = false) : segV (seg4 S n k) code = (code + delta4 S n k) % 65536 := by
  simp only [segV, seg4, hh, Bool.false_eq_true, if_false, if_true]
  congr 1
  omega
theorem segV4_yes (S : Src) (n k : Nat) (code : Int) (hh : has4 S n k = true) (hl : list4 S n k ≠ none) (h1 : first4 S n k ≤ code) (h2 : code ≤ end4 S n k) (p : Nat)
    (hp : (p : Int) = 16 + 6 * n + 2 * k + (off4 S n k).toNat + 2 * (code - first4 S n k)) :
    p + 2 ≤ S.len ∧ segV (seg4 S n k) code = if be2 S p = 0 then 0 else (be2 S p + delta4 S n k) % 65536 := by
  cases hlo : list4 S n k with
  | none => exact absurd hlo hl
  | some l =>
    have hlo' := hlo
    unfold list4 at hlo
    obtain ⟨e1, e2, e3⟩ := listedO_some hlo
    have hi : (code - first4 S n k).toNat < cnt4 S n k := by simp only [cnt4]; omega
    refine ⟨by omega, ?_⟩
    have hs : (seg4 S n k).list = some l := by simp [seg4, hh, hlo']
    have hg : l.getD (code - (seg4 S n k).first).toNat 0 = be2 S p := by
      subst e3
      rw [List.getD_eq_getElem?_getD, nums_at S _ _ _ (by simpa [seg4] using hi)]
      simp only [Option.getD_some, seg4]
      congr 1
      omega
    simp only [segV, hs, hg]
    rfl

set_option maxRecDepth 100000 in
set_option maxHeartbeats 4000000 in
theorem find4_any (S : Src) (l : List Seg) (code : Int) (w : World) (h : InM w S) (hl : loadO S 4 = some l) (c0 : 0 ≤ code) (c1 : code ≤ 1114111) :
    Calls Try.prog 46 #[.slice (some ⟨S.b, S.o, none⟩) S.len S.cap, .int .i64 code] w fun e w' => e = .returned (.int .i64 (rawV l code)) ∧ ∃ q, w' = w.drewN q := by
  have HOK := Lib.hid (loadO_ok h rfl hl)
  obtain ⟨hk, hst⟩ := loadO_4 hl
  obtain ⟨k1, k2, k3, k4⟩ := hk
  obtain ⟨n, hn⟩ : ∃ n, n = (be2 S 6 / 2).toNat := ⟨_, rfl⟩
  rw [← hn] at hst
  obtain ⟨g1, g2, _, _⟩ := st4_get S n n _ _ hst
  have hll : l.length = n := st4_len S n n _ hst
  have G1 := Lib.hid g1
  have HLL := Lib.hid hll
  have H := Lib.hid h
  have hlen := h.hlen
  have HB2 := Lib.hid (fun a (ha : a + 2 ≤ S.len) => be2_bd (a := a) h.bs ha)
  obtain ⟨t, ht⟩ : ∃ t, t = be2 S 6 := ⟨_, rfl⟩
  have HT := Lib.hid ht
  have ht1 : t ≤ 2 * (n : Int) := by omega
  have ht2 : 2 * (n : Int) ≤ t := by omega
  have hn1 : 1 ≤ n := by omega
  have hl4 : 16 + 8 * n ≤ S.len := by omega
  have ht3 : t < 65536 := by rw [ht]; exact (be2_bd h.bs (by omega)).2
  clear h ht k1 k2 k3 k4 g1 g2 hst hl hn hll
  go_enter Try.func46, Try.ntmps46
  go_wp2_with fail
  refine (r16_any S 6 _ rfl _ H.out (by omega)).mono ?_
  rintro e w1 ⟨rfl, q, rfl⟩
  rw [← HT.out]
  go_wp2_with fail
  go_loopw [6] (fun i wr => ∃ k : Nat, k ≤ n ∧ i = .int .i64 k ∧ (∀ j, j < k → code < first4 S n j ∨ end4 S n j < code) ∧ ∃ q, wr = w.drewN q) (fun i _ => n - (intOf i).toNat)
  case atStart => exact ⟨0, Nat.zero_le _, rfl, fun j hj => by omega, _, rfl⟩
  case round =>
    obtain ⟨k, hkn, rfl, hno, q3, rfl⟩ := hrel
    have HNO := Lib.hid hno
    clear hno
    by_cases hlt : k < n
    · have f0 : 0 ≤ first4 S n k := (HB2.out _ (by omega)).1
      have f1 : first4 S n k < 65536 := (HB2.out _ (by omega)).2
      have e0 : 0 ≤ end4 S n k := (HB2.out _ (by omega)).1
      have e1 : end4 S n k < 65536 := (HB2.out _ (by omega)).2
      have d0 : 0 ≤ delta4 S n k := (HB2.out _ (by omega)).1
      have d1 : delta4 S n k < 65536 := (HB2.out _ (by omega)).2
      have o0 : 0 ≤ off4 S n k := (HB2.out _ (by omega)).1
      have o1 : off4 S n k < 65536 := (HB2.out _ (by omega)).2
      have htn : (k : Int) < t / 2 := by omega
      go_wp2_with fail
      refine (r16_any S (14 + 2 * k) _ (by omega) _ (H.out.drewN _) (by omega)).mono ?_
      rintro e w1 ⟨rfl, q4, rfl⟩
      go_wp2_with fail
      refine (r16_any S (16 + 2 * n + 2 * k) _ (by omega) _ (H.out.drewN _) (by omega)).mono ?_
      rintro e w1 ⟨rfl, q5, rfl⟩
      go_wp2_with fail
      refine (r16_any S (16 + 4 * n + 2 * k) _ (by omega) _ (H.out.drewN _) (by omega)).mono ?_
      rintro e w1 ⟨rfl, q6, rfl⟩
      go_wp2_with fail
      refine (r16_any S (16 + 6 * n + 2 * k) _ (by omega) _ (H.out.drewN _) (by omega)).mono ?_
      rintro e w1 ⟨rfl, q7, rfl⟩
      rw [show be2 S (14 + 2 * k) = end4 S n k from rfl, show be2 S (16 + 2 * n + 2 * k) = first4 S n k from rfl, show be2 S (16 + 4 * n + 2 * k) = delta4 S n k from rfl, show be2 S (16 + 6 * n + 2 * k) = off4 S n k from rfl]
      by_cases hin : first4 S n k ≤ code ∧ code ≤ end4 S n k
      · have hA : ¬ code < first4 S n k := by omega
        have hB : ¬ end4 S n k < code := by omega
        have HV : Hid (rawV l code = segV (seg4 S n k) code) := rawV_in HOK.out.ri (G1.out k hlt).1 hin.1 hin.2
        by_cases hh : has4 S n k = true
        · have hpn : ∃ p : Nat, (p : Int) = 16 + 6 * n + 2 * k + (off4 S n k).toNat + 2 * (code - first4 S n k) := ⟨(16 + 6 * (n : Int) + 2 * k + (off4 S n k).toNat + 2 * (code - first4 S n k)).toNat, by omega⟩
          obtain ⟨p, hp⟩ := hpn
          obtain ⟨hp2, hv⟩ := segV4_yes S n k code hh ((G1.out k hlt).2.2.2.2 hh) hin.1 hin.2 p hp
          have HV2 := Lib.hid hv
          have HP := Lib.hid hp
          have b1 : (off4 S n k == 0) = false := by
            simp only [has4, Bool.and_eq_true] at hh
            simpa using hh.1
          have hD4 : (off4 S n k == 65535 && first4 S n k == 65535) = false := by
            simp only [has4, Bool.and_eq_true, Bool.not_eq_true'] at hh
            exact hh.2
          have HD4 := Lib.hid hD4
          have p0 := (HB2.out p hp2).1
          have p1 := (HB2.out p hp2).2
          obtain ⟨x, hx⟩ : ∃ x, x = be2 S p := ⟨_, rfl⟩
          rw [← hx] at p0 p1
          have HX := Lib.hid hx
          clear hh hD4 hin hv hp hx
          by_cases hX : (first4 S n k == 65535) = true
          case' pos =>
            have b3 : (off4 S n k == 65535) = false := by
              have := HD4.out
              simp only [hX, Bool.and_true] at this
              exact this
          case' neg =>
            have b2 : (first4 S n k == 65535) = false := by simpa using hX
            clear hX
          all_goals
            go_wp2_with fail
            refine (r16_any S p _ (by have := HP.out; omega) _ (H.out.drewN _) (by omega)).mono ?_
            rintro e w1 ⟨rfl, q8, rfl⟩
            rw [← HX.out]
            by_cases hz : x = 0
            · have hz2 : (x == 0) = true := by simp [hz]
              have HZ := Lib.hid hz
              clear hz
              go_wp2
              go_ret
              rw [HV.out, HV2.out, ← HX.out, if_pos HZ.out]
              exact ⟨rfl, _, rfl⟩
            · have hz2 : (x == 0) = false := by simpa using hz
              have HZ := Lib.hid hz
              clear hz
              go_wp2
              go_ret
              rw [HV.out, HV2.out, ← HX.out, if_neg HZ.out]
              exact ⟨rfl, _, rfl⟩
        · have HV2 := Lib.hid (segV4_no S n k code (by simpa using hh))
          have hcase : (off4 S n k == 0) = true ∨ ((off4 S n k == 0) = false ∧ (first4 S n k == 65535) = true ∧ (off4 S n k == 65535) = true) := by
            by_cases hC0 : off4 S n k = 0
            · left; simp [hC0]
            · right
              simp only [has4, Bool.and_eq_true, not_and, Bool.not_eq_true', bne_iff_ne, ne_eq] at hh
              have := hh hC0
              simp only [Bool.not_eq_false, Bool.and_eq_true] at this
              exact ⟨by simpa using hC0, this.2, this.1⟩
          clear hh hin
          rcases hcase with b1 | ⟨b1, b2, b3⟩
          all_goals
            go_wp2
            go_ret
            rw [HV.out, HV2.out]
            exact ⟨rfl, _, rfl⟩
      · have HNI := Lib.hid hin
        by_cases hA : code < first4 S n k
        case' neg => have hB : end4 S n k < code := by omega
        all_goals
          clear hin
          go_wp2
          go_roundw
          case rel =>
            refine ⟨k + 1, by omega, by go_num, fun j hj => ?_, _, rfl⟩
            by_cases hjk : j = k
            · subst hjk; have := HNI.out; omega
            · exact HNO.out j (by omega)
          case measure => simp [intOf]; omega
    · have hge : ¬ (k : Int) < t / 2 := by omega
      have HV : Hid (rawV l code = 0) := by
        refine rawV_out fun j s hs => ?_
        have hj := (List.getElem?_eq_some_iff.1 hs).1
        have hj2 : j < n := by have := HLL.out; omega
        have := (G1.out j hj2).1
        rw [hs] at this
        injection this with this
        subst this
        exact HNO.out j (by omega)
      go_wp2
      go_ret
      rw [HV.out]
      exact ⟨rfl, _, rfl⟩

end Go.Proofs.Ythfppmamnnnnmaa
