/-
  serifref08.may4.
-/
import Derived.Test.YthfppmamnnnnmaaRef
set_option linter.unusedVariables false
namespace Go.Proofs.Ythfppmamnnnnmaa
open Go.RowKit

theorem list4_none_iff (S : Src) (n k : Nat) (h0 : 0 ≤ off4 S n k) (hef : first4 S n k ≤ end4 S n k) :
    list4 S n k = none ↔ (off4 S n k % 2 ≠ 0 ∨ (S.len : Int) < 16 + 6 * n + 2 * k + off4 S n k + 2 * (end4 S n k - first4 S n k) + 2) := by
  unfold list4 listedO listO cnt4
  by_cases h : (off4 S n k).toNat % 2 = 0
  · rw [if_pos h]
    split
    · simp; omega
    · simp; omega
  · rw [if_neg h]
    simp
    omega

theorem loadO4 (S : Src) (n : Nat) (h : Ok4 S) (hn : be2 S 6 / 2 = (n : Int)) : loadO S 4 = load4O S n := by
  unfold loadO
  rw [if_neg (by decide), if_pos rfl, if_pos h, hn]
  rfl
theorem loadO4_not (S : Src) (h : ¬ Ok4 S) : loadO S 4 = none := by
  unfold loadO
  rw [if_neg (by decide), if_pos rfl, if_neg h]

def M4Post (S : Src) (w : World) (e : Ending) (w' : World) : Prop := e = .returned (.bool (loadO S 4).isSome) ∧ ∃ q, w' = w.drewN q

theorem may4_bad (S : Src) (w : World) (h : InM w S) (h24 : 24 ≤ S.len) (hk : ¬ Ok4 S) :
    Calls Try.prog 22 #[.slice (some ⟨S.b, S.o, none⟩) S.len S.cap] w (M4Post S w) := by
  have HX : Hid ((loadO S 4).isSome = false) := by show _ = _; rw [loadO4_not S hk]; rfl
  have H := Lib.hid h
  have hl := h.hlen
  have b0 := (be2_bd h.bs (a := 6) (by omega)).1
  have b1 := (be2_bd h.bs (a := 6) (by omega)).2
  unfold Ok4 at hk
  clear h
  obtain ⟨t, ht⟩ : ∃ t, t = be2 S 6 := ⟨_, rfl⟩
  rw [← ht] at hk b0 b1
  have HT := Lib.hid ht
  clear ht
  by_cases hB : t % 2 = 0
  case' neg => have a2 : (t % 2 != 0) = true := by simpa using hB
  case' pos =>
    have a2 : (t % 2 != 0) = false := by simp [hB]
    by_cases hC : t / 2 < 1
    case' neg =>
      by_cases hD : (S.len : Int) < 16 + 8 * (t / 2)
      case' neg =>
        have hA : S.len % 2 ≠ 0 := fun h1 => hk ⟨h1, hB, by omega, by omega⟩
        have a1 : ((S.len : Int) % 2 != 0) = true := by simp; omega
        clear hA
  all_goals
    clear hB hk
    go_enter Try.func22, Try.ntmps22
    go_wp2_with fail
    refine (r16_any S 6 _ rfl _ H.out (by omega)).mono ?_
    rintro e w1 ⟨rfl, q, rfl⟩
    rw [← HT.out]
    go_wp2_with fail
    refine (r16_any S 6 _ rfl _ (H.out.drewN q) (by omega)).mono ?_
    rintro e w1 ⟨rfl, q2, rfl⟩
    rw [← HT.out]
    go_wp2
    go_ret
    unfold M4Post
    rw [HX.out]
    exact ⟨rfl, _, rfl⟩

set_option maxRecDepth 100000 in
set_option maxHeartbeats 800000 in
theorem may4_go (S : Src) (n : Nat) (w : World) (h : InM w S) (hk : Ok4 S) (hn : be2 S 6 = 2 * (n : Int)) :
    Calls Try.prog 22 #[.slice (some ⟨S.b, S.o, none⟩) S.len S.cap] w (M4Post S w) := by
  have HL4 : Hid (loadO S 4 = load4O S n) := loadO4 S n hk (by omega)
  have H := Lib.hid h
  have hl := h.hlen
  obtain ⟨k1, k2, k3, k4⟩ := hk
  have HB2 := Lib.hid (fun a (ha : a + 2 ≤ S.len) => be2_bd (a := a) h.bs ha)
  have a1 : ((S.len : Int) % 2 != 0) = false := by simp; omega
  obtain ⟨t, ht⟩ : ∃ t, t = be2 S 6 := ⟨_, rfl⟩
  have HT := Lib.hid ht
  have ht1 : t ≤ 2 * (n : Int) := by omega
  have ht2 : 2 * (n : Int) ≤ t := by omega
  have a2 : (t % 2 != 0) = false := by simp; omega
  have hn1 : 1 ≤ n := by omega
  have hl4 : 16 + 8 * n ≤ S.len := by omega
  have hC : ¬ t / 2 < 1 := by omega
  have hD : ¬ (S.len : Int) < 16 + 8 * (t / 2) := by omega
  clear h hn ht k1 k2 k3 k4
  go_enter Try.func22, Try.ntmps22
  go_wp2_with fail
  refine (r16_any S 6 _ rfl _ H.out (by omega)).mono ?_
  rintro e w1 ⟨rfl, q, rfl⟩
  rw [← HT.out]
  go_wp2_with fail
  refine (r16_any S 6 _ rfl _ (H.out.drewN q) (by omega)).mono ?_
  rintro e w1 ⟨rfl, q2, rfl⟩
  rw [← HT.out]
  go_wp2_with fail
  go_loopw [5, 6] (fun lv i wr => ∃ (k : Nat) (last : Int) (l : List Seg), k ≤ n ∧ i = .int .i64 k ∧ lv = .int .i64 last ∧ st4 S n k = some (last, l) ∧ ∃ q, wr = w.drewN q) (fun _ i _ => n - (intOf i).toNat)
  case atStart => exact ⟨0, -1, [], Nat.zero_le _, rfl, rfl, rfl, _, rfl⟩
  case round =>
    obtain ⟨k, last, l, hkn, rfl, rfl, hst, q3, rfl⟩ := hrel
    have hlast := st4_last S n HB2.out k _ hst (by omega)
    have hl0 : -1 ≤ last := hlast.1
    have hl1 : last ≤ 65535 := hlast.2
    have HST := Lib.hid hst
    clear hst hlast
    by_cases hlt : k < n
    · have f0 : 0 ≤ first4 S n k := (HB2.out _ (by omega)).1
      have f1 : first4 S n k < 65536 := (HB2.out _ (by omega)).2
      have e0 : 0 ≤ end4 S n k := (HB2.out _ (by omega)).1
      have e1 : end4 S n k < 65536 := (HB2.out _ (by omega)).2
      have o0 : 0 ≤ off4 S n k := (HB2.out _ (by omega)).1
      have o1 : off4 S n k < 65536 := (HB2.out _ (by omega)).2
      have htn : (k : Int) < t / 2 := by omega
      go_wp2_with fail
      refine (r16_any S (14 + 2 * k) _ (by omega) _ (H.out.drewN q3) (by omega)).mono ?_
      rintro e w1 ⟨rfl, q4, rfl⟩
      go_wp2_with fail
      refine (r16_any S (16 + 2 * n + 2 * k) _ (by omega) _ (H.out.drewN _) (by omega)).mono ?_
      rintro e w1 ⟨rfl, q5, rfl⟩
      go_wp2_with fail
      refine (r16_any S (16 + 6 * n + 2 * k) _ (by omega) _ (H.out.drewN _) (by omega)).mono ?_
      rintro e w1 ⟨rfl, q6, rfl⟩

      rw [show be2 S (14 + 2 * k) = end4 S n k from rfl, show be2 S (16 + 2 * n + 2 * k) = first4 S n k from rfl, show be2 S (16 + 6 * n + 2 * k) = off4 S n k from rfl]
      by_cases hb : bad4 S n k last
      · have HX : Hid ((loadO S 4).isSome = false) := by
          show _ = _
          rw [HL4.out, load4O_none (st4_bad HST.out hb) (by omega)]
          rfl
        by_cases hA : end4 S n k < first4 S n k
        · clear hb
          go_wp2
          go_ret
          unfold M4Post
          rw [HX.out]
          exact ⟨rfl, _, rfl⟩
        · by_cases hB : first4 S n k ≤ last
          · clear hb
            go_wp2
            go_ret
            unfold M4Post
            rw [HX.out]
            exact ⟨rfl, _, rfl⟩
          · have hh : has4 S n k = true ∧ list4 S n k = none := by
              rcases hb with h1 | h1 | h1
              · exact absurd h1 hA
              · exact absurd h1 hB
              · exact h1
            clear hb
            obtain ⟨hh1, hh2⟩ := hh
            rw [list4_none_iff S n k o0 (by omega)] at hh2
            have b1 : (off4 S n k != 0) = true := by
              simp only [has4, Bool.and_eq_true] at hh1
              exact hh1.1
            have HD4 : Hid ((off4 S n k == 65535 && first4 S n k == 65535) = false) := by
              simp only [has4, Bool.and_eq_true, Bool.not_eq_true'] at hh1
              exact hh1.2
            clear hh1
            by_cases hX : (first4 S n k == 65535) = true
            case' pos =>
              have b3 : (off4 S n k == 65535) = false := by
                have := HD4.out
                simp only [hX, Bool.and_true] at this
                exact this
            case' neg =>
              have b2 : (first4 S n k == 65535) = false := by simpa using hX
              clear hX
            all_goals
              by_cases hodd : off4 S n k % 2 = 0
              case' neg => have b4 : (off4 S n k % 2 != 0) = true := by simpa using hodd
              case' pos =>
                have b4 : (off4 S n k % 2 != 0) = false := by simp [hodd]
                have b5 : (S.len : Int) < 16 + 6 * n + 2 * k + off4 S n k + 2 * (end4 S n k - first4 S n k) + 2 := by omega
              all_goals
                clear hodd hh2
                go_wp2
                go_ret
                unfold M4Post
                rw [HX.out]
                exact ⟨rfl, _, rfl⟩
      · have HG := Lib.hid (st4_good HST.out hb)
        have hA : ¬ end4 S n k < first4 S n k := fun h => hb (.inl h)
        have hB : ¬ first4 S n k ≤ last := fun h => hb (.inr (.inl h))
        have hH : has4 S n k = true → ¬ list4 S n k = none := fun h1 h2 => hb (.inr (.inr ⟨h1, h2⟩))
        rw [list4_none_iff S n k o0 (by omega)] at hH
        clear hb
        have hcase : ((off4 S n k != 0) = false ∧ (off4 S n k % 2 != 0) = false) ∨
            ((off4 S n k != 0) = true ∧ (first4 S n k == 65535) = true ∧ (off4 S n k == 65535) = true ∧ (off4 S n k % 2 != 0) = true) ∨
            ((off4 S n k != 0) = true ∧ (first4 S n k == 65535) = true ∧ (off4 S n k == 65535) = false ∧ (off4 S n k % 2 != 0) = false ∧ ¬ (S.len : Int) < 16 + 6 * n + 2 * k + off4 S n k + 2 * (end4 S n k - first4 S n k) + 2) ∨
            ((off4 S n k != 0) = true ∧ (first4 S n k == 65535) = false ∧ (off4 S n k % 2 != 0) = false ∧ ¬ (S.len : Int) < 16 + 6 * n + 2 * k + off4 S n k + 2 * (end4 S n k - first4 S n k) + 2) := by
          by_cases hC0 : off4 S n k = 0
          · left; simp [hC0]
          · right
            by_cases hX : first4 S n k = 65535
            · by_cases hY : off4 S n k = 65535
              · left; simp [hX, hY]
              · right; left
                have := hH (by simp [has4, hC0, hY])
                refine ⟨by simpa using hC0, by simp [hX], by simpa using hY, by simp; omega, by omega⟩
            · right; right
              have := hH (by simp [has4, hC0, hX])
              refine ⟨by simpa using hC0, by simpa using hX, by simp; omega, by omega⟩
        clear hH
        rcases hcase with ⟨b1, b4⟩ | ⟨b1, b2, b3, b4⟩ | ⟨b1, b2, b3, b4, b5⟩ | ⟨b1, b2, b4, b5⟩
        all_goals
          go_wp2
          go_roundw
          case rel => exact ⟨k + 1, _, _, by omega, by go_num, rfl, HG.out, _, rfl⟩
          case measure => simp [intOf]; omega
    · have hge : ¬ (k : Int) < t / 2 := by omega
      have hkn' : k = n := by omega
      by_cases hq : last = 65535
      · have hq2 : (last == 65535) = true := by simpa using hq
        have HX : Hid ((loadO S 4).isSome = true) := by
          have := HST.out
          rw [hkn'] at this
          show _ = _
          rw [HL4.out, load4O, this]
          simp [hq]
        clear hq
        go_wp2
        go_ret
        unfold M4Post
        rw [HX.out]
        exact ⟨rfl, _, rfl⟩
      · have hq2 : (last == 65535) = false := by simpa using hq
        have HX : Hid ((loadO S 4).isSome = false) := by
          have := HST.out
          rw [hkn'] at this
          show _ = _
          rw [HL4.out, load4O, this]
          simp [hq]
        clear hq
        go_wp2
        go_ret
        unfold M4Post
        rw [HX.out]
        exact ⟨rfl, _, rfl⟩

theorem may4_any (S : Src) (w : World) (h : InM w S) (h24 : 24 ≤ S.len) :
    Calls Try.prog 22 #[.slice (some ⟨S.b, S.o, none⟩) S.len S.cap] w (M4Post S w) := by
  by_cases hk : Ok4 S
  · have := (be2_bd h.bs (a := 6) (by omega)).1
    exact may4_go S (be2 S 6 / 2).toNat w h hk (by have := hk.2.1; omega)
  · exact may4_bad S w h h24 hk

end Go.Proofs.Ythfppmamnnnnmaa
