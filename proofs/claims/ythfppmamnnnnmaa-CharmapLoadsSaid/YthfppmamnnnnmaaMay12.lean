/-
  serifref08.may12.
-/
import Derived.Test.YthfppmamnnnnmaaRef
set_option linter.unusedVariables false
namespace Go.Proofs.Ythfppmamnnnnmaa
open Go.RowKit

theorem loadO12 (S : Src) (h : Ok12 S) : loadO S 12 = (st12 S (be4 S 12).toNat).map (·.2) := by
  unfold loadO
  rw [if_neg (by decide), if_neg (by decide), if_neg (by decide), if_pos h]
theorem loadO12_not (S : Src) (h : ¬ Ok12 S) : loadO S 12 = none := by
  unfold loadO
  rw [if_neg (by decide), if_neg (by decide), if_neg (by decide), if_neg h]

def M12Post (S : Src) (w : World) (e : Ending) (w' : World) : Prop := e = .returned (.bool (loadO S 12).isSome) ∧ ∃ q, w' = w.drewN q

theorem may12_bad (S : Src) (w : World) (h : InM w S) (h16 : 16 ≤ S.len) (hk : ¬ Ok12 S) :
    Calls Try.prog 23 #[.slice (some ⟨S.b, S.o, none⟩) S.len S.cap] w (M12Post S w) := by
  have HX : Hid ((loadO S 12).isSome = false) := by show _ = _; rw [loadO12_not S hk]; rfl
  have H := Lib.hid h
  have hl := h.hlen
  have b0 := (be4_bd h.bs (a := 12) (by omega)).1
  have b1 := (be4_bd h.bs (a := 12) (by omega)).2
  have hk2 : ((S.len : Int) - 16) / 12 < be4 S 12 := by
    unfold Ok12 at hk
    by_cases h1 : ((S.len : Int) - 16) / 12 < be4 S 12
    · exact h1
    · exact absurd ⟨h16, h1⟩ hk
  have hk3 : (S.len : Int) < 16 + 12 * be4 S 12 := by omega
  clear h hk hk2
  by_cases hA : (S.len : Int) / 12 < be4 S 12
  all_goals
    go_enter Try.func23, Try.ntmps23
    go_wp2_with (go_at_call 42; refine (r32_any S 12 _ rfl _ H.out (by omega)).mono ?_; rintro e w1 ⟨rfl, q, rfl⟩)
    go_ret
    unfold M12Post
    rw [HX.out]
    exact ⟨rfl, _, rfl⟩

set_option maxRecDepth 100000 in
set_option maxHeartbeats 1600000 in
theorem may12_go (S : Src) (n : Nat) (w : World) (h : InM w S) (hk : Ok12 S) (hn : be4 S 12 = (n : Int)) :
    Calls Try.prog 23 #[.slice (some ⟨S.b, S.o, none⟩) S.len S.cap] w (M12Post S w) := by
  have HL4 : Hid (loadO S 12 = (st12 S n).map (·.2)) := by
    show _ = _
    rw [loadO12 S hk, hn]
    rfl
  have H := Lib.hid h
  have hl := h.hlen
  obtain ⟨k1, k2⟩ := hk
  have HB4 := Lib.hid (fun a (ha : a + 4 ≤ S.len) => be4_bd (a := a) h.bs ha)
  have hle : 16 + 12 * n ≤ S.len := by omega
  have HN := Lib.hid hn
  have hA : ¬ (S.len : Int) / 12 < (n : Int) := by omega
  have hB : ¬ (S.len : Int) < 16 + 12 * (n : Int) := by omega
  clear h hn k1 k2
  go_enter Try.func23, Try.ntmps23
  go_wp2_with fail
  refine (r32_any S 12 _ rfl _ H.out (by omega)).mono ?_
  rintro e w1 ⟨rfl, q, rfl⟩
  rw [HN.out]
  go_wp2_with fail
  go_loopw [4, 5] (fun lv i wr => ∃ (k : Nat) (last : Int) (l : List Seg), k ≤ n ∧ i = .int .i64 k ∧ lv = .int .i64 last ∧ st12 S k = some (last, l) ∧ ∃ q, wr = w.drewN q) (fun _ i _ => n - (intOf i).toNat)
  case atStart => exact ⟨0, -1, [], Nat.zero_le _, rfl, rfl, rfl, _, rfl⟩
  case round =>
    obtain ⟨k, last, l, hkn, rfl, rfl, hst, q3, rfl⟩ := hrel
    have hlast := st12_last S (fun a ha => (HB4.out a ha).1) k _ hst (by omega)
    have hl0 : -1 ≤ last := hlast.1
    have hl1 : last ≤ 1114111 := hlast.2
    have HST := Lib.hid hst
    clear hst hlast
    by_cases hlt : k < n
    · have f0 := (HB4.out (16 + 12 * k) (by omega)).1
      have f1 := (HB4.out (16 + 12 * k) (by omega)).2
      have e0 := (HB4.out (16 + 12 * k + 4) (by omega)).1
      have e1 := (HB4.out (16 + 12 * k + 4) (by omega)).2
      go_wp2_with fail
      refine (r32_any S (16 + 12 * k) _ (by omega) _ (H.out.drewN _) (by omega)).mono ?_
      rintro e w1 ⟨rfl, q4, rfl⟩
      go_wp2_with fail
      refine (r32_any S (16 + 12 * k + 4) _ (by omega) _ (H.out.drewN _) (by omega)).mono ?_
      rintro e w1 ⟨rfl, q5, rfl⟩
      by_cases hb : be4 S (16 + 12 * k + 4) < be4 S (16 + 12 * k) ∨ be4 S (16 + 12 * k) ≤ last ∨ 1114111 < be4 S (16 + 12 * k + 4)
      · have HX : Hid ((loadO S 12).isSome = false) := by
          show _ = _
          rw [HL4.out, st12_none S (st12_bad HST.out hb) n (by omega)]
          rfl
        by_cases hA : be4 S (16 + 12 * k + 4) < be4 S (16 + 12 * k)
        case' neg =>
          by_cases hB : 1114111 < be4 S (16 + 12 * k + 4)
          case' neg => have hC : be4 S (16 + 12 * k) ≤ last := by omega
        all_goals
          clear hb
          go_wp2
          go_ret
          unfold M12Post
          rw [HX.out]
          exact ⟨rfl, _, rfl⟩
      · have HG := Lib.hid (st12_good HST.out hb)
        have hA : ¬ be4 S (16 + 12 * k + 4) < be4 S (16 + 12 * k) := fun h => hb (.inl h)
        have hB : ¬ be4 S (16 + 12 * k) ≤ last := fun h => hb (.inr (.inl h))
        have hC : ¬ 1114111 < be4 S (16 + 12 * k + 4) := fun h => hb (.inr (.inr h))
        clear hb
        go_wp2
        go_roundw
        case rel => exact ⟨k + 1, _, _, by omega, by go_num, rfl, HG.out, _, rfl⟩
        case measure => simp [intOf]; omega
    · have hge : ¬ (k : Int) < (n : Int) := by omega
      have HX : Hid ((loadO S 12).isSome = true) := by
        have hkn' : k = n := by omega
        have := HST.out
        rw [hkn'] at this
        show _ = _
        rw [HL4.out, this]
        rfl
      go_wp2
      go_ret
      unfold M12Post
      rw [HX.out]
      exact ⟨rfl, _, rfl⟩

theorem may12_any (S : Src) (w : World) (h : InM w S) (h16 : 16 ≤ S.len) :
    Calls Try.prog 23 #[.slice (some ⟨S.b, S.o, none⟩) S.len S.cap] w (M12Post S w) := by
  by_cases hk : Ok12 S
  · exact may12_go S (be4 S 12).toNat w h hk (by have := (be4_bd h.bs (a := 12) (by omega)).1; omega)
  · exact may12_bad S w h h16 hk

end Go.Proofs.Ythfppmamnnnnmaa
