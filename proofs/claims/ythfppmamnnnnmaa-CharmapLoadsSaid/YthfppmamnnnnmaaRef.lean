/-
  The document's answer (serifref08): numbers, formats, lengths.
-/
import Derived.Test.YthfppmamnnnnmaaGlyph
set_option linter.unusedVariables false
namespace Go.Proofs.Ythfppmamnnnnmaa
open Go.RowKit

theorem be2_eq (S : Src) (a : Nat) : be2 S a = S.f a * 256 + S.f (a + 1) := by simp [be2, num]
theorem be4_eq (S : Src) (a : Nat) : be4 S a = be2 S a * 65536 + be2 S (a + 2) := by
  simp only [be4, be2, num, Nat.add_zero, Nat.add_assoc, Nat.reduceAdd]
  omega

theorem InM.drewN {w : World} {S : Src} (h : InM w S) (q : Nat) : InM (w.drewN q) S := ⟨h.hlen, h.hc, h.hb, h.bs⟩

theorem r16_any (S : Src) (a : Nat) (m : Int) (hm : m = a) (w : World) (h : InM w S) (ha : a + 2 ≤ S.len) :
    Calls Try.prog 19 #[.slice (some ⟨S.b, S.o, none⟩) S.len S.cap, .int .i64 m] w fun e w' => e = .returned (.int .i64 (be2 S a)) ∧ ∃ q, w' = w.drewN q := by
  subst hm
  have hl := h.hlen
  have h0 := h.bs a (by omega)
  have h1 := h.bs (a + 1) (by omega)
  have c0 : w.cell? ⟨S.b, S.o + a, none⟩ = some (.int .u8 (S.f a)) := h0.1
  have c1 : w.cell? ⟨S.b, S.o + (a + 1), none⟩ = some (.int .u8 (S.f (a + 1))) := h1.1
  have x0 := h0.2.1
  have x1 := h0.2.2
  have y0 := h1.2.1
  have y1 := h1.2.2
  have hE := Lib.hid (be2_eq S a)
  have b0 : (0 : Int) ≤ (a : Int) := by omega
  have b1 : (a : Int) < (S.len : Int) := by omega
  have b2 : (0 : Int) ≤ (a : Int) + 1 := by omega
  have b3 : (a : Int) + 1 < (S.len : Int) := by omega
  have e1 : IntKind.i64.wrap ((a : Int) + 1) = (a : Int) + 1 := IntWalk.i64_in _ (by omega)
  have e2 : ((a : Int) + 1).toNat = a + 1 := by omega
  have e3 : IntKind.i64.wrap (S.f a) = S.f a := IntWalk.i64_in _ (by omega)
  have e4 : IntKind.i64.wrap (S.f (a + 1)) = S.f (a + 1) := IntWalk.i64_in _ (by omega)
  have e5 : IntKind.i64.wrap (S.f a * 256) = S.f a * 256 := IntWalk.i64_in _ (by omega)
  have e6 : IntKind.i64.wrap (S.f a * 256 + S.f (a + 1)) = S.f a * 256 + S.f (a + 1) := IntWalk.i64_in _ (by omega)
  clear h h0 h1
  go_enter Try.func19, Try.ntmps19
  go_wp2_with fail
  go_quiet (fail)
  clear e1 e2 e3 e4 e5 e6
  go_wp2
  go_ret
  rw [hE.out]
  exact ⟨rfl, _, rfl⟩

theorem r32_any (S : Src) (a : Nat) (m : Int) (hm : m = a) (w : World) (h : InM w S) (ha : a + 4 ≤ S.len) :
    Calls Try.prog 42 #[.slice (some ⟨S.b, S.o, none⟩) S.len S.cap, .int .i64 m] w fun e w' => e = .returned (.int .i64 (be4 S a)) ∧ ∃ q, w' = w.drewN q := by
  subst hm
  have hl := h.hlen
  have H := Lib.hid h
  have x0 := (be2_bd h.bs (a := a) (by omega)).1
  have x1 := (be2_bd h.bs (a := a) (by omega)).2
  have y0 := (be2_bd h.bs (a := a + 2) (by omega)).1
  have y1 := (be2_bd h.bs (a := a + 2) (by omega)).2
  have hE := Lib.hid (be4_eq S a)
  clear h
  go_enter Try.func42, Try.ntmps42
  go_wp2_with fail
  refine (r16_any S a _ (by omega) _ H.out (by omega)).mono ?_
  rintro e w1 ⟨rfl, q, rfl⟩
  go_wp2_with fail
  refine (r16_any S (a + 2) _ (by omega) _ (H.out.drewN q) (by omega)).mono ?_
  rintro e w1 ⟨rfl, q2, rfl⟩
  go_wp2
  go_ret
  rw [hE.out]
  exact ⟨rfl, _, rfl⟩

theorem rfmt_any (x : Int) (w : World) : Calls Try.prog 20 #[.int .i64 x] w fun e w' => e = .returned (.bool (fmtB x)) ∧ w = w' := by
  have hf : fmtB x = (x == 0 || x == 4 || x == 6 || x == 12) := rfl
  rw [hf]; clear hf
  by_cases h0 : (x == 0) = true
  case' neg =>
    by_cases h4 : (x == 4) = true
    case' neg =>
      by_cases h6 : (x == 6) = true
      case' neg => have h12 : (x == 12) = (x == 12) := rfl
  all_goals
    try simp only [Bool.not_eq_true] at *
    go_enter Try.func20, Try.ntmps20
    go_wp2
    go_ret
    exact ⟨by simp [*], rfl⟩

theorem rlen_any (S : Src) (w : World) (h : InM w S) (h2 : 2 ≤ S.len) :
    Calls Try.prog 21 #[.slice (some ⟨S.b, S.o, none⟩) S.len S.cap] w fun e w' => e = .returned (.int .i64 (sizeB S (be2 S 0))) ∧ ∃ q, w' = w.drewN q := by
  have H := Lib.hid h
  clear h
  by_cases hx : be2 S 0 = 12
  · have hx2 : (be2 S 0 == 12) = true := by simp [hx]
    have hx3 : (be2 S 0 != 12) = false := by simp [hx]
    by_cases h16 : 16 ≤ S.len
    · have hc : (16 : Int) ≤ (S.len : Int) := by omega
      have hV : Hid (sizeB S (be2 S 0) = be4 S 4) := by show _ = _; simp [sizeB, hx, h16]; rfl
      clear hx
      go_enter Try.func21, Try.ntmps21
      go_wp2_with (first | (go_at_call 19; refine (r16_any S 0 _ rfl _ (H.out.drewN _) (by omega)).mono ?_; rintro e w1 ⟨rfl, q, rfl⟩) | (go_at_call 19; refine (r16_any S 0 _ rfl _ H.out (by omega)).mono ?_; rintro e w1 ⟨rfl, q, rfl⟩) | (go_at_call 42; refine (r32_any S 4 _ rfl _ (H.out.drewN _) (by omega)).mono ?_; rintro e w1 ⟨rfl, q2, rfl⟩))
      go_ret
      rw [hV.out]
      exact ⟨rfl, _, rfl⟩
    · have hc : ¬ (16 : Int) ≤ (S.len : Int) := by omega
      have hV : Hid (sizeB S (be2 S 0) = -1) := by show _ = _; simp [sizeB, hx, h16]
      clear hx
      by_cases h4 : 4 ≤ S.len
      · have hc4 : (4 : Int) ≤ (S.len : Int) := by omega
        go_enter Try.func21, Try.ntmps21
        go_wp2_with (first | (go_at_call 19; refine (r16_any S 0 _ rfl _ H.out (by omega)).mono ?_; rintro e w1 ⟨rfl, q, rfl⟩))
        go_ret
        rw [hV.out]
        exact ⟨rfl, _, rfl⟩
      · have hc4 : ¬ (4 : Int) ≤ (S.len : Int) := by omega
        go_enter Try.func21, Try.ntmps21
        go_wp2
        go_ret
        rw [hV.out]
        exact ⟨rfl, 0, rfl⟩
  · have hx2 : (be2 S 0 == 12) = false := by simp [hx]
    have hx3 : (be2 S 0 != 12) = true := by simp [hx]
    by_cases h4 : 4 ≤ S.len
    · have hc4 : (4 : Int) ≤ (S.len : Int) := by omega
      have hV : Hid (sizeB S (be2 S 0) = be2 S 2) := by show _ = _; simp [sizeB, hx, h4]; rfl
      clear hx
      by_cases h16 : 16 ≤ S.len
      · have hc : (16 : Int) ≤ (S.len : Int) := by omega
        go_enter Try.func21, Try.ntmps21
        go_wp2_with fail
        refine (r16_any S 0 _ rfl _ H.out (by omega)).mono ?_
        rintro e w1 ⟨rfl, q, rfl⟩
        go_wp2_with fail
        refine (r16_any S 0 _ rfl _ (H.out.drewN _) (by omega)).mono ?_
        rintro e w1 ⟨rfl, q2, rfl⟩
        go_wp2_with fail
        refine (r16_any S 2 _ rfl _ (H.out.drewN _) (by omega)).mono ?_
        rintro e w1 ⟨rfl, q3, rfl⟩
        go_wp2
        go_ret
        rw [hV.out]
        exact ⟨rfl, _, rfl⟩
      · have hc : ¬ (16 : Int) ≤ (S.len : Int) := by omega
        go_enter Try.func21, Try.ntmps21
        go_wp2_with fail
        refine (r16_any S 0 _ rfl _ H.out (by omega)).mono ?_
        rintro e w1 ⟨rfl, q2, rfl⟩
        go_wp2_with fail
        refine (r16_any S 2 _ rfl _ (H.out.drewN _) (by omega)).mono ?_
        rintro e w1 ⟨rfl, q3, rfl⟩
        go_wp2
        go_ret
        rw [hV.out]
        exact ⟨rfl, _, rfl⟩
    · have hc4 : ¬ (4 : Int) ≤ (S.len : Int) := by omega
      have hc : ¬ (16 : Int) ≤ (S.len : Int) := by omega
      have hV : Hid (sizeB S (be2 S 0) = -1) := by show _ = _; simp [sizeB, hx, h4]
      clear hx
      go_enter Try.func21, Try.ntmps21
      go_wp2
      go_ret
      rw [hV.out]
      exact ⟨rfl, 0, rfl⟩

end Go.Proofs.Ythfppmamnnnnmaa
