/-
  charmap.load and charmap.Load.
-/
import Derived.Test.YthfppmamnnnnmaaLoad4
import Derived.Test.YthfppmamnnnnmaaLoad12
import Derived.Test.YthfppmamnnnnmaaFmt
set_option linter.unusedVariables false
namespace Go.Proofs.Ythfppmamnnnnmaa
open Go.RowKit

def Ok4 (S : Src) : Prop := S.len % 2 = 0 ∧ be2 S 6 % 2 = 0 ∧ 1 ≤ be2 S 6 / 2 ∧ 16 + 8 * (be2 S 6 / 2) ≤ (S.len : Int)
def Ok6 (S : Src) : Prop := 10 ≤ S.len ∧ ¬ (S.len : Int) - 10 < 2 * be2 S 8 ∧ ¬ 65536 < be2 S 6 + be2 S 8
def Ok12 (S : Src) : Prop := 16 ≤ S.len ∧ ¬ ((S.len : Int) - 16) / 12 < be4 S 12

instance (S : Src) : Decidable (Ok4 S) := by unfold Ok4; infer_instance
instance (S : Src) : Decidable (Ok6 S) := by unfold Ok6; infer_instance
instance (S : Src) : Decidable (Ok12 S) := by unfold Ok12; infer_instance

/-- The segments of a subtable of a format, if it may be. -/
noncomputable def loadO (S : Src) (x : Int) : Option (List Seg) :=
  if x = 0 then (if 262 ≤ S.len then some [seg0 S] else none)
  else if x = 4 then (if Ok4 S then load4O S (be2 S 6 / 2).toNat else none)
  else if x = 6 then (if Ok6 S then (if be2 S 8 = 0 then some [] else some [seg6 S]) else none)
  else (if Ok12 S then (st12 S (be4 S 12).toNat).map (·.2) else none)

theorem load4_any (S : Src) (w : World) (h : InM w S) :
    Calls Try.prog 39 #[.slice (some ⟨S.b, S.o, none⟩) S.len S.cap] w (LoadPost (loadO S 4) w) := by
  have e : loadO S 4 = if Ok4 S then load4O S (be2 S 6 / 2).toNat else none := by
    unfold loadO
    rw [if_neg (by decide), if_pos rfl]
  by_cases hk : Ok4 S
  · have h24 : 24 ≤ S.len := by have := hk.2.2.1; have := hk.2.2.2; omega
    have hb := be2_bd h.bs (a := 6) (by omega)
    rw [e, if_pos hk]
    obtain ⟨h1, h2, h3, h4⟩ := hk
    exact load4_go S _ w h h1 (by omega) (by omega) (by omega)
  · rw [e, if_neg hk]
    by_cases h8 : 8 ≤ S.len
    · have hb := be2_bd h.bs (a := 6) (by omega)
      refine load4_bad S w h (be2 S 6) ?_ hb.1 hb.2 ?_
      · have e1 : skB S 6 false = true := by simp [skB]; omega
        simp [skAt, e1, numB, okB, be2, h8]
      · unfold Ok4 at hk
        by_cases h1 : S.len % 2 = 0
        · by_cases h2 : be2 S 6 % 2 = 0
          · by_cases h3 : 1 ≤ be2 S 6 / 2
            · right; right; right
              have : ¬ 16 + 8 * (be2 S 6 / 2) ≤ (S.len : Int) := fun h4 => hk ⟨h1, h2, h3, h4⟩
              omega
            · right; right; left; omega
          · right; left; exact h2
        · left; exact h1
    · refine load4_bad S w h 0 ?_ (by omega) (by omega) (by right; right; left; omega)
      have e2 : okB S (skAt S 6 0 false) 2 (!skB S 6 false) = false := by
        simp only [okB, skAt, skB]
        by_cases h6 : 6 ≤ S.len
        · simp [h6]; omega
        · simp [h6]
      simp [numB, e2]

theorem load0_any (S : Src) (w : World) (h : InM w S) :
    Calls Try.prog 38 #[.slice (some ⟨S.b, S.o, none⟩) S.len S.cap] w (LoadPost (loadO S 0) w) := by
  have e : loadO S 0 = if 262 ≤ S.len then some [seg0 S] else none := by unfold loadO; rw [if_pos rfl]
  by_cases hk : 262 ≤ S.len
  · rw [e, if_pos hk]; exact load0_yes S w h hk
  · rw [e, if_neg hk]; exact load0_no S w h (by omega)

theorem load6_any (S : Src) (w : World) (h : InM w S) :
    Calls Try.prog 40 #[.slice (some ⟨S.b, S.o, none⟩) S.len S.cap] w (LoadPost (loadO S 6) w) := by
  have e : loadO S 6 = if Ok6 S then (if be2 S 8 = 0 then some [] else some [seg6 S]) else none := by
    unfold loadO
    rw [if_neg (by decide), if_neg (by decide), if_pos rfl]
  by_cases hk : Ok6 S
  · have hb := be2_bd h.bs (a := 8) (by have := hk.1; omega)
    rw [e, if_pos hk]
    obtain ⟨h1, h2, h3⟩ := hk
    by_cases hz : be2 S 8 = 0
    · rw [if_pos hz]; exact load6_zero S w h h1 hz
    · rw [if_neg hz]; exact load6_yes S w h h1 (by omega) h2 h3
  · rw [e, if_neg hk]
    by_cases h10 : 10 ≤ S.len
    · refine load6_bad S w h h10 ?_
      unfold Ok6 at hk
      by_cases h1 : (S.len : Int) - 10 < 2 * be2 S 8
      · left; exact h1
      · right
        by_cases h2 : 65536 < be2 S 6 + be2 S 8
        · exact h2
        · exact absurd ⟨h10, h1, h2⟩ hk
    · exact load6_short S w h (by omega)

theorem load12_any (S : Src) (w : World) (h : InM w S) :
    Calls Try.prog 41 #[.slice (some ⟨S.b, S.o, none⟩) S.len S.cap] w (LoadPost (loadO S 12) w) := by
  have e : loadO S 12 = if Ok12 S then (st12 S (be4 S 12).toNat).map (·.2) else none := by
    unfold loadO
    rw [if_neg (by decide), if_neg (by decide), if_neg (by decide)]
  by_cases hk : Ok12 S
  · rw [e, if_pos hk]; exact load12_go S w h hk.1 hk.2
  · rw [e, if_neg hk]
    by_cases h16 : 16 ≤ S.len
    · refine load12_bad S w h h16 ?_
      unfold Ok12 at hk
      by_cases h1 : ((S.len : Int) - 16) / 12 < be4 S 12
      · exact h1
      · exact absurd ⟨h16, h1⟩ hk
    · exact load12_short S w h (by omega)

/-- What a loader leaves, in one form. -/
structure LoadedV (o : Option (List Seg)) (w : World) (v : Value) (is : Bool) (w' : World) : Prop where
  b : Below w.heap.size w w'
  i : is = o.isSome
  s : ∀ l, o = some l → SegsAt w' w.heap.size v l

def LoadedP (o : Option (List Seg)) (w : World) (e : Ending) (w' : World) : Prop := ∃ v is, e = .returned (.tuple #[v, .bool is]) ∧ LoadedV o w v is w'

theorem LoadPost.form {o : Option (List Seg)} {w w' : World} {e : Ending} (h : LoadPost o w e w') : LoadedP o w e w' := by
  obtain ⟨hb, h⟩ := h
  cases o with
  | none => obtain ⟨v, rfl⟩ := h; exact ⟨v, false, rfl, hb, rfl, fun l hl => by cases hl⟩
  | some l => obtain ⟨v, rfl, hs⟩ := h; exact ⟨v, true, rfl, hb, rfl, fun l' hl => by cases hl; exact hs⟩

theorem load_any (S : Src) (x : Int) (hx : fmtB x = true) (w : World) (h : InM w S) :
    Calls Try.prog 18 #[.slice (some ⟨S.b, S.o, none⟩) S.len S.cap, .int .i64 x] w (LoadedP (loadO S x) w) := by
  have H := Lib.hid h
  clear h
  have hc : x = 0 ∨ x = 4 ∨ x = 6 ∨ x = 12 := by simpa [fmtB, or_assoc] using hx
  clear hx
  rcases hc with rfl | rfl | rfl | rfl
  · go_enter Try.func18, Try.ntmps18
    go_wp2_with (go_at_call 38; refine ((load0_any S _ H.out).mono fun _ _ hp => LoadPost.form hp).mono ?_; rintro e w' ⟨v, is, rfl, hp⟩; have HP := Lib.hid hp; clear hp)
    go_ret2
    exact ⟨v, is, rfl, HP.out⟩
  · go_enter Try.func18, Try.ntmps18
    go_wp2_with (go_at_call 39; refine ((load4_any S _ H.out).mono fun _ _ hp => LoadPost.form hp).mono ?_; rintro e w' ⟨v, is, rfl, hp⟩; have HP := Lib.hid hp; clear hp)
    go_ret2
    exact ⟨v, is, rfl, HP.out⟩
  · go_enter Try.func18, Try.ntmps18
    go_wp2_with (go_at_call 40; refine ((load6_any S _ H.out).mono fun _ _ hp => LoadPost.form hp).mono ?_; rintro e w' ⟨v, is, rfl, hp⟩; have HP := Lib.hid hp; clear hp)
    go_ret2
    exact ⟨v, is, rfl, HP.out⟩
  · go_enter Try.func18, Try.ntmps18
    go_wp2_with (go_at_call 41; refine ((load12_any S _ H.out).mono fun _ _ hp => LoadPost.form hp).mono ?_; rintro e w' ⟨v, is, rfl, hp⟩; have HP := Lib.hid hp; clear hp)
    go_ret2
    exact ⟨v, is, rfl, HP.out⟩

theorem SegsAt.form {w : World} {B : Nat} {v : Value} {l : List Seg} (h : SegsAt w B v l) : ∃ A c, v = .slice A l.length c := by
  obtain ⟨lvs, _, h2, _⟩ := h
  rcases h2.2 with ⟨rfl, h0⟩ | ⟨g, cap, _, rfl, _⟩
  · exact ⟨none, 0, by rw [h0]⟩
  · exact ⟨_, _, rfl⟩

/-- A map in memory. -/
def MapAt (w : World) (p : Nat) (f n : Int) (l : List Seg) : Prop := ∃ v B, Blk w p 52 #[.int .i64 f, .int .i64 n, v] ∧ SegsAt w B v l

theorem MapAt.below {w w' : World} {p : Nat} {f n : Int} {l : List Seg} (h : MapAt w p f n l) (hb : Below w.heap.size w w') : MapAt w' p f n l := by
  obtain ⟨v, B, h1, h2⟩ := h
  exact ⟨v, B, Blk.below h1 hb (Blk.lt h1), h2.below hb⟩

/-- What 'Load' answers: an error's number, or the format and the segments. -/
noncomputable def LoadR (S : Src) (n : Int) : Except Int (Int × List Seg) :=
  if n < 1 ∨ 65535 < n then .error 1
  else if S.len < 2 then .error 80
  else if fmtB (be2 S 0) = false then .error 81
  else if sizeB S (be2 S 0) < 0 ∨ (S.len : Int) < sizeB S (be2 S 0) then .error 80
  else match loadO { S with len := (sizeB S (be2 S 0)).toNat } (be2 S 0) with
    | none => .error 80
    | some l => .ok (be2 S 0, l)

/-- What a call of 'Load' leaves. -/
def LoadMPost (r : Except Int (Int × List Seg)) (n : Int) (w : World) (e : Ending) (w' : World) : Prop :=
  Below w.heap.size w w' ∧ match r with
  | .error c => e = .returned (.tuple #[.pointer none, .int .i64 c])
  | .ok (f, l) => ∃ p, e = .returned (.tuple #[.pointer (some ⟨p, 0, none⟩), .int .i64 0]) ∧ MapAt w' p f n l

theorem Load_arg (S : Src) (n : Int) (w : World) (h : n < 1 ∨ 65535 < n) :
    Calls Try.prog 5 #[.slice (some ⟨S.b, S.o, none⟩) S.len S.cap, .int .i64 n] w (LoadMPost (.error 1) n w) := by
  by_cases h1 : n < 1
  · go_enter Try.func5, Try.ntmps5
    go_wp2
    go_ret2
    exact ⟨Below.refl _ _, rfl⟩
  · have h2 : 65535 < n := by omega
    go_enter Try.func5, Try.ntmps5
    go_wp2
    go_ret2
    exact ⟨Below.refl _ _, rfl⟩

theorem Load_short (S : Src) (n : Int) (w : World) (hI : InM w S) (h : ¬ n < 1) (h2 : ¬ 65535 < n) (hs : S.len < 2) :
    Calls Try.prog 5 #[.slice (some ⟨S.b, S.o, none⟩) S.len S.cap, .int .i64 n] w (LoadMPost (.error 80) n w) := by
  have H := Lib.hid hI
  clear hI
  have e1 : (!okB S 0 2 false) = true := by simp [okB]; omega
  go_enter Try.func5, Try.ntmps5
  go_wp2_with fail
  refine (new_any S _ H.out.hlen H.out.hc H.out.hb H.out.bs).mono ?_
  rintro e w1 ⟨rfl, hr1, hb1, hs1⟩
  have Hr1 := Lib.hid hr1
  have Hb1 := Lib.hid hb1
  clear hr1 hb1
  go_wp2_with fail
  refine (u16_any w.heap.size S _ _ _ Hr1.out).mono ?_
  rintro e w2 ⟨rfl, hr2, ht2⟩
  rw [e1] at hr2
  have Hr2 := Lib.hid hr2
  have Hb := Lib.hid (Hb1.out.trans (ht2.below (Nat.le_refl _) Hb1.out.size))
  clear hr2 ht2
  go_wp2_with (go_at_call 15; refine (done_any w.heap.size _ _ _ _ Hr2.out.rd).mono ?_; rintro e w5 ⟨rfl, rfl⟩)
  go_ret2
  exact ⟨Hb.out, rfl⟩

theorem Load_fmt (S : Src) (n : Int) (w : World) (hI : InM w S) (h : ¬ n < 1) (h2 : ¬ 65535 < n) (hs : 2 ≤ S.len) (hf : fmtB (be2 S 0) = false) :
    Calls Try.prog 5 #[.slice (some ⟨S.b, S.o, none⟩) S.len S.cap, .int .i64 n] w (LoadMPost (.error 81) n w) := by
  have H := Lib.hid hI
  clear hI
  go_enter Try.func5, Try.ntmps5
  go_wp2_with fail
  refine (new_any S _ H.out.hlen H.out.hc H.out.hb H.out.bs).mono ?_
  rintro e w1 ⟨rfl, hr1, hb1, hs1⟩
  have Hr1 := Lib.hid hr1
  have Hb1 := Lib.hid hb1
  clear hr1 hb1
  go_wp2_with fail
  refine (u16_yes w.heap.size S _ _ Hr1.out (by omega)).mono ?_
  rintro e w2 ⟨rfl, hr2, ht2⟩
  have Hr2 := Lib.hid hr2
  have Hb := Lib.hid (Hb1.out.trans (ht2.below (Nat.le_refl _) Hb1.out.size))
  clear hr2 ht2
  go_wp2_with (first | (go_at_call 15; refine (done_yes w.heap.size _ _ _ Hr2.out.rd).mono ?_; rintro e w5 ⟨rfl, rfl⟩) | (go_at_call 16; refine (isFormat_any _ _).mono ?_; rintro e w6 ⟨rfl, hb6⟩; have Hb6 := Lib.hid hb6; clear hb6))
  go_ret2
  exact ⟨Hb.out.trans (Hb6.out.mono Hb.out.size), rfl⟩

theorem InM.cut {w : World} {S : Src} (h : InM w S) {m : Nat} (hm : m ≤ S.len) : InM w { S with len := m } :=
  ⟨Nat.le_trans hm h.hlen, Nat.le_trans hm h.hc, h.hb, fun i hi => h.bs i (Nat.lt_of_lt_of_le hi hm)⟩

theorem size_all (S : Src) (x : Int) (w : World) (h : InM w S) :
    Calls Try.prog 17 #[.slice (some ⟨S.b, S.o, none⟩) S.len S.cap, .int .i64 x] w fun e w' => e = .returned (.int .i64 (sizeB S x)) ∧ Below w.heap.size w w' := by
  by_cases hx : x = 12
  · subst hx; exact size_12 S w h
  · exact size_any S x hx w h

theorem Load_size (S : Src) (n : Int) (w : World) (hI : InM w S) (h : ¬ n < 1) (h2 : ¬ 65535 < n) (hs : 2 ≤ S.len) (hf : fmtB (be2 S 0) = true) (hx : sizeB S (be2 S 0) < 0 ∨ (S.len : Int) < sizeB S (be2 S 0)) :
    Calls Try.prog 5 #[.slice (some ⟨S.b, S.o, none⟩) S.len S.cap, .int .i64 n] w (LoadMPost (.error 80) n w) := by
  have H := Lib.hid hI
  clear hI
  by_cases hy : sizeB S (be2 S 0) < 0
  case' neg => have hz : (S.len : Int) < sizeB S (be2 S 0) := by omega
  all_goals
    go_enter Try.func5, Try.ntmps5
    go_wp2_with fail
    refine (new_any S _ H.out.hlen H.out.hc H.out.hb H.out.bs).mono ?_
    rintro e w1 ⟨rfl, hr1, hb1, hs1⟩
    have Hr1 := Lib.hid hr1
    have Hb1 := Lib.hid hb1
    clear hr1 hb1
    go_wp2_with fail
    refine (u16_yes w.heap.size S _ _ Hr1.out (by omega)).mono ?_
    rintro e w2 ⟨rfl, hr2, ht2⟩
    have Hr2 := Lib.hid hr2
    have Hb := Lib.hid (Hb1.out.trans (ht2.below (Nat.le_refl _) Hb1.out.size))
    clear hr2 ht2
    go_wp2_with (first | (go_at_call 15; refine (done_yes w.heap.size _ _ _ Hr2.out.rd).mono ?_; rintro e w5 ⟨rfl, rfl⟩) | (go_at_call 16; refine (isFormat_any _ _).mono ?_; rintro e w6 ⟨rfl, hb6⟩; have Hb6 := Lib.hid (Hb.out.trans (hb6.mono Hb.out.size)); clear hb6) | (go_at_call 17; refine (size_all S _ _ (H.out.below Hb6.out)).mono ?_; rintro e w7 ⟨rfl, hb7⟩; have Hb7 := Lib.hid (Hb6.out.trans (hb7.mono Hb6.out.size)); clear hb7) | (go_at_call 18; refine held_ ?_))
    go_ret2
    exact ⟨Hb7.out, rfl⟩

set_option maxHeartbeats 800000 in
theorem Load_ok (S : Src) (n : Int) (m : Nat) (w : World) (hI : InM w S) (h : ¬ n < 1) (h2 : ¬ 65535 < n) (hs : 2 ≤ S.len) (hf : fmtB (be2 S 0) = true) (hm : sizeB S (be2 S 0) = (m : Int)) (hm2 : m ≤ S.len) :
    Calls Try.prog 5 #[.slice (some ⟨S.b, S.o, none⟩) S.len S.cap, .int .i64 n] w (LoadMPost (match loadO { S with len := m } (be2 S 0) with
    | none => .error 80
    | some l => .ok (be2 S 0, l)) n w) := by
  obtain ⟨o, ho⟩ : ∃ o, o = loadO { S with len := m } (be2 S 0) := ⟨_, rfl⟩
  rw [← ho]
  have HO := Lib.hid ho
  have H := Lib.hid hI
  have HM := Lib.hid hm
  have hc := hI.hc
  have hlen := hI.hlen
  have HF := Lib.hid hf
  clear hI hm ho
  cases o with
  | none =>
    go_enter Try.func5, Try.ntmps5
    go_wp2_with fail
    refine (new_any S _ H.out.hlen H.out.hc H.out.hb H.out.bs).mono ?_
    rintro e w1 ⟨rfl, hr1, hb1, hs1⟩
    have Hr1 := Lib.hid hr1
    have Hb1 := Lib.hid hb1
    clear hr1 hb1
    go_wp2_with fail
    refine (u16_yes w.heap.size S _ _ Hr1.out (by omega)).mono ?_
    rintro e w2 ⟨rfl, hr2, ht2⟩
    have Hr2 := Lib.hid hr2
    have Hb := Lib.hid (Hb1.out.trans (ht2.below (Nat.le_refl _) Hb1.out.size))
    clear hr2 ht2
    go_wp2_with (first | (go_at_call 15; refine (done_yes w.heap.size _ _ _ Hr2.out.rd).mono ?_; rintro e w5 ⟨rfl, rfl⟩) | (go_at_call 16; refine (isFormat_any _ _).mono ?_; rintro e w6 ⟨rfl, hb6⟩; have Hb6 := Lib.hid (Hb.out.trans (hb6.mono Hb.out.size)); clear hb6) | (go_at_call 17; refine (size_all S _ _ (H.out.below Hb6.out)).mono ?_; rintro e w7 ⟨rfl, hb7⟩; rw [HM.out]; have Hb7 := Lib.hid (Hb6.out.trans (hb7.mono Hb6.out.size)); clear hb7) | (go_at_call 18; refine held_ ?_))
    refine unheld_ ?_
    refine (load_any { S with len := m } _ HF.out _ ((H.out.below Hb7.out).cut hm2)).mono ?_
    rintro e w8 ⟨v, is, rfl, hp⟩
    rw [← HO.out] at hp
    obtain ⟨hb8, rfl, _⟩ := hp
    have Hb8 := Lib.hid (Hb7.out.trans (hb8.mono Hb7.out.size))
    clear hb8
    go_wp2
    go_ret2
    exact ⟨Hb8.out, rfl⟩
  | some l =>
    go_enter Try.func5, Try.ntmps5
    go_wp2_with fail
    refine (new_any S _ H.out.hlen H.out.hc H.out.hb H.out.bs).mono ?_
    rintro e w1 ⟨rfl, hr1, hb1, hs1⟩
    have Hr1 := Lib.hid hr1
    have Hb1 := Lib.hid hb1
    clear hr1 hb1
    go_wp2_with fail
    refine (u16_yes w.heap.size S _ _ Hr1.out (by omega)).mono ?_
    rintro e w2 ⟨rfl, hr2, ht2⟩
    have Hr2 := Lib.hid hr2
    have Hb := Lib.hid (Hb1.out.trans (ht2.below (Nat.le_refl _) Hb1.out.size))
    clear hr2 ht2
    go_wp2_with (first | (go_at_call 15; refine (done_yes w.heap.size _ _ _ Hr2.out.rd).mono ?_; rintro e w5 ⟨rfl, rfl⟩) | (go_at_call 16; refine (isFormat_any _ _).mono ?_; rintro e w6 ⟨rfl, hb6⟩; have Hb6 := Lib.hid (Hb.out.trans (hb6.mono Hb.out.size)); clear hb6) | (go_at_call 17; refine (size_all S _ _ (H.out.below Hb6.out)).mono ?_; rintro e w7 ⟨rfl, hb7⟩; rw [HM.out]; have Hb7 := Lib.hid (Hb6.out.trans (hb7.mono Hb6.out.size)); clear hb7) | (go_at_call 18; refine held_ ?_))
    refine unheld_ ?_
    refine (load_any { S with len := m } _ HF.out _ ((H.out.below Hb7.out).cut hm2)).mono ?_
    rintro e w8 ⟨v, is, rfl, hp⟩
    rw [← HO.out] at hp
    obtain ⟨hb8, rfl, hs8⟩ := hp
    have Hb8 := Lib.hid (Hb7.out.trans (hb8.mono Hb7.out.size))
    obtain ⟨vA, vc, rfl⟩ := (hs8 l rfl).form
    have Hs8 := Lib.hid (hs8 l rfl)
    clear hb8 hs8
    go_wp2
    go_ret2
    exact ⟨Hb8.out.alloc Hb8.out.size _, _, rfl, _, _, Blk.new _ _ _, Hs8.out.below ((Below.refl _ _).alloc (Nat.le_refl _) _)⟩

/-- 'Load', whatever is asked. -/
theorem Load_any (S : Src) (n : Int) (w : World) (hI : InM w S) :
    Calls Try.prog 5 #[.slice (some ⟨S.b, S.o, none⟩) S.len S.cap, .int .i64 n] w (LoadMPost (LoadR S n) n w) := by
  unfold LoadR
  by_cases h1 : n < 1 ∨ 65535 < n
  · rw [if_pos h1]; exact Load_arg S n w h1
  · rw [if_neg h1]
    by_cases h2 : S.len < 2
    · rw [if_pos h2]; exact Load_short S n w hI (by omega) (by omega) h2
    · rw [if_neg h2]
      by_cases h3 : fmtB (be2 S 0) = false
      · rw [if_pos h3]; exact Load_fmt S n w hI (by omega) (by omega) (by omega) h3
      · rw [if_neg h3]
        have h3' : fmtB (be2 S 0) = true := by simpa using h3
        by_cases h4 : sizeB S (be2 S 0) < 0 ∨ (S.len : Int) < sizeB S (be2 S 0)
        · rw [if_pos h4]; exact Load_size S n w hI (by omega) (by omega) (by omega) h3' h4
        · rw [if_neg h4]
          exact Load_ok S n (sizeB S (be2 S 0)).toNat w hI (by omega) (by omega) (by omega) h3' (by omega) (by omega)

end Go.Proofs.Ythfppmamnnnnmaa
