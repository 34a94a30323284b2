/-
  (*Writer).U16, Done; the closures of 'made4' at the pairs of 'lives'.
-/
import Derived.Test.YthfppmamnnnnmaaWr
import Derived.Test.YthfppmamnnnnmaaClone
set_option linter.unusedVariables false
namespace Go.Proofs.Ythfppmamnnnnmaa
open Go.RowKit

theorem U16w_any (p : Nat) (xs : List Int) (room : Int) (x : Int) (w : World) (hw : Wr w p xs room) (hn : (2 : Int) ≤ room - xs.length) (hr : room < 1000000000000) :
    Calls Try.prog 49 #[.pointer (some ⟨p, 0, none⟩), .int .i64 x] w fun e w' => e = .returned (.pointer (some ⟨p, 0, none⟩)) ∧ Wr w' p (xs ++ nb 2 x 2) room ∧ WrStep w w' p := by
  have H := Lib.hid hw
  clear hw
  go_enter Try.func49, Try.ntmps49
  go_wp2_with (go_at_call 68; refine (wnumber_any p xs room 2 2 rfl (by omega) x w H.out (by omega) hr).mono ?_; rintro e w1 ⟨rfl, hp⟩; have HP := Lib.hid hp; clear hp)
  go_ret
  exact ⟨rfl, HP.out⟩

theorem Donew_any (p : Nat) (xs : List Int) (room : Int) (w : World) (hw : Wr w p xs room) (h0 : 0 < xs.length) (hr : xs.length ≤ 2000000000) :
    Calls Try.prog 51 #[.pointer (some ⟨p, 0, none⟩)] w fun e w' => ∃ v, e = .returned (.tuple #[v, .int .i64 0]) ∧ w'.ownsRow w.heap.size 5 1 v xs.length (xs.map (Value.int .u8)) ∧ Below w.heap.size w w' := by
  obtain ⟨v, h1, h2⟩ := hw
  obtain ⟨g, cap, cur, rfl, _, hg, hnc, hcm, _, _⟩ : ∃ g cap cur, v = .slice (some ⟨g, 0, none⟩) xs.length cap ∧ p + 1 ≤ g ∧ w.heap[g]? = some (.cells cur 5 (0, 0)) ∧ xs.length ≤ cap ∧ cap ≤ maxLen ∧ cur.size = cap * 1 ∧ cur.toList.take (xs.length * 1) = xs.map (Value.int .u8) := by
    rcases h2.2 with ⟨_, h3⟩ | h3
    · omega
    · exact h3
  have c0 : w.cell? ⟨p, 0, none⟩ = some (.slice (some ⟨g, 0, none⟩) xs.length cap) := h1.cell 0
  have c2 : w.cell? ⟨p, 2, none⟩ = some (.bool false) := h1.cell 2
  have H2 := Lib.hid h2
  clear h1 h2 hg
  go_enter Try.func51, Try.ntmps51
  go_wp2_with fail
  refine (clone_any g 0 xs.length cap (xs.map (Value.int .u8)) w (by simp) hr (by simp [Value.oneCell']) ?_).mono ?_
  · intro j u hu
    have := World.ownsRow.cells H2.out (g := g) rfl j u hu
    rwa [add_none] at this
  · rintro e w1 ⟨v, rfl, hb, ho⟩
    have HB := Lib.hid hb
    have HO := Lib.hid ho
    clear hb ho
    go_wp2
    go_ret2
    exact ⟨v, rfl, HO.out, HB.out⟩

theorem Wr.drew {w : World} {p : Nat} {xs : List Int} {room : Int} (h : Wr w p xs room) : Wr w.drew p xs room := h
theorem Wr.drewN {w : World} {p : Nat} {xs : List Int} {room : Int} (h : Wr w p xs room) (q : Nat) : Wr (w.drewN q) p xs room := h
theorem WrStep.drew {w w' : World} {p : Nat} (h : WrStep w.drew w' p) : WrStep w w' p := ⟨((Below.refl p w).drew).trans h.b, fun g t cs h1 h2 h3 => h.k g t cs h1 h2 h3⟩

def part0 (g0 : Nat) : Value := .slice (some ⟨g0, 0, none⟩) 3 3
def part1 (g1 : Nat) : Value := .slice (some ⟨g1, 0, none⟩) 1 1

/-- What 'made4' has about it while it writes. -/
structure Env4 (w : World) (bw bp gp cap g0 g1 p : Nat) : Prop where
  bw : Blk w bw 75 #[.pointer (some ⟨p, 0, none⟩)]
  bp : Blk w bp 79 #[.slice (some ⟨gp, 0, none⟩) 2 cap]
  gp : ∃ cs, Blk w gp 38 cs ∧ cs[0]? = some (part0 g0) ∧ cs[1]? = some (part1 g1)
  b0 : Blk w g0 37 #[.int .i64 65, .int .i64 1, .int .i64 66, .int .i64 2, .int .i64 67, .int .i64 3]
  b1 : Blk w g1 37 #[.int .i64 65535, .int .i64 65536]

theorem blk_ne {w : World} {g g' : Nat} {t t' : TypeId} {cs cs' : Array Value} (h : Blk w g t cs) (h' : Blk w g' t' cs') (hne : t ≠ t') : g ≠ g' := by
  rintro rfl
  unfold Blk at h h'
  rw [h] at h'
  injection h' with h'
  injection h' with _ ht
  exact hne ht

theorem Wr.ne {w : World} {p : Nat} {xs : List Int} {room : Int} (h : Wr w p xs room) {g : Nat} {t : TypeId} {cs : Array Value} (hb : Blk w g t cs) (ht : t ≠ 90) : g ≠ p := by
  obtain ⟨v, h1, _⟩ := h
  exact blk_ne hb h1 ht

theorem Env4.step {w w' : World} {bw bp gp cap g0 g1 p : Nat} {xs : List Int} {room : Int} (h : Env4 w bw bp gp cap g0 g1 p) (hw : Wr w p xs room) (hs : WrStep w w' p) : Env4 w' bw bp gp cap g0 g1 p := by
  obtain ⟨cs, hg, h0, h1⟩ := h.gp
  exact ⟨hs.k _ _ _ (by decide) (hw.ne h.bw (by decide)) h.bw, hs.k _ _ _ (by decide) (hw.ne h.bp (by decide)) h.bp, ⟨cs, hs.k _ _ _ (by decide) (hw.ne hg (by decide)) hg, h0, h1⟩,
    hs.k _ _ _ (by decide) (hw.ne h.b0 (by decide)) h.b0, hs.k _ _ _ (by decide) (hw.ne h.b1 (by decide)) h.b1⟩

/-- What a call of one of the closures leaves. -/
def PutPost (p : Nat) (xs : List Int) (x : Int) (w : World) (e : Ending) (w' : World) : Prop := e = .returned (.tuple #[]) ∧ Wr w' p (xs ++ nb 2 x 2) 32 ∧ WrStep w w' p

set_option maxHeartbeats 2000000 in
theorem put54_0 (bw bp gp cap g0 g1 p : Nat) (xs : List Int) (w : World) (h : Env4 w bw bp gp cap g0 g1 p) (hw : Wr w p xs 32) (hx : xs.length + 2 ≤ 32) :
    Calls Try.prog 54 #[part0 g0, .pointer (some ⟨bw, 0, none⟩)] w (PutPost p xs (67) w) := by
  have c0 : w.cell? ⟨bw, 0, none⟩ = some (.pointer (some ⟨p, 0, none⟩)) := h.bw.cell 0
  have d0 : w.cell? ⟨g0, 4, none⟩ = some (.int .i64 67) := h.b0.cell 4
  have HE := Lib.hid h
  have HW := Lib.hid hw
  clear h hw
  unfold part0
  have wa : IntKind.i64.wrap ((3 : Int) - 1) = 2 := by decide
  have wb : IntKind.i64.wrap (((3 : Nat) : Int) - 1) = 2 := by decide
  have wc : IntKind.i64.wrap (2 : Int) = 2 := by decide
  go_enter Try.func54, Try.ntmps54
  go_wp2
  go_region_held3 (fun w' => w'.cell? ⟨bw, 0, none⟩ = some (.pointer (some ⟨p, 0, none⟩)) ∧ w'.cell? ⟨g0, 4, none⟩ = some (.int .i64 67)) (first | (go_keep; done) | exact ⟨HE1.out.bw.cell 0, HE1.out.b0.cell 4⟩)
    ((go_at_call 49; refine (U16w_any p xs 32 _ _ HW.out.drew (by omega) (by omega)).mono ?_; rintro e w1 ⟨rfl, hp, hs⟩; have HP := Lib.hid hp; have HS := Lib.hid hs.drew; have HE1 := Lib.hid (HE.out.step HW.out HS.out); clear hp hs))
  go_wp2
  go_end0
  exact ⟨rfl, HP.out, HS.out⟩

set_option maxHeartbeats 2000000 in
theorem put54_1 (bw bp gp cap g0 g1 p : Nat) (xs : List Int) (w : World) (h : Env4 w bw bp gp cap g0 g1 p) (hw : Wr w p xs 32) (hx : xs.length + 2 ≤ 32) :
    Calls Try.prog 54 #[part1 g1, .pointer (some ⟨bw, 0, none⟩)] w (PutPost p xs (65535) w) := by
  have c0 : w.cell? ⟨bw, 0, none⟩ = some (.pointer (some ⟨p, 0, none⟩)) := h.bw.cell 0
  have d0 : w.cell? ⟨g1, 0, none⟩ = some (.int .i64 65535) := h.b1.cell 0
  have HE := Lib.hid h
  have HW := Lib.hid hw
  clear h hw
  unfold part1
  have wa : IntKind.i64.wrap ((1 : Int) - 1) = 0 := by decide
  have wb : IntKind.i64.wrap (((1 : Nat) : Int) - 1) = 0 := by decide
  have wc : IntKind.i64.wrap (0 : Int) = 0 := by decide
  go_enter Try.func54, Try.ntmps54
  go_wp2
  go_region_held3 (fun w' => w'.cell? ⟨bw, 0, none⟩ = some (.pointer (some ⟨p, 0, none⟩)) ∧ w'.cell? ⟨g1, 0, none⟩ = some (.int .i64 65535)) (first | (go_keep; done) | exact ⟨HE1.out.bw.cell 0, HE1.out.b1.cell 0⟩)
    ((go_at_call 49; refine (U16w_any p xs 32 _ _ HW.out.drew (by omega) (by omega)).mono ?_; rintro e w1 ⟨rfl, hp, hs⟩; have HP := Lib.hid hp; have HS := Lib.hid hs.drew; have HE1 := Lib.hid (HE.out.step HW.out HS.out); clear hp hs))
  go_wp2
  go_end0
  exact ⟨rfl, HP.out, HS.out⟩

set_option maxHeartbeats 2000000 in
theorem put55_0 (bw bp gp cap g0 g1 p : Nat) (xs : List Int) (w : World) (h : Env4 w bw bp gp cap g0 g1 p) (hw : Wr w p xs 32) (hx : xs.length + 2 ≤ 32) :
    Calls Try.prog 55 #[part0 g0, .pointer (some ⟨bw, 0, none⟩)] w (PutPost p xs (65) w) := by
  have c0 : w.cell? ⟨bw, 0, none⟩ = some (.pointer (some ⟨p, 0, none⟩)) := h.bw.cell 0
  have d0 : w.cell? ⟨g0, 0, none⟩ = some (.int .i64 65) := h.b0.cell 0
  have HE := Lib.hid h
  have HW := Lib.hid hw
  clear h hw
  unfold part0
  go_enter Try.func55, Try.ntmps55
  go_wp2
  go_region_held3 (fun w' => w'.cell? ⟨bw, 0, none⟩ = some (.pointer (some ⟨p, 0, none⟩)) ∧ w'.cell? ⟨g0, 0, none⟩ = some (.int .i64 65)) (first | (go_keep; done) | exact ⟨HE1.out.bw.cell 0, HE1.out.b0.cell 0⟩)
    ((go_at_call 49; refine (U16w_any p xs 32 _ _ HW.out.drew (by omega) (by omega)).mono ?_; rintro e w1 ⟨rfl, hp, hs⟩; have HP := Lib.hid hp; have HS := Lib.hid hs.drew; have HE1 := Lib.hid (HE.out.step HW.out HS.out); clear hp hs))
  go_wp2
  go_end0
  exact ⟨rfl, HP.out, HS.out⟩

set_option maxHeartbeats 2000000 in
theorem put55_1 (bw bp gp cap g0 g1 p : Nat) (xs : List Int) (w : World) (h : Env4 w bw bp gp cap g0 g1 p) (hw : Wr w p xs 32) (hx : xs.length + 2 ≤ 32) :
    Calls Try.prog 55 #[part1 g1, .pointer (some ⟨bw, 0, none⟩)] w (PutPost p xs (65535) w) := by
  have c0 : w.cell? ⟨bw, 0, none⟩ = some (.pointer (some ⟨p, 0, none⟩)) := h.bw.cell 0
  have d0 : w.cell? ⟨g1, 0, none⟩ = some (.int .i64 65535) := h.b1.cell 0
  have HE := Lib.hid h
  have HW := Lib.hid hw
  clear h hw
  unfold part1
  go_enter Try.func55, Try.ntmps55
  go_wp2
  go_region_held3 (fun w' => w'.cell? ⟨bw, 0, none⟩ = some (.pointer (some ⟨p, 0, none⟩)) ∧ w'.cell? ⟨g1, 0, none⟩ = some (.int .i64 65535)) (first | (go_keep; done) | exact ⟨HE1.out.bw.cell 0, HE1.out.b1.cell 0⟩)
    ((go_at_call 49; refine (U16w_any p xs 32 _ _ HW.out.drew (by omega) (by omega)).mono ?_; rintro e w1 ⟨rfl, hp, hs⟩; have HP := Lib.hid hp; have HS := Lib.hid hs.drew; have HE1 := Lib.hid (HE.out.step HW.out HS.out); clear hp hs))
  go_wp2
  go_end0
  exact ⟨rfl, HP.out, HS.out⟩

set_option maxHeartbeats 2000000 in
theorem put56_0 (bw bp gp cap g0 g1 p : Nat) (xs : List Int) (w : World) (h : Env4 w bw bp gp cap g0 g1 p) (hw : Wr w p xs 32) (hx : xs.length + 2 ≤ 32) :
    Calls Try.prog 56 #[part0 g0, .pointer (some ⟨bw, 0, none⟩)] w (PutPost p xs (-64) w) := by
  have c0 : w.cell? ⟨bw, 0, none⟩ = some (.pointer (some ⟨p, 0, none⟩)) := h.bw.cell 0
  have d0 : w.cell? ⟨g0, 1, none⟩ = some (.int .i64 1) := h.b0.cell 1
  have d1 : w.cell? ⟨g0, 0, none⟩ = some (.int .i64 65) := h.b0.cell 0
  have HE := Lib.hid h
  have HW := Lib.hid hw
  clear h hw
  unfold part0
  go_enter Try.func56, Try.ntmps56
  go_wp2
  go_region_held3 (fun w' => w'.cell? ⟨bw, 0, none⟩ = some (.pointer (some ⟨p, 0, none⟩)) ∧ w'.cell? ⟨g0, 1, none⟩ = some (.int .i64 1) ∧ w'.cell? ⟨g0, 0, none⟩ = some (.int .i64 65)) (first | (go_keep; done) | exact ⟨HE1.out.bw.cell 0, HE1.out.b0.cell 1, HE1.out.b0.cell 0⟩)
    ((go_at_call 49; refine (U16w_any p xs 32 _ _ HW.out.drew (by omega) (by omega)).mono ?_; rintro e w1 ⟨rfl, hp, hs⟩; have HP := Lib.hid hp; have HS := Lib.hid hs.drew; have HE1 := Lib.hid (HE.out.step HW.out HS.out); clear hp hs))
  go_wp2
  go_end0
  exact ⟨rfl, HP.out, HS.out⟩

set_option maxHeartbeats 2000000 in
theorem put56_1 (bw bp gp cap g0 g1 p : Nat) (xs : List Int) (w : World) (h : Env4 w bw bp gp cap g0 g1 p) (hw : Wr w p xs 32) (hx : xs.length + 2 ≤ 32) :
    Calls Try.prog 56 #[part1 g1, .pointer (some ⟨bw, 0, none⟩)] w (PutPost p xs (1) w) := by
  have c0 : w.cell? ⟨bw, 0, none⟩ = some (.pointer (some ⟨p, 0, none⟩)) := h.bw.cell 0
  have d0 : w.cell? ⟨g1, 1, none⟩ = some (.int .i64 65536) := h.b1.cell 1
  have d1 : w.cell? ⟨g1, 0, none⟩ = some (.int .i64 65535) := h.b1.cell 0
  have HE := Lib.hid h
  have HW := Lib.hid hw
  clear h hw
  unfold part1
  go_enter Try.func56, Try.ntmps56
  go_wp2
  go_region_held3 (fun w' => w'.cell? ⟨bw, 0, none⟩ = some (.pointer (some ⟨p, 0, none⟩)) ∧ w'.cell? ⟨g1, 1, none⟩ = some (.int .i64 65536) ∧ w'.cell? ⟨g1, 0, none⟩ = some (.int .i64 65535)) (first | (go_keep; done) | exact ⟨HE1.out.bw.cell 0, HE1.out.b1.cell 1, HE1.out.b1.cell 0⟩)
    ((go_at_call 49; refine (U16w_any p xs 32 _ _ HW.out.drew (by omega) (by omega)).mono ?_; rintro e w1 ⟨rfl, hp, hs⟩; have HP := Lib.hid hp; have HS := Lib.hid hs.drew; have HE1 := Lib.hid (HE.out.step HW.out HS.out); clear hp hs))
  go_wp2
  go_end0
  exact ⟨rfl, HP.out, HS.out⟩

theorem put57_0 (bw bp gp cap g0 g1 p : Nat) (xs : List Int) (w : World) (h : Env4 w bw bp gp cap g0 g1 p) (hw : Wr w p xs 32) (hx : xs.length + 2 ≤ 32) :
    Calls Try.prog 57 #[part0 g0, .pointer (some ⟨bw, 0, none⟩)] w (PutPost p xs 0 w) := by
  have c0 : w.cell? ⟨bw, 0, none⟩ = some (.pointer (some ⟨p, 0, none⟩)) := h.bw.cell 0
  have HW := Lib.hid hw
  clear h hw
  unfold part0
  go_enter Try.func57, Try.ntmps57
  go_wp2_with (go_at_call 49; refine (U16w_any p xs 32 _ _ HW.out (by omega) (by omega)).mono ?_; rintro e w1 ⟨rfl, hp, hs⟩; have HP := Lib.hid hp; have HS := Lib.hid hs; clear hp hs)
  go_end0
  exact ⟨rfl, HP.out, HS.out⟩

theorem put57_1 (bw bp gp cap g0 g1 p : Nat) (xs : List Int) (w : World) (h : Env4 w bw bp gp cap g0 g1 p) (hw : Wr w p xs 32) (hx : xs.length + 2 ≤ 32) :
    Calls Try.prog 57 #[part1 g1, .pointer (some ⟨bw, 0, none⟩)] w (PutPost p xs 0 w) := by
  have c0 : w.cell? ⟨bw, 0, none⟩ = some (.pointer (some ⟨p, 0, none⟩)) := h.bw.cell 0
  have HW := Lib.hid hw
  clear h hw
  unfold part1
  go_enter Try.func57, Try.ntmps57
  go_wp2_with (go_at_call 49; refine (U16w_any p xs 32 _ _ HW.out (by omega) (by omega)).mono ?_; rintro e w1 ⟨rfl, hp, hs⟩; have HP := Lib.hid hp; have HS := Lib.hid hs; clear hp hs)
  go_end0
  exact ⟨rfl, HP.out, HS.out⟩

end Go.Proofs.Ythfppmamnnnnmaa
