/-
  The writer (package wire), where what is written fits.
-/
import Derived.Deep.RegionHeld3
import Derived.RegionTactic
import Derived.BigRegion
import Derived.Deep.RegionLaw
import Derived.Deep.AppendLies
import Derived.Test.YthfppmamnnnnmaaWant
set_option linter.unusedVariables false
namespace Go.Proofs.Ythfppmamnnnnmaa
open Go.RowKit

attribute [local go_sem] max_int min_int

/-- The writer in block p: its bytes, its room; it is not full. -/
def Wr (w : World) (p : Nat) (xs : List Int) (room : Int) : Prop :=
  ∃ v, Blk w p 90 #[v, .int .i64 room, .bool false] ∧ w.ownsRow (p + 1) 5 1 v xs.length (xs.map (Value.int .u8))

/-- What a writer's methods leave as it was. -/
structure WrStep (w w' : World) (p : Nat) : Prop where
  b : Below p w w'
  k : ∀ g t cs, t ≠ 5 → g ≠ p → Blk w g t cs → Blk w' g t cs
theorem WrStep.refl (w : World) (p : Nat) : WrStep w w p := ⟨Below.refl _ _, fun _ _ _ _ _ h => h⟩
theorem WrStep.trans {a b c : World} {p : Nat} (h : WrStep a b p) (k : WrStep b c p) : WrStep a c p := ⟨h.b.trans k.b, fun g t cs h1 h2 h3 => k.k g t cs h1 h2 (h.k g t cs h1 h2 h3)⟩
theorem WrStep.below {a b c : World} {p : Nat} (h : WrStep a b p) (hb : Below b.heap.size b c) (hp : p ≤ b.heap.size) : WrStep a c p :=
  ⟨h.b.trans (hb.mono hp), fun g t cs h1 h2 h3 => (h.k g t cs h1 h2 h3).below hb (h.k g t cs h1 h2 h3).lt⟩
theorem WrStep.of_below {b c : World} {p : Nat} (hb : Below b.heap.size b c) (hp : p ≤ b.heap.size) : WrStep b c p := (WrStep.refl b p).below hb hp

theorem Wr.keep {w w' : World} {p : Nat} {xs : List Int} {room : Int} (h : Wr w p xs room) (hb : Below w.heap.size w w') : Wr w' p xs room := by
  obtain ⟨v, h1, h2⟩ := h
  exact ⟨v, h1.below hb h1.lt, own_below h2 hb⟩
theorem Wr.lt {w : World} {p : Nat} {xs : List Int} {room : Int} (h : Wr w p xs room) : p < w.heap.size := by
  obtain ⟨v, h1, h2⟩ := h
  exact h1.lt

theorem Blk.drew_ {w : World} {g : Nat} {t : TypeId} {cs : Array Value} (h : Blk w g t cs) : Blk w.drew g t cs := h

theorem To_any (room : Int) (h : 0 ≤ room) (w : World) :
    Calls Try.prog 48 #[.int .i64 room] w fun e w' => e = .returned (.pointer (some ⟨w.heap.size, 0, none⟩)) ∧ Wr w' w.heap.size [] room ∧ Below w.heap.size w w' := by
  have hm : mx room 0 = room := by unfold mx; split <;> omega
  go_enter Try.func48, Try.ntmps48
  go_wp2
  go_ret
  exact ⟨rfl, ⟨_, Blk.new w 90 _, World.ownsRow_nil _ _ _ _⟩, (Below.refl _ _).alloc (Nat.le_refl _) _⟩

theorem bytes_form {w : World} {p : Nat} {v : Value} {xs : List Int} (h : w.ownsRow (p + 1) 5 1 v xs.length (xs.map (Value.int .u8))) : ∃ A c, v = .slice A xs.length c := by
  rcases h.2 with ⟨rfl, h0⟩ | ⟨g, cap, _, rfl, _⟩
  · exact ⟨none, 0, by rw [h0]⟩
  · exact ⟨_, _, rfl⟩

theorem wr_store {w : World} {p : Nat} {v : Value} {room : Int} {b : Bool} (h : Blk w p 90 #[v, .int .i64 room, .bool false]) (hb : b = false) :
    (w.setCell ⟨p, 2, none⟩ (.bool b)).drew.cell? ⟨p, 0, none⟩ = some v ∧ (w.setCell ⟨p, 2, none⟩ (.bool b)).drew.cell? ⟨p, 1, none⟩ = some (.int .i64 room) ∧ (w.setCell ⟨p, 2, none⟩ (.bool b)).drew.cell? ⟨p, 2, none⟩ = some (.bool false) := by
  subst hb
  have h2 : Blk (w.setCell ⟨p, 2, none⟩ (.bool false)).drew p 90 #[v, .int .i64 room, .bool false] := h.set_ 2 (.bool false)
  exact ⟨h2.cell 0, h2.cell 1, h2.cell 2⟩

theorem wr_set {w : World} {p : Nat} {v : Value} {room : Int} {xs : List Int} {b : Bool} (h1 : Blk w p 90 #[v, .int .i64 room, .bool false]) (h2 : w.ownsRow (p + 1) 5 1 v xs.length (xs.map (Value.int .u8))) (hb : b = false) :
    Wr (w.setCell ⟨p, 2, none⟩ (.bool b)).drew p xs room ∧ WrStep w (w.setCell ⟨p, 2, none⟩ (.bool b)).drew p := by
  subst hb
  have hne := own_blk_ne h2 h1 (by decide)
  have h2' : World.ownsRow (w.setCell ⟨p, 2, none⟩ (.bool false)) (p + 1) 5 1 v xs.length (xs.map (Value.int .u8)) := World.ownsRow.kept h2 ((Turns.refl w p).setCell (p := ⟨p, 2, none⟩) (.inl rfl) (.bool false)).g hne
  exact ⟨⟨v, h1.set_ 2 (.bool false), h2'⟩, ((Below.refl p w).setCell (p := ⟨p, 2, none⟩) (Nat.le_refl _) (.bool false)).drew, fun g t cs _ hg h => h.far (p := ⟨p, 2, none⟩) hg _⟩

set_option maxHeartbeats 2000000 in
theorem fits_any (p : Nat) (xs : List Int) (room n : Int) (w : World) (hw : Wr w p xs room) (hn : n ≤ room - xs.length) (h0 : 0 ≤ n) (hr : room < 1000000000000) :
    Calls Try.prog 69 #[.pointer (some ⟨p, 0, none⟩), .int .i64 n] w fun e w' => e = .returned (.bool true) ∧ Wr w' p xs room ∧ WrStep w w' p := by
  obtain ⟨v, h1, h2⟩ := hw
  obtain ⟨A, c, rfl⟩ := bytes_form h2
  have c0 : w.cell? ⟨p, 0, none⟩ = some (.slice A xs.length c) := h1.cell 0
  have c1 : w.cell? ⟨p, 1, none⟩ = some (.int .i64 room) := h1.cell 1
  have c2 : w.cell? ⟨p, 2, none⟩ = some (.bool false) := h1.cell 2
  have f2 := h1.frozen 2
  have H1 := Lib.hid h1
  have H2 := Lib.hid h2
  clear h1 h2
  have hb : IntKind.i64.wrap (room - (xs.length : Int)) = room - xs.length := IntWalk.i64_in _ (by omega)
  have hlt : ¬ room - (xs.length : Int) < n := by omega
  have HD : Hid (decide (room - (xs.length : Int) < n) = false) := decide_eq_false hlt
  go_enter Try.func69, Try.ntmps69
  go_wp2
  go_region_held3 (fun w' => w'.cell? ⟨p, 0, none⟩ = some (.slice A xs.length c) ∧ w'.cell? ⟨p, 1, none⟩ = some (.int .i64 room) ∧ w'.cell? ⟨p, 2, none⟩ = some (.bool false)) (first | (go_keep; done) | (exact wr_store H1.out HD.out)) (fail)
  go_wp2
  go_ret
  exact ⟨rfl, wr_set H1.out H2.out HD.out⟩

/-- The first k of the n lowest bytes of x, the highest first. -/
def nb (n : Nat) (x : Int) (k : Nat) : List Int := (List.range k).map fun (i : Nat) => IntKind.u8.wrap (x / 2 ^ (8 * ((n : Int) - 1 - (i : Int))).toNat)
theorem nb_succ (n : Nat) (x : Int) (k : Nat) : nb n x (k + 1) = nb n x k ++ [IntKind.u8.wrap (x / 2 ^ (8 * ((n : Int) - 1 - k)).toNat)] := by simp [nb, List.range_succ]
theorem nb_len (n : Nat) (x : Int) (k : Nat) : (nb n x k).length = k := by simp [nb]

theorem Try.info5' : (Try.prog.info? 5).map (fun i => (i.zero, i.size, i.bytes)) = some (some (.int .u8 0), 1, 1) := by kernel_rfl

theorem wr_append {wr w5 : World} {p : Nat} {v : Value} {room b : Int} {ys : List Int} {o : Obj} {gg cap : Nat} (hB : Blk wr p 90 #[v, .int .i64 room, .bool false]) (hO : wr.ownsRow (p + 1) 5 1 v ys.length (ys.map (Value.int .u8)))
    (hg : (wr.alloc o).drew.grownBy w5 v.ownBlock) (hown : w5.ownsRow (p + 1) 5 1 (.slice (some ⟨gg, 0, none⟩) (ys.length + 1) cap) (ys.length + 1) (ys.map (Value.int .u8) ++ [.int .u8 b])) :
    Wr (w5.setCell ⟨p, 0, none⟩ (.slice (some ⟨gg, 0, none⟩) (ys.length + 1) cap)) p (ys ++ [b]) room ∧ WrStep wr (w5.setCell ⟨p, 0, none⟩ (.slice (some ⟨gg, 0, none⟩) (ys.length + 1) cap)) p := by
  have far : ∀ g t cs, t ≠ 5 → Blk wr g t cs → Blk w5 g t cs := fun g t cs ht hb => Blk.grown (hb.alloc o).drew_ hg (by
    rcases own_blk_ne hO hb (Ne.symm ht) with e | e
    · rw [e]; simp
    · exact fun e' => e e'.symm)
  have h5 := far p 90 _ (by decide) hB
  have hown' : w5.ownsRow (p + 1) 5 1 (.slice (some ⟨gg, 0, none⟩) (ys.length + 1) cap) (ys ++ [b]).length ((ys ++ [b]).map (Value.int .u8)) := by simpa using hown
  refine ⟨⟨_, h5.set_ 0 _, ?_⟩, ?_, fun g t cs ht hne hb => (far g t cs ht hb).far (p := ⟨p, 0, none⟩) hne _⟩
  · have := World.ownsRow.kept hown' ((Turns.refl w5 p).setCell (p := ⟨p, 0, none⟩) (.inl rfl) (.slice (some ⟨gg, 0, none⟩) (ys.length + 1) cap)).g (own_blk_ne hown h5 (by decide))
    simpa using this
  · have h1 : Below p wr (wr.alloc o).drew := ((Below.refl p wr).alloc (Nat.le_of_lt hB.lt) o).drew
    have h2 : Below p wr w5 := h1.grown hg (by have := hB.lt; simp [World.drew]; omega) (fun k e => by have := (World.ownsRow.lt hO k e).1; omega)
    exact h2.setCell (p := ⟨p, 0, none⟩) (Nat.le_refl _) _

set_option maxHeartbeats 4000000 in
theorem wnumber_any (p : Nat) (xs : List Int) (room : Int) (n : Nat) (m : Int) (hm : m = n) (hn8 : n ≤ 8) (x : Int) (w : World) (hw : Wr w p xs room) (hn : (n : Int) ≤ room - xs.length) (hr : room < 1000000000000) :
    Calls Try.prog 68 #[.pointer (some ⟨p, 0, none⟩), .int .i64 m, .int .i64 x] w fun e w' => e = .returned (.pointer (some ⟨p, 0, none⟩)) ∧ Wr w' p (xs ++ nb n x n) room ∧ WrStep w w' p := by
  subst hm
  obtain ⟨i0, hi, hz0, hz1, hz2⟩ := info_parts Try.info5'
  have H := Lib.hid hw
  clear hw
  go_enter Try.func68, Try.ntmps68
  go_wp2_with fail
  refine (fits_any p xs room n w H.out hn (by omega) hr).mono ?_
  rintro e w1 ⟨rfl, hw1, hs1⟩
  have H1 := Lib.hid hw1
  have HS1 := Lib.hid hs1
  clear hw1 hs1
  go_wp2_with fail
  go_loopw [12] (fun i wr => ∃ k : Nat, k ≤ n ∧ i = .int .i64 k ∧ Hid (Wr wr p (xs ++ nb n x k) room) ∧ Hid (WrStep w wr p)) (fun i _ => n - (intOf i).toNat)
  case atStart => exact ⟨0, Nat.zero_le _, rfl, by simpa [nb] using H1, HS1⟩
  case round =>
    obtain ⟨k, hk, rfl, HW, HS⟩ := hrel
    by_cases hkn : k < n
    · obtain ⟨ys, hys⟩ : ∃ ys, ys = xs ++ nb n x k := ⟨_, rfl⟩
      have HYL : Hid (ys.length = xs.length + k) := by show _ = _; rw [hys]; simp [nb_len]
      have HYS := Lib.hid hys
      rw [← hys] at HW
      clear hys
      obtain ⟨v, h1, h2⟩ := HW.out
      obtain ⟨A, c, rfl⟩ := bytes_form h2
      have e1 : IntKind.i64.wrap ((n : Int) - 1) = n - 1 := IntWalk.i64_in _ (by omega)
      have e2 : IntKind.i64.wrap ((n : Int) - 1 - k) = n - 1 - k := IntWalk.i64_in _ (by omega)
      have e3 : IntKind.i64.wrap (8 * ((n : Int) - 1 - k)) = 8 * ((n : Int) - 1 - k) := IntWalk.i64_in _ (by omega)
      have c0 : wr.cell? ⟨p, 0, none⟩ = some (.slice A ys.length c) := h1.cell 0
      have f0 := h1.frozen 0
      have HB := Lib.hid h1
      have HO := Lib.hid h2
      clear h1 h2
      have HNE : Hid (some p ≠ (Value.slice A ys.length c).ownBlock) := by
        show _ ≠ _
        rcases own_blk_ne HO.out HB.out (by decide) with e | e
        · rw [e]; simp
        · exact fun e' => e e'.symm
      have ca := fun (o : Obj) => (World.cell?_alloc_lt wr o ⟨p, 0, none⟩ HB.out.lt).trans c0
      go_wp2
      go_region_law
       ((refine step_append_lies _ (by rfl) _ _ _ (by rfl) (p + 1) 5 i0 _ 1 1 Try.underlying22 hi hz0 hz1 hz2 rfl (by omega) (.slice A ys.length c) ys.length (ys.map (Value.int .u8)) (by rfl) ((HO.out.alloc _).drew)
           ⟨wr.heap.size, 0, none⟩ 1 1 [.int .u8 (IntKind.u8.wrap (x / 2 ^ (8 * ((n : Int) - 1 - k)).toNat))] (by rfl) (by rfl) (World.news_of_block (cs := #[.int .u8 (IntKind.u8.wrap (x / 2 ^ (8 * ((n : Int) - 1 - k)).toNat))]) (t := 5) (fr := (0, 0)) (heap_alloc_new wr _)) (by simp [Value.oneCell'])
           (by omega) (by have := HYL.out; unfold maxLen; omega) (by have := HYL.out; omega) (by have := HB.out.lt; simp; omega) (wr.heap.size + 1) (by simp) ?_; intro gg cap w5 hown1 hgrow hat hlt; have c5 : w5.cell? ⟨p, 0, none⟩ = some (.slice A ys.length c) := (Blk.grown (HB.out.alloc _).drew_ hgrow HNE.out).cell 0; have f5 : w5.frozen? ⟨p, 0, none⟩ = false := (Blk.grown (HB.out.alloc _).drew_ hgrow HNE.out).frozen 0))
      all_goals
        have HA := Lib.hid (wr_append HB.out HO.out hgrow hown1)
        clear hown1 hgrow hat hlt
        go_wp2
        go_roundw
        case rel => exact ⟨k + 1, by omega, by simp, Lib.hid (by show Wr _ _ _ _; rw [nb_succ, ← List.append_assoc, ← HYS.out]; exact HA.out.1), Lib.hid (HS.out.trans HA.out.2)⟩
        case measure => simp [intOf]; omega
    · obtain rfl : k = n := by omega
      go_wp2
      go_ret
      exact ⟨rfl, HW.out, HS.out⟩

end Go.Proofs.Ythfppmamnnnnmaa
