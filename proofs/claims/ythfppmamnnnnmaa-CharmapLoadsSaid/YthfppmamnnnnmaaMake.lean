/-
  'made4' and 'Make' at the pairs of 'lives'.
-/
import Derived.Test.YthfppmamnnnnmaaRuns
set_option linter.unusedVariables false
namespace Go.Proofs.Ythfppmamnnnnmaa
open Go.RowKit

def B32 : List Int := [0, 4, 0, 32, 0, 0, 0, 4, 0, 4, 0, 1, 0, 0, 0, 67, 255, 255, 0, 0, 0, 65, 255, 255, 255, 192, 0, 1, 0, 0, 0, 0]

/-- What the bytes come to. -/
theorem b32 : (([] ++ nb 2 4 2 ++ nb 2 32 2 ++ nb 2 0 2 ++ nb 2 4 2 ++ nb 2 4 2 ++ nb 2 1 2 ++ nb 2 0 2) ++ (nb 2 (67) 2 ++ nb 2 (65535) 2) ++ nb 2 0 2 ++ (nb 2 (65) 2 ++ nb 2 (65535) 2) ++ (nb 2 (-64) 2 ++ nb 2 (1) 2) ++ (nb 2 (0) 2 ++ nb 2 (0) 2)) = B32 := by
  decide +kernel

set_option maxHeartbeats 8000000 in
theorem made4_3 (g0 : Nat) (w : World) (h : Pairs3 w g0) : Calls Try.prog 29 #[.slice (some ⟨g0, 0, none⟩) 3 3] w fun e w' =>
    ∃ v, e = .returned (.tuple #[v, .int .i64 0]) ∧ w'.ownsRow w.heap.size 5 1 v 32 (B32.map (Value.int .u8)) ∧ Below w.heap.size w w' := by
  obtain ⟨i0, hi, hz0, hz1, hz2⟩ := info_parts Try.info38
  have H := Lib.hid h
  clear h
  go_enter Try.func29, Try.ntmps29
  go_wp2_with fail
  refine (runs_3 g0 w H.out).mono ?_
  rintro e w1 ⟨v, rfl, ho1, hb1⟩
  have HO1 := Lib.hid ho1
  have HB1 := Lib.hid hb1
  have HP1 : Hid (Pairs3 w1 g0) := Blk.below (show Blk w g0 37 _ from H.out) hb1 (show g0 < w.heap.size from Blk.lt H.out)
  clear ho1 hb1
  go_wp2_with (at_builtin; refine held_ ?_)
  refine unheld_ ?_
  refine wpList_append_own _ rfl (.tmp 12) (.tmp 15) 79 rfl w.heap.size 38 i0 _ 1 24 Try.underlying79 hi hz0 hz1 hz2 rfl (by decide) v 1 [part0 g0] rfl ((HO1.out.alloc _).alloc _) ⟨w1.heap.size + 1, 0, none⟩ 1 1 [part1 w1.heap.size] rfl rfl (cells_new_at _ [part1 w1.heap.size] 38 _ (by simp)) (by simp [Value.oneCell', part1]) (by unfold maxLen; omega) (by omega) (by have := HB1.out.size; simp; omega) ?_
  intro v' w2 hown hg hx
  have HAl := Lib.hid ((HO1.out.alloc (.cells #[.int .i64 65535, .int .i64 65536] 37)).alloc (.cells #[part1 w1.heap.size] 38))
  have HB2 := Lib.hid ((((HB1.out.alloc HB1.out.size (.cells #[.int .i64 65535, .int .i64 65536] 37)).alloc (by have := HB1.out.size; simp; omega) (.cells #[part1 w1.heap.size] 38))).grown hg (by have := HB1.out.size; simp; omega) (fun k e => (World.ownsRow.lt HO1.out k e).1))
  have hA0 : Blk ((w1.alloc (.cells #[.int .i64 65535, .int .i64 65536] 37)).alloc (.cells #[part1 w1.heap.size] 38)) g0 37 _ := Blk.alloc (Blk.alloc HP1.out _) _
  have hA1 := (Blk.new w1 37 #[.int .i64 65535, .int .i64 65536]).alloc (.cells #[part1 w1.heap.size] 38)
  have hG0 := Lib.hid (hA0.grown hg (by
    rcases own_blk_ne HAl.out hA0 (by decide) with e | e
    · rw [e]; simp
    · exact fun e' => e e'.symm))
  have hG1 := Lib.hid (hA1.grown hg (by
    rcases own_blk_ne HAl.out hA1 (by decide) with e | e
    · rw [e]; simp
    · exact fun e' => e e'.symm))
  obtain ⟨gp, cap, cur, rfl, hgp, hcur, hcap, hcm, hcsz, htake⟩ : ∃ gp cap cur, v' = .slice (some ⟨gp, 0, none⟩) 2 cap ∧ w.heap.size ≤ gp ∧ w2.heap[gp]? = some (.cells cur 38 (0, 0)) ∧ 2 ≤ cap ∧ cap ≤ maxLen ∧ cur.size = cap * 1 ∧ cur.toList.take (2 * 1) = [part0 g0] ++ [part1 w1.heap.size] := by
    rcases hown.2 with ⟨_, h3⟩ | h3
    · omega
    · exact h3
  have hgpB : Hid (∃ cs, Blk w2 gp 38 cs ∧ cs[0]? = some (part0 g0) ∧ cs[1]? = some (part1 w1.heap.size)) := by
    refine ⟨cur, hcur, ?_, ?_⟩
    · have := congrArg (fun l => l[0]?) htake
      simpa using this
    · have := congrArg (fun l => l[1]?) htake
      simpa using this
  clear hown hg hx hA0 hA1 hcur hcsz htake HAl HP1 HO1
  have HBP := Lib.hid (Blk.new w2 79 #[.slice (some ⟨gp, 0, none⟩) 2 cap])
  have HB3 := Lib.hid (HB2.out.alloc HB2.out.size (.cells #[.slice (some ⟨gp, 0, none⟩) 2 cap] 79))
  have HG0 := Lib.hid (hG0.out.alloc (.cells #[.slice (some ⟨gp, 0, none⟩) 2 cap] 79))
  have HG1 := Lib.hid (hG1.out.alloc (.cells #[.slice (some ⟨gp, 0, none⟩) 2 cap] 79))
  have HGP : Hid (∃ cs, Blk (w2.alloc (.cells #[.slice (some ⟨gp, 0, none⟩) 2 cap] 79)) gp 38 cs ∧ cs[0]? = some (part0 g0) ∧ cs[1]? = some (part1 w1.heap.size)) := by
    obtain ⟨cs, a, b⟩ := hgpB.out
    exact ⟨cs, a.alloc _, b⟩
  clear hG0 hG1 hgpB
  obtain ⟨bp, hbp⟩ : ∃ bp, bp = w2.heap.size := ⟨_, rfl⟩
  have HBPE := Lib.hid hbp
  obtain ⟨g1, hg1⟩ : ∃ g1, g1 = w1.heap.size := ⟨_, rfl⟩
  have HG1E := Lib.hid hg1
  have c0 : (w2.alloc (.cells #[.slice (some ⟨gp, 0, none⟩) 2 cap] 79)).cell? ⟨w2.heap.size, 0, none⟩ = some (.slice (some ⟨gp, 0, none⟩) 2 cap) := HBP.out.cell 0
  go_wp2_with fail
  refine wp_loop_rounds 2 ?_
  rw [rounds_succ]
  go_wp2_with fail
  rw [rounds_succ]
  go_wp2_with fail
  go_at_call 48
  obtain ⟨w3, hw3⟩ : ∃ w3, w3 = w2.alloc (.cells #[.slice (some ⟨gp, 0, none⟩) 2 cap] 79) := ⟨_, rfl⟩
  rw [← hw3] at HBP HB3 HG0 HG1 HGP c0 ⊢
  rw [← hbp] at HBP c0 ⊢
  rw [← hg1] at HG1 HGP
  clear hw3 hbp hg1
  refine (To_any 32 (by omega) w3).mono ?_
  rintro e w4 ⟨rfl, hw4, hb4⟩
  have HW4 := Lib.hid hw4
  have HB4 := Lib.hid hb4
  clear hw4 hb4
  obtain ⟨p, hp⟩ : ∃ p, p = w3.heap.size := ⟨_, rfl⟩
  rw [← hp] at HW4 ⊢
  have HPE := Lib.hid hp
  clear hp
  go_wp2_with fail
  refine (U16w_any p ([]) 32 4 w4 HW4.out (by simp [nb_len]) (by omega)).mono ?_
  rintro e w5 ⟨rfl, hw, hs⟩
  have HW5 := Lib.hid hw
  have HS5 := Lib.hid hs
  clear hw hs
  go_wp2_with fail
  refine (U16w_any p ([] ++ nb 2 4 2) 32 32 w5 HW5.out (by simp [nb_len]) (by omega)).mono ?_
  rintro e w6 ⟨rfl, hw, hs⟩
  have HW6 := Lib.hid hw
  have HS6 := Lib.hid (HS5.out.trans hs)
  clear hw hs
  go_wp2_with fail
  refine (U16w_any p ([] ++ nb 2 4 2 ++ nb 2 32 2) 32 0 w6 HW6.out (by simp [nb_len]) (by omega)).mono ?_
  rintro e w7 ⟨rfl, hw, hs⟩
  have HW7 := Lib.hid hw
  have HS7 := Lib.hid (HS6.out.trans hs)
  clear hw hs
  go_wp2_with fail
  refine (U16w_any p ([] ++ nb 2 4 2 ++ nb 2 32 2 ++ nb 2 0 2) 32 4 w7 HW7.out (by simp [nb_len]) (by omega)).mono ?_
  rintro e w8 ⟨rfl, hw, hs⟩
  have HW8 := Lib.hid hw
  have HS8 := Lib.hid (HS7.out.trans hs)
  clear hw hs
  go_wp2_with fail
  refine (U16w_any p ([] ++ nb 2 4 2 ++ nb 2 32 2 ++ nb 2 0 2 ++ nb 2 4 2) 32 4 w8 HW8.out (by simp [nb_len]) (by omega)).mono ?_
  rintro e w9 ⟨rfl, hw, hs⟩
  have HW9 := Lib.hid hw
  have HS9 := Lib.hid (HS8.out.trans hs)
  clear hw hs
  go_wp2_with fail
  refine (U16w_any p ([] ++ nb 2 4 2 ++ nb 2 32 2 ++ nb 2 0 2 ++ nb 2 4 2 ++ nb 2 4 2) 32 1 w9 HW9.out (by simp [nb_len]) (by omega)).mono ?_
  rintro e w10 ⟨rfl, hw, hs⟩
  have HW10 := Lib.hid hw
  have HS10 := Lib.hid (HS9.out.trans hs)
  clear hw hs
  go_wp2_with fail
  refine (U16w_any p ([] ++ nb 2 4 2 ++ nb 2 32 2 ++ nb 2 0 2 ++ nb 2 4 2 ++ nb 2 4 2 ++ nb 2 1 2) 32 0 w10 HW10.out (by simp [nb_len]) (by omega)).mono ?_
  rintro e w11 ⟨rfl, hw, hs⟩
  have HW11 := Lib.hid hw
  have HS11 := Lib.hid (HS10.out.trans hs)
  clear hw hs
  go_wp2_with fail
  have carry : ∀ g t cs, t ≠ 5 → Blk w3 g t cs → Blk (w11.alloc (.cells #[.pointer (some ⟨p, 0, none⟩)] 75)) g t cs := fun g t cs ht hb =>
    (HS11.out.k g t cs ht (by have := hb.lt; have := HPE.out; omega) (hb.below HB4.out hb.lt)).alloc _
  have HE := Lib.hid (Env4.mk (w := w11.alloc (.cells #[.pointer (some ⟨p, 0, none⟩)] 75)) (bw := w11.heap.size) (bp := bp) (gp := gp) (cap := cap) (g0 := g0) (g1 := g1) (p := p)
    (Blk.new w11 75 _) (carry _ _ _ (by decide) HBP.out) (by obtain ⟨cs, a, b⟩ := HGP.out; exact ⟨cs, carry _ _ _ (by decide) a, b⟩) (carry _ _ _ (by decide) HG0.out) (carry _ _ _ (by decide) HG1.out))
  have HW12 : Hid (Wr (w11.alloc (.cells #[.pointer (some ⟨p, 0, none⟩)] 75)) p ([] ++ nb 2 4 2 ++ nb 2 32 2 ++ nb 2 0 2 ++ nb 2 4 2 ++ nb 2 4 2 ++ nb 2 1 2 ++ nb 2 0 2) 32) := HW11.out.keep ((Below.refl _ w11).alloc (Nat.le_refl _) _)
  have HB12 := Lib.hid ((((HB3.out.trans (HB4.out.mono HB3.out.size))).trans (HS11.out.b.mono (by have := HPE.out; have := HB3.out.size; omega))).alloc (by have := HB3.out.size; have := HB4.out.size; have := HS11.out.b.size; omega) (.cells #[.pointer (some ⟨p, 0, none⟩)] 75))
  obtain ⟨w12, hw12⟩ : ∃ w12, w12 = w11.alloc (.cells #[.pointer (some ⟨p, 0, none⟩)] 75) := ⟨_, rfl⟩
  rw [← hw12] at HE HW12 HB12 ⊢
  clear hw12 carry c0
  obtain ⟨bw, hbw⟩ : ∃ bw, bw = w11.heap.size := ⟨_, rfl⟩
  rw [← hbw] at HE ⊢
  clear hbw
  refine (each54 bw bp gp cap g0 g1 p hcap (([] ++ nb 2 4 2 ++ nb 2 32 2 ++ nb 2 0 2 ++ nb 2 4 2 ++ nb 2 4 2 ++ nb 2 1 2 ++ nb 2 0 2)) w12 HE.out HW12.out (by simp [nb_len])).mono ?_
  rintro e w13 ⟨rfl, hw, hs⟩
  have HW13 := Lib.hid hw
  have HE' := Lib.hid (HE.out.step HW12.out hs)
  have HB13 := Lib.hid (HB12.out.trans (hs.b.mono (by have := HPE.out; have := HB3.out.size; omega)))
  clear HE
  have HE := HE'
  clear HE' hw hs
  have c13 : w13.cell? ⟨bw, 0, none⟩ = some (.pointer (some ⟨p, 0, none⟩)) := HE.out.bw.cell 0
  go_wp2_with fail
  refine (U16w_any p (([] ++ nb 2 4 2 ++ nb 2 32 2 ++ nb 2 0 2 ++ nb 2 4 2 ++ nb 2 4 2 ++ nb 2 1 2 ++ nb 2 0 2) ++ (nb 2 (67) 2 ++ nb 2 (65535) 2)) 32 0 w13 HW13.out (by simp [nb_len]) (by omega)).mono ?_
  rintro e w14 ⟨rfl, hw, hs⟩
  have HW14 := Lib.hid hw
  have HE' := Lib.hid (HE.out.step HW13.out hs)
  have HB14 := Lib.hid (HB13.out.trans (hs.b.mono (by have := HPE.out; have := HB3.out.size; omega)))
  clear HE
  have HE := HE'
  clear HE' hw hs c13
  go_wp2_with fail
  refine (each55 bw bp gp cap g0 g1 p hcap (([] ++ nb 2 4 2 ++ nb 2 32 2 ++ nb 2 0 2 ++ nb 2 4 2 ++ nb 2 4 2 ++ nb 2 1 2 ++ nb 2 0 2) ++ (nb 2 (67) 2 ++ nb 2 (65535) 2) ++ nb 2 0 2) w14 HE.out HW14.out (by simp [nb_len])).mono ?_
  rintro e w15 ⟨rfl, hw, hs⟩
  have HW15 := Lib.hid hw
  have HE' := Lib.hid (HE.out.step HW14.out hs)
  have HB15 := Lib.hid (HB14.out.trans (hs.b.mono (by have := HPE.out; have := HB3.out.size; omega)))
  clear HE
  have HE := HE'
  clear HE' hw hs
  have c15 : w15.cell? ⟨bw, 0, none⟩ = some (.pointer (some ⟨p, 0, none⟩)) := HE.out.bw.cell 0
  go_wp2_with fail
  refine (each56 bw bp gp cap g0 g1 p hcap (([] ++ nb 2 4 2 ++ nb 2 32 2 ++ nb 2 0 2 ++ nb 2 4 2 ++ nb 2 4 2 ++ nb 2 1 2 ++ nb 2 0 2) ++ (nb 2 (67) 2 ++ nb 2 (65535) 2) ++ nb 2 0 2 ++ (nb 2 (65) 2 ++ nb 2 (65535) 2)) w15 HE.out HW15.out (by simp [nb_len])).mono ?_
  rintro e w16 ⟨rfl, hw, hs⟩
  have HW16 := Lib.hid hw
  have HE' := Lib.hid (HE.out.step HW15.out hs)
  have HB16 := Lib.hid (HB15.out.trans (hs.b.mono (by have := HPE.out; have := HB3.out.size; omega)))
  clear HE
  have HE := HE'
  clear HE' hw hs
  have c16 : w16.cell? ⟨bw, 0, none⟩ = some (.pointer (some ⟨p, 0, none⟩)) := HE.out.bw.cell 0
  go_wp2_with fail
  refine (each57 bw bp gp cap g0 g1 p hcap (([] ++ nb 2 4 2 ++ nb 2 32 2 ++ nb 2 0 2 ++ nb 2 4 2 ++ nb 2 4 2 ++ nb 2 1 2 ++ nb 2 0 2) ++ (nb 2 (67) 2 ++ nb 2 (65535) 2) ++ nb 2 0 2 ++ (nb 2 (65) 2 ++ nb 2 (65535) 2) ++ (nb 2 (-64) 2 ++ nb 2 (1) 2)) w16 HE.out HW16.out (by simp [nb_len])).mono ?_
  rintro e w17 ⟨rfl, hw, hs⟩
  have HW17 := Lib.hid hw
  have HE' := Lib.hid (HE.out.step HW16.out hs)
  have HB17 := Lib.hid (HB16.out.trans (hs.b.mono (by have := HPE.out; have := HB3.out.size; omega)))
  clear HE
  have HE := HE'
  clear HE' hw hs
  have c17 : w17.cell? ⟨bw, 0, none⟩ = some (.pointer (some ⟨p, 0, none⟩)) := HE.out.bw.cell 0
  have hB : (([] ++ nb 2 4 2 ++ nb 2 32 2 ++ nb 2 0 2 ++ nb 2 4 2 ++ nb 2 4 2 ++ nb 2 1 2 ++ nb 2 0 2) ++ (nb 2 (67) 2 ++ nb 2 (65535) 2) ++ nb 2 0 2 ++ (nb 2 (65) 2 ++ nb 2 (65535) 2) ++ (nb 2 (-64) 2 ++ nb 2 (1) 2) ++ (nb 2 (0) 2 ++ nb 2 (0) 2)) = B32 := b32
  rw [hB] at HW17
  go_wp2_with fail
  refine (Donew_any p B32 32 w17 HW17.out (by decide) (by decide)).mono ?_
  rintro e w18 ⟨v9, rfl, ho, hb⟩
  have HO := Lib.hid (own_mono ho HB17.out.size)
  have HBB := Lib.hid (HB17.out.trans (hb.mono HB17.out.size))
  clear ho hb
  go_wp2
  go_ret2
  exact ⟨v9, rfl, HO.out, HBB.out⟩

theorem Make_3 (g0 : Nat) (w : World) (h : Pairs3 w g0) : Calls Try.prog 10 #[.int .i64 4, .slice (some ⟨g0, 0, none⟩) 3 3] w fun e w' =>
    ∃ v, e = .returned (.tuple #[v, .int .i64 0]) ∧ w'.ownsRow w.heap.size 5 1 v 32 (B32.map (Value.int .u8)) ∧ Below w.heap.size w w' := by
  have H := Lib.hid h
  clear h
  go_enter Try.func10, Try.ntmps10
  go_wp2_with fail
  refine (isFormat_any 4 _).mono ?_
  rintro e w1 ⟨rfl, hb1⟩
  have HB1 := Lib.hid hb1
  have HP1 : Hid (Pairs3 w1 g0) := Blk.below (show Blk w g0 37 _ from H.out) hb1 (show g0 < w.heap.size from Blk.lt H.out)
  clear hb1
  rw [show fmtB 4 = true from rfl]
  go_wp2_with fail
  refine (mayMake_3 g0 w1 HP1.out).mono ?_
  rintro e w2 ⟨rfl, hb2⟩
  have HB2 := Lib.hid (HB1.out.trans (hb2.mono HB1.out.size))
  have HP2 : Hid (Pairs3 w2 g0) := Blk.below (show Blk w1 g0 37 _ from HP1.out) hb2 (show g0 < w1.heap.size from Blk.lt HP1.out)
  clear hb2
  go_wp2_with fail
  refine (made4_3 g0 w2 HP2.out).mono ?_
  rintro e w3 ⟨v, rfl, ho, hb3⟩
  have HO := Lib.hid (own_mono ho HB2.out.size)
  have HB3 := Lib.hid (HB2.out.trans (hb3.mono HB2.out.size))
  clear ho hb3
  go_wp2
  go_ret2
  exact ⟨v, rfl, HO.out, HB3.out⟩

end Go.Proofs.Ythfppmamnnnnmaa
