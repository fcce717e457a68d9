/- The walk of NetParts. -/
import Derived.Test.YtcadockapeancaaLP
namespace Go.Proofs.Ytcadockapeancaa
open Go.RowKit

set_option maxHeartbeats 4000000 in
set_option maxRecDepth 100000 in
theorem parts_any (v lv : Value) (Z : List Int) (Y : List (Int × Int)) (w : World) (hz : IntsK .i8 w v Z) (hzm : Z.length ≤ maxLen) (hzw : ∀ i, i < Z.length → (Lit.int .i8 (gtI Z i)).wf = true)
    (hy : Prs w lv Y) (hym : Y.length ≤ maxLen) (hyw : ∀ k, k < Y.length → (Lit.int .u8 (gtP Y k).1).wf = true ∧ (Lit.int .u8 (gtP Y k).2).wf = true) :
    Calls Try.prog 10 #[v, lv] w fun e w' => e = .returned (.bool true) ∧ Below w.heap.size w w' := by
  obtain ⟨va, vcap, rfl⟩ := hz.slice'
  obtain ⟨la, lcap, rfl⟩ := hy.slice
  obtain ⟨i0, hi, hz0, hz1, hz2⟩ := info_parts Try.info3
  unfold maxLen at hzm hym
  have ZC := Lib.hid hz.at'
  have YC := Lib.hid hy.at
  have YW := Lib.hid hyw
  have ZW := Lib.hid hzw
  clear hyw hzw hz hy
  go_enter Try.func10, Try.ntmps10
  go_wp2_with fail
  refine (sanity_any _).mono ?_
  rintro e w1 ⟨rfl, hb1⟩
  have hst : PaRel w Z (.slice none 0 0) 0 w1 := ⟨World.ownsRow_nil w1 _ 3 1, hb1, fun _ => rfl⟩
  clear hb1
  go_wp2_with fail
  go_loopg [6, 7] (Z.length + 1) (fun g so sk wr => ∃ k : Nat, sk = .int .i64 (k : Int) ∧ Z.length < k + g ∧ k ≤ Z.length ∧ k ≤ 8 ∧ PaRel w Z so k wr)
  case atStart => exact ⟨0, rfl, by omega, by omega, by omega, hst⟩
  case round =>
    clear hst
    obtain ⟨k, rfl, hg, hkL, hk8, hR⟩ := hrel
    by_cases hh : k < Z.length ∧ k < 8
    · obtain ⟨h1, h2⟩ := hh
      have h1' : (k : Int) < (Z.length : Int) := by omega
      have h2' : (k : Int) < 8 := by omega
      obtain ⟨b, off, rfl, hb, c0⟩ := ZC.out k h1
      have d0 := (hR.2.1.cell (p := ⟨b, off + k, none⟩) hb).trans c0
      have hbd := tmod3 (gtI Z k)
      have hbd1 := hbd.1
      have hbd2 := hbd.2
      have hown := Lib.hid (hR.1.alloc (.cells #[.int .i64 ((gtI Z k).tmod 3)] 3))
      have hbase := Lib.hid (show w.heap.size ≤ (wr.alloc (.cells #[.int .i64 ((gtI Z k).tmod 3)] 3)).heap.size by have := hR.2.1.size; simp; omega)
      have ST := Lib.hid (fun g cap w1 h1' h2' => pa_step (g := g) (cap := cap) (w1 := w1) hR h1 h2 rfl h1' h2')
      have hnews := Lib.hid (one_news wr ((gtI Z k).tmod 3))
      have hone : ∀ u ∈ ([.int .i64 ((gtI Z k).tmod 3)] : List Value), u.oneCell' = true := by simp [Value.oneCell']
      have HONE := Lib.hid hone
      have h63 : k + 1 ≤ maxLen := by unfold maxLen; omega
      clear hbd hR c0 hone
      go_wp2_with (at_builtin; go_must (refine wpList_append_mine rfl (.tmp 30) (.tmp 37) 32 rfl w.heap.size 3 i0 _ 1 8 Try.underlying32 hi hz0 hz1 hz2 rfl (by decide) _ k _ rfl hown.out hbase.out ⟨wr.heap.size, 0, none⟩ 1 1 [.int .i64 ((gtI Z k).tmod 3)] rfl rfl hnews.out HONE.out (by decide) h63 (by omega) ?_); intro g cap' w1 ho hgr hd)
      have HS := Lib.hid (ST.out g cap' w1 ho hgr)
      clear ho hgr hd ST hown hnews HONE d0 ZC
      go_wp2_with fail
      go_roundg (Z.length - k)
      case measure => omega
      case rel => exact ⟨k + 1, by go_num, by omega, by omega, by omega, HS.out⟩
    · have hin : (Z.length : Int) ≤ (k : Int) ∨ ((k : Int) < (Z.length : Int) ∧ (8 : Int) ≤ (k : Int)) := by omega
      obtain ⟨a6, c6, rfl, hgot⟩ := pa_got hR hkL hk8 (by omega)
      have hn8 : (gP Z).length ≤ 8 := by rw [gP_length]; omega
      have P3 := Lib.hid (inv_new (w0 := w) hgot.bel 8 (.slice none 0 0) [] (.inl ⟨.inl rfl, rfl⟩) (by simp))
      have hwf := gP_wf Z
      have HGOT := Lib.hid hgot
      have HWF := Lib.hid hwf
      clear hR hgot hwf hh hg ZC ZW
      generalize gP Z = G at *
      rcases hin with hin | ⟨hin, hin2⟩
      all_goals
        go_wp2_with fail
        refine P3.out.mono ?_
        rintro e w3 ⟨pb, own3, rfl, hI3, hown3, hb3⟩
        have P5 := Lib.hid (inv_part hI3 (.slice a6 G.length c6) G (HGOT.out.ints.keep fun b hb _ => hb3.block b (HGOT.out.row b hb).2.1) HWF.out (by unfold maxLen; omega) (by
          rintro b hb rfl
          exact (hI3.sep b (HGOT.out.row b hb).2.1).2 hI3.own))
        have HB3 := Lib.hid hb3
        clear hI3 hown3 hb3 P3
        go_wp2_with fail
        refine P5.out.mono ?_
        rintro e w5 ⟨rfl, own5, hI5, hK5⟩
        have MID := Lib.hid (fun wx a9 c9 hb hi hn => pa_mid (wx := wx) (a9 := a9) (c9 := c9) HGOT.out HB3.out hI5 hK5 hb hi hn)
        have INT5 := Lib.hid (HGOT.out.ints.keep (w' := w5.alloc (.cells #[] 3)) (fun b hb _ => (Below.heap_alloc w5 _ _ (hI5.sep b (HGOT.out.row b hb).2.1).1).trans ((hK5 b (HGOT.out.row b hb).2.1).trans (HB3.out.block b (HGOT.out.row b hb).2.1))))
        clear hI5 hK5 P5
        go_upto_region 9 with fail
        go_cut [9] (fun s9 wx => ∃ a9 c9, s9 = .slice a9 G.length c9 ∧ PaMid w wx pb own5 G a6 c6 a9 c9)
        case first =>
          have hown := World.ownsRow_made (e := 3) (size := 1) w5 #[] 0 (Nat.le_refl _) (by unfold maxLen; omega) rfl
          by_cases h0 : G.length = 0
          · obtain rfl : G = [] := List.eq_nil_of_length_eq_zero h0
            obtain ⟨rfl, rfl⟩ := HGOT.out.none rfl
            have MH := Lib.hid (MID.out (w5.alloc (.cells #[] 3)) (some ⟨w5.heap.size, 0, none⟩) 0 ((Below.refl w5.heap.size w5).alloc (Nat.le_refl _) _) (.inl ⟨.inr ⟨_, 0, rfl⟩, rfl⟩) (fun b hb => by simp [Value.ownBlock] at hb; subst hb; simp))
            clear MID INT5
            go_wp2_with (at_builtin; go_must (refine wpList_append_own_none rfl (.tmp 43) (.tmp 44) 32 rfl w5.heap.size 3 i0 1 Try.underlying32 hi _ 0 [] rfl hown rfl ?_))
            go_meet
            exact ⟨_, 0, rfl, MH.out⟩
          · obtain ⟨g, rfl⟩ := HGOT.out.some (by omega)
            have hnews := Lib.hid (pa_news INT5.out)
            have h63 : 0 + G.length ≤ maxLen := by unfold maxLen; omega
            have HP := Lib.hid (show 0 < G.length by omega)
            have HL := Lib.hid (show (G.map (Value.int .i64)).length = G.length * 1 by simp)
            clear INT5 h0
            go_wp2_with (at_builtin; go_must (refine wpList_append_mine rfl (.tmp 43) (.tmp 44) 32 rfl w5.heap.size 3 i0 _ 1 8 Try.underlying32 hi hz0 hz1 hz2 rfl (by decide) _ 0 [] rfl hown (by simp) ⟨g, 0, none⟩ G.length c6 (G.map (Value.int .i64)) rfl HL.out hnews.out ints_cells_one HP.out h63 (by omega) ?_); intro g' cap' w6 ho hg hd)
            obtain ⟨b1, b2, b3⟩ := pa_copy HP.out ho hg
            have MH := Lib.hid (MID.out w6 _ cap' b1 b2 b3)
            clear ho hg hd b1 b2 b3 MID hnews HL hown
            go_wp2_with fail
            go_meet
            exact ⟨some ⟨g', 0, none⟩, cap', rfl, MH.out⟩
        case rest =>
          clear MID INT5 hz0 hz1 hz2 hi hin HB3 HWF
          obtain ⟨a9, c9, rfl, hmid⟩ := hcut
          have HM := Lib.hid hmid
          clear hmid
          go_wp2_with fail
          go_loopg [10] (G.length + 1) (fun g sk wr => ∃ j : Nat, sk = .int .i64 (j : Int) ∧ G.length < j + g ∧ j ≤ G.length ∧ PaMid w wr pb own5 G a6 c6 a9 c9)
          case atStart => exact ⟨0, rfl, by omega, by omega, HM.out⟩
          case round =>
            clear HM
            obtain ⟨j, rfl, hg, hjn, hM⟩ := hrel
            have HM := Lib.hid hM
            clear hM
            by_cases hj : j < G.length
            · have hj' : (j : Int) < (G.length : Int) := by omega
              obtain ⟨g, rfl⟩ := HGOT.out.some (by omega)
              obtain ⟨_, hglt, hrow, _⟩ := HM.out.row g rfl
              obtain ⟨⟨x0, hx0⟩, hx1⟩ := hrow.at j hj
              have HS := Lib.hid (HM.out.set j (.int .i64 5))
              clear hrow HM
              go_wp2_with fail
              go_roundg (G.length - j)
              case measure => omega
              case rel => exact ⟨j + 1, by go_num, by omega, by omega, HS.out⟩
            · have hj' : (G.length : Int) ≤ (j : Int) := by omega
              have HIN : Hid (PaIn w wr pb G a9 c9 0) := ⟨own5, HM.out.inv.keepMono (fun b hb => HM.out.inv.sep b (.inr hb)), HM.out.ints⟩
              clear HM HGOT hg
              go_wp2_with fail
              go_loopg [11] (Y.length + 1) (fun g sk wr => ∃ k : Nat, sk = .int .i64 (k : Int) ∧ Y.length < k + g ∧ k ≤ Y.length ∧ k ≤ 20 ∧ PaIn w wr pb G a9 c9 k)
              case atStart => exact ⟨0, rfl, by omega, by omega, by omega, HIN.out⟩
              case round =>
                clear HIN
                obtain ⟨k, rfl, hg, hkY, hk20, own, hI, hi⟩ := hrel
                have HI := Lib.hid hI
                have HN := Lib.hid hi
                clear hI hi
                by_cases hh : k < Y.length ∧ k < 20
                · obtain ⟨h1, h2⟩ := hh
                  have h1' : (k : Int) < (Y.length : Int) := by omega
                  have h2' : (k : Int) < 20 := by omega
                  obtain ⟨b, off, rfl, hb, c0, c1⟩ := YC.out k h1
                  have c0 := (HI.out.bel.cell (p := ⟨b, off + k * 2, none⟩) hb).trans c0
                  have c1 := (HI.out.bel.cell (p := ⟨b, off + k * 2 + 1, none⟩) hb).trans c1
                  have hbr := Nat.lt_of_lt_of_le hb HI.out.bel.size
                  obtain ⟨y1, y2⟩ := YW.out k h1
                  have y1 := bounds_u8 y1
                  have y2 := bounds_u8 y2
                  obtain ⟨x1, e1⟩ := Int.eq_ofNat_of_zero_le y1.1
                  obtain ⟨x2, e2⟩ := Int.eq_ofNat_of_zero_le y2.1
                  have b1 := y1.2
                  have b2 := y2.2
                  rw [e1] at b1 c0
                  rw [e2] at b2 c1
                  clear y1 y2 e1 e2
                  have m1 : (x1 : Int) % 10 = ((x1 % 10 : Nat) : Int) := by omega
                  have m2 : (x2 : Int) % 10 = ((x2 % 10 : Nat) : Int) := by omega
                  have l1 : x1 % 10 < 10 := by omega
                  have l2 : x2 % 10 < 10 := by omega
                  generalize x1 % 10 = i at *
                  generalize x2 % 10 = jj at *
                  go_upto_region 17 with fail
                  go_cut [12, 13] (fun s12 s13 wx => s12 = .int .i64 (i : Int) ∧ s13 = .int .i64 (jj : Int) ∧ ∃ q, wx = wr.drewN q)
                  case first =>
                    go_quiet (fail)
                    go_wp2_with fail
                    go_meet
                    exact ⟨rfl, rfl, _, rfl⟩
                  case rest =>
                    obtain ⟨rfl, rfl, q, rfl⟩ := hcut
                    have HI := Lib.hid (HI.out.below (Below.drewN' (Below.refl _ _) q))
                    have HN := Lib.hid (HN.out.keep (w' := wr.drewN q) (fun _ _ _ => rfl))
                    clear c0 c1 hbr hb m1 m2 b1 b2
                    generalize wr.drewN q = W at *
                    go_upto_if 82 with fail
                    go_cut [14] (fun s14 wx => s14 = .int .i64 (groupOf G i) ∧ W = wx)
                    case first =>
                      by_cases hf : i < G.length
                      · have hf' : (i : Int) < (G.length : Int) := by omega
                        obtain ⟨b9, o9, rfl, hb9, hc9⟩ := HN.out.at i hf
                        go_wp2_with fail
                        go_meet
                        exact ⟨by rw [groupOf_in], rfl⟩
                      · have hf' : (G.length : Int) ≤ (i : Int) := by omega
                        go_wp2_with fail
                        go_meet
                        exact ⟨by rw [groupOf_out G i (by omega)], rfl⟩
                    case rest =>
                    obtain ⟨rfl, rfl⟩ := hcut
                    go_upto_if 90 with fail
                    go_cut [15] (fun s15 wx => s15 = .int .i64 (groupOf G jj) ∧ W = wx)
                    case first =>
                      by_cases hf : jj < G.length
                      · have hf' : (jj : Int) < (G.length : Int) := by omega
                        obtain ⟨b9, o9, rfl, hb9, hc9⟩ := HN.out.at jj hf
                        go_wp2_with fail
                        go_meet
                        exact ⟨by rw [groupOf_in], rfl⟩
                      · have hf' : (G.length : Int) ≤ (jj : Int) := by omega
                        go_wp2_with fail
                        go_meet
                        exact ⟨by rw [groupOf_out G jj (by omega)], rfl⟩
                    case rest =>
                    obtain ⟨rfl, rfl⟩ := hcut
                    have P1 := Lib.hid (inv_send HI.out small_nil (show k ≤ _ by omega) (show (0 : Nat) ≤ _ by omega) k i jj noText (by omega) (WalkArith.wf_i64 (by omega)) (WalkArith.wf_i64 (by omega)))
                    go_wp2_with fail
                    refine P1.out.mono ?_
                    rintro e w4 ⟨rfl, own4, hI4, hK4⟩
                    have P2 := Lib.hid (inv_next hI4 (by have := pa_length G k i jj k; omega))
                    have HK4 := Lib.hid hK4
                    clear hI4 hK4 P1 HI
                    go_wp2_with fail
                    refine P2.out.mono ?_
                    rintro e w5' ⟨rfl, own5', hI5, hK5⟩
                    rw [pa_next] at hI5
                    have HI5 := Lib.hid hI5
                    have HK5 := Lib.hid (HK4.out.trans hK5)
                    rw [pa_msg]
                    clear hI5 hK5 HK4 P2
                    cases hD : paD G i jj
                    · have hor := paD_false hD
                      have HR := Lib.hid (pa_in (HI5.out.below ((Below.refl w5'.heap.size w5').alloc (Nat.le_refl _) (.cells #[.int .i64 0, .int .i64 0, .string ⟨#[]⟩] 31))) HN.out (fun b hb => (Below.heap_alloc w5' _ _ (HI5.out.sep b hb).1).trans (HK5.out b hb)))
                      clear hD HI5 HK5 HN
                      generalize groupOf G (i : Int) = ga at *
                      generalize groupOf G (jj : Int) = gb at *
                      rw [if_neg (by decide)]
                      unfold noMsg
                      rcases hor with ho | ⟨ho, ho2, ho3⟩
                      all_goals
                        go_wp2_with fail
                        go_roundg (Y.length - k)
                        case measure => omega
                        case rel => exact ⟨k + 1, by go_num, by omega, by omega, by omega, HR.out⟩
                    · obtain ⟨hd1, hor⟩ := paD_true hD
                      have HR := Lib.hid (pa_in (HI5.out.below ((Below.refl w5'.heap.size w5').alloc (Nat.le_refl _) (.cells #[.int .i64 (i : Int), .int .i64 (jj : Int), .string noText] 31))) HN.out (fun b hb => (Below.heap_alloc w5' _ _ (HI5.out.sep b hb).1).trans (HK5.out b hb)))
                      clear hD HI5 HK5 HN
                      generalize groupOf G (i : Int) = ga at *
                      generalize groupOf G (jj : Int) = gb at *
                      rw [if_pos rfl]
                      unfold Par.msg
                      rcases hor with ho | ⟨ho, rfl⟩
                      all_goals
                        go_wp2_with fail
                        go_roundg (Y.length - k)
                        case measure => omega
                        case rel => exact ⟨k + 1, by go_num, by omega, by omega, by omega, HR.out⟩
                · have hin2 : (Y.length : Int) ≤ (k : Int) ∨ ((k : Int) < (Y.length : Int) ∧ (20 : Int) ≤ (k : Int)) := by omega
                  have P6 := Lib.hid (inv_part HI.out (.slice none 0 0) [] (.inl ⟨.inl rfl, rfl⟩) (fun k hk => by simp at hk) (by simp) (fun b hb => by simp [Value.ownBlock] at hb))
                  clear HN HI hh
                  rcases hin2 with hi2 | ⟨hi2, hi3⟩
                  all_goals
                    go_wp2_with fail
                    refine P6.out.mono ?_
                    rintro e w6 ⟨rfl, own6, hI6, hK6⟩
                    have P7 := Lib.hid (inv_send (S := paS [] k) hI6 small_nil (show k ≤ _ by omega) (show (0 : Nat) ≤ _ by omega) 0 0 7 noText (by omega) (by decide) (by decide))
                    clear hI6 hK6 P6
                    go_wp2_with fail
                    refine P7.out.mono ?_
                    rintro e w7 ⟨rfl, own7, hI7, hK7⟩
                    have P8 := Lib.hid (inv_waiting hI7)
                    have HB8 := Lib.hid hI7.bel
                    clear hI7 hK7 P7
                    go_wp2_with fail
                    refine P8.out.mono ?_
                    rintro e w8 ⟨rfl, rfl⟩
                    rw [pa_last]
                    go_wp2_with fail
                    go_ret
                    exact ⟨rfl, HB8.out⟩
end Go.Proofs.Ytcadockapeancaa
