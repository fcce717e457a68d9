/- The walk of NetAlone: it returns true. -/
import Derived.Test.YtcadockapeancaaAl
import Derived.Deep.DeepCutAuto
namespace Go.Proofs.Ytcadockapeancaa
open Go.RowKit

set_option maxHeartbeats 4000000 in
set_option maxRecDepth 100000 in
theorem alone_any (v zv : Value) (now : Int) (L : List Tr) (Z : List Int) (w : World) (hs : Scr w v L) (hm : L.length ≤ maxLen) (hz : IntsK .u16 w zv Z) (hzm : Z.length ≤ maxLen) (hzw : ∀ i, i < Z.length → (Lit.int .u16 (gtI Z i)).wf = true)
    (hzc : ∀ a n cap, zv = .slice a n cap → n ≤ cap) (hnow : 0 ≤ now ∧ now ≤ 65535) :
    Calls Try.prog 5 #[v, zv, .int .u16 now] w fun e w' => e = .returned (.bool true) ∧ Below w.heap.size w w' := by
  obtain ⟨va, vcap, rfl⟩ := hs.slice
  obtain ⟨za, zcap, rfl⟩ := hz.slice2
  have hcap := hzc _ _ _ rfl
  obtain ⟨n1, n2⟩ := hnow
  have ZC := Lib.hid hz.at2
  have ZW := Lib.hid hzw
  unfold maxLen at hzm
  clear hzc hzw hz
  go_enter Try.func5, Try.ntmps5
  go_wp2_with fail
  refine (sanity_any _).mono ?_
  rintro e w1 ⟨rfl, hb1⟩
  have hs1 := hs.keep (w' := w1) (fun b hb h0 => hb1.block b (hs.lt hb h0))
  go_wp2_with fail
  refine (script_any _ L _ hs1 hm).mono ?_
  rintro e w2 ⟨sv, rfl, hsc, hb2, _⟩
  have hsc' := scr_of_owns hsc rfl
  have hb02 := hb1.trans (hb2.mono hb1.size)
  obtain ⟨sa, scap, rfl⟩ := hsc'.slice
  have hn12 : (scriptOf L).length ≤ 12 := by rw [scriptOf_length]; omega
  go_wp2_with fail
  refine (inv_new (w0 := w) hb02 2 _ _ hsc' (by omega)).mono ?_
  rintro e w3 ⟨pn, on, rfl, hI3, hon, hb3⟩
  have HI3 := Lib.hid (hI3.keepMono (keep' := fun _ => False) (fun _ e => e.elim))
  have hsc3 := hsc'.keep (w' := w3) (fun b hb h0 => hb3.block b (hsc'.lt hb h0))
  have P4 := Lib.hid (inv_new (w0 := w) HI3.out.bel 2 _ _ hsc3 (by omega))
  clear hs hs1 hsc hsc' hb1 hb2 hb02 hI3 hon hb3 hsc3
  go_wp2_with fail
  refine P4.out.mono ?_
  rintro e w4 ⟨pm, om, rfl, hI4, hom, hb4⟩
  have hT := two_new (K := fun _ => False) HI3.out hI4 hom hb4
  have HT : Hid (Two w w4 pn on (alS L Z 0) pm om (alT L 0) (fun _ => False)) := hT
  clear hT hI4 hom hb4 HI3 P4
  have hN : ∃ N : Nat, N ≤ 30 ∧ N ≤ Z.length ∧ ((Z.length ≤ 30 ∧ N = Z.length) ∨ (30 < Z.length ∧ N = 30)) := by
    by_cases h : Z.length ≤ 30
    · exact ⟨Z.length, h, Nat.le_refl _, .inl ⟨h, rfl⟩⟩
    · exact ⟨30, Nat.le_refl _, by omega, .inr ⟨by omega, rfl⟩⟩
  obtain ⟨N, hN1, hN2, hN3⟩ := hN
  go_upto_region 5 with fail
  go_cut [1] (fun s1 wx => w4 = wx ∧ s1 = .slice za N zcap)
  case first =>
    rcases hN3 with ⟨h1, rfl⟩ | ⟨h1, rfl⟩
    · go_wp2_with fail
      go_meet
      exact ⟨rfl, rfl⟩
    · go_wp2_with fail
      go_meet
      exact ⟨rfl, rfl⟩
  case rest =>
    obtain ⟨rfl, rfl⟩ := hcut
    have HN := Lib.hid hN2
    clear hN3 hcap hN2 hzm hn12
    go_wp2_with fail
    go_loopg [11] (N + 1) (fun g sk wr => ∃ (k : Nat) (o1 o2 : Nat → Prop), sk = .int .i64 (k : Int) ∧ N < k + g ∧ k ≤ N ∧ Two w wr pn o1 (alS L Z k) pm o2 (alT L k) (fun _ => False))
    case atStart => exact ⟨0, on, om, rfl, by omega, by omega, HT.out⟩
    case round =>
      clear HT
      obtain ⟨k, o1, o2, rfl, hg, hkN, hT⟩ := hrel
      have HT := Lib.hid hT
      clear hT
      obtain ⟨p1, p2, p3, _⟩ := alS_props L Z k
      by_cases hk : k < N
      · have hk' : (k : Int) < (N : Int) := by omega
        have hkZ : k < Z.length := by have := HN.out; omega
        obtain ⟨b, off, rfl, hb, h0⟩ := ZC.out k hkZ
        have h0 := (HT.out.l.bel.cell (p := ⟨b, off + k, none⟩) hb).trans h0
        have hbr := Nat.lt_of_lt_of_le hb HT.out.l.bel.size
        have hbd := bounds_u16 (ZW.out k hkZ)
        have q1 := hbd.1
        have q2 := hbd.2
        have P1 := Lib.hid (inv_send HT.out.l (by rw [p1]; exact scriptOf_small L) (by rw [p2]; omega) (by omega) (gtI Z k) k 1 otherText (by omega) (WalkArith.wf_i64 (by omega)) (by decide))
        clear hkZ hbd p1 p2 p3
        go_wp2_with fail
        refine P1.out.mono ?_
        rintro e w5 ⟨rfl, o1', hI5, hK5⟩
        have HT5 : Hid (Two w w5 pn o1' (alS L Z (k + 1)) pm o2 (alT L k) (fun _ => False)) := HT.out.left hI5 hK5
        have P2 := Lib.hid (inv_send_not HT5.out.r (scriptOf_small L).1 (show k ≤ _ by omega) 0 0 5 noText (alT_not L k) (by decide) (by decide))
        clear hI5 hK5 P1 HT h0 q1 q2 hbr hb
        go_wp2_with fail
        refine P2.out.mono ?_
        rintro e w6 ⟨rfl, o2', hI6, hK6⟩
        rw [alT_send] at hI6
        have HT6 := Lib.hid (HT5.out.right hI6 hK6)
        clear hI6 hK6 P2 HT5
        go_wp2_with fail
        go_roundg (N - k)
        case measure => omega
        case rel => exact ⟨k + 1, o1', o2', by go_num, by omega, by omega, HT6.out⟩
      · have hk' : (N : Int) ≤ (k : Int) := by omega
        have HT5 := Lib.hid (HT.out.allocKeep (.cells #[.int .i64 7, .int .i64 0, .string thisText] 31))
        have HX5 : Hid (ThisAt (wr.alloc (.cells #[.int .i64 7, .int .i64 0, .string thisText] 31)) wr.heap.size) := Lib.hid (heap_alloc_new wr _)
        obtain ⟨a1, a2⟩ := al_start L Z k now
        have HA := Lib.hid a1
        have hl : ((alS L Z k).send now 7 0 thisText).wait.length ≤ 248 := by omega
        have HL := Lib.hid hl
        have P1 := Lib.hid (inv_send HT5.out.l (by rw [p1]; exact scriptOf_small L) (by rw [p2]; omega) (by omega) now 7 0 thisText (by omega) (by decide) (by decide))
        clear a1 a2 hl p1 p2 p3 HT
        go_wp2_with fail
        refine P1.out.mono ?_
        rintro e w5 ⟨rfl, o1', hI5, hK5⟩
        have HT6 := Lib.hid (HT5.out.left hI5 hK5)
        have HX6 : Hid (ThisAt w5 wr.heap.size) := Lib.hid ((hK5 _ (.inr rfl)).trans HX5.out)
        have P2 := Lib.hid (inv_send HT6.out.r (S := alT L k) (scriptOf_small L) (show k ≤ _ by omega) (show (0 : Nat) ≤ _ by omega) now 7 0 thisText (by omega) (by decide) (by decide))
        obtain ⟨m0, m1, m2, mlt⟩ := HX6.out.cells
        clear hI5 hK5 P1 HT5 HX5
        go_wp2_with fail
        refine P2.out.mono ?_
        rintro e w6 ⟨rfl, o2', hI6, hK6⟩
        have HIN : Hid (AlIn w w6 pn pm wr.heap.size 0) := ⟨o1', o2', _, _, HT6.out.right hI6 hK6, HA.out, by have := HL.out; omega, (hK6 _ (.inr rfl)).trans HX6.out⟩
        clear hI6 hK6 P2 HT6 HX6 m0 m1 m2 mlt HA HL ZC ZW HN
        generalize wr.heap.size = xb at *
        go_wp2_with fail
        go_loopg [13] 301 (fun g sk wr => ∃ j : Nat, sk = .int .i64 (j : Int) ∧ 300 < j + g ∧ AlIn w wr pn pm xb j)
        case atStart => exact ⟨0, rfl, by omega, HIN.out⟩
        case round =>
          clear HIN
          obtain ⟨j, rfl, hg, on, om, S, T, hT, hA, hl, hX⟩ := hrel
          have HTL := Lib.hid (show T.wait.length ≤ 248 by have := hA.1.length_eq; have := List.length_filter_le (fun p : Par => p.t == 0) S.wait; omega)
          have HT := Lib.hid hT
          have HX := Lib.hid hX
          have HA := Lib.hid hA
          clear hT hX hA
          have hj : (j : Int) < 300 := by omega
          have P1 := Lib.hid (inv_next HT.out.l (by omega))
          have HL := Lib.hid hl
          clear hl
          by_cases hx : S.wait = []
          · have hm0 : msgOf S.wait = noMsg := by rw [hx]; rfl
            have HM := Lib.hid hm0
            have hY := al_nil HA.out hx
            have HLs := Lib.hid (show S.next.wait.length = 0 by show (left S.wait).length = 0; rw [hx]; rfl)
            have HLt := Lib.hid (show T.wait.length = 0 by rw [hY]; rfl)
            clear hm0 hx hY HA
            go_wp2_with fail
            refine P1.out.mono ?_
            rintro e w7 ⟨rfl, on', hI7, hK7⟩
            have HT7 := Lib.hid ((HT.out.left hI7 hK7).below ((Below.refl w7.heap.size w7).alloc (Nat.le_refl _) (.cells #[.int .i64 0, .int .i64 0, .string ⟨#[]⟩] 31)))
            rw [HM.out]
            unfold noMsg
            clear hI7 hK7 P1 HT HM
            go_wp2_with fail
            refine (inv_waiting HT7.out.r).mono ?_
            rintro e w8 ⟨rfl, rfl⟩
            rw [HLt.out]
            go_wp2_with fail
            refine (inv_waiting HT7.out.l).mono ?_
            rintro e w8 ⟨rfl, rfl⟩
            rw [HLs.out]
            go_wp2_with fail
            go_ret
            exact ⟨rfl, HT7.out.l.bel⟩
          · have HM := Lib.hid (msgOf_some hx)
            have HLs := Lib.hid (show S.next.wait.length + 1 = S.wait.length from left_length hx)
            by_cases h0 : (pick S.wait).t = 0
            · obtain ⟨y1, y2, y3, y4, y5⟩ := al_take HA.out HT.out.r.good.keys hx h0
              have HM2 := Lib.hid ((msgOf_some y1).trans (by rw [y2] : _ = (pick S.wait).msg))
              have HA2 := Lib.hid y3
              clear y1 y2 y3 HA hx
              generalize pick S.wait = p at *
              obtain ⟨pf, pt, ps, pa, pn'⟩ := p
              simp only at h0 y4 y5
              subst h0 y4 y5
              go_wp2_with fail
              refine P1.out.mono ?_
              rintro e w7 ⟨rfl, on', hI7, hK7⟩
              have HT7 := Lib.hid ((HT.out.left hI7 hK7).allocMore (.cells #[.int .i64 7, .int .i64 0, .string thisText] 31))
              have HX7 : Hid (ThisAt w7 xb) := Lib.hid ((hK7 _ (.inr rfl)).trans HX.out)
              rw [HM.out]
              have P2 := Lib.hid (inv_next HT7.out.r (by have := HTL.out; omega))
              have HA7 : Hid (ThisAt (w7.alloc (.cells #[.int .i64 7, .int .i64 0, .string thisText] 31)) w7.heap.size) := Lib.hid (heap_alloc_new w7 _)
              have HX7' : Hid (ThisAt (w7.alloc (.cells #[.int .i64 7, .int .i64 0, .string thisText] 31)) xb) := Lib.hid ((Below.heap_alloc w7 _ _ (HX7.out.cells).2.2.2).trans HX7.out)
              clear hI7 hK7 P1 HT HX HX7 HM
              unfold Par.msg
              go_wp2_with fail
              refine P2.out.mono ?_
              rintro e w8 ⟨rfl, om', hI8, hK8⟩
              have HT8 := Lib.hid ((HT7.out.right hI8 hK8).below ((Below.refl w8.heap.size w8).alloc (Nat.le_refl _) (.cells #[.int .i64 7, .int .i64 0, .string thisText] 31)))
              have hxx : ThisAt w8 xb := (hK8 _ (.inr (.inl rfl))).trans HX7'.out
              have hxa : ThisAt w8 w7.heap.size := (hK8 _ (.inr (.inr rfl))).trans HA7.out
              obtain ⟨m0, m1, m2, mlt⟩ := hxx.cells
              obtain ⟨r0, r1, r2, rlt⟩ := hxa.cells
              have HIN : Hid (AlIn w (w8.alloc (.cells #[.int .i64 7, .int .i64 0, .string thisText] 31)) pn pm xb (j + 1)) :=
                ⟨on', om', _, _, HT8.out.less (fun k hk => .inl hk), HA2.out, by have := HLs.out; have := HL.out; omega, (Below.heap_alloc w8 _ _ mlt).trans hxx⟩
              rw [HM2.out]
              unfold Par.msg
              clear hI8 hK8 P2 HT7 HT8 hxx hxa HM2 HA2 HLs HL HA7 HX7'
              generalize w7.heap.size = xa at *
              go_wp2_with fail
              go_roundg (300 - j)
              case measure => omega
              case rel => exact ⟨j + 1, by go_num, by omega, HIN.out⟩
            · have HA2 := Lib.hid (al_skip HA.out hx h0)
              clear hx HA
              generalize pick S.wait = p at *
              obtain ⟨pf, pt, ps, pa, pn'⟩ := p
              simp only at h0
              have h0' : (pt != 0) = true := by simpa using h0
              clear h0
              go_wp2_with fail
              refine P1.out.mono ?_
              rintro e w7 ⟨rfl, on', hI7, hK7⟩
              have HX7 : Hid (ThisAt w7 xb) := Lib.hid ((hK7 _ (.inr rfl)).trans HX.out)
              have HIN : Hid (AlIn w (w7.alloc (.cells #[.int .i64 pf, .int .i64 pt, .string ps] 31)) pn pm xb (j + 1)) :=
                ⟨on', om, _, _, (HT.out.left hI7 hK7).below ((Below.refl w7.heap.size w7).alloc (Nat.le_refl _) _), HA2.out, by have := HLs.out; have := HL.out; omega, (Below.heap_alloc w7 _ _ (HX7.out.cells).2.2.2).trans HX7.out⟩
              rw [HM.out]
              unfold Par.msg
              clear hI7 hK7 P1 HT HX HX7 HM HA2 HLs HL
              go_wp2_with fail
              go_roundg (300 - j)
              case measure => omega
              case rel => exact ⟨j + 1, by go_num, by omega, HIN.out⟩
end Go.Proofs.Ytcadockapeancaa
