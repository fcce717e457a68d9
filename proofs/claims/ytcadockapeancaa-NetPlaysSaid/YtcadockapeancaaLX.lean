/- The walk of NetPlays: it returns true. -/
import Derived.Test.YtcadockapeancaaX6
import Derived.Test.YtcadockapeancaaX7
namespace Go.Proofs.Ytcadockapeancaa
open Go.RowKit

/-- What holds at the head of each round. -/
def PyRel (w : World) (L : List Tr) (pn pm k : Nat) (wr : World) : Prop := ∃ on om S, Both w wr pn on S pm om S (fun _ => False) ∧ S.script = scriptOf L ∧ S.sent ≤ k ∧ S.wait.length ≤ 8 * k ∧ S.groups.length ≤ maxLen
theorem tmod6 (x : Int) : -1000000 < x.tmod 1000000 ∧ x.tmod 1000000 < 1000000 := by
  have h1 := Int.tmod_lt_of_pos x (by omega : (0 : Int) < 1000000)
  have h2 : -1000000 < x.tmod 1000000 := by
    have := Int.tmod_lt_of_pos (-x) (by omega : (0 : Int) < 1000000)
    rw [Int.neg_tmod] at this
    omega
  exact ⟨h2, h1⟩

def ActAt (w : World) (b : Nat) (xk xn xf xt : Int) (xs : ByteArray) (gv : Value) : Prop := w.heap[b]? = some (.cells #[.int .i64 xk, .int .i64 xn, .int .i64 xf, .int .i64 xt, .string xs, gv] 34 (0, 0))
theorem ActAt.cells {w : World} {b : Nat} {xk xn xf xt : Int} {xs : ByteArray} {gv : Value} (h : ActAt w b xk xn xf xt xs gv) : w.cell? ⟨b, 0, none⟩ = some (.int .i64 xk) ∧ w.cell? ⟨b, 1, none⟩ = some (.int .i64 xn) ∧ w.cell? ⟨b, 2, none⟩ = some (.int .i64 xf) ∧ w.cell? ⟨b, 3, none⟩ = some (.int .i64 xt) ∧
    w.cell? ⟨b, 4, none⟩ = some (.string xs) ∧ w.cell? ⟨b, 5, none⟩ = some gv ∧ b < w.heap.size := by
  unfold ActAt at h
  simp only [cell_of_row _ _ _ _ 34 (0, 0) h]
  exact ⟨rfl, rfl, rfl, rfl, rfl, rfl, heap_lt h⟩
theorem kind_ways (xk : Int) : bits BinOp.and .i64 xk 7 < 4 ∨ (4 ≤ bits BinOp.and .i64 xk 7 ∧ (bits BinOp.and .i64 xk 7 == 7) = true) ∨ (4 ≤ bits BinOp.and .i64 xk 7 ∧ (bits BinOp.and .i64 xk 7 == 7) = false) := by
  by_cases h : bits BinOp.and .i64 xk 7 < 4
  · exact .inl h
  · cases e : (bits BinOp.and .i64 xk 7 == 7)
    · exact .inr (.inr ⟨by omega, rfl⟩)
    · exact .inr (.inl ⟨by omega, rfl⟩)

set_option maxHeartbeats 20000000 in
set_option maxRecDepth 100000 in
theorem plays_any (nodes : Int) (v av : Value) (L : List Tr) (A : List Ac) (w : World) (hn : 0 ≤ nodes ∧ nodes ≤ 255) (hs : Scr w v L) (hm : L.length ≤ maxLen) (ha : Acs w av A) (ham : A.length ≤ maxLen)
    (hok : ∀ k, k < A.length → AcOk w (gtA A k) ∧ (gtA A k).g.length * 8 ≤ 140737488355328) :
    Calls Try.prog 3 #[.int .u8 nodes, v, av] w fun e w' => e = .returned (.bool true) ∧ Below w.heap.size w w' := by
  obtain ⟨va, vcap, rfl⟩ := hs.slice
  obtain ⟨aa, acap, rfl⟩ := ha.slice
  obtain ⟨n1, n2⟩ := hn
  have AC := Lib.hid ha.at
  have OK := Lib.hid hok
  unfold maxLen at ham
  clear ha hok
  go_enter Try.func3, Try.ntmps3
  go_wp2_with fail
  refine (sanity_any _).mono ?_
  rintro e w1 ⟨rfl, hb1⟩
  have hs1 := hs.keep (w' := w1) (fun b hb h0 => hb1.block b (hs.lt hb h0))
  go_wp2_with fail
  refine (script_any _ L _ hs1 hm).mono ?_
  rintro e w2 ⟨sv, rfl, hsc, hb2, _⟩
  have hsc' := scr_of_owns hsc rfl
  have hb02 := hb1.trans (hb2.mono hb1.size)
  obtain ⟨sa, scap, rfl⟩ := hsc'.slice
  have hn12 : (scriptOf L).length ≤ 12 := by rw [scriptOf_length]; omega
  have e1 : 0 ≤ nodes % 7 := by omega
  have e2 : nodes % 7 ≤ 6 := by omega
  have P3 := Lib.hid (inv_new (w0 := w) hb02 (nodes % 7 - 1) _ _ hsc' (by omega))
  have HSC := Lib.hid hsc'
  clear hs hs1 hsc hsc' hb1 hb2 hb02
  go_wp2_with fail
  refine P3.out.mono ?_
  rintro e w3 ⟨pn, on, rfl, hI3, hon, hb3⟩
  have HI3 := Lib.hid (hI3.keepMono (keep' := fun _ => False) (fun _ e => e.elim))
  have hsc3 := HSC.out.keep (w' := w3) (fun b hb h0 => hb3.block b (HSC.out.lt hb h0))
  have P4 := Lib.hid (rinv_new (w0 := w) HI3.out.bel (nodes % 7 - 1) _ _ hsc3 (by omega))
  clear hI3 hon hb3 hsc3 P3 HSC
  go_wp2_with fail
  refine P4.out.mono ?_
  rintro e w4 ⟨pm, om, rfl, hI4, hom, hb4⟩
  have HT : Hid (PyRel w L pn pm 0 w4) := Lib.hid ⟨on, om, _, both_new (K := fun _ => False) HI3.out hI4 hom hb4, rfl, Nat.le_refl _, by simp, by simp⟩
  clear hI4 hom hb4 HI3 P4 hn12
  go_wp2_with fail
  go_loopg [11] (A.length + 1) (fun g sk wr => ∃ k : Nat, sk = .int .i64 (k : Int) ∧ A.length < k + g ∧ k ≤ A.length ∧ k ≤ 60 ∧ PyRel w L pn pm k wr)
  case atStart => exact ⟨0, rfl, by omega, by omega, by omega, HT.out⟩
  case round =>
    clear HT
    obtain ⟨k, rfl, hg, hkA, hk60, on, om, S, hT, hS1, hS2, hS3, hS4⟩ := hrel
    have HT := Lib.hid hT
    clear hT
    by_cases hh : k < A.length ∧ k < 60
    · obtain ⟨h1, h2⟩ := hh
      have h1' : (k : Int) < (A.length : Int) := by omega
      have h2' : (k : Int) < 60 := by omega
      obtain ⟨b, off, rfl, hb, hAt⟩ := AC.out k h1
      obtain ⟨⟨⟨w0', w1', w2', w3'⟩, hin, hwf, hgm⟩, hg8⟩ := OK.out k h1
      have hbel := HT.out.l.bel
      have hcl := fun (o : Nat) (u : Value) (h : w.cell? ⟨b, o, none⟩ = some u) => (hbel.cell (p := ⟨b, o, none⟩) hb).trans h
      obtain ⟨a0, a1, a2, a3, a4, a5⟩ := hAt
      have hinr := hin.keep (w' := wr) (fun b' hb' h0 => hbel.block b' (hin.lt hb' h0))
      have c0 := hcl _ _ a0
      have c1 := hcl _ _ a1
      have c2 := hcl _ _ a2
      have c3 := hcl _ _ a3
      have c4 := hcl _ _ a4
      have c5 := hcl _ _ a5
      clear hcl a0 a1 a2 a3 a4 a5
      generalize gtA A k = x at *
      obtain ⟨xk, xn, xf, xt, xs, gv, G⟩ := x
      simp only at c0 c1 c2 c3 c4 c5 w0' w1' w2' w3' hin hwf hgm hg8 hinr
      obtain ⟨ga, gc, rfl⟩ := hin.slice
      have HINR := Lib.hid hinr
      have HIN0 := Lib.hid hin
      have HWF := Lib.hid hwf
      clear hinr hin hwf hbel
      have HT1 := Lib.hid ((HT.out.allocMore (.cells #[.int .i64 xk, .int .i64 xn, .int .i64 xf, .int .i64 xt, .string xs, .slice ga G.length gc] 34)).less (K' := fun k => k = wr.heap.size) (fun k hk => .inr hk))
      have HA1 : Hid (ActAt (wr.alloc (.cells #[.int .i64 xk, .int .i64 xn, .int .i64 xf, .int .i64 xt, .string xs, .slice ga G.length gc] 34)) wr.heap.size xk xn xf xt xs (.slice ga G.length gc)) := Lib.hid (heap_alloc_new wr _)
      have hbd := tmod6 xn
      have q1 := hbd.1
      have q2 := hbd.2
      clear hbd HINR
      rcases kind_ways xk with hkd | ⟨hkd, hkd7⟩ | ⟨hkd, hkd7⟩
      · have P1 := Lib.hid (inv_send HT1.out.l (by rw [hS1]; exact scriptOf_small L) (by omega) (by omega) (xn.tmod 1000000) xf xt xs (by omega) w2' w3')
        clear HT
        go_wp2_with fail
        refine P1.out.mono ?_
        rintro e w5 ⟨rfl, on', hI5, hK5⟩
        have HT5 := Lib.hid (HT1.out.left hI5 hK5)
        have HA5 : Hid (ActAt w5 wr.heap.size xk xn xf xt xs (.slice ga G.length gc)) := Lib.hid ((hK5 _ (.inr rfl)).trans HA1.out)
        obtain ⟨m0, m1, m2, m3, m4, m5, mlt⟩ := HA5.out.cells
        have P2 := Lib.hid (rinv_send HT5.out.r (by rw [hS1]; exact scriptOf_small L) (by omega) hS4 (by omega) (xn.tmod 1000000) xf xt xs (by omega) w2' w3')
        clear hI5 hK5 P1 HT1 HA1 HA5
        go_wp2_with fail
        refine P2.out.mono ?_
        rintro e w6 ⟨rfl, om', hI6, hK6⟩
        have HT6 := Lib.hid (HT5.out.right hI6 hK6)
        have hsl := send_length S (xn.tmod 1000000) xf xt xs
        have HSL := Lib.hid hsl
        clear hI6 hK6 P2 HT5 m0 m1 m2 m3 m4 m5 hsl
        go_wp2_with fail
        refine (inv_waiting HT6.out.l).mono ?_
        rintro e w7 ⟨rfl, rfl⟩
        go_wp2_with fail
        refine (rinv_waiting HT6.out.r).mono ?_
        rintro e w7 ⟨rfl, rfl⟩
        have HREL : Hid (PyRel w L pn pm (k + 1) w6) := Lib.hid ⟨on', om', _, HT6.out.less (fun _ e => e.elim), hS1, by show S.sent + 1 ≤ _; omega, by have := HSL.out; omega, hS4⟩
        clear HT6
        go_wp2_with fail
        go_roundg (A.length - k)
        case measure => omega
        case rel => exact ⟨k + 1, by go_num, by omega, by omega, by omega, HREL.out⟩
      · have P1 := Lib.hid (inv_part2 HT1.out.l (.slice ga G.length gc) G (HIN0.out.keep (fun b' hb' h0 => HT1.out.l.bel.block b' (HIN0.out.lt hb' h0))) HWF.out hgm (fun b' hb' h0 e => by
          have h1 := HIN0.out.lt hb' h0
          have h2 := HT1.out.l.new pn HT1.out.l.own
          omega))
        clear HT
        go_wp2_with fail
        refine P1.out.mono ?_
        rintro e w5 ⟨rfl, on', hI5, hK5⟩
        have HT5 := Lib.hid (HT1.out.left hI5 hK5)
        have HA5 : Hid (ActAt w5 wr.heap.size xk xn xf xt xs (.slice ga G.length gc)) := Lib.hid ((hK5 _ (.inr rfl)).trans HA1.out)
        obtain ⟨m0, m1, m2, m3, m4, m5, mlt⟩ := HA5.out.cells
        have P2 := Lib.hid (rinv_part HT5.out.r (.slice ga G.length gc) G (HIN0.out.keep (fun b' hb' h0 => HT5.out.l.bel.block b' (HIN0.out.lt hb' h0))) hg8)
        clear hI5 hK5 P1 HT1 HA1 HA5
        go_wp2_with fail
        refine P2.out.mono ?_
        rintro e w6 ⟨rfl, om', hI6, hK6⟩
        have HT6 := Lib.hid (HT5.out.right hI6 hK6)
        clear hI6 hK6 P2 HT5 m0 m1 m2 m3 m4 m5
        go_wp2_with fail
        refine (inv_waiting HT6.out.l).mono ?_
        rintro e w7 ⟨rfl, rfl⟩
        go_wp2_with fail
        refine (rinv_waiting HT6.out.r).mono ?_
        rintro e w7 ⟨rfl, rfl⟩
        have HREL : Hid (PyRel w L pn pm (k + 1) w6) := Lib.hid ⟨on', om', _, HT6.out.less (fun _ e => e.elim), hS1, by show S.sent ≤ _; omega, by show S.wait.length ≤ _; omega, hgm⟩
        clear HT6
        go_wp2_with fail
        go_roundg (A.length - k)
        case measure => omega
        case rel => exact ⟨k + 1, by go_num, by omega, by omega, by omega, HREL.out⟩
      · have P1 := Lib.hid (inv_next HT1.out.l (by omega))
        clear HT
        go_wp2_with fail
        refine P1.out.mono ?_
        rintro e w5 ⟨rfl, on', hI5, hK5⟩
        have HT5 := Lib.hid ((HT1.out.left hI5 hK5).less (K' := fun _ => False) (fun _ e => e.elim))
        have hnl : S.next.wait.length ≤ S.wait.length := List.length_eraseIdx_le _ _
        have HNL := Lib.hid hnl
        have hxm : msgOf S.wait = noMsg ∨ msgOf S.wait = (pick S.wait).msg := by
          by_cases hx : S.wait = []
          · exact .inl (by rw [hx]; rfl)
          · exact .inr (msgOf_some hx)
        clear hI5 hK5 P1 HT1 HA1 hnl
        rcases hxm with hx | hx
        · have HX := Lib.hid hx
          rw [hx]
          clear hx
          unfold noMsg
          have HT5' := Lib.hid (HT5.out.allocMore (.cells #[.int .i64 0, .int .i64 0, .string ⟨#[]⟩] 31))
          have P2 := Lib.hid (rinv_next HT5'.out.r (by omega))
          clear HT5
          go_wp2_with fail
          refine P2.out.mono ?_
          rintro e w4' ⟨rfl, om', hI4, hK4⟩
          have HT6 := Lib.hid ((HT5'.out.right hI4 hK4).below ((Below.refl w4'.heap.size w4').alloc (Nat.le_refl _) (.cells #[.int .i64 0, .int .i64 0, .string ⟨#[]⟩] 31)))
          obtain ⟨m0, m1, m2, mlt⟩ := msg_cells (hK4 w5.heap.size (.inr (.inr rfl))) rfl
          clear hI4 hK4 P2 HT5'
          rw [HX.out]
          unfold noMsg
          go_wp2_with fail
          refine (inv_waiting HT6.out.l).mono ?_
          rintro e w7 ⟨rfl, rfl⟩
          go_wp2_with fail
          refine (rinv_waiting HT6.out.r).mono ?_
          rintro e w7 ⟨rfl, rfl⟩
          have HREL := Lib.hid (show PyRel w L pn pm (k + 1) _ from ⟨on', om', _, HT6.out.less (fun _ e => e.elim), hS1, by show S.sent ≤ _; omega, by have := HNL.out; omega, hS4⟩)
          clear HT6
          go_wp2_with fail
          go_roundg (A.length - k)
          case measure => omega
          case rel => exact ⟨k + 1, by go_num, by omega, by omega, by omega, HREL.out⟩
        · have HX := Lib.hid hx
          rw [hx]
          clear hx
          unfold Par.msg
          have HT5' := Lib.hid (HT5.out.allocMore (.cells #[.int .i64 (pick S.wait).f, .int .i64 (pick S.wait).t, .string (pick S.wait).s] 31))
          have P2 := Lib.hid (rinv_next HT5'.out.r (by omega))
          clear HT5
          go_wp2_with fail
          refine P2.out.mono ?_
          rintro e w4' ⟨rfl, om', hI4, hK4⟩
          have HT6 := Lib.hid ((HT5'.out.right hI4 hK4).below ((Below.refl w4'.heap.size w4').alloc (Nat.le_refl _) (.cells #[.int .i64 (pick S.wait).f, .int .i64 (pick S.wait).t, .string (pick S.wait).s] 31)))
          obtain ⟨m0, m1, m2, mlt⟩ := msg_cells (hK4 w5.heap.size (.inr (.inr rfl))) rfl
          clear hI4 hK4 P2 HT5'
          rw [HX.out]
          unfold Par.msg
          go_wp2_with fail
          refine (inv_waiting HT6.out.l).mono ?_
          rintro e w7 ⟨rfl, rfl⟩
          go_wp2_with fail
          refine (rinv_waiting HT6.out.r).mono ?_
          rintro e w7 ⟨rfl, rfl⟩
          have HREL := Lib.hid (show PyRel w L pn pm (k + 1) _ from ⟨on', om', _, HT6.out.less (fun _ e => e.elim), hS1, by show S.sent ≤ _; omega, by have := HNL.out; omega, hS4⟩)
          clear HT6
          go_wp2_with fail
          go_roundg (A.length - k)
          case measure => omega
          case rel => exact ⟨k + 1, by go_num, by omega, by omega, by omega, HREL.out⟩
    · have hin : (A.length : Int) ≤ (k : Int) ∨ ((k : Int) < (A.length : Int) ∧ (60 : Int) ≤ (k : Int)) := by omega
      have HB := Lib.hid HT.out.l.bel
      clear HT hh
      rcases hin with hin | ⟨hin, hin2⟩
      all_goals
        go_wp2_with fail
        go_ret
        exact ⟨rfl, HB.out⟩
end Go.Proofs.Ytcadockapeancaa
