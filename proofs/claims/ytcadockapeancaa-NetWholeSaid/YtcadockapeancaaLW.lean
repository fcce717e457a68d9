/- The walk of NetWhole: it returns true. -/
import Derived.Test.YtcadockapeancaaWh
import Derived.Deep.DeepCutAuto
namespace Go.Proofs.Ytcadockapeancaa
open Go.RowKit

/-- What holds at the head of each round of the first loop. -/
def WhRel (w w2 : World) (pb : Nat) (many d : Int) (Z : List Ms) (k : Nat) (wr : World) : Prop := ∃ own, Inv w wr pb own (whS many d Z k) (fun b => b < w.heap.size) ∧ Keep (fun b => b < w.heap.size) w2 wr
/-- .. and of the second one. -/
def WhRel2 (w w2 : World) (pb : Nat) (many d : Int) (Z : List Ms) (N k : Nat) (wr : World) : Prop := ∃ own, Inv w wr pb own ⟨many, [⟨false, 0, d⟩], whW many d Z k (N - k), N, []⟩ (fun b => b < w.heap.size) ∧ Keep (fun b => b < w.heap.size) w2 wr

set_option maxHeartbeats 4000000 in
set_option maxRecDepth 100000 in
theorem whole_any (v : Value) (nodes delay : Int) (Z : List Ms) (w : World) (hs : Mss w v Z) (hm : Z.length ≤ maxLen) (hz : ∀ k, k < Z.length → (Lit.int .i64 (gtM Z k).f).wf = true ∧ (Lit.int .i64 (gtM Z k).t).wf = true) (hn : 0 ≤ nodes ∧ nodes ≤ 255) (hd : 0 ≤ delay ∧ delay ≤ 65535) :
    Calls Try.prog 6 #[v, .int .u8 nodes, .int .u16 delay] w fun e w' => e = .returned (.bool true) ∧ Below w.heap.size w w' := by
  obtain ⟨va, vcap, rfl, hcap⟩ := hs.slice
  have HZ := Lib.hid hz
  obtain ⟨n1, n2⟩ := hn
  obtain ⟨d1, d2⟩ := hd
  unfold maxLen at hm
  clear hz
  go_enter Try.func6, Try.ntmps6
  go_wp2_with fail
  refine (sanity_any _).mono ?_
  rintro e w1 ⟨rfl, hb1⟩
  have ZC := Lib.hid (fun i (hi : i < Z.length) => by
    obtain ⟨b, off, ha, hb, h0, h1, h2⟩ := hs.at i hi
    exact (⟨b, off, ha, hb, (hb1.cell (p := ⟨b, off + i * 3, none⟩) hb).trans h0, (hb1.cell (p := ⟨b, off + i * 3 + 1, none⟩) hb).trans h1, (hb1.cell (p := ⟨b, off + i * 3 + 2, none⟩) hb).trans h2⟩ :
      ∃ b off, va = some ⟨b, off, none⟩ ∧ b < w.heap.size ∧ w1.cell? ⟨b, off + i * 3, none⟩ = some (.int .i64 (gtM Z i).f) ∧ w1.cell? ⟨b, off + i * 3 + 1, none⟩ = some (.int .i64 (gtM Z i).t) ∧ w1.cell? ⟨b, off + i * 3 + 2, none⟩ = some (.string (gtM Z i).s)))
  have HB := Lib.hid hb1
  clear hb1
  go_wp2_with fail
  have e1 : 0 ≤ delay % 1000 := by omega
  have e2 : delay % 1000 ≤ 999 := by omega
  have e3 : 0 ≤ nodes % 5 := by omega
  have e4 : nodes % 5 ≤ 4 := by omega
  refine (inv_new (w0 := w) (HB.out.alloc HB.out.size (.cells #[.bool false, .int .i64 0, .int .i64 (delay % 1000)] 44)) (nodes % 5) _ _ (wh_script w1 (delay % 1000)) (by simp)).mono ?_
  rintro e w2 ⟨pb, own, rfl, hI, hown, hb2⟩
  have HI := Lib.hid (hI.keepMono (keep' := fun k => k < w.heap.size) (fun k hk => hI.sep k (by simp; have := HB.out.size; omega)))
  have ZC2 := Lib.hid (fun i (hi : i < Z.length) => by
    obtain ⟨b, off, ha, hb, h0, h1, h2⟩ := ZC.out i hi
    have hb' : b < (w1.alloc (.cells #[.bool false, .int .i64 0, .int .i64 (delay % 1000)] 44)).heap.size := by simp; have := HB.out.size; omega
    have hb'' : b < w1.heap.size := by have := HB.out.size; omega
    have go : ∀ o, w2.cell? ⟨b, o, none⟩ = w1.cell? ⟨b, o, none⟩ := fun o => (hb2.cell (p := ⟨b, o, none⟩) hb').trans (World.cell?_of_block (w := w1) (Below.heap_alloc w1 _ _ hb''))
    exact (⟨b, off, ha, hb, (go _).trans h0, (go _).trans h1, (go _).trans h2⟩ :
      ∃ b off, va = some ⟨b, off, none⟩ ∧ b < w.heap.size ∧ w2.cell? ⟨b, off + i * 3, none⟩ = some (.int .i64 (gtM Z i).f) ∧ w2.cell? ⟨b, off + i * 3 + 1, none⟩ = some (.int .i64 (gtM Z i).t) ∧ w2.cell? ⟨b, off + i * 3 + 2, none⟩ = some (.string (gtM Z i).s)))
  have hfp : Mss w (.slice va Z.length vcap) Z := hs
  clear hI hown hb2 HB ZC hs
  have hN : ∃ N : Nat, N ≤ 30 ∧ N ≤ Z.length ∧ ((Z.length ≤ 30 ∧ N = Z.length) ∨ (30 < Z.length ∧ N = 30)) := by
    by_cases h : Z.length ≤ 30
    · exact ⟨Z.length, h, Nat.le_refl _, .inl ⟨h, rfl⟩⟩
    · exact ⟨30, Nat.le_refl _, by omega, .inr ⟨by omega, rfl⟩⟩
  obtain ⟨N, hN1, hN2, hN3⟩ := hN
  go_upto_region 4 with fail
  go_cut [0] (fun s0 wx => w2 = wx ∧ s0 = .slice va N vcap)
  case first =>
    rcases hN3 with ⟨h1, rfl⟩ | ⟨h1, rfl⟩
    · go_wp2_with fail
      go_meet
      exact ⟨rfl, rfl⟩
    · go_wp2_with fail
      go_meet
      exact ⟨rfl, rfl⟩
  case rest =>
    obtain ⟨rfl, rfl⟩ := hcut
    clear hN3 hfp hcap
    have HN := Lib.hid hN2
    clear hN2 hm
    have hst : WhRel w w2 pb (nodes % 5) (delay % 1000) Z 0 w2 := ⟨own, HI.out, Keep.refl _ _⟩
    clear HI
    go_wp2_with fail
    go_loopg [10] (N + 1) (fun g s10 wr => ∃ k : Nat, s10 = .int .i64 (k : Int) ∧ N < k + g ∧ k ≤ N ∧ WhRel w w2 pb (nodes % 5) (delay % 1000) Z k wr)
    case atStart => exact ⟨0, rfl, by omega, by omega, hst⟩
    case round =>
      clear hst
      obtain ⟨k, rfl, hg, hkN, own, hI, hK⟩ := hrel
      have HI := Lib.hid hI
      have HK := Lib.hid hK
      clear hI hK
      by_cases hk : k < N
      · have hk' : (k : Int) < (N : Int) := by omega
        have hkZ : k < Z.length := by have := HN.out; omega
        obtain ⟨b, off, rfl, hb, h0, h1, h2⟩ := ZC2.out k hkZ
        have h0 := HK.out.cell h0 hb
        have h1 := HK.out.cell h1 hb
        have h2 := HK.out.cell h2 hb
        obtain ⟨z1, z2⟩ := HZ.out k hkZ
        have P1 := Lib.hid (inv_send HI.out (wh_small (delay % 1000) (by omega)) (show k ≤ _ by omega) (show (whW (nodes % 5) (delay % 1000) Z 0 k).length ≤ _ by have := whW_length (nodes % 5) (delay % 1000) Z 0 k; omega) (10 * (k : Int)) (gtM Z k).f (gtM Z k).t (gtM Z k).s (by omega) z1 z2)
        clear z1 z2 hkZ
        go_wp2_with fail
        refine P1.out.mono ?_
        rintro e w4 ⟨rfl, own', hI4, hK4⟩
        rw [whS_send (nodes % 5) (delay % 1000) Z k e1] at hI4
        have HR4 : Hid (WhRel w w2 pb (nodes % 5) (delay % 1000) Z (k + 1) w4) := ⟨own', hI4, HK.out.trans hK4⟩
        clear hI4 hK4 P1 HI HK h0 h1 h2
        go_wp2_with fail
        go_roundg (N - k)
        case measure => omega
        case rel => exact ⟨k + 1, by go_num, by omega, by omega, HR4.out⟩
      · have hk' : (N : Int) ≤ (k : Int) := by omega
        obtain rfl : k = N := by omega
        have hst : WhRel2 w w2 pb (nodes % 5) (delay % 1000) Z k 0 wr := ⟨own, HI.out, HK.out⟩
        clear HI HK hg hkN
        go_wp2_with fail
        go_loopg [11] (k + 1) (fun g s11 wr => ∃ j : Nat, s11 = .int .i64 (j : Int) ∧ k < j + g ∧ j ≤ k ∧ WhRel2 w w2 pb (nodes % 5) (delay % 1000) Z k j wr)
        case atStart => exact ⟨0, rfl, by omega, by omega, hst⟩
        case round =>
          clear hst
          obtain ⟨j, rfl, hg, hjk, own, hI, hK⟩ := hrel
          have HI := Lib.hid hI
          have HK := Lib.hid hK
          clear hI hK
          by_cases hj : j < k
          · have hj' : (j : Int) < (k : Int) := by omega
            have hjZ : j < Z.length := by have := HN.out; omega
            obtain ⟨b, off, rfl, hb, h0, h1, h2⟩ := ZC2.out j hjZ
            have h0 := HK.out.cell h0 hb
            have h1 := HK.out.cell h1 hb
            have h2 := HK.out.cell h2 hb
            have hsplit : k - j = (k - (j + 1)) + 1 := by omega
            cases hnb : nodeB (nodes % 5) (gtM Z j).t
            · have HR4 : Hid (WhRel2 w w2 pb (nodes % 5) (delay % 1000) Z k (j + 1) wr) := by
                refine ⟨own, ?_, HK.out⟩
                have := HI.out
                rw [hsplit, whW_skip _ _ _ _ _ hnb] at this
                exact this
              have hor : (gtM Z j).t < 0 ∨ (0 ≤ (gtM Z j).t ∧ nodes % 5 ≤ (gtM Z j).t) := by
                simp [nodeB] at hnb
                omega
              clear hnb hsplit HI HK
              rcases hor with ho | ⟨ho, ho2⟩
              all_goals
                go_wp2_with fail
                go_roundg (k - j)
                case measure => omega
                case rel => exact ⟨j + 1, by go_num, by omega, by omega, HR4.out⟩
            · have hor : 0 ≤ (gtM Z j).t ∧ (gtM Z j).t < nodes % 5 := by
                simp [nodeB] at hnb
                exact hnb
              obtain ⟨o1, o2⟩ := hor
              obtain ⟨q1, q2, q3⟩ := whW_pick (nodes % 5) (delay % 1000) Z j (k - (j + 1)) hnb
              have HI' : Inv w wr pb own ⟨nodes % 5, [⟨false, 0, delay % 1000⟩], whW (nodes % 5) (delay % 1000) Z j (k - (j + 1) + 1), k, []⟩ (fun b => b < w.heap.size) := by
                have := HI.out
                rwa [hsplit] at this
              have P1 := Lib.hid (inv_next HI' (by have := whW_length (nodes % 5) (delay % 1000) Z j (k - (j + 1) + 1); show List.length (whW _ _ _ _ _) ≤ _; omega))
              have HM := Lib.hid ((msgOf_some q1).trans (by rw [q2] : _ = (whP (delay % 1000) Z j).msg))
              have HL := Lib.hid (show NSt.next ⟨nodes % 5, [⟨false, 0, delay % 1000⟩], whW (nodes % 5) (delay % 1000) Z j (k - (j + 1) + 1), k, []⟩ = ⟨nodes % 5, [⟨false, 0, delay % 1000⟩], whW (nodes % 5) (delay % 1000) Z (j + 1) (k - (j + 1)), k, []⟩ by unfold NSt.next; rw [q3])
              clear hnb hsplit HI HI' q1 q2 q3
              go_wp2_with fail
              refine P1.out.mono ?_
              rintro e w5 ⟨rfl, own', hI5, hK5⟩
              rw [HL.out] at hI5
              rw [show msgOf (NSt.wait ⟨nodes % 5, [⟨false, 0, delay % 1000⟩], whW (nodes % 5) (delay % 1000) Z j (k - (j + 1) + 1), k, []⟩) = _ from HM.out]
              have h0 := hK5.cell h0 hb
              have h1 := hK5.cell h1 hb
              have h2 := hK5.cell h2 hb
              have HR5 := Lib.hid (fun n => (⟨own', (hI5.below ((Below.refl w5.heap.size w5).alloc (Nat.le_refl _) (.cells #[.int .i64 (gtM Z j).f, .int .i64 (gtM Z j).t, .string (gtM Z j).s] 31))).below (Below.drewN' (Below.refl _ _) n),
                (HK.out.trans hK5).trans (fun q hq => Below.heap_alloc w5 _ _ (hI5.sep q hq).1)⟩ : WhRel2 w w2 pb (nodes % 5) (delay % 1000) Z k (j + 1) ((w5.alloc (.cells #[.int .i64 (gtM Z j).f, .int .i64 (gtM Z j).t, .string (gtM Z j).s] 31)).drewN n)))
              have hbl := block_lt_of_cell h0
              simp only at hbl
              clear hI5 hK5 HL HM P1 HK
              unfold Par.msg whP
              go_wp2_with fail
              go_quiet (fail)
              go_wp2_with fail
              go_roundg (k - j)
              case measure => omega
              case rel => exact ⟨j + 1, by go_num, by omega, by omega, HR5.out _⟩
          · have hj' : (k : Int) ≤ (j : Int) := by omega
            obtain rfl : j = k := by omega
            have HW := Lib.hid (inv_waiting HI.out)
            have HL0 : (NSt.wait ⟨nodes % 5, [⟨false, 0, delay % 1000⟩], whW (nodes % 5) (delay % 1000) Z j (j - j), j, []⟩).length = 0 := by
              show (whW _ _ _ _ _).length = 0
              rw [Nat.sub_self]
              rfl
            have HL := Lib.hid HL0
            have HBl := Lib.hid HI.out.bel
            clear HL0 HI HK
            go_wp2_with fail
            refine HW.out.mono ?_
            rintro e w5 ⟨rfl, rfl⟩
            rw [HL.out]
            go_wp2_with fail
            go_ret
            exact ⟨rfl, HBl.out⟩
end Go.Proofs.Ytcadockapeancaa
