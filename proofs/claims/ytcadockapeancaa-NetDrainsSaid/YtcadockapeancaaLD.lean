/- The walk of NetDrains: it returns true. -/
import Derived.Test.YtcadockapeancaaTw
import Derived.Test.YtcadockapeancaaDr
import Derived.Test.YtcadockapeancaaOp
namespace Go.Proofs.Ytcadockapeancaa
open Go.RowKit

theorem IntsK.slice {k : IntKind} {w : World} {v : Value} {L : List Int} (h : IntsK k w v L) : ∃ a cap, v = .slice a L.length cap := by
  rcases h with ⟨rfl | ⟨a, cap, rfl⟩, rfl⟩ | ⟨b, off, cap, rfl, _⟩
  · exact ⟨none, 0, rfl⟩
  · exact ⟨some a, cap, rfl⟩
  · exact ⟨_, cap, rfl⟩
theorem IntsK.at {k : IntKind} {w : World} {a : Option Addr} {n cap : Nat} {L : List Int} (h : IntsK k w (.slice a n cap) L) : ∀ i, i < L.length → ∃ b off, a = some ⟨b, off, none⟩ ∧ b < w.heap.size ∧ w.cell? ⟨b, off + i, none⟩ = some (.int k (gtI L i)) := by
  intro i hi
  rcases h with ⟨_, rfl⟩ | ⟨b, off, cap', hv, hr, h0⟩
  · simp at hi
  · simp only [Value.slice.injEq] at hv
    obtain ⟨rfl, _, rfl⟩ := hv
    exact ⟨b, off, rfl, block_lt_of_cell (hr i hi), hr i hi⟩
theorem Scr.at {w : World} {a : Option Addr} {n cap : Nat} {L : List Tr} (h : Scr w (.slice a n cap) L) : ∀ i, i < L.length → ∃ b off, a = some ⟨b, off, none⟩ ∧ b < w.heap.size ∧
    w.cell? ⟨b, off + i * 3, none⟩ = some (.bool (gtT L i).lost) ∧ w.cell? ⟨b, off + i * 3 + 1, none⟩ = some (.int .i64 (gtT L i).copies) ∧ w.cell? ⟨b, off + i * 3 + 2, none⟩ = some (.int .i64 (gtT L i).delay) := by
  intro i hi
  rcases h with ⟨_, rfl⟩ | ⟨b, off, cap', hv, hr, h0⟩
  · simp at hi
  · simp only [Value.slice.injEq] at hv
    obtain ⟨rfl, _, rfl⟩ := hv
    exact ⟨b, off, rfl, block_lt_of_cell (hr i hi).1, hr i hi⟩

/-- What holds at the head of each round of the first loop. -/
def DrRel (w w3 : World) (B pb : Nat) (L : List Tr) (Z : List Int) (k : Nat) (wr : World) : Prop := ∃ own, Inv w wr pb own (drS L Z k) (fun b => b < B) ∧ Keep (fun b => b < B) w3 wr
/-- .. and of the second one. -/
structure DrRel2 (w w3 : World) (B pb : Nat) (Z : List Int) (N many : Nat) (last first : Int) (k : Nat) (T : NSt) (wr : World) : Prop where
  inv : ∃ own, Inv w wr pb own T (fun b => b < B)
  keep : Keep (fun b => b < B) w3 wr
  count : k + T.wait.length = many
  ok : DrOk Z N T.wait
  after : DrAfter last first T.wait

set_option maxHeartbeats 4000000 in
set_option maxRecDepth 100000 in
theorem drains_any (v zv : Value) (L : List Tr) (Z : List Int) (w : World) (hs : Scr w v L) (hm : L.length ≤ maxLen) (hz : IntsK .u16 w zv Z) (hzm : Z.length ≤ maxLen) (hzw : ∀ i, i < Z.length → (Lit.int .u16 (gtI Z i)).wf = true) :
    Calls Try.prog 4 #[v, zv] w fun e w' => e = .returned (.bool true) ∧ Below w.heap.size w w' := by
  obtain ⟨va, vcap, rfl⟩ := hs.slice
  obtain ⟨za, zcap, rfl⟩ := hz.slice
  have hz0 : ∀ i, 0 ≤ gtI Z i ∧ gtI Z i ≤ 65535 := by
    intro i
    by_cases h : i < Z.length
    · exact bounds_u16 (hzw i h)
    · simp [gtI, List.getElem?_eq_none (by omega : Z.length ≤ i)]
  have HZ0 := Lib.hid hz0
  unfold maxLen at hzm
  clear hzw hz0
  go_enter Try.func4, Try.ntmps4
  go_wp2_with fail
  refine (sanity_any _).mono ?_
  rintro e w1 ⟨rfl, hb1⟩
  have hs1 := hs.keep (w' := w1) (fun b hb h0 => hb1.block b (hs.lt hb h0))
  go_wp2_with fail
  refine (script_any _ L _ hs1 hm).mono ?_
  rintro e w2 ⟨sv, rfl, hsc, hb2, _⟩
  have hsc' := scr_of_owns hsc rfl
  have hb02 := hb1.trans (hb2.mono hb1.size)
  obtain ⟨sa, scap, rfl⟩ := hsc'.slice
  have hn12 : (scriptOf L).length ≤ 12 := by rw [scriptOf_length]; omega
  go_wp2_with fail
  refine (inv_new (w0 := w) hb02 1 _ _ hsc' (by omega)).mono ?_
  rintro e w3 ⟨pb, own, rfl, hI3, hon, hb3⟩
  have hstart : DrRel w w3 w2.heap.size pb L Z 0 w3 := ⟨own, hI3, Keep.refl _ _⟩
  have ZC := Lib.hid (fun i (hi : i < Z.length) => by
    obtain ⟨b, off, ha, hb, hc⟩ := hz.at i hi
    have h2 : b < w2.heap.size := Nat.lt_of_lt_of_le hb hb02.size
    exact (⟨b, off, ha, h2, (hb3.cell (p := ⟨b, off + i, none⟩) h2).trans ((hb02.cell (p := ⟨b, off + i, none⟩) hb).trans hc)⟩ : ∃ b off, za = some ⟨b, off, none⟩ ∧ b < w2.heap.size ∧ w3.cell? ⟨b, off + i, none⟩ = some (.int .u16 (gtI Z i))))
  have SC := Lib.hid (fun i (hi : i < (scriptOf L).length) => by
    obtain ⟨b, off, ha, hb, h0, h1, h2⟩ := hsc'.at i hi
    exact (⟨b, off, ha, hb, (hb3.cell (p := ⟨b, off + i * 3, none⟩) hb).trans h0, (hb3.cell (p := ⟨b, off + i * 3 + 1, none⟩) hb).trans h1⟩ :
      ∃ b off, sa = some ⟨b, off, none⟩ ∧ b < w2.heap.size ∧ w3.cell? ⟨b, off + i * 3, none⟩ = some (.bool (gtT (scriptOf L) i).lost) ∧ w3.cell? ⟨b, off + i * 3 + 1, none⟩ = some (.int .i64 (gtT (scriptOf L) i).copies)))
  clear hs hz hs1 hsc hsc' hb1 hb2 hb02 hI3 hon hb3
  generalize hB : w2.heap.size = B at *
  clear hB
  generalize hnn : (scriptOf L).length = n at *
  have HNN := Lib.hid hnn
  clear hnn
  go_wp2_with fail
  go_loopg [8, 9] (Z.length + 1) (fun g s8 s9 wr => ∃ k : Nat, s9 = .int .i64 (k : Int) ∧ s8 = .int .i64 ((drS L Z k).wait.length : Int) ∧ Z.length < k + g ∧ k ≤ Z.length ∧ k ≤ 40 ∧ DrRel w w3 B pb L Z k wr)
  case atStart => exact ⟨0, rfl, rfl, by omega, by omega, by omega, hstart⟩
  case round =>
    clear hstart
    obtain ⟨k, rfl, rfl, hg, hkZ, hk40, own, hI, hK⟩ := hrel
    have HI := Lib.hid hI
    have HK := Lib.hid hK
    clear hI hK
    by_cases h1 : k < Z.length ∧ k < 40
    · obtain ⟨h1, h2⟩ := h1
      have h1' : (k : Int) < (Z.length : Int) := by omega
      have h2' : (k : Int) < 40 := by omega
      obtain ⟨b, off, rfl, hb, hc⟩ := ZC.out k h1
      have hc := HK.out.cell hc hb
      obtain ⟨p1, p2, p3, p4, p5⟩ := drS_props L Z k
      have hbd := HZ0.out k
      have P1 := Lib.hid (inv_send HI.out (by rw [p1]; exact scriptOf_small L) (by rw [p2]; omega) (by omega) (gtI Z k) k 0 noText (by omega) (WalkArith.wf_i64 (by omega)) (by decide))
      have HCN := Lib.hid (drS_count L Z k)
      have hcl : (drS L Z k).wait.length ≤ 320 := by omega
      have q1 := hbd.1
      have q2 := hbd.2
      clear p1 p2 p3 p4 p5 hbd
      generalize hcnt : (drS L Z k).wait.length = c at *
      clear hcnt
      go_wp2_with fail
      refine P1.out.mono ?_
      rintro e w4 ⟨rfl, own', hI4, hK4⟩
      have HR4 : Hid (DrRel w w3 B pb L Z (k + 1) w4) := ⟨own', hI4, HK.out.trans hK4⟩
      have HK4 := Lib.hid (HK.out.trans hK4)
      clear hI4 hK4 P1 HI HK hc q1 q2
      by_cases hn : n = 0
      · have HN : Hid ((drS L Z (k + 1)).wait.length = c + 1) := by
          show _ = _
          rw [HCN.out]
          rw [show trouble (scriptOf L) k = ⟨false, 1, 1⟩ by simp [trouble, HNN.out, hn]]
          rfl
        have hn' : (n : Int) ≤ 0 := by omega
        clear hn HCN
        go_wp2_with fail
        go_roundg (Z.length - k)
        case measure => omega
        case rel => exact ⟨k + 1, by go_num, congrArg (Value.int .i64) (by rw [HN.out]; omega), by omega, by omega, by omega, HR4.out⟩
      · have hn' : (0 : Int) < (n : Int) := by omega
        have hj : k % n < n := Nat.mod_lt _ (by omega)
        have hjt : trouble (scriptOf L) k = gtT (scriptOf L) (k % n) := by
          unfold trouble
          rw [HNN.out, if_neg hn]
        rw [hjt] at HCN
        have hrem : (k : Int) % (n : Int) = ((k % n : Nat) : Int) := by omega
        clear hjt hn
        generalize k % n = j at *
        obtain ⟨g', off', rfl, hg', s0, s1⟩ := SC.out j hj
        have s0 := HK4.out.cell s0 hg'
        have s1 := HK4.out.cell s1 hg'
        have hj' : (j : Int) < (n : Int) := by omega
        generalize gtT (scriptOf L) j = t at *
        have hcase : (t.lost = true) ∨ (t.lost = false ∧ t.copies < 1) ∨ (t.lost = false ∧ 1 ≤ t.copies ∧ t.copies < 8) ∨ (t.lost = false ∧ 8 ≤ t.copies) := by
          cases t.lost
          · right
            by_cases a : t.copies < 1
            · exact .inl ⟨rfl, a⟩
            · by_cases b : t.copies < 8
              · exact .inr (.inl ⟨rfl, by omega, b⟩)
              · exact .inr (.inr ⟨rfl, by omega⟩)
          · exact .inl rfl
        rcases hcase with hlo | ⟨hlo, hcp⟩ | ⟨hlo, hcp, hcp2⟩ | ⟨hlo, hcp⟩
        · have HN : Hid ((((drS L Z (k + 1)).wait.length : Nat) : Int) = (c : Int) + 0) := by
            show _ = _
            rw [HCN.out]
            simp only [drCopies, hlo, copiesOf]
            simp
          rw [hlo] at s0
          clear HCN hlo
          go_wp2_with fail
          all_goals
            go_roundg (Z.length - k)
            case measure => omega
            case rel => exact ⟨k + 1, by go_num, congrArg (Value.int .i64) (by have h := HN.out; omega), by omega, by omega, by omega, HR4.out⟩
        · have HN : Hid ((((drS L Z (k + 1)).wait.length : Nat) : Int) = (c : Int) + 1) := by
            show _ = _
            rw [HCN.out]
            simp only [drCopies, hlo, copiesOf]
            simp; omega
          rw [hlo] at s0
          clear HCN hlo
          go_wp2_with fail
          all_goals
            go_roundg (Z.length - k)
            case measure => omega
            case rel => exact ⟨k + 1, by go_num, congrArg (Value.int .i64) (by have h := HN.out; omega), by omega, by omega, by omega, HR4.out⟩
        · have HN : Hid ((((drS L Z (k + 1)).wait.length : Nat) : Int) = (c : Int) + t.copies) := by
            show _ = _
            rw [HCN.out]
            simp only [drCopies, hlo, copiesOf]
            simp; omega
          rw [hlo] at s0
          clear HCN hlo
          go_wp2_with fail
          all_goals
            go_roundg (Z.length - k)
            case measure => omega
            case rel => exact ⟨k + 1, by go_num, congrArg (Value.int .i64) (by have h := HN.out; omega), by omega, by omega, by omega, HR4.out⟩
        · have HN : Hid ((((drS L Z (k + 1)).wait.length : Nat) : Int) = (c : Int) + 8) := by
            show _ = _
            rw [HCN.out]
            simp only [drCopies, hlo, copiesOf]
            simp; omega
          rw [hlo] at s0
          clear HCN hlo
          go_wp2_with fail
          all_goals
            go_roundg (Z.length - k)
            case measure => omega
            case rel => exact ⟨k + 1, by go_num, congrArg (Value.int .i64) (by have h := HN.out; omega), by omega, by omega, by omega, HR4.out⟩
    · have hend : Z.length ≤ k ∨ 40 ≤ k := by omega
      have HEND := Lib.hid hend
      have hin : (Z.length : Int) ≤ (k : Int) ∨ ((k : Int) < (Z.length : Int) ∧ (40 : Int) ≤ (k : Int)) := by omega
      clear h1 hend
      obtain ⟨p1, p2, p3, p4, p5⟩ := drS_props L Z k
      have HW := Lib.hid p3
      have HOK := Lib.hid (drS_ok L Z k)
      clear p1 p2 p3 p4 p5
      generalize drS L Z k = S at *
      have hlen : S.wait.length ≤ 320 := by have := HW.out; omega
      rcases hin with hin | ⟨hin, hin2⟩
      all_goals
        have PW := Lib.hid (inv_waiting HI.out)
        have hbel := HI.out.bel
        have hst : Hid (DrRel2 w w3 B pb Z k S.wait.length (-1) (-1) 0 S wr) := ⟨⟨own, HI.out⟩, HK.out, by omega, HOK.out, dr_start HOK.out (fun i => (HZ0.out i).1)⟩
        clear HI HK HW hbel
        generalize hm0 : S.wait.length = m at *
        clear hm0 HOK
        go_wp2_with fail
        refine PW.out.mono ?_
        rintro e w4 ⟨rfl, rfl⟩
        clear PW
        go_wp2_with fail
        go_loopg [11, 12, 13] (m + 1) (fun g s11 s12 s13 wr => ∃ (j : Nat) (last first : Int) (T : NSt), s13 = .int .i64 (j : Int) ∧ s11 = .int .i64 last ∧ s12 = .int .i64 first ∧ m < j + g ∧ j ≤ m ∧ DrRel2 w w3 B pb Z k m last first j T wr)
        case atStart => exact ⟨0, -1, -1, S, rfl, rfl, rfl, by omega, by omega, hst⟩
        case round =>
          clear hst
          obtain ⟨j, last, first, T, rfl, rfl, rfl, hg2, hjm, hR⟩ := hrel
          obtain ⟨⟨ow, hI⟩, hK, hcount, hok, haft⟩ := hR
          by_cases hj : j < m
          · have hj' : (j : Int) < (m : Int) := by omega
            have hne : T.wait ≠ [] := by
              intro e
              rw [e] at hcount
              simp at hcount
              omega
            have P1 := Lib.hid (inv_next hI (by omega))
            have hleft := left_length hne
            obtain ⟨i, hik, hpf, hps, hpz⟩ := hok _ (pick_mem hne)
            obtain ⟨ha1, ha2⟩ := haft _ (pick_mem hne)
            have HOK2 := Lib.hid hok.left
            have HAF2 := Lib.hid (dr_next hok hne)
            have hmo := msgOf_some hne
            have HMO := Lib.hid hmo
            have HCNT : Hid (j + 1 + T.next.wait.length = m) := by
              show j + 1 + (left T.wait).length = m
              omega
            have HKK := Lib.hid hK
            have hiZ : i < Z.length := by
              have := HEND.out
              omega
            obtain ⟨b, off, rfl, hb, hc⟩ := ZC.out i hiZ
            clear hI hK hcount hok haft hleft hmo
            generalize pick T.wait = p at *
            obtain ⟨pf, pt, ps, pa, pn⟩ := p
            simp only at hpf hps hpz ha1 ha2
            subst hpf
            go_wp2_with fail
            refine P1.out.mono ?_
            rintro e w5 ⟨rfl, ow', hI5, hK5⟩
            rw [HMO.out]
            have hc := HKK.out.cell hc hb
            have hc := hK5.cell hc hb
            have hR2 := fun n => (⟨⟨ow', (hI5.below ((Below.refl w5.heap.size w5).alloc (Nat.le_refl _) (.cells #[.int .i64 (i : Int), .int .i64 pt, .string ps] 31))).below (Below.drewN' (Below.refl _ _) n)⟩,
              (HKK.out.trans hK5).trans (fun q hq => Below.heap_alloc w5 _ _ (hI5.sep q hq).1), HCNT.out, HOK2.out, HAF2.out⟩ : DrRel2 w w3 B pb Z k m pa i (j + 1) T.next ((w5.alloc (.cells #[.int .i64 (i : Int), .int .i64 pt, .string ps] 31)).drewN n))
            have HR2 := Lib.hid hR2
            have hbl := block_lt_of_cell hc
            simp only at hbl
            clear hI5 hK5 hR2 HKK HCNT HOK2 HAF2 P1 HMO
            unfold Par.msg
            have hiZ' : (i : Int) < (Z.length : Int) := by omega
            have hlast : (last < pa) ∨ (pa = last ∧ first ≤ (i : Int)) := by
              by_cases e : pa = last
              · exact .inr ⟨e, ha2 e⟩
              · exact .inl (by omega)
            clear ha1 ha2
            rcases hlast with hl1 | ⟨hl1, hl2⟩
            · have hl3 : (pa == last) = false := beq_eq_false_iff_ne.2 (by omega)
              have q1 := (HZ0.out i).1
              have q2 := (HZ0.out i).2
              go_wp2_with fail
              go_quiet (fail)
              go_wp2_with fail
              go_roundg (m - j)
              case measure => omega
              case rel => exact ⟨j + 1, pa, i, T.next, by go_num, rfl, rfl, by omega, by omega, HR2.out _⟩
            · subst hl1
              have q1 := (HZ0.out i).1
              have q2 := (HZ0.out i).2
              go_wp2_with fail
              go_quiet (fail)
              go_wp2_with fail
              go_roundg (m - j)
              case measure => omega
              case rel => exact ⟨j + 1, pa, i, T.next, by go_num, rfl, rfl, by omega, by omega, HR2.out _⟩
          · have hj' : (m : Int) ≤ (j : Int) := by omega
            have hlen0 : T.wait.length = 0 := by omega
            have hnil : T.wait = [] := List.eq_nil_of_length_eq_zero hlen0
            have P1 := Lib.hid (inv_next hI (by omega))
            have HMO := Lib.hid (show msgOf T.wait = noMsg by rw [hnil]; rfl)
            have HL0 := Lib.hid (show T.next.wait.length = 0 by show (left T.wait).length = 0; rw [hnil]; rfl)
            clear hI hK hcount hok haft hnil hlen0
            go_wp2_with fail
            refine P1.out.mono ?_
            rintro e w5 ⟨rfl, ow', hI5, hK5⟩
            have HI5 := Lib.hid (hI5.below ((Below.refl w5.heap.size w5).alloc (Nat.le_refl _) (.cells #[.int .i64 0, .int .i64 0, .string ⟨#[]⟩] 31)))
            rw [HMO.out]
            clear hI5 hK5 HMO P1
            unfold noMsg
            go_wp2_with fail
            refine (inv_waiting HI5.out).mono ?_
            rintro e w6 ⟨rfl, rfl⟩
            rw [HL0.out]
            go_wp2_with fail
            go_ret
            exact ⟨rfl, HI5.out.bel⟩
end Go.Proofs.Ytcadockapeancaa
