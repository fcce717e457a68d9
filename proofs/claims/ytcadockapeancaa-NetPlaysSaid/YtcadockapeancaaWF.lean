/- The walk of sanity: the chapter's examples hold. -/
import Derived.Test.YtcadockapeancaaWE
namespace Go.Proofs.Ytcadockapeancaa
open Go.RowKit

def sanScript : List Tr := [⟨false, 0, 5⟩, ⟨true, 0, 0⟩, ⟨false, 2, 0⟩]
def sanTime (k : Nat) : Int := ([10, 11, 12, 12] : List Int).getD k 0
abbrev noText : ByteArray := ⟨#[]⟩
def sanS : Nat → NSt
  | 0 => ⟨2, sanScript, [], 0, []⟩
  | k + 1 => (sanS k).send (sanTime k) (k : Int) 1 noText
def sanN : Nat → NSt
  | 0 => sanS 4
  | k + 1 => (sanN k).next
def wantF (k : Nat) : Int := ([2, 2, 0, 3] : List Int).getD k 0
def wantA (k : Nat) : Int := ([12, 13, 15, 17] : List Int).getD k 0
def sanA : NSt := (sanN 4).next.send 0 0 2 noText
def sanB : NSt := ({ sanA with groups := [1, 2] } : NSt).send 0 0 1 noText
def sanC : NSt := sanB.send 0 7 1 noText
theorem san_wait4 : (sanS 4).wait = [⟨0, 1, noText, 15, 0⟩, ⟨2, 1, noText, 12, 2⟩, ⟨2, 1, noText, 13, 2⟩, ⟨3, 1, noText, 17, 3⟩] := by rfl
theorem san_len4 : (sanS 4).wait.length = 4 := by rfl
theorem san_pick0 : msgOf (sanN 0).wait = Par.msg ⟨2, 1, noText, 12, 2⟩ := by rfl
theorem san_pick1 : msgOf (sanN 1).wait = Par.msg ⟨2, 1, noText, 13, 2⟩ := by rfl
theorem san_pick2 : msgOf (sanN 2).wait = Par.msg ⟨0, 1, noText, 15, 0⟩ := by rfl
theorem san_pick3 : msgOf (sanN 3).wait = Par.msg ⟨3, 1, noText, 17, 3⟩ := by rfl
theorem san_empty : (sanN 4).wait = [] := by rfl
theorem san_A : sanA.wait.length = 0 := by rfl
theorem san_B : sanB.wait.length = 0 := by rfl
theorem san_C : sanC.wait.length = 1 := by rfl
theorem _root_.Go.RowKit.Below.drewN' {B : Nat} {a w : World} (h : Below B a w) (n : Nat) : Below B a (w.drewN n) := ⟨h.os, h.tape, h.output, h.size, h.block⟩
theorem san_props (k : Nat) (h : k ≤ 4) : (sanS k).script = sanScript ∧ (sanS k).sent = k ∧ (sanS k).wait.length ≤ 4 := by
  have : k = 0 ∨ k = 1 ∨ k = 2 ∨ k = 3 ∨ k = 4 := by omega
  rcases this with rfl | rfl | rfl | rfl | rfl <;> exact ⟨rfl, rfl, by decide⟩
theorem san_nprops (k : Nat) (h : k ≤ 4) : (sanN k).script = sanScript ∧ (sanN k).sent = 4 ∧ (sanN k).wait.length ≤ 4 := by
  have : k = 0 ∨ k = 1 ∨ k = 2 ∨ k = 3 ∨ k = 4 := by omega
  rcases this with rfl | rfl | rfl | rfl | rfl <;> exact ⟨rfl, rfl, by decide⟩
theorem san_npick (k : Nat) (h : k < 4) : ∃ n, msgOf (sanN k).wait = Par.msg ⟨wantF k, 1, noText, wantA k, n⟩ := by
  have : k = 0 ∨ k = 1 ∨ k = 2 ∨ k = 3 := by omega
  rcases this with rfl | rfl | rfl | rfl
  · exact ⟨_, san_pick0⟩
  · exact ⟨_, san_pick1⟩
  · exact ⟨_, san_pick2⟩
  · exact ⟨_, san_pick3⟩
theorem san_small : SmallScript sanScript := by
  refine ⟨by decide, fun k hk => ?_⟩
  have : k = 0 ∨ k = 1 ∨ k = 2 := by simp [sanScript] at hk; omega
  rcases this with rfl | rfl | rfl <;> decide
theorem san_script (w : World) : Scr (w.alloc (.cells #[.bool false, .int .i64 0, .int .i64 5, .bool true, .int .i64 0, .int .i64 0, .bool false, .int .i64 2, .int .i64 0] 44)) (.slice (some ⟨w.heap.size, 0, none⟩) 3 3) sanScript := by
  refine .inr ⟨w.heap.size, 0, 3, rfl, fun k hk => ?_, by decide⟩
  have hn := heap_alloc_new w (.cells #[.bool false, .int .i64 0, .int .i64 5, .bool true, .int .i64 0, .int .i64 0, .bool false, .int .i64 2, .int .i64 0] 44)
  simp only [cell_of_row _ _ _ _ 44 (0, 0) hn]
  have : k = 0 ∨ k = 1 ∨ k = 2 := by simp [sanScript] at hk; omega
  rcases this with rfl | rfl | rfl <;> exact ⟨rfl, rfl, rfl⟩

set_option maxHeartbeats 2000000 in
set_option maxRecDepth 100000 in
theorem sanity_any (w : World) : Calls Try.prog 11 #[] w fun e w' => e = .returned (.bool true) ∧ Below w.heap.size w w' := by
  go_enter Try.func11, Try.ntmps11
  go_wp2_with fail
  refine (inv_new (w0 := w) ((Below.refl _ _).alloc (Nat.le_refl _) _) 2 _ sanScript (san_script w) (by decide)).mono ?_
  rintro e w1 ⟨pb, own, rfl, hI, hown, hb1⟩
  have hown1 : ∀ k, own k → k < w1.heap.size := fun k hk => hI.lt hk
  have hI2 : Inv w (w1.alloc (.cells #[.int .i64 10, .int .i64 11, .int .i64 12, .int .i64 12] 3)) pb own (sanS 0) (fun b => b = w1.heap.size) :=
    (hI.below ((Below.refl _ _).alloc (Nat.le_refl _) _)).keepMono (fun k hk => ⟨by subst hk; simp, fun e => by have := hown1 k e; omega⟩)
  have hT : ∀ k, k < 4 → (w1.alloc (.cells #[.int .i64 10, .int .i64 11, .int .i64 12, .int .i64 12] 3)).cell? ⟨w1.heap.size, k, none⟩ = some (.int .i64 (sanTime k)) := by
    intro k hk
    have hn := heap_alloc_new w1 (.cells #[.int .i64 10, .int .i64 11, .int .i64 12, .int .i64 12] 3)
    rw [cell_of_row _ _ _ _ 3 (0, 0) hn]
    have : k = 0 ∨ k = 1 ∨ k = 2 ∨ k = 3 := by omega
    rcases this with rfl | rfl | rfl | rfl <;> rfl
  have HT := Lib.hid hT
  clear hT hI hown hb1 hown1
  go_wp2_with fail
  generalize hW2 : (w1.alloc (.cells #[.int .i64 10, .int .i64 11, .int .i64 12, .int .i64 12] 3)) = W2 at *
  clear hW2
  generalize w1.heap.size = Bt at *
  go_loopg [3] 5 (fun g sk wr => ∃ (k : Nat) (own : Nat → Prop), sk = .int .i64 (k : Int) ∧ 4 < k + g ∧ k ≤ 4 ∧ Inv w wr pb own (sanS k) (fun b => b = Bt) ∧ Keep (fun b => b = Bt) W2 wr)
  case atStart => exact ⟨0, own, rfl, by omega, by omega, hI2, Keep.refl _ _⟩
  case round =>
    clear hI2
    obtain ⟨k, ow, rfl, hg, hk4, hI, hK⟩ := hrel
    by_cases hk : k < 4
    · have hk' : (k : Int) < 4 := by omega
      have hc := hK.cell (HT.out k hk) rfl
      have ht : -1000000000 ≤ sanTime k ∧ sanTime k ≤ 1000000000 := by
        have : k = 0 ∨ k = 1 ∨ k = 2 ∨ k = 3 := by omega
        rcases this with rfl | rfl | rfl | rfl <;> decide
      obtain ⟨p1, p2, p3⟩ := san_props k hk4
      have HC := Lib.hid (inv_send hI (by rw [p1]; exact san_small) (by rw [p2]; omega) (by omega) (sanTime k) k 1 noText ht (WalkArith.wf_i64 (by omega)) (by decide))
      have HKK := Lib.hid hK
      clear hI p1 p2 p3 ht hK
      go_wp2_with fail
      refine HC.out.mono ?_
      rintro e w3 ⟨rfl, ow', hI3, hK3⟩
      have HI3 := Lib.hid hI3
      have HK3 := Lib.hid (HKK.out.trans hK3)
      clear hI3 hK3 HC HKK hc
      go_wp2_with fail
      go_roundg (4 - k)
      case measure => omega
      case rel => exact ⟨k + 1, ow', by go_num, by omega, by omega, HI3.out, HK3.out⟩
    · obtain rfl : k = 4 := by omega
      clear hk hg hk4 hK HT
      have hlo : ∀ k, ow k → k < wr.heap.size := fun k hk => hI.lt hk
      have hI2 : Inv w (wr.alloc (.cells #[.int .i64 2, .int .i64 12, .int .i64 2, .int .i64 13, .int .i64 0, .int .i64 15, .int .i64 3, .int .i64 17] 63)) pb ow (sanN 0) (fun b => b = wr.heap.size) :=
        (hI.below ((Below.refl _ _).alloc (Nat.le_refl _) _)).keepMono (fun k hk => ⟨by subst hk; simp, fun e => by have := hlo k e; omega⟩)
      have hT : ∀ k, k < 4 → (wr.alloc (.cells #[.int .i64 2, .int .i64 12, .int .i64 2, .int .i64 13, .int .i64 0, .int .i64 15, .int .i64 3, .int .i64 17] 63)).cell? ⟨wr.heap.size, k * 2, none⟩ = some (.int .i64 (wantF k)) ∧
          (wr.alloc (.cells #[.int .i64 2, .int .i64 12, .int .i64 2, .int .i64 13, .int .i64 0, .int .i64 15, .int .i64 3, .int .i64 17] 63)).cell? ⟨wr.heap.size, k * 2 + 1, none⟩ = some (.int .i64 (wantA k)) := by
        intro k hk
        have hn := heap_alloc_new wr (.cells #[.int .i64 2, .int .i64 12, .int .i64 2, .int .i64 13, .int .i64 0, .int .i64 15, .int .i64 3, .int .i64 17] 63)
        rw [cell_of_row _ _ _ _ 63 (0, 0) hn, cell_of_row _ _ _ _ 63 (0, 0) hn]
        have : k = 0 ∨ k = 1 ∨ k = 2 ∨ k = 3 := by omega
        rcases this with rfl | rfl | rfl | rfl <;> exact ⟨rfl, rfl⟩
      have HT := Lib.hid hT
      clear hT hI hlo
      go_wp2_with fail
      generalize hW3 : (wr.alloc (.cells #[.int .i64 2, .int .i64 12, .int .i64 2, .int .i64 13, .int .i64 0, .int .i64 15, .int .i64 3, .int .i64 17] 63)) = W3 at *
      clear hW3
      generalize wr.heap.size = Bw at *
      have hwt := inv_waiting hI2
      have HW := Lib.hid hwt; clear hwt
      refine HW.out.mono ?_
      rintro e w4 ⟨rfl, rfl⟩
      have e4 : (((sanN 0).wait.length : Nat) : Int) = 4 := by rfl
      rw [e4]
      clear e4 HW
      go_wp2_with fail
      go_outline
      go_loopg [6, 5] 5 (fun g sk s5 wr => ∃ (k : Nat) (own : Nat → Prop), sk = .int .i64 (k : Int) ∧ s5 = .bool true ∧ 4 < k + g ∧ k ≤ 4 ∧ Inv w wr pb own (sanN k) (fun b => b = Bw) ∧ Keep (fun b => b = Bw) W3 wr)
      case atStart => exact ⟨0, ow, rfl, rfl, by omega, by omega, hI2, Keep.refl _ _⟩
      case round =>
        clear hI2
        obtain ⟨k, ow, rfl, rfl, hg, hk4, hI, hK⟩ := hrel
        by_cases hk : k < 4
        · have hk' : (k : Int) < 4 := by omega
          obtain ⟨hc0, hc1⟩ := HT.out k hk
          obtain ⟨n, hn⟩ := san_npick k hk
          obtain ⟨p1, p2, p3⟩ := san_nprops k hk4
          have HC := Lib.hid (inv_next hI (by omega))
          have HN := Lib.hid hn
          clear hn p1 p2 p3 hI
          go_wp2_with fail
          refine HC.out.mono ?_
          rintro e w4 ⟨rfl, ow', hI3, hK3⟩
          have HI3 := Lib.hid hI3
          have hKK := hK.trans hK3
          have d0 := hKK.cell hc0 rfl
          have d1 := hKK.cell hc1 rfl
          have HKK := Lib.hid hKK
          clear hI3 hK3 hK hKK HC hc0 hc1
          rw [HN.out]
          have hlt4 := block_lt_of_cell d0
          simp only at hlt4
          unfold Par.msg
          have hi5 := fun n => HI3.out.below ((((Below.refl w4.heap.size w4).alloc (Nat.le_refl _) (.cells #[.int .i64 (wantF k), .int .i64 1, .string noText] 31)).drewN' n))
          have HI5 := Lib.hid hi5
          have hk5 : ∀ n, Keep (fun b => b = Bw) W3 ((w4.alloc (.cells #[.int .i64 (wantF k), .int .i64 1, .string noText] 31)).drewN n) := fun n => HKK.out.trans (fun b hb => by subst hb; exact Below.heap_alloc w4 _ _ hlt4)
          have HK5 := Lib.hid hk5
          clear hi5 hk5 HI3 HKK HN
          go_wp2_with fail
          go_quiet (fail)
          clear d0 d1
          go_wp2_with fail
          go_roundg (4 - k)
          case measure => omega
          case rel => exact ⟨k + 1, ow', by go_num, rfl, by omega, by omega, HI5.out _, HK5.out _⟩
        · obtain rfl : k = 4 := by omega
          clear hk hg hk4 hK HT
          have hw5 := (san_nprops 4 (by omega)).2.2
          have HC := Lib.hid (inv_next hI (by omega))
          clear hI hw5
          go_wp2_with fail
          refine HC.out.mono ?_
          rintro e w4 ⟨rfl, ow', hI3, hK3⟩
          have hI4 := hI3.keepMono (keep' := fun _ => False) (fun _ e => e.elim)
          have HI4 := Lib.hid (hI4.below ((Below.refl w4.heap.size w4).alloc (Nat.le_refl _) (.cells #[.int .i64 0, .int .i64 0, .string noText] 31)))
          rw [san_empty]
          clear HC hI3 hK3 hI4
          unfold msgOf
          rw [if_pos rfl]
          unfold noMsg
          go_wp2_with fail
          have P1 := Lib.hid (inv_send HI4.out (by exact san_small) (by decide) (by decide) 0 0 2 noText (by decide) (by decide) (by decide))
          refine P1.out.mono ?_
          rintro e w5 ⟨rfl, ow5, hI5, _⟩
          change Inv w w5 pb ow5 sanA (fun _ => False) at hI5
          clear HI4 P1
          have HI5 := Lib.hid hI5; clear hI5
          go_wp2_with fail
          refine (inv_waiting HI5.out).mono ?_
          rintro e w6 ⟨rfl, rfl⟩
          rw [san_A]
          go_wp2_with fail
          have hlt5 : ∀ k, ow5 k → k < w5.heap.size := fun k hk => HI5.out.lt hk
          have hi12 : Ints (w5.alloc (.cells #[.int .i64 1, .int .i64 2] 3)) (.slice (some ⟨w5.heap.size, 0, none⟩) 2 2) [1, 2] := by
            refine .inr ⟨w5.heap.size, 0, 2, rfl, fun k hk => ?_, by decide⟩
            have hn := heap_alloc_new w5 (.cells #[.int .i64 1, .int .i64 2] 3)
            rw [cell_of_row _ _ _ _ 3 (0, 0) hn]
            have : k = 0 ∨ k = 1 := by simp at hk; omega
            rcases this with rfl | rfl <;> rfl
          have hwf12 : wfI [1, 2] := by
            intro k hk
            have : k = 0 ∨ k = 1 := by simp at hk; omega
            rcases this with rfl | rfl <;> decide
          have hpne : ∀ b, (Value.slice (some ⟨w5.heap.size, 0, none⟩) 2 2).ownBlock = some b → b ≠ pb := by
            rintro b hb rfl
            have := hlt5 b HI5.out.own
            simp [Value.ownBlock] at hb
            omega
          have P2 := Lib.hid (inv_part (HI5.out.below ((Below.refl w5.heap.size w5).alloc (Nat.le_refl _) (.cells #[.int .i64 1, .int .i64 2] 3))) _ [1, 2] hi12 hwf12 (by unfold maxLen; decide) hpne)
          clear hi12 hwf12 hpne HI5 hlt5
          refine P2.out.mono ?_
          rintro e w7 ⟨rfl, ow7, hI7, _⟩
          have HI7 := Lib.hid hI7
          clear hI7 P2
          go_wp2_with fail
          have P3 := Lib.hid (inv_send HI7.out (by exact san_small) (by decide) (by decide) 0 0 1 noText (by decide) (by decide) (by decide))
          refine P3.out.mono ?_
          rintro e w8 ⟨rfl, ow8, hI8, _⟩
          change Inv w w8 pb ow8 sanB (fun _ => False) at hI8
          have HI8 := Lib.hid hI8; clear hI8 HI7 P3
          go_wp2_with fail
          refine (inv_waiting HI8.out).mono ?_
          rintro e w9 ⟨rfl, rfl⟩
          rw [san_B]
          go_wp2_with fail
          have P4 := Lib.hid (inv_send HI8.out (by exact san_small) (by decide) (by decide) 0 7 1 noText (by decide) (by decide) (by decide))
          refine P4.out.mono ?_
          rintro e w10 ⟨rfl, ow10, hI10, _⟩
          change Inv w w10 pb ow10 sanC (fun _ => False) at hI10
          have HI10 := Lib.hid hI10; clear hI10 HI8 P4
          go_wp2_with fail
          refine (inv_waiting HI10.out).mono ?_
          rintro e w11 ⟨rfl, rfl⟩
          rw [san_C]
          go_wp2_with fail
          go_ret
          exact ⟨rfl, HI10.out.bel⟩
end Go.Proofs.Ytcadockapeancaa
