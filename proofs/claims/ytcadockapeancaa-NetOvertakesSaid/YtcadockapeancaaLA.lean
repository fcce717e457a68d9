/- The walk of NetOvertakes: it returns true. -/
import Derived.Test.YtcadockapeancaaWG
namespace Go.Proofs.Ytcadockapeancaa
open Go.RowKit

def ovS0 (d0 d1 : Int) : NSt := ⟨1, [⟨false, 0, d0⟩, ⟨false, 0, d1⟩], [], 0, []⟩
def ovS2 (a b d0 d1 : Int) : NSt := ((ovS0 d0 d1).send a 1 0 noText).send b 2 0 noText
theorem ov_wait (a b d0 d1 : Int) (h0 : 0 ≤ d0) (h1 : 0 ≤ d1) : (ovS2 a b d0 d1).wait = [⟨1, 0, noText, a + d0, 0⟩, ⟨2, 0, noText, b + d1, 1⟩] := by
  have e0 : max d0 0 = d0 := by omega
  have e1 : max d1 0 = d1 := by omega
  have e2 : (min (max (0 : Int) 1) 8).toNat = 1 := by decide
  simp [ovS2, ovS0, NSt.send, delivers, trouble, gtT, nodeB, parcelsOf, copiesOf, groupOf, List.range_succ, e0, e1, e2]
theorem ov_first (a b d0 d1 : Int) (h0 : 0 ≤ d0) (h1 : 0 ≤ d1) : msgOf (ovS2 a b d0 d1).wait = Par.msg (if b + d1 < a + d0 then ⟨2, 0, noText, b + d1, 1⟩ else ⟨1, 0, noText, a + d0, 0⟩) := by
  rw [ov_wait a b d0 d1 h0 h1, msgOf_some (by simp)]
  by_cases h : b + d1 < a + d0
  · rw [if_pos h]
    simp [pick, best, bestTo, gt, Par.lt, h, Int.ne_of_lt h]
  · rw [if_neg h]
    by_cases e : b + d1 = a + d0
    · simp [pick, best, bestTo, gt, Par.lt, e]
    · simp [pick, best, bestTo, gt, Par.lt, h, e]
theorem ov_script (w : World) (d0 d1 : Int) : Scr (w.alloc (.cells #[.bool false, .int .i64 0, .int .i64 d0, .bool false, .int .i64 0, .int .i64 d1] 44)) (.slice (some ⟨w.heap.size, 0, none⟩) 2 2) (ovS0 d0 d1).script := by
  refine .inr ⟨w.heap.size, 0, 2, rfl, fun k hk => ?_, by simp [ovS0]⟩
  have hn := heap_alloc_new w (.cells #[.bool false, .int .i64 0, .int .i64 d0, .bool false, .int .i64 0, .int .i64 d1] 44)
  simp only [cell_of_row _ _ _ _ 44 (0, 0) hn]
  have : k = 0 ∨ k = 1 := by simp [ovS0] at hk; omega
  rcases this with rfl | rfl <;> exact ⟨rfl, rfl, rfl⟩
theorem ov_small (d0 d1 : Int) (h0 : d0 ≤ 65535) (h1 : d1 ≤ 65535) : SmallScript (ovS0 d0 d1).script := by
  refine ⟨by simp [ovS0], fun k hk => ?_⟩
  have : k = 0 ∨ k = 1 := by simp [ovS0] at hk; omega
  rcases this with rfl | rfl <;> simp [ovS0, gtT] <;> omega

set_option maxHeartbeats 2000000 in
set_option maxRecDepth 100000 in
theorem overtakes_any (a b d0 d1 : Int) (w : World) (ha : 0 ≤ a ∧ a ≤ 65535) (hb : 0 ≤ b ∧ b ≤ 65535) (h0 : 0 ≤ d0 ∧ d0 ≤ 65535) (h1 : 0 ≤ d1 ∧ d1 ≤ 65535) :
    Calls Try.prog 7 #[.int .u16 a, .int .u16 b, .agg #[.int .u16 d0, .int .u16 d1]] w fun e w' => e = .returned (.bool true) ∧ Below w.heap.size w w' := by
  obtain ⟨a1, a2⟩ := ha
  obtain ⟨b1, b2⟩ := hb
  obtain ⟨c1, c2⟩ := h0
  obtain ⟨d1', d2'⟩ := h1
  have hF := ov_first a b d0 d1 c1 d1'
  have HF := Lib.hid hF
  clear hF
  have hsm := ov_small d0 d1 c2 d2'
  have HSM := Lib.hid hsm
  clear hsm
  go_enter Try.func7, Try.ntmps7
  go_wp2_with fail
  refine (sanity_any _).mono ?_
  rintro e w1 ⟨rfl, hb1⟩
  have hbl := hb1.block w.heap.size (by simp)
  have hk1 : w1.cell? ⟨w.heap.size, 0, none⟩ = some (.int .u16 d0) ∧ w1.cell? ⟨w.heap.size, 1, none⟩ = some (.int .u16 d1) := by
    have hn := heap_alloc_new w (.cells #[.int .u16 d0, .int .u16 d1] 49)
    rw [World.cell?_of_block (a := ⟨w.heap.size, 0, none⟩) hbl, World.cell?_of_block (a := ⟨w.heap.size, 1, none⟩) hbl, cell_of_row _ _ _ _ 49 (0, 0) hn, cell_of_row _ _ _ _ 49 (0, 0) hn]
    exact ⟨rfl, rfl⟩
  obtain ⟨k0, k1⟩ := hk1
  have hBl : w.heap.size < w1.heap.size := by have := hb1.size; simp at this; omega
  have hBl1 : w.heap.size < w1.heap.size + 1 := by omega
  have hbw : Below w.heap.size w w1 := ((Below.refl _ _).alloc (Nat.le_refl _) _).trans (hb1.mono (by simp))
  have HB := Lib.hid hbw
  clear hbl hb1 hbw
  go_wp2_with fail
  refine (inv_new (w0 := w) (HB.out.alloc (Nat.le_of_lt hBl) (.cells #[.bool false, .int .i64 0, .int .i64 d0, .bool false, .int .i64 0, .int .i64 d1] 44)) 1 _ _ (ov_script w1 d0 d1) (by simp [ovS0])).mono ?_
  rintro e w2 ⟨pb, own, rfl, hI, hown, hb2⟩
  have hI0 : Inv w w2 pb own (ovS0 d0 d1) (fun k => k = w.heap.size) := hI.keepMono (fun k hk => hI.sep k (by subst hk; simp; omega))
  have k0 := (hb2.cell (p := ⟨w.heap.size, 0, none⟩) (by simp; omega)).trans ((World.cell?_of_block (w := w1) (Below.heap_alloc w1 _ _ hBl)).trans k0)
  have k1 := (hb2.cell (p := ⟨w.heap.size, 1, none⟩) (by simp; omega)).trans ((World.cell?_of_block (w := w1) (Below.heap_alloc w1 _ _ hBl)).trans k1)
  have HI0 := Lib.hid hI0
  clear hI hown hb2 hI0 HB hBl1
  go_wp2_with fail
  refine (inv_send HI0.out HSM.out (by simp [ovS0]) (by simp [ovS0]) a 1 0 noText (by omega) (by decide) (by decide)).mono ?_
  rintro e w3 ⟨rfl, ow3, hI3, hK3⟩
  have HI3 := Lib.hid hI3
  have k0 := hK3.cell k0 rfl
  have k1 := hK3.cell k1 rfl
  clear hI3 hK3 HI0
  go_wp2_with fail
  refine (inv_send HI3.out HSM.out (by simp [ovS0, NSt.send]) (by have := send_length (ovS0 d0 d1) a 1 0 noText; simp [ovS0] at this ⊢; omega) b 2 0 noText (by omega) (by decide) (by decide)).mono ?_
  rintro e w4 ⟨rfl, ow4, hI4, hK4⟩
  have hI4' : Inv w w4 pb ow4 (ovS2 a b d0 d1) (fun k => k = w.heap.size) := hI4
  have HI4 := Lib.hid hI4'
  have k0 := hK4.cell k0 rfl
  have k1 := hK4.cell k1 rfl
  clear hI4 hI4' hK4 HI3
  go_wp2_with fail
  refine (inv_next HI4.out (by rw [ov_wait a b d0 d1 c1 d1']; simp)).mono ?_
  rintro e w5 ⟨rfl, ow5, hI5, hK5⟩
  have HI5 := Lib.hid hI5.bel
  have k0 := hK5.cell k0 rfl
  have k1 := hK5.cell k1 rfl
  have hl5 := block_lt_of_cell k0
  simp only at hl5
  clear hI5 hK5 HI4
  rw [HF.out]
  clear HF
  by_cases h : b + d1 < a + d0
  · rw [if_pos h]
    have hend := fun n => HI5.out.trans ((((Below.refl w.heap.size w5).alloc (Nat.le_of_lt hl5) (.cells #[.int .i64 2, .int .i64 0, .string noText] 31))).drewN' n)
    have HEND := Lib.hid hend; clear hend
    unfold Par.msg
    go_wp2_with fail
    go_quiet (fail)
    go_wp2_with fail
    go_ret
    exact ⟨rfl, HEND.out _⟩
  · rw [if_neg h]
    have hend := fun n => HI5.out.trans ((((Below.refl w.heap.size w5).alloc (Nat.le_of_lt hl5) (.cells #[.int .i64 1, .int .i64 0, .string noText] 31))).drewN' n)
    have HEND := Lib.hid hend; clear hend
    unfold Par.msg
    go_wp2_with fail
    go_quiet (fail)
    go_wp2_with fail
    all_goals
      go_ret
      exact ⟨rfl, HEND.out _⟩
end Go.Proofs.Ytcadockapeancaa
