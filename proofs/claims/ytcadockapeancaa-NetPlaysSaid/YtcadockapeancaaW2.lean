/- The walk of the heap's up. -/
import Derived.Test.YtcadockapeancaaW1
import Derived.Test.YtcadockapeancaaM
import Derived.Deep.LoopGhost
namespace Go.Proofs.Ytcadockapeancaa
open Go.RowKit

theorem less_int (b n cap : Nat) (xs : List Par) (i j : Int) (w : World) (hr : Row w b cap xs) (hn : n = xs.length) (i0 : 0 ≤ i) (hi : i < n) (j0 : 0 ≤ j) (hj : j < n) :
    Calls Try.prog 49 #[.slice (some ⟨b, 0, none⟩) n cap, .int .i64 i, .int .i64 j] w fun e w' => e = .returned (.bool ((gt xs i.toNat).lt (gt xs j.toNat))) ∧ SomeDrew w w' := by
  obtain ⟨i, rfl⟩ := Int.eq_ofNat_of_zero_le i0
  obtain ⟨j, rfl⟩ := Int.eq_ofNat_of_zero_le j0
  exact less_row b n cap xs i j w hr hn (by omega) (by omega)
theorem swap_int (b n cap : Nat) (xs : List Par) (i j : Int) (w : World) (hr : Row w b cap xs) (hn : n = xs.length) (i0 : 0 ≤ i) (hi : i < n) (j0 : 0 ≤ j) (hj : j < n) :
    Calls Try.prog 50 #[.slice (some ⟨b, 0, none⟩) n cap, .int .i64 i, .int .i64 j] w fun e w' => e = .returned (.tuple #[]) ∧ Row w' b cap (sw xs i.toNat j.toNat) ∧ Fr (fun k => k = b) w w' := by
  obtain ⟨i, rfl⟩ := Int.eq_ofNat_of_zero_le i0
  obtain ⟨j, rfl⟩ := Int.eq_ofNat_of_zero_le j0
  exact swap_row b n cap xs i j w hr hn (by omega) (by omega)
theorem SomeDrew.fr {w w' : World} (h : SomeDrew w w') (own : Nat → Prop) : Fr own w w' := by
  obtain ⟨q, rfl⟩ := h
  exact (Fr.refl own w).drewN q
theorem SomeDrew.heap {w w' : World} (h : SomeDrew w w') : w'.heap = w.heap := by
  obtain ⟨q, rfl⟩ := h
  rfl
theorem Row.drew {w w' : World} {b cap : Nat} {xs : List Par} (h : Row w b cap xs) (hd : SomeDrew w w') : Row w' b cap xs := h.keep (by rw [hd.heap])

def UpRel (b cap n : Nat) (xs : List Par) (w : World) (j : Nat) (wr : World) : Prop :=
  ∃ ys : List Par, ys.length = n ∧ ys.Perm xs ∧ HeapUp ys j ∧ Row wr b cap ys ∧ Fr (fun k => k = b) w wr

theorem UpRel.step {b cap n : Nat} {xs : List Par} {w : World} {j i : Nat} {w1 w2 w3 : World} {ys : List Par} (h1 : ys.length = n) (h2 : ys.Perm xs) (h3 : HeapUp ys j) (hi : i = (j - 1) / 2) (h0 : 0 < j) (hj : j < n)
    (hl : (gt ys j).lt (gt ys i) = true) (hf : Fr (fun k => k = b) w w1) (hd : SomeDrew w1 w2) (hr : Row w3 b cap (sw ys i j)) (hf' : Fr (fun k => k = b) w2 w3) : UpRel b cap n xs w i w3 := by
  subst hi
  exact ⟨_, by simp [h1], (sw_perm (by omega) (by omega)).trans h2, up_step h3 h0 (by omega) hl, hr, (hf.trans' (hd.fr _)).trans' hf'⟩

set_option maxHeartbeats 1000000 in
theorem up_row (pb b n cap : Nat) (xs : List Par) (j : Nat) (w : World) (hc : w.cell? ⟨pb, 2, none⟩ = some (.slice (some ⟨b, 0, none⟩) n cap)) (hpb : pb ≠ b) (hr : Row w b cap xs) (hn : n = xs.length) (hj : j < n) (hu : HeapUp xs j) :
    Calls Try.prog 30 #[.iface 84 (.pointer (some ⟨pb, 2, none⟩)), .int .i64 j] w fun e w' => e = .returned (.tuple #[]) ∧ (∃ ys : List Par, ys.length = n ∧ ys.Perm xs ∧ Heap ys ∧ Row w' b cap ys ∧ Fr (fun k => k = b) w w') := by
  have hm : n ≤ maxLen := by rw [hn]; exact Nat.le_trans hr.fits hr.max
  unfold maxLen at hm
  have hstart : UpRel b cap n xs w j w := ⟨xs, hn.symm, .refl _, hu, hr, .refl _ _⟩
  clear hr hu hn
  go_enter Try.func30, Try.ntmps30
  go_wp2_with fail
  go_loopg [1] (j + 1) (fun g sj wr => ∃ i : Nat, sj = .int .i64 i ∧ i < n ∧ i < g ∧ UpRel b cap n xs w i wr)
  case atStart => exact ⟨j, rfl, hj, by omega, hstart⟩
  case round =>
    clear hstart hj
    obtain ⟨i, rfl, hi, hg, ys, hys, hp, hu, hr, hf⟩ := hrel
    have hcr := hf.cell hc hpb
    have HY := Lib.hid hys
    clear hys
    have ml := method_Less pb wr _ hcr
    by_cases h0 : i = 0
    · subst h0
      go_wp2_with fail
      go_end0
      exact ⟨rfl, ys, HY.out, hp, up_stop hu (.inl rfl), hr, hf⟩
    · have h0 : 0 < i := by omega
      have hne : (((i : Int) - 1) / 2 == (i : Int)) = false := by simp; omega
      go_wp2_with fail
      refine (less_int b n cap ys _ _ _ hr HY.out.symm (by omega) (by omega) (by omega) (by omega)).mono ?_
      rintro e w2 ⟨rfl, hd⟩
      have e0 : (((i : Int) - 1) / 2).toNat = (i - 1) / 2 := by omega
      rw [e0, Int.toNat_natCast]
      have hc2 := (hd.fr (fun k => k = b)).cell hcr hpb
      have msw := method_Swap pb w2 _ hc2
      have hr2 := hr.drew hd
      clear hcr ml
      generalize e1 : (gt ys i).lt (gt ys ((i - 1) / 2)) = l
      have H1 := Lib.hid e1; clear e1
      cases l
      · go_wp2_with fail
        go_end0
        have hle : (gt ys ((i - 1) / 2)).le (gt ys i) := H1.out
        exact ⟨rfl, ys, HY.out, hp, up_stop hu (.inr hle), hr2, hf.trans' (hd.fr _)⟩
      · go_wp2_with fail
        refine (swap_int b n cap ys _ _ _ hr2 HY.out.symm (by omega) (by omega) (by omega) (by omega)).mono ?_
        rintro e w3 ⟨rfl, hr3, hf3⟩
        rw [e0, Int.toNat_natCast] at hr3
        have e2 : ((i : Int) - 1) / 2 = ((i - 1) / 2 : Nat) := by omega
        have HS := Lib.hid (UpRel.step HY.out hp hu rfl h0 hi H1.out hf hd hr3 hf3)
        rw [e2]
        clear e2 hr3 hf3 hr2 hc2 msw hd hf hu hp HY H1 hr
        go_wp2_with fail
        go_roundg i
        case measure => omega
        case rel => exact ⟨(i - 1) / 2, rfl, by omega, by omega, HS.out⟩
end Go.Proofs.Ytcadockapeancaa
