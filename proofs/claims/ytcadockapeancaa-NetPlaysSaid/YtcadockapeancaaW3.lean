/- The walk of the heap's down. -/
import Derived.Test.YtcadockapeancaaW2
namespace Go.Proofs.Ytcadockapeancaa
open Go.RowKit

def DnRel (b cap m : Nat) (xs : List Par) (p : Par) (w : World) (i : Nat) (wr : World) : Prop :=
  ∃ zs : List Par, zs.length = m ∧ zs.Perm xs ∧ HeapDn zs i ∧ Row wr b cap (zs ++ [p]) ∧ Fr (fun k => k = b) w wr
def DnEnd (b cap m : Nat) (xs : List Par) (p : Par) (w w' : World) : Prop :=
  ∃ zs : List Par, zs.length = m ∧ zs.Perm xs ∧ Heap zs ∧ Row w' b cap (zs ++ [p]) ∧ Fr (fun k => k = b) w w'
def SomeBool (e : Ending) : Prop := ∃ t, e = .returned (.bool t)

theorem DnRel.step {b cap m : Nat} {xs zs : List Par} {p : Par} {w w1 w2 w3 : World} {i j : Nat} (h1 : zs.length = m) (h2 : zs.Perm xs) (h3 : HeapDn zs i) (hj : j < m) (hij : j = 2 * i + 1 ∨ j = 2 * i + 2)
    (hl : (gt zs j).le (gt zs i)) (hs : ∀ k, k = 2 * i + 1 ∨ k = 2 * i + 2 → k < m → (gt zs j).le (gt zs k))
    (hf : Fr (fun k => k = b) w w1) (hd : SomeDrew w1 w2) (hr : Row w3 b cap (sw (zs ++ [p]) i j)) (hf' : Fr (fun k => k = b) w2 w3) : DnRel b cap m xs p w j w3 := by
  rw [sw_append_left (by omega) (by omega)] at hr
  exact ⟨sw zs i j, by simp [h1], (sw_perm (by omega) (by omega)).trans h2, dn_step h3 (by omega) (by omega) (by omega) hl (fun k k0 hk he => hs k (by omega) (by omega)), hr, (hf.trans' (hd.fr _)).trans' hf'⟩

/-- One round, from the choice of the child j on: not less: out; less: the exchange. -/
theorem SomeDrew.trans {a b c : World} (h : SomeDrew a b) (k : SomeDrew b c) : SomeDrew a c := by
  obtain ⟨q, rfl⟩ := h
  obtain ⟨r, rfl⟩ := k
  exact ⟨_, World.drewN_drewN _ _ _⟩
theorem SomeDrew.refl (a : World) : SomeDrew a a := ⟨0, rfl⟩

set_option maxHeartbeats 4000000 in
theorem down_row (pb b n cap m : Nat) (xs : List Par) (p : Par) (w : World) (hc : w.cell? ⟨pb, 2, none⟩ = some (.slice (some ⟨b, 0, none⟩) n cap)) (hpb : pb ≠ b) (hr : Row w b cap (xs ++ [p])) (hm : xs.length = m) (hn : n = m + 1) (hsm : m ≤ 1000000) (hu : HeapDn xs 0) :
    Calls Try.prog 31 #[.iface 84 (.pointer (some ⟨pb, 2, none⟩)), .int .i64 0, .int .i64 m] w fun e w' => SomeBool e ∧ DnEnd b cap m xs p w w' := by
  have hstart : DnRel b cap m xs p w 0 w := ⟨xs, hm, .refl _, hu, hr, .refl _ _⟩
  have hmn : m < n := by omega
  have HN := Lib.hid hn
  clear hr hu hm hn
  go_enter Try.func31, Try.ntmps31
  go_wp2_with fail
  go_loopg [7] (m + 1) (fun g si wr => ∃ i : Nat, si = .int .i64 i ∧ m < i + g ∧ i ≤ m ∧ DnRel b cap m xs p w i wr)
  case atStart => exact ⟨0, rfl, by omega, by omega, hstart⟩
  case round =>
    clear hstart
    obtain ⟨i, rfl, hg, him, zs, hzs, hp, hu, hr, hf⟩ := hrel
    have hcr := hf.cell hc hpb
    have HY := Lib.hid hzs
    clear hzs
    have ml := method_Less pb wr _ hcr
    have hlen : Hid (n = (zs ++ [p]).length) := by show n = _; rw [HN.out]; simp [HY.out]
    by_cases h1 : m ≤ 2 * i + 1
    · have h1' : (m : Int) ≤ 2 * (i : Int) + 1 := by omega
      go_wp2_with fail
      go_ret
      exact ⟨⟨_, rfl⟩, zs, HY.out, hp, dn_stop hu (by rw [HY.out]; omega) (by rw [HY.out]; omega), hr, hf⟩
    · by_cases h2 : 2 * i + 2 < m
      · go_wp2_with fail
        refine (less_int b n cap (zs ++ [p]) _ _ _ hr hlen.out (by omega) (by omega) (by omega) (by omega)).mono ?_
        rintro e w7 ⟨rfl, hd7⟩
        have e7 : (2 * (i : Int) + 1 + 1).toNat = 2 * i + 2 := by omega
        have e6 : (2 * (i : Int) + 1).toNat = 2 * i + 1 := by omega
        rw [e7, e6, gt_append_left (by rw [HY.out]; omega), gt_append_left (by rw [HY.out]; omega)]
        clear e7 e6
        have hc7 := (hd7.fr (fun k => k = b)).cell hcr hpb
        have ml7 := method_Less pb w7 _ hc7
        have hr7 := hr.drew hd7
        generalize q7 : (gt zs (2 * i + 2)).lt (gt zs (2 * i + 1)) = l7
        have H7 := Lib.hid q7; clear q7
        cases l7
        · have hs : ∀ k, k = 2 * i + 1 ∨ k = 2 * i + 2 → k < m → (gt zs (2 * i + 1)).le (gt zs k) := by
            intro k hk _
            rcases hk with rfl | rfl
            · exact Par.le_refl _
            · exact H7.out
          have HSm := Lib.hid hs; clear hs
          go_wp2_with fail
          refine (less_int b n cap (zs ++ [p]) _ _ _ hr7 hlen.out (by omega) (by omega) (by omega) (by omega)).mono ?_
          rintro e w8 ⟨rfl, hd8⟩
          have e8 : (2 * (i : Int) + 1 : Int).toNat = 2 * i + 1 := by omega
          rw [e8, Int.toNat_natCast, gt_append_left (by rw [HY.out]; omega), gt_append_left (by rw [HY.out]; omega)]
          have hd8' := hd7.trans hd8
          have hc8 := (hd8'.fr (fun k => k = b)).cell hcr hpb
          have msw := method_Swap pb w8 _ hc8
          have hr8 := hr.drew hd8'
          generalize q8 : (gt zs (2 * i + 1)).lt (gt zs i) = l8
          have H8 := Lib.hid q8; clear q8
          cases l8
          · go_wp2_with fail
            go_ret
            have hle : (gt zs i).le (gt zs (2 * i + 1)) := H8.out
            exact ⟨⟨_, rfl⟩, zs, HY.out, hp, dn_stop hu (by rw [HY.out]; intro hk; exact Par.le_trans hle (HSm.out _ (.inl rfl) hk)) (by rw [HY.out]; intro hk; exact Par.le_trans hle (HSm.out _ (.inr rfl) hk)), hr8, hf.trans' (hd8'.fr _)⟩
          · go_wp2_with fail
            refine (swap_int b n cap (zs ++ [p]) _ _ _ hr8 hlen.out (by omega) (by omega) (by omega) (by omega)).mono ?_
            rintro e w9 ⟨rfl, hr9, hf9⟩
            rw [e8, Int.toNat_natCast] at hr9
            have HS := Lib.hid (DnRel.step HY.out hp hu (j := 2 * i + 1) (by omega) (.inl rfl) (Par.le_of_lt H8.out) HSm.out hf hd8' hr9 hf9)
            have e9 : (2 * (i : Int) + 1 : Int) = ((2 * i + 1 : Nat) : Int) := by omega
            rw [e9]
            clear e8 e9 hr9 hf9 hr8 hc8 msw hd8 hd8' hf hu hp HY H8 hr hcr ml hlen
            go_wp2_with fail
            go_roundg (m + 1 - (2 * i + 1))
            case measure => omega
            case rel => exact ⟨2 * i + 1, rfl, by omega, by omega, HS.out⟩
        · have hs : ∀ k, k = 2 * i + 1 ∨ k = 2 * i + 2 → k < m → (gt zs (2 * i + 2)).le (gt zs k) := by
            intro k hk _
            rcases hk with rfl | rfl
            · exact Par.le_of_lt H7.out
            · exact Par.le_refl _
          have HSm := Lib.hid hs; clear hs
          go_wp2_with fail
          refine (less_int b n cap (zs ++ [p]) _ _ _ hr7 hlen.out (by omega) (by omega) (by omega) (by omega)).mono ?_
          rintro e w8 ⟨rfl, hd8⟩
          have e8 : (2 * (i : Int) + 1 + 1 : Int).toNat = 2 * i + 2 := by omega
          rw [e8, Int.toNat_natCast, gt_append_left (by rw [HY.out]; omega), gt_append_left (by rw [HY.out]; omega)]
          have hd8' := hd7.trans hd8
          have hc8 := (hd8'.fr (fun k => k = b)).cell hcr hpb
          have msw := method_Swap pb w8 _ hc8
          have hr8 := hr.drew hd8'
          generalize q8 : (gt zs (2 * i + 2)).lt (gt zs i) = l8
          have H8 := Lib.hid q8; clear q8
          cases l8
          · go_wp2_with fail
            go_ret
            have hle : (gt zs i).le (gt zs (2 * i + 2)) := H8.out
            exact ⟨⟨_, rfl⟩, zs, HY.out, hp, dn_stop hu (by rw [HY.out]; intro hk; exact Par.le_trans hle (HSm.out _ (.inl rfl) hk)) (by rw [HY.out]; intro hk; exact Par.le_trans hle (HSm.out _ (.inr rfl) hk)), hr8, hf.trans' (hd8'.fr _)⟩
          · go_wp2_with fail
            refine (swap_int b n cap (zs ++ [p]) _ _ _ hr8 hlen.out (by omega) (by omega) (by omega) (by omega)).mono ?_
            rintro e w9 ⟨rfl, hr9, hf9⟩
            rw [e8, Int.toNat_natCast] at hr9
            have HS := Lib.hid (DnRel.step HY.out hp hu (j := 2 * i + 2) (by omega) (.inr rfl) (Par.le_of_lt H8.out) HSm.out hf hd8' hr9 hf9)
            have e9 : (2 * (i : Int) + 1 + 1 : Int) = ((2 * i + 2 : Nat) : Int) := by omega
            rw [e9]
            clear e8 e9 hr9 hf9 hr8 hc8 msw hd8 hd8' hf hu hp HY H8 hr hcr ml hlen
            go_wp2_with fail
            go_roundg (m + 1 - (2 * i + 2))
            case measure => omega
            case rel => exact ⟨2 * i + 2, rfl, by omega, by omega, HS.out⟩
      · have h2' : (m : Int) ≤ 2 * (i : Int) + 1 + 1 := by omega
        have hs : ∀ k, k = 2 * i + 1 ∨ k = 2 * i + 2 → k < m → (gt zs (2 * i + 1)).le (gt zs k) := by
          intro k hk _
          rcases hk with rfl | rfl
          · exact Par.le_refl _
          · omega
        have HSm := Lib.hid hs; clear hs
        go_wp2_with fail
        refine (less_int b n cap (zs ++ [p]) _ _ _ hr hlen.out (by omega) (by omega) (by omega) (by omega)).mono ?_
        rintro e w8 ⟨rfl, hd8⟩
        have e8 : (2 * (i : Int) + 1 : Int).toNat = 2 * i + 1 := by omega
        rw [e8, Int.toNat_natCast, gt_append_left (by rw [HY.out]; omega), gt_append_left (by rw [HY.out]; omega)]
        have hd8' := (SomeDrew.refl wr).trans hd8
        have hc8 := (hd8'.fr (fun k => k = b)).cell hcr hpb
        have msw := method_Swap pb w8 _ hc8
        have hr8 := hr.drew hd8'
        generalize q8 : (gt zs (2 * i + 1)).lt (gt zs i) = l8
        have H8 := Lib.hid q8; clear q8
        cases l8
        · go_wp2_with fail
          go_ret
          have hle : (gt zs i).le (gt zs (2 * i + 1)) := H8.out
          exact ⟨⟨_, rfl⟩, zs, HY.out, hp, dn_stop hu (by rw [HY.out]; intro hk; exact Par.le_trans hle (HSm.out _ (.inl rfl) hk)) (by rw [HY.out]; intro hk; exact Par.le_trans hle (HSm.out _ (.inr rfl) hk)), hr8, hf.trans' (hd8'.fr _)⟩
        · go_wp2_with fail
          refine (swap_int b n cap (zs ++ [p]) _ _ _ hr8 hlen.out (by omega) (by omega) (by omega) (by omega)).mono ?_
          rintro e w9 ⟨rfl, hr9, hf9⟩
          rw [e8, Int.toNat_natCast] at hr9
          have HS := Lib.hid (DnRel.step HY.out hp hu (j := 2 * i + 1) (by omega) (.inl rfl) (Par.le_of_lt H8.out) HSm.out hf hd8' hr9 hf9)
          have e9 : (2 * (i : Int) + 1 : Int) = ((2 * i + 1 : Nat) : Int) := by omega
          rw [e9]
          clear e8 e9 hr9 hf9 hr8 hc8 msw hd8 hd8' hf hu hp HY H8 hr hcr ml hlen
          go_wp2_with fail
          go_roundg (m + 1 - (2 * i + 1))
          case measure => omega
          case rel => exact ⟨2 * i + 1, rfl, by omega, by omega, HS.out⟩
end Go.Proofs.Ytcadockapeancaa
