/- The walks of the queue's Pop and of the library's heap.Pop over a queue of parcels. -/
import Derived.Test.YtcadockapeancaaW5
namespace Go.Proofs.Ytcadockapeancaa
open Go.RowKit

set_option maxHeartbeats 1000000 in
theorem pop_cells (pb b m cap : Nat) (p : Par) (w : World) (hc : w.cell? ⟨pb, 2, none⟩ = some (.slice (some ⟨b, 0, none⟩) (m + 1) cap)) (hz : w.frozen? ⟨pb, 2, none⟩ = false) (hlt : pb < w.heap.size) (hcap : m + 1 ≤ cap) (hm : m ≤ 1000000) (hmax : cap ≤ maxLen)
    (h0 : w.cell? ⟨b, m * 5, none⟩ = some (.int .i64 p.f)) (h1 : w.cell? ⟨b, m * 5 + 1, none⟩ = some (.int .i64 p.t)) (h2 : w.cell? ⟨b, m * 5 + 2, none⟩ = some (.string p.s))
    (h3 : w.cell? ⟨b, m * 5 + 3, none⟩ = some (.int .i64 p.at_)) (h4 : w.cell? ⟨b, m * 5 + 4, none⟩ = some (.int .i64 p.sent)) :
    Calls Try.prog 51 #[.pointer (some ⟨pb, 2, none⟩)] w fun e w' => e = .returned (.iface 75 (.agg #[.int .i64 p.f, .int .i64 p.t, .string p.s, .int .i64 p.at_, .int .i64 p.sent])) ∧
      w' = (w.setCell ⟨pb, 2, none⟩ (.slice (some ⟨b, 0, none⟩) m cap)).alloc (.cells #[.int .i64 p.f, .int .i64 p.t, .string p.s, .int .i64 p.at_, .int .i64 p.sent] 75) := by
  unfold maxLen at hmax
  have hlt1 : pb < w.heap.size + 1 := by omega
  have hmi : (m : Int) < (m : Int) + 1 := by omega
  have hmc : (m : Int) ≤ (cap : Int) := by omega
  go_enter Try.func51, Try.ntmps51
  go_wp2_with fail
  go_ret
  exact ⟨rfl, rfl⟩

def Par.val (p : Par) : Value := .agg #[.int .i64 p.f, .int .i64 p.t, .string p.s, .int .i64 p.at_, .int .i64 p.sent]
def PopEnd (w : World) (pb : Nat) (c0 c1 v c3 c4 : Value) (xs : List Par) (e : Ending) (w' : World) : Prop :=
  ∃ p rest v', e = .returned (.iface 75 p.val) ∧ xs.Perm (p :: rest) ∧ (∀ q ∈ xs, p.le q) ∧ HQ w' pb c0 c1 v' c3 c4 rest ∧ v'.ownBlock = v.ownBlock ∧ Fr (OwnQ pb v) w w'

theorem RowIs.left {cur : Array Value} {xs ys : List Par} (h : RowIs cur (xs ++ ys)) : RowIs cur xs := by
  have := h.take xs.length
  simpa using this

theorem pop_end {w w1 w2 : World} {pb b m cap : Nat} {c0 c1 c3 c4 : Value} {xs ys : List Par} (hp : ys.Perm xs) (hh : Heap ys) (hy : ys.length = m + 1)
    (hn : NetAt w pb c0 c1 (.slice (some ⟨b, 0, none⟩) (m + 1) cap) c3 c4) (hpb : pb ≠ b) (hm : m ≤ 1000000)
    (hf1 : Fr (fun k => k = b) w w1) (hd : DnEnd b cap m ((sw ys 0 m).take m) (gt ys 0) w1 w2) :
    ∃ zs : List Par, Row w2 b cap (zs ++ [gt ys 0]) ∧ NetAt w2 pb c0 c1 (.slice (some ⟨b, 0, none⟩) (m + 1) cap) c3 c4 ∧ zs.length = m ∧
      ∀ w3, w3 = (w2.setCell ⟨pb, 2, none⟩ (.slice (some ⟨b, 0, none⟩) m cap)).alloc (.cells #[.int .i64 (gt ys 0).f, .int .i64 (gt ys 0).t, .string (gt ys 0).s, .int .i64 (gt ys 0).at_, .int .i64 (gt ys 0).sent] 75) →
        PopEnd w pb c0 c1 (.slice (some ⟨b, 0, none⟩) (m + 1) cap) c3 c4 xs (.returned (.iface 75 (gt ys 0).val)) w3 := by
  obtain ⟨zs, hz, hzp, hzh, hr, hf2⟩ := hd
  have hn1 := hn.keep (hf1.block pb hn.lt hpb)
  have hn2 := hn1.keep (hf2.block pb hn1.lt hpb)
  have hperm : ys.Perm (gt ys 0 :: zs) := by
    have h1 : (sw ys 0 m).Perm ys := sw_perm (by omega) (by omega)
    have h2 : sw ys 0 m = (sw ys 0 m).take m ++ [gt (sw ys 0 m) m] := take_snoc (by simp [hy])
    rw [gt_sw (by omega) (by omega), if_pos rfl] at h2
    rw [h2] at h1
    exact h1.symm.trans ((hzp.symm.append_right _).trans (List.perm_append_singleton _ _))
  refine ⟨zs, hr, hn2, hz, ?_⟩
  intro w3 e
  subst e
  have hlt2 := hn2.lt
  have hrow : Row ((w2.setCell ⟨pb, 2, none⟩ (.slice (some ⟨b, 0, none⟩) m cap)).alloc (.cells #[.int .i64 (gt ys 0).f, .int .i64 (gt ys 0).t, .string (gt ys 0).s, .int .i64 (gt ys 0).at_, .int .i64 (gt ys 0).sent] 75)) b cap zs := by
    have hr' : Row w2 b cap zs := by
      obtain ⟨cur, hc, hs, hcr⟩ := hr.cur
      have hfit := hr.fits
      simp at hfit
      exact ⟨by omega, hr.max, cur, hc, hs, hcr.left⟩
    refine hr'.keep ?_
    rw [Below.heap_alloc _ _ _ (by rw [size_setCell]; exact hr.lt), heap_setCell_other _ _ _ _ (Ne.symm hpb)]
  refine ⟨gt ys 0, zs, .slice (some ⟨b, 0, none⟩) m cap, rfl, hp.symm.trans hperm, fun q hq => heap_least_mem hh (hp.symm.subset hq), ⟨?_, ?_, zs, .inr ⟨b, cap, by rw [hz], hrow⟩, hzh, .refl _⟩, rfl, ?_⟩
  · refine (hn2.set2 _).keep ?_
    rw [Below.heap_alloc _ _ _ (by rw [size_setCell]; exact hlt2)]
  · simpa [Value.ownBlock] using Ne.symm hpb
  · have hb : OwnQ pb (.slice (some ⟨b, 0, none⟩) (m + 1) cap) b := .inr rfl
    have e1 : Fr (OwnQ pb (.slice (some ⟨b, 0, none⟩) (m + 1) cap)) w w1 := hf1.mono (fun k _ e => by subst e; exact hb)
    have e2 : Fr (OwnQ pb (.slice (some ⟨b, 0, none⟩) (m + 1) cap)) w1 w2 := hf2.mono (fun k _ e => by subst e; exact hb)
    exact ((e1.trans' e2).setCell (.inr (.inl rfl)) _).alloc _

theorem HQ.some {w : World} {pb : Nat} {c0 c1 v c3 c4 : Value} {xs : List Par} (h : HQ w pb c0 c1 v c3 c4 xs) (hx : xs ≠ []) :
    ∃ b m cap ys, v = .slice (some ⟨b, 0, none⟩) (m + 1) cap ∧ ys.length = m + 1 ∧ xs.length = m + 1 ∧ NetAt w pb c0 c1 (.slice (some ⟨b, 0, none⟩) (m + 1) cap) c3 c4 ∧ pb ≠ b ∧ Row w b cap ys ∧ Heap ys ∧ ys.Perm xs := by
  obtain ⟨hn, hv, ys, hq, hh, hp⟩ := h
  have hl := hp.length_eq
  cases xs with
  | nil => exact absurd rfl hx
  | cons x xs =>
    simp at hl
    rcases hq with ⟨rfl, rfl⟩ | ⟨b, cap, rfl, hr⟩
    · simp at hl
    · refine ⟨b, xs.length, cap, ys, by rw [hl], hl, rfl, by rw [hl] at hn; exact hn, ?_, hr, hh, hp⟩
      rintro rfl
      exact hv rfl

set_option maxHeartbeats 1000000 in
theorem heap_pop (pb : Nat) (c0 c1 v c3 c4 : Value) (xs : List Par) (w : World) (h : HQ w pb c0 c1 v c3 c4 xs) (hx : xs ≠ []) (hsm : xs.length ≤ 1000000) :
    Calls Try.prog 29 #[.iface 84 (.pointer (some ⟨pb, 2, none⟩))] w fun e w' => PopEnd w pb c0 c1 v c3 c4 xs e w' := by
  obtain ⟨b, m, cap, ys, rfl, hy, hxl, hn, hpb, hr, hh, hp⟩ := h.some hx
  have hm : m ≤ 999999 := by omega
  have hcap : m + 1 ≤ cap := by have := hr.fits; omega
  have hmax := hr.max
  have HX := Lib.hid hxl
  have HY := Lib.hid hy
  clear hxl hy h hx hsm
  have hc := hn.at.2.2.1
  have ml := method_Len pb w _ hc
  have ms := method_Swap pb w _ hc
  have hm1 : m + 1 ≤ maxLen := by omega
  go_enter Try.func29, Try.ntmps29
  go_wp2_with fail
  refine (len_any _ _ _ _ hm1).mono ?_
  rintro e w1 ⟨rfl, rfl⟩
  unfold maxLen at hmax hm1
  have hmx : m ≤ 2 ^ 63 - 1 := by omega
  clear ml
  go_wp2_with fail
  refine (swap_int b (m + 1) cap ys _ _ _ hr HY.out.symm (by omega) (by omega) (by omega) (by omega)).mono ?_
  rintro e w2 ⟨rfl, hr2, hf2⟩
  rw [Int.toNat_natCast] at hr2
  have hn2 := hn.keep (hf2.block pb hn.lt hpb)
  have hc2 := hn2.at.2.2.1
  clear ms
  go_wp2_with fail
  have hsn : sw ys 0 m = (sw ys 0 m).take m ++ [gt ys 0] := by
    have h2 : sw ys 0 m = (sw ys 0 m).take m ++ [gt (sw ys 0 m) m] := take_snoc (by simp [HY.out])
    rwa [gt_sw (by rw [HY.out]; omega) (by rw [HY.out]; omega), if_pos rfl] at h2
  refine (down_row pb b (m + 1) cap m ((sw ys 0 m).take m) (gt ys 0) w2 hc2 hpb (by rw [← hsn]; exact hr2) (by simp [HY.out]) rfl (by omega) (dn_start hh HY.out)).mono ?_
  rintro e w3 ⟨⟨t, rfl⟩, hd⟩
  obtain ⟨zs, hr3, hn3, hz, HE⟩ := pop_end hp hh HY.out hn hpb (by omega) hf2 hd
  clear hsn hd hr2 hf2 hn2 hc2
  have hat := hr3.at m (by simp [hz])
  have hg : gt (zs ++ [gt ys 0]) m = gt ys 0 := by simp [gt, hz]
  rw [hg] at hat
  obtain ⟨a0, a1, a2, a3, a4⟩ := hat
  have HE' := Lib.hid HE
  have HZ := Lib.hid hz
  clear HE hz hg
  have mp := method_Pop pb w3
  have P0 := Lib.hid (pop_cells pb b m cap (gt ys 0) w3 hn3.at.2.2.1 (hn3.free 2) hn3.lt hcap (by omega) (by unfold maxLen; exact hmax) a0 a1 a2 a3 a4)
  clear a0 a1 a2 a3 a4
  go_wp2_with fail
  refine P0.out.mono ?_
  rintro e w4 ⟨rfl, hw4⟩
  have HF := Lib.hid (HE'.out w4 hw4)
  clear hw4 HE'
  go_wp2_with fail
  go_ret
  exact HF.out
end Go.Proofs.Ytcadockapeancaa
