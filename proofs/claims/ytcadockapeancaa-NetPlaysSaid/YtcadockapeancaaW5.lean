/- The walks of the library's heap.Push and heap.Pop over a queue of parcels. -/
import Derived.Test.YtcadockapeancaaW4
namespace Go.Proofs.Ytcadockapeancaa
open Go.RowKit

/-- A net's struct whose queue is a heap of the parcels xs, in whatever order. -/
def HQ (w : World) (pb : Nat) (c0 c1 v c3 c4 : Value) (xs : List Par) : Prop :=
  NetAt w pb c0 c1 v c3 c4 ∧ v.ownBlock ≠ some pb ∧ ∃ ys, Que w v ys ∧ Heap ys ∧ ys.Perm xs
def OwnQ (pb : Nat) (v : Value) (k : Nat) : Prop := k = pb ∨ v.ownBlock = some k
def PushEnd (w : World) (pb : Nat) (c0 c1 v c3 c4 : Value) (xs : List Par) (p : Par) (w' : World) : Prop :=
  ∃ v', HQ w' pb c0 c1 v' c3 c4 (xs ++ [p]) ∧ (∀ g, v'.ownBlock = some g → v.ownBlock = some g ∨ w.heap.size ≤ g) ∧ Fr (OwnQ pb v) w w'

theorem push_end {w w1 w2 : World} {pb : Nat} {c0 c1 v c3 c4 : Value} {xs ys zs : List Par} {p : Par} {g cap : Nat} (hp : ys.Perm xs) (hn : NetAt w1 pb c0 c1 (.slice (some ⟨g, 0, none⟩) (ys.length + 1) cap) c3 c4)
    (hgp : g ≠ pb) (hd : v.ownBlock = some g ∨ w.heap.size ≤ g) (hf : Fr (fun k => k = pb ∨ v.ownBlock = some k) w w1)
    (hz : zs.length = ys.length + 1) (hzp : zs.Perm (ys ++ [p])) (hh : Heap zs) (hr : Row w2 g cap zs) (hf2 : Fr (fun k => k = g) w1 w2) : PushEnd w pb c0 c1 v c3 c4 xs p w2 := by
  refine ⟨.slice (some ⟨g, 0, none⟩) (ys.length + 1) cap, ⟨hn.keep (hf2.block pb hn.lt hgp.symm), by simpa [Value.ownBlock] using hgp, zs, .inr ⟨g, cap, by rw [hz], hr⟩, hh, hzp.trans (hp.append_right _)⟩, ?_, ?_⟩
  · intro k hk
    simp [Value.ownBlock] at hk
    subst hk
    exact hd
  · refine hf.trans hf2 (fun k hk e => ?_)
    subst e
    rcases hd with hd | hd
    · exact .inr hd
    · omega

set_option maxHeartbeats 1000000 in
theorem heap_push (pb : Nat) (c0 c1 v c3 c4 : Value) (xs : List Par) (p : Par) (w : World) (h : HQ w pb c0 c1 v c3 c4 xs) (hsm : xs.length ≤ 999999) :
    Calls Try.prog 26 #[.iface 84 (.pointer (some ⟨pb, 2, none⟩)), .iface 75 (.agg #[.int .i64 p.f, .int .i64 p.t, .string p.s, .int .i64 p.at_, .int .i64 p.sent])] w fun e w' => e = .returned (.tuple #[]) ∧ PushEnd w pb c0 c1 v c3 c4 xs p w' := by
  obtain ⟨hn, hv, ys, hq, hh, hp⟩ := h
  have hlen := hp.length_eq
  have hsm' : ys.length ≤ 999999 := by omega
  have HL := Lib.hid hlen; clear hlen
  have mp := method_Push pb w
  go_enter Try.func26, Try.ntmps26
  go_wp2_with fail
  refine (push_que pb c0 c1 v c3 c4 ys p w hn hq hv (by omega)).mono ?_
  rintro e w1 ⟨rfl, g, cap, hn1, hr1, hgp, hd, hf⟩
  have hc1 := hn1.at.2.2.1
  have ml := method_Len pb w1 _ hc1
  have hm1 := Nat.le_trans hr1.fits hr1.max
  simp only [List.length_append, List.length_cons, List.length_nil, Nat.zero_add] at hm1
  clear mp
  go_wp2_with fail
  refine (len_any _ _ _ _ hm1).mono ?_
  rintro e w2 ⟨rfl, rfl⟩
  unfold maxLen at hm1
  go_wp2_with fail
  refine (up_row pb g (ys.length + 1) cap (ys ++ [p]) ys.length w1 hc1 (Ne.symm hgp) hr1 (by simp) (by omega) (up_start hh p)).mono ?_
  rintro e w3 ⟨rfl, zs, hz, hzp, hzh, hr3, hf3⟩
  have HE := Lib.hid (push_end hp hn1 hgp hd hf hz hzp hzh hr3 hf3)
  clear hz hzp hzh hr3 hf3 hc1 ml hr1 hn1
  go_wp2_with fail
  go_end0
  exact ⟨rfl, HE.out⟩
end Go.Proofs.Ytcadockapeancaa
