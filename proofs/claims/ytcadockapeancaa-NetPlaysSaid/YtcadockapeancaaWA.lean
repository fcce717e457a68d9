/- The walk of Send: a message that is not delivered. -/
import Derived.Test.YtcadockapeancaaW9
namespace Go.Proofs.Ytcadockapeancaa
open Go.RowKit

theorem node_quiet2 (pb : Nat) (nodes k : Int) (w : World) (hc : w.cell? ⟨pb, 0, none⟩ = some (.int .i64 nodes)) :
    Calls Try.prog 25 #[.pointer (some ⟨pb, 0, none⟩), .int .i64 k] w fun e w' => e = .returned (.bool (nodeB nodes k)) ∧ w' = w :=
  (node_any pb nodes k w hc).mono fun _ _ h => ⟨h.1, h.2.symm⟩
theorem node_quiet (pb : Nat) (nodes k : Int) (b : Bool) (hb : nodeB nodes k = b) (w : World) (hc : w.cell? ⟨pb, 0, none⟩ = some (.int .i64 nodes)) :
    Calls Try.prog 25 #[.pointer (some ⟨pb, 0, none⟩), .int .i64 k] w fun e w' => e = .returned (.bool b) ∧ w' = w := by
  subst hb
  exact (node_any pb nodes k w hc).mono fun _ _ h => ⟨h.1, h.2.symm⟩

set_option maxHeartbeats 2000000 in
theorem send_not (pb : Nat) (own : Nat → Prop) (S : NSt) (now f tt : Int) (s : ByteArray) (w : World) (h : NetIs w pb own S) (hL : S.script.length ≤ 1000000) (hsent : S.sent ≤ 999999999)
    (hd : delivers S (trouble S.script S.sent) f tt = false) (wf : (Lit.int .i64 f).wf = true) (wt : (Lit.int .i64 tt).wf = true) :
    Calls Try.prog 15 #[.pointer (some ⟨pb, 0, none⟩), .int .i64 now, .agg #[.int .i64 f, .int .i64 tt, .string s]] w fun e w' => SendEnd w pb own (S.send now f tt s) e w' := by
  obtain ⟨sv, v, mv, ⟨hn, hv, ys, hq, hh, hp⟩, hs, hg, o1, o2, o3, o4, o5⟩ := h
  have hlt := hn.lt
  have hlt1 : pb < w.heap.size + 1 := by omega
  go_enter Try.func15, Try.ntmps15
  go_wp2_with fail
  have hn1 := hn.keep (w' := w.alloc (.cells #[.int .i64 f, .int .i64 tt, .string s] 31)) (Below.heap_alloc w _ _ hlt)
  have hs1 := hs.keep (w' := w.alloc (.cells #[.int .i64 f, .int .i64 tt, .string s] 31)) (fun b hb h0 => Below.heap_alloc w _ _ (hs.lt hb h0))
  refine (trouble_any pb _ _ _ _ _ S.script _ hn1 hs1 hL (by omega)).mono ?_
  rintro e w1 ⟨rfl, hb1⟩
  have hn2 := hn1.keep (hb1.block pb (by simp; omega))
  have hlt2 := hn2.lt
  obtain ⟨_, _, _, c3, _⟩ := hn2.at
  have z3 := hn2.free 3
  have HE0 : ∀ t, trouble S.script S.sent = t → delivers S t f tt = false → ∀ W B1 B2, Mid w W pb B1 B2 own S t f tt s sv v mv ys → ∀ W', SomeDrew W W' → SendEnd w pb own (S.send now f tt s) (.returned (.tuple #[])) W' :=
    fun t ht hdt W B1 B2 m W' hW => send_end_not m hv hh hp o1 o2 o3 o4 o5 ht hdt hW
  have hM : ∀ t, Mid w ((w1.setCell ⟨pb, 3, none⟩ (.int .i64 (S.sent + 1))).alloc (.cells #[.bool t.lost, .int .i64 t.copies, .int .i64 t.delay] 44)) pb w.heap.size w1.heap.size own S t f tt s sv v mv ys := fun t => mid_of hn hv hq hs hg o3 o4 o5 hb1
  generalize htr : trouble S.script S.sent = t at *
  have HE := Lib.hid (HE0 t rfl hd)
  have m := hM t
  clear HE0 hM htr hn1 hs1 hn hv hq hs hg o1 o2 o3 o4 o5 hb1 hn2 hh hp
  go_wp2_with fail
  clear c3 z3
  generalize ((w1.setCell ⟨pb, 3, none⟩ (.int .i64 (S.sent + 1))).alloc (.cells #[.bool t.lost, .int .i64 t.copies, .int .i64 t.delay] 44)) = W at *
  generalize w1.heap.size = B2 at *
  generalize w.heap.size = B1 at *
  have HF := Lib.hid (HE.out W B1 B2 m)
  clear HE
  obtain ⟨c0, _, _, _, c4⟩ := m.net.at
  have x0 := m.m0
  have x1 := m.m1
  have y0 := m.t0
  have hl : ∀ i (q : Nat), (Lit.int .i64 i).wf = true → (Instr.lookup 54 mv (.int .i64 i) false).run Try.prog (W.drewN q) = .ok (.int .i64 (groupOf S.groups i)) (W.drewN q) := fun i q hw => (m.grp.keep (w' := W.drewN q) (fun _ _ => rfl)).lookup i hw
  have hlf := fun q => hl f q wf
  have hlt := fun q => hl tt q wt
  clear m hl
  unfold delivers at hd
  cases hlo : t.lost
  · rw [hlo] at y0 hd
    cases hno : nodeB S.nodes tt
    · have hq2 := fun q => node_quiet pb S.nodes tt false hno (W.drewN q) c0
      clear hd hno hlo
      go_quiet ((go_at_call 25; exact Calls.quiet_of_same (hq2 _)))
      go_wp2_with fail
      go_end0
      exact HF.out _ ⟨_, rfl⟩
    · rw [hno] at hd
      cases hnf : nodeB S.nodes f
      · rw [hnf] at hd
        simp at hd
      · rw [hnf] at hd
        have hgn : (groupOf S.groups f != groupOf S.groups tt) = true := by simpa [bne] using hd
        have hq2 := Lib.hid (fun k q => node_quiet2 pb S.nodes k (W.drewN q) c0)
        clear hd hlo
        go_quiet ((go_at_call 25; exact Calls.quiet_of_same (hq2.out _ _)))
        go_wp2_with fail
        go_outline
        go_end0
        exact HF.out _ ⟨_, rfl⟩
  · rw [hlo] at y0
    clear hd hlo
    go_quiet (fail)
    go_wp2_with fail
    go_end0
    exact HF.out _ ⟨_, rfl⟩
end Go.Proofs.Ytcadockapeancaa
