/- The walk of Send: a message that is delivered. -/
import Derived.Test.YtcadockapeancaaWA
import Derived.StillTailTactics
import Derived.Deep.DeepCutAuto
namespace Go.Proofs.Ytcadockapeancaa
open Go.RowKit

/-- What holds at the head of each round of the loop over the copies. -/
def LoopRel (W : World) (pb : Nat) (S : NSt) (sv v mv : Value) (t : Tr) (now f tt : Int) (s : ByteArray) (k : Nat) (wr : World) : Prop :=
  ∃ v', HQ wr pb (.int .i64 S.nodes) sv v' (.int .i64 (S.sent + 1)) mv (S.wait ++ parcelsOf t S.sent now f tt s k) ∧ Fr (OwnQ pb v) W wr ∧ ∀ g, v'.ownBlock = some g → v.ownBlock = some g ∨ W.heap.size ≤ g

theorem parcels_length (t : Tr) (sent : Nat) (now f tt : Int) (s : ByteArray) (n : Nat) : (parcelsOf t sent now f tt s n).length = n := by simp [parcelsOf]
theorem parcels_succ (t : Tr) (sent : Nat) (now f tt : Int) (s : ByteArray) (n : Nat) :
    parcelsOf t sent now f tt s (n + 1) = parcelsOf t sent now f tt s n ++ [⟨f, tt, s, now + max t.delay 0 + (n : Int), sent⟩] := by simp [parcelsOf, List.range_succ]

theorem loop_start {w W : World} {pb B1 B2 : Nat} {own : Nat → Prop} {S : NSt} {t : Tr} {now f tt : Int} {s : ByteArray} {sv v mv : Value} {ys : List Par} (m : Mid w W pb B1 B2 own S t f tt s sv v mv ys)
    (hv : v.ownBlock ≠ some pb) (hh : Heap ys) (hp : ys.Perm S.wait) (hlt : pb < w.heap.size) (ho : ∀ g, v.ownBlock = some g → g < w.heap.size) : LoopRel W pb S sv v mv t now f tt s 0 W ∧ ¬ OwnQ pb v B1 ∧ ¬ OwnQ pb v B2 := by
  have h1 := m.b1
  have h2 := m.b2
  have key : ∀ B, w.heap.size ≤ B → ¬ OwnQ pb v B := by
    rintro B hB (rfl | h)
    · omega
    · have := ho B h; omega
  exact ⟨⟨v, ⟨m.net, hv, ys, m.que, hh, by simpa [parcelsOf] using hp⟩, Fr.refl _ _, fun g hg => .inl hg⟩, key B1 h1, key B2 h2⟩

theorem loop_step {W wr w2 : World} {pb : Nat} {S : NSt} {sv v mv : Value} {t : Tr} {now f tt : Int} {s : ByteArray} {k : Nat} {v' : Value} (hf : Fr (OwnQ pb v) W wr) (hg : ∀ g, v'.ownBlock = some g → v.ownBlock = some g ∨ W.heap.size ≤ g)
    (h : PushEnd wr pb (.int .i64 S.nodes) sv v' (.int .i64 (S.sent + 1)) mv (S.wait ++ parcelsOf t S.sent now f tt s k) ⟨f, tt, s, now + max t.delay 0 + (k : Int), S.sent⟩ w2) : LoopRel W pb S sv v mv t now f tt s (k + 1) w2 := by
  obtain ⟨v2, hq, hg2, hf2⟩ := h
  refine ⟨v2, ?_, hf.trans hf2 ?_, ?_⟩
  · rw [parcels_succ, ← List.append_assoc]; exact hq
  · rintro k hk (rfl | h)
    · exact .inl rfl
    · rcases hg k h with h | h
      · exact .inr h
      · omega
  · intro g h
    rcases hg2 g h with h | h
    · exact hg g h
    · exact .inr (Nat.le_trans hf.size h)

theorem LoopRel.drew {W wr w2 : World} {pb : Nat} {S : NSt} {sv v mv : Value} {t : Tr} {now f tt : Int} {s : ByteArray} {k : Nat} (h : LoopRel W pb S sv v mv t now f tt s k wr) (hd : SomeDrew wr w2) : LoopRel W pb S sv v mv t now f tt s k w2 := by
  obtain ⟨v', ⟨hna, hvn, zs, hz, hzh, hzp⟩, hf, hg⟩ := h
  have e := hd.heap
  exact ⟨v', ⟨hna.keep (by rw [e]), hvn, zs, hz.keep (fun _ _ => by rw [e]), hzh, hzp⟩, hf.trans' (hd.fr _), hg⟩
theorem loop_call {W wr : World} {pb : Nat} {S : NSt} {sv v mv : Value} {t : Tr} {now f tt : Int} {s : ByteArray} {k : Nat} (h : LoopRel W pb S sv v mv t now f tt s k wr) (hl : S.wait.length ≤ 900000) (hk : k ≤ 8)
    (d : Int) (hd : d = now + max t.delay 0 + (k : Int)) :
    Calls Try.prog 26 #[.iface 84 (.pointer (some ⟨pb, 2, none⟩)), .iface 75 (.agg #[.int .i64 f, .int .i64 tt, .string s, .int .i64 d, .int .i64 S.sent])] wr fun e w' => e = .returned (.tuple #[]) ∧ LoopRel W pb S sv v mv t now f tt s (k + 1) w' := by
  subst hd
  obtain ⟨v', hq, hf, hg⟩ := h
  exact (heap_push pb _ sv v' _ mv _ ⟨f, tt, s, now + max t.delay 0 + (k : Int), S.sent⟩ wr hq (by rw [List.length_append, parcels_length]; omega)).mono fun e w' h => ⟨h.1, loop_step hf hg h.2⟩

theorem send_end_yes {w W W' : World} {pb B1 B2 : Nat} {own : Nat → Prop} {S : NSt} {t : Tr} {now f tt : Int} {s : ByteArray} {sv v mv : Value} {ys : List Par} (m : Mid w W pb B1 B2 own S t f tt s sv v mv ys)
    (o1 : own pb) (o2 : ∀ g, v.ownBlock = some g → own g) (o3 : ∀ g, sv.ownBlock = some g → 0 < S.script.length → own g ∧ ¬ OwnQ pb v g)
    (o4 : ∀ g, Value.mapBlock mv = some g → own g ∧ ¬ OwnQ pb v g) (o5 : ∀ k, own k → k < w.heap.size) (ht : trouble S.script S.sent = t) (hd : delivers S t f tt = true) (hW : LoopRel W pb S sv v mv t now f tt s (copiesOf t) W') :
    SendEnd w pb own (S.send now f tt s) (.returned (.tuple #[])) W' := by
  have hs : S.send now f tt s = { S with sent := S.sent + 1, wait := S.wait ++ parcelsOf t S.sent now f tt s (copiesOf t) } := by unfold NSt.send; rw [ht, hd]; simp
  rw [hs]
  obtain ⟨v', hq, hf, hg⟩ := hW
  have hsz := m.fr.size
  have hsub : ∀ k, OwnQ pb v k → own k := by
    rintro k (rfl | h)
    · exact o1
    · exact o2 k h
  have hsub' : ∀ k, k < w.heap.size → OwnQ pb v' k → OwnQ pb v k := by
    rintro k hk (rfl | h)
    · exact .inl rfl
    · rcases hg k h with h | h
      · exact .inr h
      · omega
  refine ⟨rfl, fun k => own k ∨ v'.ownBlock = some k, ⟨sv, v', mv, hq, ?_, ?_, .inl o1, fun g h => .inr h, ?_, ?_, ?_⟩, ?_, ?_⟩
  · exact m.scr.keep fun b hb h0 => hf.block b (m.scr.lt hb h0) (o3 b hb h0).2
  · exact m.grp.keep fun b hb => hf.block b (Nat.lt_of_lt_of_le (o5 b (o4 b hb).1) hsz) (o4 b hb).2
  · intro g h h0
    exact ⟨.inl (o3 g h h0).1, fun e => (o3 g h h0).2 (hsub' g (o5 g (o3 g h h0).1) e)⟩
  · intro g h
    exact ⟨.inl (o4 g h).1, fun e => (o4 g h).2 (hsub' g (o5 g (o4 g h).1) e)⟩
  · rintro k (h | h)
    · exact Nat.lt_of_lt_of_le (o5 k h) (Nat.le_trans hsz hf.size)
    · obtain ⟨_, _, zs, hz, _⟩ := hq
      exact hz.lt h
  · exact (m.fr.mono (fun k _ e => by subst e; exact o1)).trans hf (fun k _ e => hsub k e)
  · rintro k (h | h)
    · exact .inl h
    · rcases hg k h with h | h
      · exact .inl (o2 k h)
      · exact .inr (Nat.le_trans hsz h)

set_option maxHeartbeats 400000 in
theorem send_yes (pb : Nat) (own : Nat → Prop) (S : NSt) (now f tt : Int) (s : ByteArray) (w : World) (h : NetIs w pb own S) (hL : S.script.length ≤ 1000000) (hsent : S.sent ≤ 999999999)
    (hd : delivers S (trouble S.script S.sent) f tt = true) (hnow : -1000000000 ≤ now ∧ now ≤ 1000000000) (hdel : (trouble S.script S.sent).delay ≤ 1000000000) (hwl : S.wait.length ≤ 900000) (wf : (Lit.int .i64 f).wf = true) (wt : (Lit.int .i64 tt).wf = true) :
    Calls Try.prog 15 #[.pointer (some ⟨pb, 0, none⟩), .int .i64 now, .agg #[.int .i64 f, .int .i64 tt, .string s]] w fun e w' => SendEnd w pb own (S.send now f tt s) e w' := by
  obtain ⟨sv, v, mv, ⟨hn, hv, ys, hq, hh, hp⟩, hs, hg, o1, o2, o3, o4, o5⟩ := h
  have hlt := hn.lt
  have hlt1 : pb < w.heap.size + 1 := by omega
  go_enter Try.func15, Try.ntmps15
  go_wp2_with fail
  have hn1 := hn.keep (w' := w.alloc (.cells #[.int .i64 f, .int .i64 tt, .string s] 31)) (Below.heap_alloc w _ _ hlt)
  have hs1 := hs.keep (w' := w.alloc (.cells #[.int .i64 f, .int .i64 tt, .string s] 31)) (fun b hb h0 => Below.heap_alloc w _ _ (hs.lt hb h0))
  refine (trouble_any pb _ _ _ _ _ S.script _ hn1 hs1 hL (by omega)).mono ?_
  rintro e w1 ⟨rfl, hb1⟩
  have hn2 := hn1.keep (hb1.block pb (by simp; omega))
  have hlt2 := hn2.lt
  obtain ⟨_, _, _, c3, _⟩ := hn2.at
  have z3 := hn2.free 3
  have HE0 : ∀ t, trouble S.script S.sent = t → delivers S t f tt = true → ∀ W B1 B2, Mid w W pb B1 B2 own S t f tt s sv v mv ys → ∀ W', LoopRel W pb S sv v mv t now f tt s (copiesOf t) W' → SendEnd w pb own (S.send now f tt s) (.returned (.tuple #[])) W' :=
    fun t ht hdt W B1 B2 m W' hW => send_end_yes m o1 o2 o3 o4 o5 ht hdt hW
  have HB : ∀ W B1 B2 t, Mid w W pb B1 B2 own S t f tt s sv v mv ys → LoopRel W pb S sv v mv t now f tt s 0 W ∧ ¬ OwnQ pb v B1 ∧ ¬ OwnQ pb v B2 := fun W B1 B2 t m => loop_start m hv hh hp hlt (fun g hg => o5 g (o2 g hg))
  have hM : ∀ t, Mid w ((w1.setCell ⟨pb, 3, none⟩ (.int .i64 (S.sent + 1))).alloc (.cells #[.bool t.lost, .int .i64 t.copies, .int .i64 t.delay] 44)) pb w.heap.size w1.heap.size own S t f tt s sv v mv ys := fun t => mid_of hn hv hq hs hg o3 o4 o5 hb1
  generalize htr : trouble S.script S.sent = t at *
  have HE := Lib.hid (HE0 t rfl hd)
  have HBH := Lib.hid HB
  have m := hM t
  clear HE0 HB hM htr hn1 hs1 hn hv hq hs hg o1 o2 o3 o4 o5 hb1 hn2 hh hp
  go_wp2_with fail
  clear c3 z3
  generalize ((w1.setCell ⟨pb, 3, none⟩ (.int .i64 (S.sent + 1))).alloc (.cells #[.bool t.lost, .int .i64 t.copies, .int .i64 t.delay] 44)) = W at *
  generalize w1.heap.size = B2 at *
  generalize w.heap.size = B1 at *
  have HF := Lib.hid (HE.out W B1 B2 m)
  obtain ⟨hstart, hB1, hB2⟩ := HBH.out W B1 B2 t m
  clear HE HBH
  obtain ⟨c0, _, _, _, c4⟩ := m.net.at
  have x0 := m.m0
  have x1 := m.m1
  have y0 := m.t0
  have hl : ∀ i (q : Nat), (Lit.int .i64 i).wf = true → (Instr.lookup 54 mv (.int .i64 i) false).run Try.prog (W.drewN q) = .ok (.int .i64 (groupOf S.groups i)) (W.drewN q) := fun i q hw => (m.grp.keep (w' := W.drewN q) (fun _ _ => rfl)).lookup i hw
  have hlf := fun q => hl f q wf
  have hlt := fun q => hl tt q wt
  have HMm := Lib.hid m
  clear m hl
  unfold delivers at hd
  have hlo : t.lost = false := by cases h : t.lost <;> simp_all
  have hno : nodeB S.nodes tt = true := by cases h : nodeB S.nodes tt <;> simp_all
  rw [hlo] at y0
  have y1 := HMm.out.t1
  have y2 := HMm.out.t2
  have hq2 := Lib.hid (fun k b (hb : nodeB S.nodes k = b) q => node_quiet pb S.nodes k b hb (W.drewN q) c0)
  have hor : nodeB S.nodes f = false ∨ (nodeB S.nodes f = true ∧ (groupOf S.groups f != groupOf S.groups tt) = false) := by
    cases h : nodeB S.nodes f
    · exact .inl rfl
    · refine .inr ⟨rfl, ?_⟩
      rw [hlo, hno, h] at hd
      simpa [bne] using hd
  clear hd hlo
  have hc3 : (t.copies ≤ 1 ∧ copiesOf t = 1) ∨ (1 < t.copies ∧ t.copies < 8 ∧ t.copies = (copiesOf t : Int)) ∨ (8 ≤ t.copies ∧ copiesOf t = 8) := by unfold copiesOf; omega
  generalize copiesOf t = N at *
  go_cut [55] (fun s55 wx => s55 = .bool false ∧ SomeDrew W wx)
  case first =>
    clear hc3 y1 y2
    rcases hor with hnf | ⟨hnf, hgn⟩
    all_goals
      go_quiet ((go_at_call 25; exact Calls.quiet_of_same (hq2.out _ _ (by assumption) _)))
      go_wp2_with fail
      go_meet
      exact ⟨rfl, ⟨_, rfl⟩⟩
  case rest =>
    clear hor hlf hlt hq2 hno
    obtain ⟨rfl, q, rfl⟩ := hcut
    go_upto_region 6 with fail
    go_cut [59, 60] (fun s59 s60 wx => s59 = .int .i64 (N : Int) ∧ s60 = .int .i64 ((0 : Nat) : Int) ∧ SomeDrew W wx)
    case first =>
      rcases hc3 with ⟨h1, rfl⟩ | ⟨h1, h2, h3⟩ | ⟨h1, rfl⟩
      · go_wp2_with fail
        all_goals
          go_meet
          exact ⟨congrArg (Value.int .i64) (by omega), rfl, ⟨_, rfl⟩⟩
      · have h1' : ¬ t.copies ≤ 1 := by omega
        have H3 := Lib.hid h3; clear h3
        go_wp2_with fail
        go_meet
        exact ⟨by rw [H3.out], rfl, ⟨_, rfl⟩⟩
      · have h1' : ¬ t.copies ≤ 1 := by omega
        go_wp2_with fail
        all_goals
          go_meet
          exact ⟨congrArg (Value.int .i64) (by omega), rfl, ⟨_, rfl⟩⟩
    case rest =>
      obtain ⟨rfl, rfl, hq'⟩ := hcut
      have hN : N ≤ 8 := by omega
      have hst := hstart.drew hq'
      have x2 := HMm.out.m2
      clear hc3 hstart HMm c0 c4 y0 y1 hq'
      go_wp2_with fail
      go_loopg [60] (N + 1) (fun g sk wr => ∃ k : Nat, sk = .int .i64 (k : Int) ∧ N < k + g ∧ k ≤ N ∧ LoopRel W pb S sv v mv t now f tt s k wr)
      case atStart => exact ⟨0, rfl, by omega, by omega, hst⟩
      case round =>
        clear hst
        obtain ⟨k, rfl, hg, hkN, hR⟩ := hrel
        by_cases hk : k < N
        · have hk' : (k : Int) < (N : Int) := by omega
          have hcells : wr.cell? ⟨B1, 0, none⟩ = some (.int .i64 f) ∧ wr.cell? ⟨B1, 1, none⟩ = some (.int .i64 tt) ∧ wr.cell? ⟨B1, 2, none⟩ = some (.string s) ∧ wr.cell? ⟨B2, 2, none⟩ = some (.int .i64 t.delay) := by
            obtain ⟨_, _, hfr1, _⟩ := hR
            exact ⟨hfr1.cell x0 hB1, hfr1.cell x1 hB1, hfr1.cell x2 hB1, hfr1.cell y2 hB2⟩
          obtain ⟨X0, X1, X2, Y2⟩ := hcells
          have PC := Lib.hid (fun d hd => loop_call (hR.drew (w2 := wr.drew) ⟨1, rfl⟩) hwl (by omega) d hd)
          have hql := Lib.hid (fun w => (queue_any pb w).mono fun e w' h => (⟨h.1, h.2.symm⟩ : e = _ ∧ w' = w))
          have n1 := hnow.1
          have n2 := hnow.2
          clear hnow x0 x1 x2 y2 hR
          go_wp2_with fail
          have hdc : t.delay < 0 ∨ 0 ≤ t.delay := by omega
          rcases hdc with hdc | hdc
          all_goals
            refine wp_region_still_tail 13 (by kernel_rfl) (by kernel_rfl) ?_
            simp only [List.take_succ_cons, List.take_zero, List.drop_succ_cons, List.drop_zero]
            repeat still_step
            still_call (hql.out _)
            repeat still_step
            try refine wpStill_nil ?_
            change wpList _ _ _ _ _ wr.drew
            clear X0 X1 X2 Y2 hql
            go_wp2_with fail
            refine (PC.out _ (by omega)).mono ?_
            rintro e w3 ⟨rfl, hR3⟩
            have HR3 := Lib.hid hR3
            clear hR3 PC
            go_wp2_with fail
            go_roundg (N - k)
            case measure => omega
            case rel => exact ⟨k + 1, by go_num, by omega, by omega, HR3.out⟩
        · obtain rfl : k = N := by omega
          go_wp2_with fail
          go_end0
          exact HF.out _ hR
end Go.Proofs.Ytcadockapeancaa
