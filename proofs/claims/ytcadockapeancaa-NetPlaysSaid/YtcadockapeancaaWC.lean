/- The walks of Next. -/
import Derived.Test.YtcadockapeancaaWB
namespace Go.Proofs.Ytcadockapeancaa
open Go.RowKit

def noMsg : Value := .tuple #[.agg #[.int .i64 0, .int .i64 0, .string ⟨#[]⟩], .int .i64 0, .bool false]
def Par.msg (p : Par) : Value := .tuple #[.agg #[.int .i64 p.f, .int .i64 p.t, .string p.s], .int .i64 p.at_, .bool true]

set_option maxHeartbeats 400000 in
theorem next_nil (w : World) : Calls Try.prog 19 #[.pointer none] w fun e w' => e = .returned noMsg ∧ Below w.heap.size w w' := by
  go_enter Try.func19, Try.ntmps19
  go_wp2_with fail
  refine bodyPost_ret (v := noMsg) (by simp [results, Try.results19, go_sem, noMsg]) rfl ⟨rfl, ?_⟩
  exact (Below.refl _ _).alloc (Nat.le_refl _) _

set_option maxHeartbeats 400000 in
theorem next_empty (pb : Nat) (a : Option Addr) (cap : Nat) (w : World) (hc : w.cell? ⟨pb, 2, none⟩ = some (.slice a 0 cap)) (hlt : pb < w.heap.size) :
    Calls Try.prog 19 #[.pointer (some ⟨pb, 0, none⟩)] w fun e w' => e = .returned noMsg ∧ Below w.heap.size w w' := by
  have hc1 : (w.alloc (.cells #[.int .i64 0, .int .i64 0, .string ⟨#[]⟩] 31)).cell? ⟨pb, 2, none⟩ = some (.slice a 0 cap) := by
    rw [World.cell?_of_block (w := w) (Below.heap_alloc w _ _ hlt)]; exact hc
  have ml := method_Len pb _ _ hc1
  go_enter Try.func19, Try.ntmps19
  go_wp2_with fail
  refine (queue_any pb _).mono ?_
  rintro e w1 ⟨rfl, rfl⟩
  go_wp2_with fail
  refine (len_any a 0 cap _ (by unfold maxLen; omega)).mono ?_
  rintro e w1 ⟨rfl, rfl⟩
  go_wp2_with fail
  refine bodyPost_ret (v := noMsg) (by simp [results, Try.results19, go_sem, noMsg]) rfl ⟨rfl, ?_⟩
  exact (Below.refl _ _).alloc (Nat.le_refl _) _

def NextEnd (w : World) (pb : Nat) (own : Nat → Prop) (S : NSt) (e : Ending) (w' : World) : Prop :=
  ∃ p rest, e = .returned p.msg ∧ S.wait.Perm (p :: rest) ∧ (∀ q ∈ S.wait, p.le q) ∧ NetIs w' pb own { S with wait := rest } ∧ Fr own w w'

theorem next_end {w w1 w2 : World} {pb : Nat} {own : Nat → Prop} {S : NSt} {sv v mv : Value} (hs : Scr w sv S.script) (hg : Grp w mv S.groups)
    (o1 : own pb) (o2 : ∀ g, v.ownBlock = some g → own g) (o3 : ∀ g, sv.ownBlock = some g → 0 < S.script.length → own g ∧ ¬ OwnQ pb v g)
    (o4 : ∀ g, Value.mapBlock mv = some g → own g ∧ ¬ OwnQ pb v g) (o5 : ∀ k, own k → k < w.heap.size) (h1 : Fr (fun _ => False) w w1)
    {e : Ending} (h : PopEnd w1 pb (.int .i64 S.nodes) sv v (.int .i64 S.sent) mv S.wait e w2) :
    ∃ p : Par, e = .returned (.iface 75 p.val) ∧ w1.heap.size ≤ w2.heap.size ∧ (∀ a v, w1.cell? a = some v → a.block < w1.heap.size → ¬ own a.block → w2.cell? a = some v ∧ w2.frozen? a = w1.frozen? a) ∧
      ∀ w3, Fr (fun k => w.heap.size ≤ k) w2 w3 → NextEnd w pb own S (.returned p.msg) w3 := by
  obtain ⟨p, rest, v', rfl, hp, hle, ⟨hna, hvn, zs, hz, hzh, hzp⟩, hvb, hf⟩ := h
  have hsub : ∀ k, OwnQ pb v k → own k := by
    rintro k (rfl | h)
    · exact o1
    · exact o2 k h
  refine ⟨p, rfl, hf.size, fun a u ha hlt hno => ⟨hf.cell ha (fun e => hno (hsub _ e)), ?_⟩, fun w3 h3 => ⟨p, rest, rfl, hp, hle, ⟨sv, v', mv, ⟨?_, hvn, zs, ?_, hzh, hzp⟩, ?_, ?_, o1, by rw [hvb]; exact o2, ?_, ?_, ?_⟩, ?_⟩⟩
  · exact World.frozen?_of_block (w := w1) (hf.block a.block hlt (fun e => hno (hsub _ e)))
  all_goals have k3 : ∀ k, k < w.heap.size → w3.heap[k]? = w2.heap[k]? := fun k hk => h3.block k (Nat.lt_of_lt_of_le hk (Nat.le_trans h1.size hf.size)) (by omega)
  · exact hna.keep (k3 pb (o5 pb o1))
  · exact hz.keep fun b hb => k3 b (o5 b (o2 b (by rw [← hvb]; exact hb)))
  · exact hs.keep fun b hb h0 => by
      have hlt := o5 b (o3 b hb h0).1
      rw [k3 b hlt, hf.block b (Nat.lt_of_lt_of_le hlt h1.size) (o3 b hb h0).2, h1.block b hlt (by simp)]
  · exact hg.keep fun b hb => by
      have hlt := o5 b (o4 b hb).1
      rw [k3 b hlt, hf.block b (Nat.lt_of_lt_of_le hlt h1.size) (o4 b hb).2, h1.block b hlt (by simp)]
  · intro g h h0
    refine ⟨(o3 g h h0).1, fun e => (o3 g h h0).2 ?_⟩
    rcases e with e | e
    · exact .inl e
    · exact .inr (by rw [← hvb]; exact e)
  · intro g h
    refine ⟨(o4 g h).1, fun e => (o4 g h).2 ?_⟩
    rcases e with e | e
    · exact .inl e
    · exact .inr (by rw [← hvb]; exact e)
  · intro k hk
    exact Nat.lt_of_lt_of_le (o5 k hk) (Nat.le_trans h1.size (Nat.le_trans hf.size h3.size))
  · exact ((h1.mono (own' := own) (fun _ _ e => e.elim)).trans hf (fun k _ e => hsub k e)).trans h3 (fun k hk e => by omega)

set_option maxHeartbeats 1000000 in
theorem next_some (pb : Nat) (own : Nat → Prop) (S : NSt) (w : World) (h : NetIs w pb own S) (hx : S.wait ≠ []) (hsm : S.wait.length ≤ 1000000) :
    Calls Try.prog 19 #[.pointer (some ⟨pb, 0, none⟩)] w fun e w' => NextEnd w pb own S e w' := by
  obtain ⟨sv, v, mv, hq, hs, hg, o1, o2, o3, o4, o5⟩ := h
  have hlt := hq.1.lt
  have hnow : ¬ own w.heap.size := fun e => by have := o5 _ e; omega
  obtain ⟨ao, cap, hvv, hlen⟩ : ∃ ao cap, v = .slice ao S.wait.length cap ∧ S.wait.length ≤ maxLen := by
    obtain ⟨_, _, ys, hy, _, hp⟩ := hq
    rw [← hp.length_eq]
    obtain ⟨ao, cap, h1, h2⟩ := hy.slice
    exact ⟨ao, cap, h1, h2⟩
  have h0 : 0 < S.wait.length := List.length_pos_iff.2 hx
  have hne : ((S.wait.length : Int) == 0) = false := beq_eq_false_iff_ne.2 (by omega)
  have hw1 : Fr (fun _ => False) w (w.alloc (.cells #[.int .i64 0, .int .i64 0, .string ⟨#[]⟩] 31)) := (Fr.refl _ _).alloc _
  have hq1 : HQ (w.alloc (.cells #[.int .i64 0, .int .i64 0, .string ⟨#[]⟩] 31)) pb (.int .i64 S.nodes) sv v (.int .i64 S.sent) mv S.wait := by
    obtain ⟨hn, hv, ys, hy, hh, hp⟩ := hq
    exact ⟨hn.keep (hw1.block _ hlt (by simp)), hv, ys, hy.keep (fun b hb => hw1.block _ (hy.lt hb) (by simp)), hh, hp⟩
  have hc1 := hq1.1.at.2.2.1
  have HN := Lib.hid (fun e w2 h => next_end (w2 := w2) (e := e) (own := own) hs hg o1 o2 o3 o4 o5 hw1 h)
  have ml := method_Len pb _ _ (by rw [hvv] at hc1; exact hc1)
  have PQ := Lib.hid (heap_pop pb _ sv v _ mv S.wait _ hq1 hx hsm)
  have hres : (w.alloc (.cells #[.int .i64 0, .int .i64 0, .string ⟨#[]⟩] 31)).cell? ⟨w.heap.size, 0, none⟩ = some (.int .i64 0) ∧ (w.alloc (.cells #[.int .i64 0, .int .i64 0, .string ⟨#[]⟩] 31)).cell? ⟨w.heap.size, 1, none⟩ = some (.int .i64 0) ∧
      (w.alloc (.cells #[.int .i64 0, .int .i64 0, .string ⟨#[]⟩] 31)).cell? ⟨w.heap.size, 2, none⟩ = some (.string ⟨#[]⟩) ∧ ∀ o, (w.alloc (.cells #[.int .i64 0, .int .i64 0, .string ⟨#[]⟩] 31)).frozen? ⟨w.heap.size, o, none⟩ = false := by
    have hn := heap_alloc_new w (.cells #[.int .i64 0, .int .i64 0, .string ⟨#[]⟩] 31)
    simp only [cell_of_row _ _ _ _ 31 (0, 0) hn]
    exact ⟨rfl, rfl, rfl, fun o => frozen_of_row _ _ _ _ _ hn⟩
  have HR := Lib.hid hres
  clear hq hs hg o1 o2 o3 o4 o5 hq1 hw1 hx hsm hc1 hres hvv
  go_enter Try.func19, Try.ntmps19
  go_wp2_with fail
  refine (queue_any pb _).mono ?_
  rintro e w1 ⟨rfl, rfl⟩
  go_wp2_with fail
  refine (len_any _ _ _ _ hlen).mono ?_
  rintro e w1 ⟨rfl, rfl⟩
  go_wp2_with fail
  refine (queue_any pb _).mono ?_
  rintro e w1 ⟨rfl, rfl⟩
  clear ml
  go_wp2_with fail
  refine PQ.out.mono ?_
  rintro e w2 hpop
  obtain ⟨p, rfl, hsz, hkeep, hend⟩ := HN.out _ _ hpop
  have HE := Lib.hid hend
  obtain ⟨r0, r1, r2, rz⟩ := HR.out
  have q0 := hkeep _ _ r0 (by simp) hnow
  have q1 := hkeep _ _ r1 (by simp) hnow
  have q2 := hkeep _ _ r2 (by simp) hnow
  rw [rz] at q0 q1 q2
  obtain ⟨a0, z0⟩ := q0
  obtain ⟨a1, z1⟩ := q1
  obtain ⟨a2, z2⟩ := q2
  have hsz2 : w.heap.size < w2.heap.size := by simp at hsz; omega
  clear hpop hkeep hend HN PQ HR r0 r1 r2 rz hsz hnow
  have ta := assert_parcel
  unfold Par.val
  go_wp2_with fail
  clear ta
  go_region
  go_wp2_with fail
  refine bodyPost_ret (v := p.msg) (by simp [results, Try.results19, go_sem, Par.msg, a0, a1, a2, hsz2]) rfl (HE.out _ ?_)
  exact ((((Fr.refl (fun k => w.heap.size ≤ k) w2).setCell (.inr (Nat.le_refl _)) _).setCell (.inr (Nat.le_refl _)) _).setCell (.inr (Nat.le_refl _)) _).alloc _ |>.drew
end Go.Proofs.Ytcadockapeancaa
