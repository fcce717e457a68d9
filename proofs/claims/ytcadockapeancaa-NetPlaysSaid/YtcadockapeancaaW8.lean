/- The walks of slices.Clone and of New. -/
import Derived.Test.YtcadockapeancaaW7
namespace Go.Proofs.Ytcadockapeancaa
open Go.RowKit

def CloneEnd (w : World) (L : List Tr) (e : Ending) (w' : World) : Prop :=
  ∃ v, e = .returned v ∧ Scr w' v L ∧ (∀ g, v.ownBlock = some g → w.heap.size ≤ g) ∧ Below w.heap.size w w'
theorem Try.info44 : (Try.prog.info? 44).map (fun i => (i.zero, i.size, i.bytes)) = some (some (.agg #[.bool false, .int .i64 0, .int .i64 0]), 3, 24) := by kernel_rfl

set_option maxHeartbeats 400000 in
theorem clone_nil (w : World) : Calls Try.prog 23 #[.slice none 0 0] w fun e w' => CloneEnd w [] e w' := by
  have hs := Lib.run_eql_slice_nil (P := Try.prog)
  go_enter Try.func23, Try.ntmps23
  go_wp2
  go_ret
  exact ⟨_, rfl, .inl ⟨.inl rfl, rfl⟩, by simp [Value.ownBlock], Below.refl _ _⟩

set_option maxHeartbeats 400000 in
theorem clone_empty (a : Addr) (cap : Nat) (w : World) : Calls Try.prog 23 #[.slice (some a) 0 cap] w fun e w' => CloneEnd w [] e w' := by
  have hs := fun (w : World) (a : Option Addr) (n c : Nat) => Lib.run_eql_slice_nil (P := Try.prog) w 22 44 a n c 0 0 Try.underlying22
  go_enter Try.func23, Try.ntmps23
  go_wp2_with fail
  go_ret
  exact ⟨_, rfl, .inl ⟨.inr ⟨_, 0, rfl⟩, rfl⟩, by simp [Value.ownBlock], (Below.refl _ _).alloc (Nat.le_refl _) _⟩
theorem clone_end {w w1 : World} {L : List Tr} {g cap : Nat} (h0 : 0 < L.length) (ho : w1.ownsRow w.heap.size 44 3 (.slice (some ⟨g, 0, none⟩) (0 + L.length) cap) (0 + L.length) ([] ++ L.flatMap Tr.cells))
    (hg : (w.alloc (.cells #[] 44)).grownBy w1 (some w.heap.size)) : CloneEnd w L (.returned (.slice (some ⟨g, 0, none⟩) L.length cap)) w1 := by
  rw [Nat.zero_add, List.nil_append] at ho
  refine ⟨.slice (some ⟨g, 0, none⟩) L.length cap, rfl, .inr ⟨g, 0, cap, rfl, TrAt.of_owns ho, h0⟩, ?_, ?_⟩
  · intro k hk
    exact (ho.lt k hk).1
  · exact ((Below.refl _ _).alloc (Nat.le_refl _) _).grown hg (by simp) (fun k hk => by cases hk; exact Nat.le_refl _)
set_option maxHeartbeats 400000 in
theorem clone_some (b off : Nat) (L : List Tr) (cap : Nat) (w : World) (hr : TrAt w b off L) (h0 : 0 < L.length) (hL : L.length ≤ 1000000) : Calls Try.prog 23 #[.slice (some ⟨b, off, none⟩) L.length cap] w fun e w' => CloneEnd w L e w' := by
  have hs := fun (w : World) (a : Option Addr) (n c : Nat) => Lib.run_eql_slice_nil (P := Try.prog) w 22 44 a n c 0 0 Try.underlying22
  obtain ⟨i0, hi, hz0, hz1, hz2⟩ := info_parts Try.info44
  have hown := World.ownsRow_made (e := 44) (size := 3) w #[] 0 (Nat.le_refl _) (by unfold maxLen; omega) rfl
  have hb := (block_lt_of_cell (hr 0 h0).1)
  have hn := Lib.hid ((hr.keep (w' := w.alloc (.cells #[] 44)) (Below.heap_alloc w _ _ hb)).news)
  have hlen := flat_length Tr.cells 3 Tr.cells_length L
  have HL := Lib.hid hlen
  have h63 : 0 + L.length ≤ maxLen := by unfold maxLen; omega
  clear hlen
  go_enter Try.func23, Try.ntmps23
  go_wp2_with (at_builtin; refine wpList_append_mine rfl (.tmp 5) (.tmp 6) 22 rfl w.heap.size 44 i0 _ 3 24 Try.underlying22 hi hz0 hz1 hz2 rfl (by decide) _ 0 [] rfl hown (by simp) ⟨b, off, none⟩ L.length cap (L.flatMap Tr.cells) rfl HL.out hn.out Tr.cells_one h0 h63 (by omega) ?_; intro g cap' w1 ho hg hd)
  have HE := Lib.hid (clone_end h0 ho hg)
  clear ho hg hd
  go_wp2
  go_ret
  exact HE.out
theorem clone_any (v : Value) (L : List Tr) (w : World) (h : Scr w v L) (hL : L.length ≤ 1000000) : Calls Try.prog 23 #[v] w fun e w' => CloneEnd w L e w' := by
  rcases h with ⟨rfl | ⟨a, cap, rfl⟩, rfl⟩ | ⟨b, off, cap, rfl, hr, h0⟩
  · exact clone_nil w
  · exact clone_empty a cap w
  · exact clone_some b off L cap w hr h0 hL

/-- What a net is. -/
structure NSt where
  nodes : Int
  script : List Tr
  wait : List Par
  sent : Nat
  groups : List Int
/-- A net in memory: its struct at block pb, all that it owns in the blocks of 'own'. -/
def NetIs (w : World) (pb : Nat) (own : Nat → Prop) (S : NSt) : Prop := ∃ sv v mv, HQ w pb (.int .i64 S.nodes) sv v (.int .i64 S.sent) mv S.wait ∧ Scr w sv S.script ∧ Grp w mv S.groups ∧
  own pb ∧ (∀ g, v.ownBlock = some g → own g) ∧ (∀ g, sv.ownBlock = some g → 0 < S.script.length → own g ∧ ¬ OwnQ pb v g) ∧ (∀ g, Value.mapBlock mv = some g → own g ∧ ¬ OwnQ pb v g) ∧ ∀ k, own k → k < w.heap.size

theorem NetIs.frame {w w' : World} {pb : Nat} {own other : Nat → Prop} {S : NSt} (h : NetIs w pb own S) (hf : Fr other w w') (hd : ∀ k, own k → ¬ other k) : NetIs w' pb own S := by
  obtain ⟨sv, v, mv, ⟨hn, hv, ys, hq, hh, hp⟩, hs, hg, o1, o2, o3, o4, o5⟩ := h
  have keep : ∀ k, own k → w'.heap[k]? = w.heap[k]? := fun k hk => hf.block k (o5 k hk) (hd k hk)
  exact ⟨sv, v, mv, ⟨hn.keep (keep pb o1), hv, ys, hq.keep fun b hb => keep b (o2 b hb), hh, hp⟩, hs.keep fun b hb h0 => keep b (o3 b hb h0).1, hg.keep fun b hb => keep b (o4 b hb).1, o1, o2, o3, o4,
    fun k hk => Nat.lt_of_lt_of_le (o5 k hk) hf.size⟩

def NewEnd (w : World) (nodes : Int) (L : List Tr) (e : Ending) (w' : World) : Prop :=
  ∃ pb own, e = .returned (.pointer (some ⟨pb, 0, none⟩)) ∧ NetIs w' pb own ⟨nodes, L, [], 0, []⟩ ∧ (∀ k, own k → w.heap.size ≤ k) ∧ Below w.heap.size w w'
theorem new_end {w w1 : World} {nodes : Int} {L : List Tr} {sv : Value} (hs : Scr w1 sv L) (hb : ∀ g, sv.ownBlock = some g → w.heap.size ≤ g) (hbl : Below w.heap.size w w1) :
    NewEnd w nodes L (.returned (.pointer (some ⟨w1.heap.size, 0, none⟩))) (w1.alloc (.cells #[.int .i64 nodes, sv, .slice none 0 0, .int .i64 0, .map none] 56)) := by
  refine ⟨w1.heap.size, fun k => k = w1.heap.size ∨ (sv.ownBlock = some k ∧ 0 < L.length), rfl, ⟨sv, .slice none 0 0, .map none, ⟨heap_alloc_new w1 _, by simp [Value.ownBlock], [], .inl ⟨rfl, rfl⟩, heap_nil, .refl _⟩, ?_, .inl ⟨rfl, rfl⟩, .inl rfl, by simp [Value.ownBlock], ?_, by simp [Value.mapBlock], ?_⟩, ?_, hbl.alloc hbl.size _⟩
  · exact hs.keep fun b hb' h0 => Below.heap_alloc w1 _ b (hs.lt hb' h0)
  · intro g hg h0
    have := hs.lt hg h0
    refine ⟨.inr ⟨hg, h0⟩, ?_⟩
    rintro (rfl | h)
    · omega
    · simp [Value.ownBlock] at h
  · rintro k (rfl | ⟨h, h0⟩)
    · simp
    · have := hs.lt h h0
      simp
      omega
  · rintro k (rfl | ⟨h, h0⟩)
    · exact hbl.size
    · exact hb k h

set_option maxHeartbeats 400000 in
theorem new_any (nodes : Int) (sv : Value) (L : List Tr) (w : World) (h : Scr w sv L) (hL : L.length ≤ 1000000) : Calls Try.prog 13 #[.int .i64 nodes, sv] w fun e w' => NewEnd w nodes L e w' := by
  go_enter Try.func13, Try.ntmps13
  go_wp2_with fail
  refine (clone_any sv L _ h hL).mono ?_
  rintro e w1 ⟨sv', rfl, hs, hb, hbl⟩
  obtain ⟨a', cap', rfl⟩ := hs.slice
  have HE := Lib.hid (new_end (nodes := nodes) hs hb hbl)
  clear hs hb hbl
  go_wp2_with fail
  go_ret
  exact HE.out
end Go.Proofs.Ytcadockapeancaa
