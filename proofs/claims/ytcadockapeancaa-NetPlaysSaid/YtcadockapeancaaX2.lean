/- The walks of the reference's Part and Next. -/
import Derived.Test.YtcadockapeancaaX1
import Derived.Test.YtcadockapeancaaWE
namespace Go.Proofs.Ytcadockapeancaa
open Go.RowKit

/-- The parts that do not lie in the struct, where only the struct and new blocks may have turned. -/
theorem RefHas.parts {w w' : World} {pb : Nat} {own : Nat → Prop} {S : NSt} {sv lv gv : Value} (h : RefHas w pb own S sv lv gv) (hk : ∀ k, own k → k ≠ pb → w'.heap[k]? = w.heap[k]?) :
    Scr w' sv S.script ∧ w'.ownsRow 0 78 5 lv S.wait.length (rowOf S.wait) ∧ Ints w' gv S.groups :=
  ⟨h.scr.keep fun b hb h0 => hk b (h.o3 b hb h0).1 (h.o3 b hb h0).2.1, row_keep h.row fun b hb => hk b (h.o2 b hb).1 (h.o2 b hb).2, h.grp.keep fun b hb h0 => hk b (h.o4 b hb h0).1 (h.o4 b hb h0).2.1⟩
def RSentEnd (w : World) (pb : Nat) (own : Nat → Prop) (S' : NSt) (e : Ending) (w' : World) : Prop :=
  e = .returned (.tuple #[]) ∧ ∃ own', RefIs w' pb own' S' ∧ Fr own w w' ∧ ∀ k, own' k → own k ∨ w.heap.size ≤ k
theorem rpart_end {w w1 : World} {pb : Nat} {own : Nat → Prop} {S : NSt} {sv lv gv v' : Value} {L : List Int} (h : RefHas w pb own S sv lv gv) (hb : Below w.heap.size w w1) (hi : Ints w1 v' L) (hn : ∀ g, v'.ownBlock = some g → w.heap.size ≤ g ∧ g < w1.heap.size) :
    RSentEnd w pb own { S with groups := L } (.returned (.tuple #[])) (w1.setCell ⟨pb, 4, none⟩ v') := by
  have hlt := h.o5
  have hpb := hlt pb h.o1
  have hk : ∀ k, k < w.heap.size → k ≠ pb → (w1.setCell ⟨pb, 4, none⟩ v').heap[k]? = w.heap[k]? := fun k hk hne => (heap_setCell_other w1 ⟨pb, 4, none⟩ k v' hne).trans (hb.block k hk)
  obtain ⟨p1, p2, p3⟩ := h.parts (w' := w1.setCell ⟨pb, 4, none⟩ v') (fun k ho hne => hk k (hlt k ho) hne)
  have hf : Fr own w (w1.setCell ⟨pb, 4, none⟩ v') := (Fr.ofBelow0 own hb).setCell (.inr h.o1) _
  refine ⟨rfl, fun k => own k ∨ (v'.ownBlock = some k), ⟨sv, lv, v', (h.rat.keep (hb.block pb hpb)).set4 v', p1, p2, ?_, .inl h.o1, fun g hg => ⟨.inl (h.o2 g hg).1, (h.o2 g hg).2⟩, fun g hg h0 => ⟨.inl (h.o3 g hg h0).1, (h.o3 g hg h0).2⟩, fun g hg h0 => ?_, ?_⟩, hf, ?_⟩
  · exact hi.keep fun b hb' h0 => heap_setCell_other w1 ⟨pb, 4, none⟩ b v' (by have := (hn b hb').1; show b ≠ pb; omega)
  · have := hn g hg
    exact ⟨.inr hg, by omega, fun e => by have := hlt g (h.o2 g e).1; omega⟩
  · rintro k (h' | h')
    · exact Nat.lt_of_lt_of_le (hlt k h') hf.size
    · rw [size_setCell]; exact (hn k h').2
  · rintro k (h' | h')
    · exact .inl h'
    · exact .inr (hn k h').1
theorem rcopy_ints {w w1 : World} {L : List Int} {v' : Value} (ho : w1.ownsRow w.heap.size 3 1 v' (0 + L.length) ([] ++ L.map (Value.int .i64))) (hg : (w.alloc (.cells #[] 3)).grownBy w1 (some w.heap.size)) :
    Ints w1 v' L ∧ (∀ g, v'.ownBlock = some g → w.heap.size ≤ g ∧ g < w1.heap.size) ∧ Below w.heap.size w w1 := by
  rw [List.nil_append] at ho
  exact ⟨ints_owned ho (by omega), fun g h => ho.lt g h, ((Below.refl _ _).alloc (Nat.le_refl _) _).grown hg (by simp) (fun k hk => by cases hk; exact Nat.le_refl _)⟩
theorem Try.info3' : (Try.prog.info? 3).map (fun i => (i.zero, i.size, i.bytes)) = some (some (.int .i64 0), 1, 8) := by kernel_rfl

set_option maxHeartbeats 1000000 in
theorem rpart_any (pb : Nat) (own : Nat → Prop) (S : NSt) (v : Value) (L : List Int) (w : World) (h : RefIs w pb own S) (hi : Ints w v L) (hm : L.length * 8 ≤ 140737488355328) :
    Calls Try.prog 18 #[.pointer (some ⟨pb, 0, none⟩), v] w fun e w' => RSentEnd w pb own { S with groups := L } e w' := by
  obtain ⟨sv, lv, gv, r⟩ := h
  obtain ⟨a, cap, rfl⟩ := hi.slice
  obtain ⟨i0, hi0, hz0, hz1, hz2⟩ := info_parts Try.info3'
  have hown := World.ownsRow_made (e := 3) (size := 1) w #[] 0 (Nat.le_refl _) (by unfold maxLen; omega) rfl
  have hsrc := Lib.hid (hi.keep (w' := w.alloc (.cells #[] 3)) (fun b hb h0 => Below.heap_alloc w _ b (hi.lt hb h0))).src
  have hlen := Lib.hid (show (L.map (Value.int .i64)).length = L.length * 1 by simp)
  have h63 : 0 + L.length ≤ maxLen := by unfold maxLen; omega
  have hpb := r.o5 pb r.o1
  have HR := Lib.hid r
  have HC := Lib.hid (fun v' w1 ho hg => rcopy_ints (w := w) (w1 := w1) (L := L) (v' := v') ho hg)
  clear hi r
  go_enter Try.func18, Try.ntmps18
  go_wp2_with (at_builtin; go_must (refine wpList_append_src rfl (.tmp 5) (.tmp 6) 32 rfl w.heap.size 3 i0 _ 1 8 Try.underlying32 hi0 hz0 hz1 hz2 rfl (by decide) _ 0 [] rfl hown _ L.length (L.map (Value.int .i64)) rfl hsrc.out hlen.out ints_cells_one h63 (by omega) (by simp) ?_); intro v' w1 ho hg; obtain ⟨s1, s2, s3⟩ := HC.out v' w1 ho hg; obtain ⟨a', cap', rfl⟩ := s1.slice; have c4 := (HR.out.rat.keep (s3.block pb hpb)).at.2.2.2.2; have z4 := (HR.out.rat.keep (s3.block pb hpb)).free 4; have hp1 := (HR.out.rat.keep (s3.block pb hpb)).lt)
  have HE := Lib.hid (rpart_end HR.out s3 s1 s2)
  clear ho hg s1 s2 s3 hsrc HC hown
  go_wp2_with fail
  go_end0
  exact HE.out
end Go.Proofs.Ytcadockapeancaa
