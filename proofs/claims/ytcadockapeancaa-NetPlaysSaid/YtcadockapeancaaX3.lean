/- The walk of the reference's Next. -/
import Derived.Test.YtcadockapeancaaX2
namespace Go.Proofs.Ytcadockapeancaa
open Go.RowKit

theorem Try.info78 : (Try.prog.info? 78).map (fun i => (i.zero, i.size, i.bytes)) = some (some (.agg #[.int .i64 0, .int .i64 0, .string ByteArray.empty, .int .i64 0, .int .i64 0]), 5, 48) := by kernel_rfl
theorem cells_row {xs : List Par} : ∀ u ∈ rowOf xs, u.oneCell' = true := by
  intro u hu
  unfold rowOf at hu
  rw [List.mem_flatMap] at hu
  obtain ⟨p, _, hp⟩ := hu
  simp only [Par.cells, List.mem_cons, List.not_mem_nil, or_false] at hp
  rcases hp with rfl | rfl | rfl | rfl | rfl <;> rfl
/-- A copy's cells in the row. -/
theorem row_at {w : World} {base g n cap : Nat} {xs : List Par} (h : w.ownsRow base 78 5 (.slice (some ⟨g, 0, none⟩) n cap) n (rowOf xs)) (k : Nat) (hk : k < xs.length) :
    w.cell? ⟨g, k * 5, none⟩ = some (.int .i64 (gt xs k).f) ∧ w.cell? ⟨g, k * 5 + 1, none⟩ = some (.int .i64 (gt xs k).t) ∧ w.cell? ⟨g, k * 5 + 2, none⟩ = some (.string (gt xs k).s) ∧
    w.cell? ⟨g, k * 5 + 3, none⟩ = some (.int .i64 (gt xs k).at_) ∧ w.cell? ⟨g, k * 5 + 4, none⟩ = some (.int .i64 (gt xs k).sent) := by
  have key : ∀ r u, r < 5 → (gt xs k).cells[r]? = some u → w.cell? ⟨g, k * 5 + r, none⟩ = some u := by
    intro r u hr hu
    have := h.cells (g := g) rfl (k * 5 + r) u (by rw [rowOf_get xs k r hr hk]; exact hu)
    rwa [add_at, Nat.zero_add] at this
  exact ⟨key 0 _ (by omega) rfl, key 1 _ (by omega) rfl, key 2 _ (by omega) rfl, key 3 _ (by omega) rfl, key 4 _ (by omega) rfl⟩
/-- A part of the row as a source of an append. -/
theorem row_src {w : World} {g c : Nat} {xs : List Par} (h : ∀ j u, (rowOf xs)[j]? = some u → w.cell? ((⟨g, 0, none⟩ : Addr).add j) = some u) (b : Nat) (hb : b ≤ xs.length) : SrcIs w (.slice (some ⟨g, 0, none⟩) b c) b (rowOf (xs.take b)) := by
  refine .inr ⟨_, _, rfl, fun j u hu => h j u ?_⟩
  have e : rowOf xs = rowOf (xs.take b) ++ rowOf (xs.drop b) := by unfold rowOf; rw [← List.flatMap_append, List.take_append_drop]
  have hj := (List.getElem?_eq_some_iff.1 hu).1
  rw [e, List.getElem?_append_left hj]
  exact hu
theorem row_src2 {w : World} {g c : Nat} {xs : List Par} (h : ∀ j u, (rowOf xs)[j]? = some u → w.cell? ((⟨g, 0, none⟩ : Addr).add j) = some u) (b m : Nat) (hb : b ≤ xs.length) (hm : m = xs.length - b) : SrcIs w (.slice (some ⟨g, b * 5, none⟩) m c) m (rowOf (xs.drop b)) := by
  subst hm
  refine .inr ⟨_, _, rfl, fun j u hu => ?_⟩
  have e : rowOf xs = rowOf (xs.take b) ++ rowOf (xs.drop b) := by unfold rowOf; rw [← List.flatMap_append, List.take_append_drop]
  have hl : (rowOf (xs.take b)).length = b * 5 := by rw [rowOf_length, List.length_take, Nat.min_eq_left hb]
  have := h (b * 5 + j) u (by rw [e, List.getElem?_append_right (by omega), hl, Nat.add_sub_cancel_left]; exact hu)
  rw [add_at] at this ⊢
  rwa [Nat.zero_add] at this

def RNextEnd (w : World) (pb : Nat) (own : Nat → Prop) (S : NSt) (e : Ending) (w' : World) : Prop :=
  e = .returned (msgOf S.wait) ∧ ∃ own', RefIs w' pb own' S.next ∧ Fr own w w' ∧ ∀ k, own' k → own k ∨ w.heap.size ≤ k
/-- What the two appends and the store leave. -/
theorem rnext_end {w w1 : World} {pb : Nat} {own : Nat → Prop} {S : NSt} {sv lv gv v' : Value} (h : RefHas w pb own S sv lv gv) (hb : Below w.heap.size w w1) {n : Nat} (hn : n = (left S.wait).length) (hi : w1.ownsRow w.heap.size 78 5 v' n (rowOf (left S.wait))) {w2 : World}
    (h2 : Fr (fun k => w.heap.size ≤ k ∧ v'.ownBlock ≠ some k) (w1.setCell ⟨pb, 2, none⟩ v') w2) : ∃ own', RefIs w2 pb own' S.next ∧ Fr own w w2 ∧ ∀ k, own' k → own k ∨ w.heap.size ≤ k := by
  subst hn
  have hlt := h.o5
  have hpb := hlt pb h.o1
  have hvn : ∀ g, v'.ownBlock = some g → w.heap.size ≤ g ∧ g < w1.heap.size := fun g hg => hi.lt g hg
  have hsz : ∀ k, k < w.heap.size → k < (w1.setCell ⟨pb, 2, none⟩ v').heap.size := fun k hk => by rw [size_setCell]; exact Nat.lt_of_lt_of_le hk hb.size
  have hk : ∀ k, k < w.heap.size → k ≠ pb → w2.heap[k]? = w.heap[k]? := fun k hk hne => (h2.block k (hsz k hk) (by omega)).trans ((heap_setCell_other w1 ⟨pb, 2, none⟩ k v' hne).trans (hb.block k hk))
  obtain ⟨p1, p2, p3⟩ := h.parts (w' := w2) (fun k ho hne => hk k (hlt k ho) hne)
  have hf : Fr own w w2 := ((Fr.ofBelow0 own hb).setCell (p := ⟨pb, 2, none⟩) (.inr h.o1) v').trans h2 (fun k hk e => by omega)
  refine ⟨fun k => own k ∨ v'.ownBlock = some k, ⟨sv, v', gv, ((h.rat.keep (hb.block pb hpb)).set2 v').keep (h2.block pb (hsz pb hpb) (by omega)), p1, ?_, p3, .inl h.o1, fun g hg => ⟨.inr hg, by have := hvn g hg; omega⟩, fun g hg h0 => ⟨.inl (h.o3 g hg h0).1, (h.o3 g hg h0).2.1, fun e => by have := hvn g e; have := hlt g (h.o3 g hg h0).1; omega⟩,
    fun g hg h0 => ⟨.inl (h.o4 g hg h0).1, (h.o4 g hg h0).2.1, fun e => by have := hvn g e; have := hlt g (h.o4 g hg h0).1; omega⟩, ?_⟩, hf, ?_⟩
  · have : (w2.ownsRow w.heap.size 78 5 v' (left S.wait).length (rowOf (left S.wait))) := row_keep hi fun b hb' => (h2.block b (by rw [size_setCell]; exact (hvn b hb').2) (fun e => e.2 hb')).trans (heap_setCell_other w1 ⟨pb, 2, none⟩ b v' (by have := (hvn b hb').1; show b ≠ pb; omega))
    refine ⟨this.1, ?_⟩
    rcases this.2 with h' | ⟨g, cap, cur, hv, _, r⟩
    · exact .inl h'
    · exact .inr ⟨g, cap, cur, hv, Nat.zero_le _, r⟩
  · rintro k (h' | h')
    · exact Nat.lt_of_lt_of_le (hlt k h') hf.size
    · exact Nat.lt_of_lt_of_le (hvn k h').2 (by have := h2.size; rwa [size_setCell] at this)
  · rintro k (h' | h')
    · exact .inl h'
    · exact .inr (hvn k h').1

set_option maxHeartbeats 1000000 in
theorem rnext_empty (pb : Nat) (own : Nat → Prop) (S : NSt) (w : World) (h : RefIs w pb own S) (h0 : S.wait = []) : Calls Try.prog 20 #[.pointer (some ⟨pb, 0, none⟩)] w fun e w' => RNextEnd w pb own S e w' := by
  obtain ⟨sv, lv, gv, r⟩ := h
  have hm : ∃ a cap, lv = .slice a 0 cap := by
    have hr := r.row
    rw [h0] at hr
    rcases hr.2 with ⟨rfl, _⟩ | ⟨g, cap, cur, rfl, _⟩
    · exact ⟨none, 0, rfl⟩
    · exact ⟨_, cap, rfl⟩
  obtain ⟨a, cap, rfl⟩ := hm
  have hlt := r.o5 pb r.o1
  have hc := (r.rat.keep (w' := w.alloc (.cells #[.int .i64 0, .int .i64 0, .string ⟨#[]⟩] 31)) (Below.heap_alloc w _ _ hlt)).at.2.2.1
  have e : S.next = S := by
    obtain ⟨a1, a2, a3, a4, a5⟩ := S
    simp only at h0
    subst h0
    rfl
  have HE : Hid (RNextEnd w pb own S (.returned noMsg) (w.alloc (.cells #[.int .i64 0, .int .i64 0, .string ⟨#[]⟩] 31))) := by
    refine Lib.hid ⟨by rw [h0]; rfl, own, ?_, (Fr.refl own w).alloc _, fun k hk => .inl hk⟩
    rw [e]
    exact RefIs.frame ⟨_, _, _, r⟩ ((Fr.refl (fun _ => False) w).alloc _) (fun _ _ e => e)
  clear r h0 e
  go_enter Try.func20, Try.ntmps20
  go_wp2_with fail
  refine bodyPost_ret (v := noMsg) (by simp [results, Try.results20, go_sem, noMsg]) rfl ?_
  exact HE.out
end Go.Proofs.Ytcadockapeancaa
