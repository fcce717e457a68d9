/- The reference's net in memory; the walks of its New, Part, group and Waiting. -/
import Derived.Test.YtcadockapeancaaPa
import Derived.Laws.AppendOwnNone
import Derived.StillTailTactics
import Derived.Deep.DeepCutAuto
namespace Go.Proofs.Ytcadockapeancaa
open Go.RowKit

/-- What is appended: nil, or a slice whose cells are known. -/
def SrcIs (w : World) (xv : Value) (m : Nat) (news : List Value) : Prop := (xv = .slice none 0 0 ∧ m = 0 ∧ news = []) ∨ ∃ ad c, xv = .slice (some ad) m c ∧ ∀ j u, news[j]? = some u → w.cell? (ad.add j) = some u
theorem wpList_append_src {P : Program} {ops : Array Oper} {rest : List Oper} {o : Oper} {a : Act} {w : World} {Q : Exit → Act → World → Prop} (hgd : o.guard = none) (s x : Operand) (t : TypeId)
    (hop : o.op = Op.call { callee := Callee.builtin Builtin.append, args := #[s, x], argTypes := #[t, t] })
    (base : Nat) (e : TypeId) (i : TypeInfo) (z : Value) (size bytes : Nat) (ht : P.underlying t = some (.slice e)) (hi : P.info? e = some i) (hz : i.zero = some z)
    (hsize : i.size = size) (hby : i.bytes = bytes) (hzs : z.cells.size = size) (hsz : 0 < size)
    (v : Value) (n : Nat) (xs : List Value) (hs : a.eval s = v) (hown : w.ownsRow base e size v n xs)
    (xv : Value) (m : Nat) (news : List Value) (hx : a.eval x = xv) (hsrc : SrcIs w xv m news) (hl : news.length = m * size) (h1 : ∀ u ∈ news, u.oneCell' = true)
    (h63 : n + m ≤ maxLen) (hbytes : (n + m) * bytes ≤ 140737488355328) (hbase : base ≤ w.heap.size)
    (h : ∀ v' w', w'.ownsRow base e size v' (n + m) (xs ++ news) → w.grownBy w' v.ownBlock → wpList P ops Q rest (a.put o.dst v') w') : wpList P ops Q (o :: rest) a w := by
  rcases hsrc with ⟨rfl, rfl, rfl⟩ | ⟨ad, c, rfl, hn⟩
  · refine wpList_append_own_none hgd s x t hop base e i size ht hi v n xs hs hown hx (h v w ?_ ⟨rfl, rfl, rfl, Nat.le_refl _, fun _ _ _ => rfl⟩)
    simpa using hown
  · exact wpList_append_own w hgd s x t hop base e i z size bytes ht hi hz hsize hby hzs hsz v n xs hs hown ad m c news hx hl hn h1 h63 hbytes hbase fun v' w' a b _ => h v' w' a b
theorem Scr.src {w : World} {v : Value} {L : List Tr} (h : Scr w v L) : SrcIs w v L.length (L.flatMap Tr.cells) := by
  rcases h with ⟨rfl | ⟨a, cap, rfl⟩, rfl⟩ | ⟨b, off, cap, rfl, hr, h0⟩
  · exact .inl ⟨rfl, rfl, rfl⟩
  · exact .inr ⟨a, cap, rfl, fun j u hu => by simp at hu⟩
  · exact .inr ⟨_, cap, rfl, hr.news⟩
theorem Ints.src {w : World} {v : Value} {L : List Int} (h : Ints w v L) : SrcIs w v L.length (L.map (Value.int .i64)) := by
  rcases h with ⟨rfl | ⟨a, cap, rfl⟩, rfl⟩ | ⟨b, off, cap, rfl, hr, h0⟩
  · exact .inl ⟨rfl, rfl, rfl⟩
  · exact .inr ⟨a, cap, rfl, fun j u hu => by simp at hu⟩
  · refine .inr ⟨_, cap, rfl, fun j u hu => ?_⟩
    have hj : j < L.length := by
      have := (List.getElem?_eq_some_iff.1 hu).1
      simpa using this
    rw [add_at, hr j hj]
    simp [hj] at hu
    rw [← hu]
    simp [gtI, hj]
theorem ints_owned {w : World} {base : Nat} {v : Value} {n : Nat} {G : List Int} (h : w.ownsRow base 3 1 v n (G.map (Value.int .i64))) (hn : n = G.length) : Ints w v G := by
  subst hn
  by_cases h0 : G.length = 0
  · rcases h.2 with ⟨rfl, _⟩ | ⟨g, cap, cur, rfl, _⟩
    · exact .inl ⟨.inl rfl, List.eq_nil_of_length_eq_zero h0⟩
    · exact .inl ⟨.inr ⟨_, cap, by rw [h0]⟩, List.eq_nil_of_length_eq_zero h0⟩
  · obtain ⟨g, cap, rfl, _, _, _⟩ := ownsRow_form h (by omega)
    exact (ints_of_owns h rfl (by omega)).1

/-- The reference's struct in memory. -/
def RefAt (w : World) (pb : Nat) (c0 c1 c2 c3 c4 : Value) : Prop := w.heap[pb]? = some (.cells #[c0, c1, c2, c3, c4] 67 (0, 0))
theorem RefAt.lt {w : World} {pb : Nat} {c0 c1 c2 c3 c4 : Value} (h : RefAt w pb c0 c1 c2 c3 c4) : pb < w.heap.size := heap_lt h
theorem RefAt.at {w : World} {pb : Nat} {c0 c1 c2 c3 c4 : Value} (h : RefAt w pb c0 c1 c2 c3 c4) :
    w.cell? ⟨pb, 0, none⟩ = some c0 ∧ w.cell? ⟨pb, 1, none⟩ = some c1 ∧ w.cell? ⟨pb, 2, none⟩ = some c2 ∧ w.cell? ⟨pb, 3, none⟩ = some c3 ∧ w.cell? ⟨pb, 4, none⟩ = some c4 := by
  simp only [cell_of_row w pb _ _ 67 (0, 0) h]
  exact ⟨rfl, rfl, rfl, rfl, rfl⟩
theorem RefAt.free {w : World} {pb : Nat} {c0 c1 c2 c3 c4 : Value} (h : RefAt w pb c0 c1 c2 c3 c4) (o : Nat) : w.frozen? ⟨pb, o, none⟩ = false := frozen_of_row w pb o _ 67 h
theorem RefAt.keep {w w' : World} {pb : Nat} {c0 c1 c2 c3 c4 : Value} (h : RefAt w pb c0 c1 c2 c3 c4) (hk : w'.heap[pb]? = w.heap[pb]?) : RefAt w' pb c0 c1 c2 c3 c4 := by rw [RefAt, hk]; exact h
theorem RefAt.set2 {w : World} {pb : Nat} {c0 c1 c2 c3 c4 : Value} (h : RefAt w pb c0 c1 c2 c3 c4) (v : Value) : RefAt (w.setCell ⟨pb, 2, none⟩ v) pb c0 c1 v c3 c4 := heap_setCell_same w pb 2 _ 67 v h
theorem RefAt.set3 {w : World} {pb : Nat} {c0 c1 c2 c3 c4 : Value} (h : RefAt w pb c0 c1 c2 c3 c4) (v : Value) : RefAt (w.setCell ⟨pb, 3, none⟩ v) pb c0 c1 c2 v c4 := heap_setCell_same w pb 3 _ 67 v h
theorem RefAt.set4 {w : World} {pb : Nat} {c0 c1 c2 c3 c4 : Value} (h : RefAt w pb c0 c1 c2 c3 c4) (v : Value) : RefAt (w.setCell ⟨pb, 4, none⟩ v) pb c0 c1 c2 c3 v := heap_setCell_same w pb 4 _ 67 v h

/-- Its parts, apart from each other. -/
structure RefHas (w : World) (pb : Nat) (own : Nat → Prop) (S : NSt) (sv lv gv : Value) : Prop where
  rat : RefAt w pb (.int .i64 S.nodes) sv lv (.int .i64 S.sent) gv
  scr : Scr w sv S.script
  row : w.ownsRow 0 78 5 lv S.wait.length (rowOf S.wait)
  grp : Ints w gv S.groups
  o1 : own pb
  o2 : ∀ g, lv.ownBlock = some g → own g ∧ g ≠ pb
  o3 : ∀ g, sv.ownBlock = some g → 0 < S.script.length → own g ∧ g ≠ pb ∧ lv.ownBlock ≠ some g
  o4 : ∀ g, gv.ownBlock = some g → 0 < S.groups.length → own g ∧ g ≠ pb ∧ lv.ownBlock ≠ some g
  o5 : ∀ k, own k → k < w.heap.size
def RefIs (w : World) (pb : Nat) (own : Nat → Prop) (S : NSt) : Prop := ∃ sv lv gv, RefHas w pb own S sv lv gv
theorem row_keep {w w' : World} {base : Nat} {v : Value} {n : Nat} {xs : List Value} (h : w.ownsRow base 78 5 v n xs) (hk : ∀ b, v.ownBlock = some b → w'.heap[b]? = w.heap[b]?) : w'.ownsRow base 78 5 v n xs := by
  refine ⟨h.1, ?_⟩
  rcases h.2 with h | ⟨g, cap, cur, rfl, hb, hg, r⟩
  · exact .inl h
  · exact .inr ⟨g, cap, cur, rfl, hb, (hk g rfl).trans hg, r⟩
theorem RefIs.keepOn {w w' : World} {pb : Nat} {own : Nat → Prop} {S : NSt} (h : RefIs w pb own S) (hk : ∀ k, own k → w'.heap[k]? = w.heap[k]?) : RefIs w' pb own S := by
  obtain ⟨sv, lv, gv, r⟩ := h
  refine ⟨sv, lv, gv, r.rat.keep (hk pb r.o1), r.scr.keep fun b hb h0 => hk b (r.o3 b hb h0).1, row_keep r.row fun b hb => hk b (r.o2 b hb).1, r.grp.keep fun b hb h0 => hk b (r.o4 b hb h0).1, r.o1, r.o2, r.o3, r.o4, fun k hok => ?_⟩
  have h1 := hk k hok
  have h2 := r.o5 k hok
  rw [Array.getElem?_eq_getElem h2] at h1
  exact (Array.getElem?_eq_some_iff.1 h1).1
theorem RefIs.frame {w w' : World} {pb : Nat} {own other : Nat → Prop} {S : NSt} (h : RefIs w pb own S) (hf : Fr other w w') (hd : ∀ k, own k → ¬ other k) : RefIs w' pb own S := by
  have h5 : ∀ k, own k → k < w.heap.size := by obtain ⟨_, _, _, r⟩ := h; exact r.o5
  exact h.keepOn fun k hk => hf.block k (h5 k hk) (hd k hk)

def RNewEnd (w : World) (nodes : Int) (L : List Tr) (e : Ending) (w' : World) : Prop :=
  ∃ pb own, e = .returned (.pointer (some ⟨pb, 0, none⟩)) ∧ RefIs w' pb own ⟨nodes, L, [], 0, []⟩ ∧ (∀ k, own k → w.heap.size ≤ k) ∧ Below w.heap.size w w'
theorem rnew_end {w w1 : World} {nodes : Int} {L : List Tr} {sv : Value} (hs : Scr w1 sv L) (hb : ∀ g, sv.ownBlock = some g → w.heap.size ≤ g) (hbl : Below w.heap.size w w1) :
    RNewEnd w nodes L (.returned (.pointer (some ⟨w1.heap.size, 0, none⟩))) (w1.alloc (.cells #[.int .i64 nodes, sv, .slice none 0 0, .int .i64 0, .slice none 0 0] 67)) := by
  refine ⟨w1.heap.size, fun k => k = w1.heap.size ∨ (sv.ownBlock = some k ∧ 0 < L.length), rfl, ⟨sv, .slice none 0 0, .slice none 0 0, heap_alloc_new w1 _, ?_, World.ownsRow_nil _ _ _ _, .inl ⟨.inl rfl, rfl⟩, .inl rfl, fun g hg => by simp [Value.ownBlock] at hg, ?_, fun g hg => by simp [Value.ownBlock] at hg, ?_⟩, ?_, hbl.alloc hbl.size _⟩
  · exact hs.keep fun b hb' h0 => Below.heap_alloc w1 _ b (hs.lt hb' h0)
  · intro g hg h0
    have := hs.lt hg h0
    exact ⟨.inr ⟨hg, h0⟩, by omega, by simp [Value.ownBlock]⟩
  · rintro k (rfl | ⟨h, h0⟩)
    · simp
    · have := hs.lt h h0
      simp
      omega
  · rintro k (rfl | ⟨h, h0⟩)
    · exact hbl.size
    · exact hb k h
theorem rcopy_scr {w w1 : World} {L : List Tr} {v' : Value} (ho : w1.ownsRow w.heap.size 44 3 v' (0 + L.length) ([] ++ L.flatMap Tr.cells)) (hg : (w.alloc (.cells #[] 44)).grownBy w1 (some w.heap.size)) :
    Scr w1 v' L ∧ (∀ g, v'.ownBlock = some g → w.heap.size ≤ g) ∧ Below w.heap.size w w1 := by
  rw [List.nil_append] at ho
  exact ⟨scr_of_owns ho (by omega), fun g h => (ho.lt g h).1, ((Below.refl _ _).alloc (Nat.le_refl _) _).grown hg (by simp) (fun k hk => by cases hk; exact Nat.le_refl _)⟩

set_option maxHeartbeats 1000000 in
theorem rnew_any (nodes : Int) (v : Value) (L : List Tr) (w : World) (h : Scr w v L) (hL : L.length ≤ 1000000) : Calls Try.prog 14 #[.int .i64 nodes, v] w fun e w' => RNewEnd w nodes L e w' := by
  obtain ⟨a, cap, rfl⟩ := h.slice
  obtain ⟨i0, hi, hz0, hz1, hz2⟩ := info_parts Try.info44
  have hown := World.ownsRow_made (e := 44) (size := 3) w #[] 0 (Nat.le_refl _) (by unfold maxLen; omega) rfl
  have hsrc := Lib.hid (h.keep (w' := w.alloc (.cells #[] 44)) (fun b hb h0 => Below.heap_alloc w _ b (h.lt hb h0))).src
  have hlen := Lib.hid (flat_length Tr.cells 3 Tr.cells_length L)
  have h63 : 0 + L.length ≤ maxLen := by unfold maxLen; omega
  have HC := Lib.hid (fun v' w1 ho hg => rcopy_scr (w := w) (w1 := w1) (L := L) (v' := v') ho hg)
  clear h
  go_enter Try.func14, Try.ntmps14
  go_wp2_with (at_builtin; go_must (refine wpList_append_src rfl (.tmp 6) (.tmp 7) 22 rfl w.heap.size 44 i0 _ 3 24 Try.underlying22 hi hz0 hz1 hz2 rfl (by decide) _ 0 [] rfl hown _ L.length (L.flatMap Tr.cells) rfl hsrc.out hlen.out Tr.cells_one h63 (by omega) (by simp) ?_); intro v' w1 ho hg; obtain ⟨s1, s2, s3⟩ := HC.out v' w1 ho hg; obtain ⟨a', cap', rfl⟩ := s1.slice)
  have HE := Lib.hid (rnew_end (nodes := nodes) s1 s2 s3)
  clear ho hg s1 s2 s3 hsrc HC hown
  go_wp2_with fail
  go_ret
  exact HE.out

set_option maxHeartbeats 400000 in
theorem rwaiting_any (pb : Nat) (own : Nat → Prop) (S : NSt) (w : World) (h : RefIs w pb own S) : Calls Try.prog 22 #[.pointer (some ⟨pb, 0, none⟩)] w fun e w' => e = .returned (.int .i64 S.wait.length) ∧ w = w' := by
  obtain ⟨sv, lv, gv, r⟩ := h
  have hc := r.rat.at.2.2.1
  have hm : ∃ a cap, lv = .slice a S.wait.length cap ∧ S.wait.length ≤ maxLen := by
    rcases r.row.2 with ⟨rfl, h0⟩ | ⟨g, cap, cur, rfl, _, _, hc, hm, _⟩
    · exact ⟨none, 0, by rw [h0], by omega⟩
    · exact ⟨_, cap, rfl, by omega⟩
  obtain ⟨a, cap, rfl, hm⟩ := hm
  clear r
  generalize S.wait.length = n at *
  unfold maxLen at hm
  go_enter Try.func22, Try.ntmps22
  go_wp2_with fail
  go_ret
  exact ⟨rfl, rfl⟩

set_option maxHeartbeats 400000 in
theorem rgroup_any (pb : Nat) (c0 c1 c2 c3 gv : Value) (G : List Int) (i : Int) (w : World) (h : RefAt w pb c0 c1 c2 c3 gv) (hg : Ints w gv G) (hm : G.length ≤ maxLen) (h0 : 0 ≤ i) : Calls Try.prog 28 #[.pointer (some ⟨pb, 0, none⟩), .int .i64 i] w fun e w' => e = .returned (.int .i64 (groupOf G i)) ∧ w = w' := by
  obtain ⟨k, rfl⟩ := Int.eq_ofNat_of_zero_le h0
  obtain ⟨a, cap, rfl⟩ := hg.slice
  have hc := h.at.2.2.2.2
  have hin : groupOf G (k : Int) = gtI G k := by unfold groupOf gtI; rw [if_neg (by omega)]; rfl
  by_cases hk : k < G.length
  · have hk' : (k : Int) < (G.length : Int) := by omega
    have hcell : ∃ b off, a = some ⟨b, off, none⟩ ∧ w.cell? ⟨b, off + k, none⟩ = some (.int .i64 (gtI G k)) := by
      rcases hg with ⟨_, rfl⟩ | ⟨b, off, cap', hv, hr, h0⟩
      · simp at hk
      · simp only [Value.slice.injEq] at hv
        obtain ⟨rfl, _, rfl⟩ := hv
        exact ⟨b, off, rfl, hr k hk⟩
    obtain ⟨b, off, rfl, hcl⟩ := hcell
    rw [hin]
    clear hin h hg
    unfold maxLen at hm
    generalize gtI G k = x at *
    go_enter Try.func28, Try.ntmps28
    go_wp2_with fail
    go_ret
    exact ⟨rfl, rfl⟩
  · have hk' : (G.length : Int) ≤ (k : Int) := by omega
    have : gtI G k = 0 := by simp [gtI, List.getElem?_eq_none (by omega : G.length ≤ k)]
    rw [hin, this]
    clear hin h hg this
    unfold maxLen at hm
    go_enter Try.func28, Try.ntmps28
    go_wp2_with fail
    go_ret
    exact ⟨rfl, rfl⟩
end Go.Proofs.Ytcadockapeancaa
