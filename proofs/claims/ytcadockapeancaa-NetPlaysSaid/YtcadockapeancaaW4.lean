/- The walks of Push. -/
import Derived.Test.YtcadockapeancaaW3
import Derived.Test.YtcadockapeancaaQ
namespace Go.Proofs.Ytcadockapeancaa
open Go.RowKit

def Par.obj (p : Par) : Obj := .cells #[.int .i64 p.f, .int .i64 p.t, .string p.s, .int .i64 p.at_, .int .i64 p.sent] 75
/-- The world in which Push appends: the parcel lies in two new blocks. -/
def pushW (w : World) (p : Par) : World :=
  ((w.alloc (.cells #[.int .i64 p.f, .int .i64 p.t, .string p.s, .int .i64 p.at_, .int .i64 p.sent] 75)).alloc (.cells #[.int .i64 p.f, .int .i64 p.t, .string p.s, .int .i64 p.at_, .int .i64 p.sent] 75)).drew
theorem pushW_news (w : World) (p : Par) (j : Nat) (u : Value) (h : p.cells[j]? = some u) : (pushW w p).cell? ((⟨w.heap.size + 1, 0, none⟩ : Addr).add j) = some u := by
  have hadd : (⟨w.heap.size + 1, 0, none⟩ : Addr).add j = ⟨w.heap.size + 1, j, none⟩ := by unfold Addr.add; split <;> simp_all
  rw [hadd, cell_of_row (pushW w p) (w.heap.size + 1) j _ 75 (0, 0) (heap_alloc2_new w _ _)]
  simpa [Par.cells] using h
theorem pushW_heap (w : World) (p : Par) (k : Nat) (hk : k < w.heap.size) : (pushW w p).heap[k]? = w.heap[k]? := by
  show ((w.alloc _).alloc _).heap[k]? = _
  rw [Below.heap_alloc _ _ _ (by simp; omega), Below.heap_alloc _ _ _ hk]
theorem pushW_size (w : World) (p : Par) : (pushW w p).heap.size = w.heap.size + 1 + 1 := by
  show ((w.alloc _).alloc _).heap.size = _
  simp
theorem pushW_fr (w : World) (p : Par) (own : Nat → Prop) : Fr own w (pushW w p) := (((Fr.refl own w).alloc _).alloc _).drew
theorem pushW_owns {w : World} (p : Par) {v : Value} {n : Nat} {xs : List Value} (h : w.ownsRow 0 75 5 v n xs) : (pushW w p).ownsRow 0 75 5 v n xs := (h.alloc _).alloc _
theorem cells_one (p : Par) : ∀ u ∈ p.cells, u.oneCell' = true := by
  intro u hu
  simp only [Par.cells, List.mem_cons, List.not_mem_nil, or_false] at hu
  rcases hu with rfl | rfl | rfl | rfl | rfl <;> rfl

/-- What Push leaves. -/
def Pushed (w : World) (pb : Nat) (c0 c1 v c3 c4 : Value) (xs : List Par) (p : Par) (w' : World) : Prop :=
  ∃ g cap, NetAt w' pb c0 c1 (.slice (some ⟨g, 0, none⟩) (xs.length + 1) cap) c3 c4 ∧ Row w' g cap (xs ++ [p]) ∧ g ≠ pb ∧ (v.ownBlock = some g ∨ w.heap.size ≤ g) ∧ Fr (fun k => k = pb ∨ v.ownBlock = some k) w w'

theorem pushed_of {w : World} {pb : Nat} {c0 c1 v c3 c4 : Value} {xs : List Par} {p : Par} (hn : NetAt w pb c0 c1 v c3 c4) (hv : v.ownBlock ≠ some pb) {g cap : Nat} {w1 : World}
    (ho : w1.ownsRow 0 75 5 (.slice (some ⟨g, 0, none⟩) (xs.length + 1) cap) (xs.length + 1) (rowOf xs ++ p.cells)) (hg : (pushW w p).grownBy w1 v.ownBlock) (hd : v.ownBlock = some g ∨ (pushW w p).heap.size ≤ g) :
    Pushed w pb c0 c1 v c3 c4 xs p (w1.setCell ⟨pb, 2, none⟩ (.slice (some ⟨g, 0, none⟩) (xs.length + 1) cap)) := by
  have hlt := hn.lt
  have hb1 : w1.heap[pb]? = w.heap[pb]? := by
    rw [hg.block pb (by rw [pushW_size]; omega) (by intro e; exact hv e.symm), pushW_heap w p pb hlt]
  have hgp : g ≠ pb := by
    rintro rfl
    rcases hd with hd | hd
    · exact hv hd
    · rw [pushW_size] at hd; omega
  refine ⟨g, cap, (hn.keep hb1).set2 _, (Row.of_owns (xs := xs ++ [p]) (by rw [rowOf_snoc]; exact ho) (by simp)).keep (heap_setCell_other _ _ _ _ hgp), hgp, ?_, ?_⟩
  · rcases hd with hd | hd
    · exact .inl hd
    · rw [pushW_size] at hd; exact .inr (by omega)
  · exact ((pushW_fr w p _).grown hg (fun k hk => .inr (.inr hk))).setCell (.inr (.inl rfl)) _

theorem push_cell {w : World} {pb : Nat} {c0 c1 v c3 c4 : Value} {p : Par} (hn : NetAt w pb c0 c1 v c3 c4) (hv : v.ownBlock ≠ some pb) (w1 : World) (hg : (pushW w p).grownBy w1 v.ownBlock) :
    w1.cell? ⟨pb, 2, none⟩ = some v ∧ w1.frozen? ⟨pb, 2, none⟩ = false := by
  have hlt := hn.lt
  have hb1 : w1.heap[pb]? = w.heap[pb]? := by
    rw [hg.block pb (by rw [pushW_size]; omega) (by intro e; exact hv e.symm), pushW_heap w p pb hlt]
  have h1 := hn.keep hb1
  exact ⟨h1.at.2.2.1, h1.free 2⟩

set_option maxHeartbeats 1000000 in
theorem push_que (pb : Nat) (c0 c1 v c3 c4 : Value) (xs : List Par) (p : Par) (w : World) (hn : NetAt w pb c0 c1 v c3 c4) (hq : Que w v xs) (hv : v.ownBlock ≠ some pb) (hsm : xs.length ≤ 1000000) :
    Calls Try.prog 52 #[.pointer (some ⟨pb, 2, none⟩), .iface 75 (.agg #[.int .i64 p.f, .int .i64 p.t, .string p.s, .int .i64 p.at_, .int .i64 p.sent])] w fun e w' => e = .returned (.tuple #[]) ∧ Pushed w pb c0 c1 v c3 c4 xs p w' := by
  have hown := hq.owns
  obtain ⟨ao, cap, hvv, hmax⟩ := hq.slice
  obtain ⟨i0, hi, hz0, hz1, hz2⟩ := info_parts Try.info75
  obtain ⟨_, _, hc, _, _⟩ := hn.at
  have hz := hn.free 2
  have hlt := hn.lt
  have ta := assert_parcel
  have HP := Lib.hid (fun g cap w1 => pushed_of (xs := xs) (p := p) hn hv (g := g) (cap := cap) (w1 := w1))
  have HC := Lib.hid (push_cell (p := p) hn hv)
  have hlt1 : pb < w.heap.size + 1 := by omega
  have hlt2 : pb < w.heap.size + 1 + 1 := by omega
  have h63 : xs.length + 1 ≤ maxLen := by unfold maxLen; omega
  have HN := Lib.hid hn
  have HV := Lib.hid hv
  have HO := Lib.hid (pushW_owns p hown)
  clear hn hv hown hq hmax
  subst hvv
  generalize hxl : xs.length = n at *
  have HX := Lib.hid hxl
  clear hxl
  go_enter Try.func52, Try.ntmps52
  go_wp2_with fail
  go_region_law (refine step_append_mine rfl (.tmp 15) (.tmp 17) 53 rfl 0 75 i0 _ 5 48 Try.underlying53 hi hz0 hz1 hz2 rfl (by decide) (.slice ao n cap) n (rowOf xs) rfl HO.out (Nat.zero_le _) ⟨w.heap.size + 1, 0, none⟩ 1 1 p.cells rfl rfl (pushW_news w p) (cells_one p) (by decide) h63 (by omega) ?_; intro g cap' w1 ho hg hd; have ⟨hc1, hz1⟩ := HC.out w1 hg)
  all_goals
    go_end0
    exact ⟨rfl, HP.out g cap' w1 ho hg hd⟩
end Go.Proofs.Ytcadockapeancaa
