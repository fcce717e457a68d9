/- Worlds: what stays as it was outside the blocks that a call owns; a row of parcels in memory. No function of the program is walked here. -/
import Derived.Test.YtcadockapeancaaRows
import Derived.Test.YtcadockapeancaaPl
import Derived.WalkKit
import Derived.WalkSpells
import Derived.WalkLawsBesides
import Derived.Deep.Draws
namespace Go.Proofs.Ytcadockapeancaa
open Go.RowKit

/-- Of the blocks that were there, only those of 'own' may have turned. -/
structure Fr (own : Nat → Prop) (w w' : World) : Prop where
  os : w'.os = w.os
  tape : w'.tape = w.tape
  output : w'.output = w.output
  size : w.heap.size ≤ w'.heap.size
  block : ∀ k, k < w.heap.size → ¬ own k → w'.heap[k]? = w.heap[k]?

theorem Fr.refl (own : Nat → Prop) (w : World) : Fr own w w := ⟨rfl, rfl, rfl, Nat.le_refl _, fun _ _ _ => rfl⟩
theorem Fr.trans {own own' : Nat → Prop} {a b c : World} (h : Fr own a b) (k : Fr own' b c) (ho : ∀ k, k < a.heap.size → own' k → own k) : Fr own a c :=
  ⟨k.os.trans h.os, k.tape.trans h.tape, k.output.trans h.output, Nat.le_trans h.size k.size, fun i hi hn => (k.block i (Nat.lt_of_lt_of_le hi h.size) (fun e => hn (ho i hi e))).trans (h.block i hi hn)⟩
theorem Fr.trans' {own : Nat → Prop} {a b c : World} (h : Fr own a b) (k : Fr own b c) : Fr own a c := h.trans k fun _ _ e => e
theorem Fr.mono {own own' : Nat → Prop} {w w' : World} (h : Fr own w w') (ho : ∀ k, k < w.heap.size → own k → own' k) : Fr own' w w' :=
  ⟨h.os, h.tape, h.output, h.size, fun k hk hn => h.block k hk fun e => hn (ho k hk e)⟩
theorem Fr.drew {own : Nat → Prop} {a w : World} (h : Fr own a w) : Fr own a w.drew := ⟨h.os, h.tape, h.output, h.size, h.block⟩
theorem Fr.drewN {own : Nat → Prop} {a w : World} (h : Fr own a w) (n : Nat) : Fr own a (w.drewN n) := ⟨h.os, h.tape, h.output, h.size, h.block⟩
theorem Fr.alloc {own : Nat → Prop} {a w : World} (h : Fr own a w) (o : Obj) : Fr own a (w.alloc o) :=
  h.trans' ⟨rfl, rfl, rfl, by simp, fun k hk _ => Below.heap_alloc w o k hk⟩
theorem Fr.setCell {own : Nat → Prop} {a w : World} (h : Fr own a w) {p : Addr} (hp : a.heap.size ≤ p.block ∨ own p.block) (u : Value) : Fr own a (w.setCell p u) :=
  h.trans (own' := fun k => k = p.block) ⟨rfl, rfl, rfl, by simp [World.setCell], fun k _ hn => heap_setCell_other w p k u hn⟩
    (fun k hk e => by subst e; rcases hp with hp | hp; · omega
                      · exact hp)
theorem Fr.grown {own : Nat → Prop} {a w w' : World} {row : Option Nat} (h : Fr own a w) (hg : w.grownBy w' row) (hr : ∀ k, row = some k → a.heap.size ≤ k ∨ own k) : Fr own a w' :=
  h.trans (own' := fun k => some k = row) ⟨hg.os, hg.tape, hg.output, hg.size, hg.block⟩
    (fun k hk e => by rcases hr k e.symm with hp | hp; · omega
                      · exact hp)
theorem Fr.below {w w' : World} {own : Nat → Prop} (h : Fr own w w') (hn : ∀ k, own k → w.heap.size ≤ k) : Below w.heap.size w w' :=
  ⟨h.os, h.tape, h.output, h.size, fun k hk => h.block k hk fun e => by have := hn k e; omega⟩
theorem Fr.ofBelow {B : Nat} {w w' : World} (h : Below B w w') : Fr (fun k => B ≤ k) w w' :=
  ⟨h.os, h.tape, h.output, h.size, fun k _ hn => h.block k (by omega)⟩
theorem Fr.ofBelow0 {w w' : World} (own : Nat → Prop) (h : Below w.heap.size w w') : Fr own w w' :=
  ⟨h.os, h.tape, h.output, h.size, fun k hk _ => h.block k hk⟩
theorem Fr.cell {own : Nat → Prop} {w w' : World} (h : Fr own w w') {p : Addr} {v : Value} (hc : w.cell? p = some v) (hp : ¬ own p.block) : w'.cell? p = some v := by
  rw [World.cell?_of_block (w := w) (h.block p.block (block_lt_of_cell hc) hp)]; exact hc
theorem Fr.heap {own : Nat → Prop} {w w' : World} (h : Fr own w w') {k : Nat} {o : Obj} (hc : w.heap[k]? = some o) (hp : ¬ own k) : w'.heap[k]? = some o := by
  rw [h.block k (Array.getElem?_eq_some_iff.1 hc).1 hp]; exact hc
theorem heap_lt {w : World} {k : Nat} {o : Obj} (hc : w.heap[k]? = some o) : k < w.heap.size := (Array.getElem?_eq_some_iff.1 hc).1
theorem size_setCell (w : World) (a : Addr) (v : Value) : (w.setCell a v).heap.size = w.heap.size := by simp [World.setCell]

/-- A row of parcels in an array of cells. -/
def RowIs (cur : Array Value) (xs : List Par) : Prop := ∀ k, k < xs.length →
  cur[k * 5]? = some (.int .i64 (gt xs k).f) ∧ cur[k * 5 + 1]? = some (.int .i64 (gt xs k).t) ∧ cur[k * 5 + 2]? = some (.string (gt xs k).s) ∧
  cur[k * 5 + 3]? = some (.int .i64 (gt xs k).at_) ∧ cur[k * 5 + 4]? = some (.int .i64 (gt xs k).sent)

def set5 (cur : Array Value) (i : Nat) (v0 v1 v2 v3 v4 : Value) : Array Value :=
  ((((cur.setIfInBounds (i * 5) v0).setIfInBounds (i * 5 + 1) v1).setIfInBounds (i * 5 + 2) v2).setIfInBounds (i * 5 + 3) v3).setIfInBounds (i * 5 + 4) v4
@[simp] theorem size_set5 (cur : Array Value) (i : Nat) (v0 v1 v2 v3 v4 : Value) : (set5 cur i v0 v1 v2 v3 v4).size = cur.size := by simp [set5]
theorem get_set5 (cur : Array Value) (i : Nat) (v0 v1 v2 v3 v4 : Value) (h : i * 5 + 4 < cur.size) (m : Nat) : (set5 cur i v0 v1 v2 v3 v4)[m]? =
    if m = i * 5 then some v0 else if m = i * 5 + 1 then some v1 else if m = i * 5 + 2 then some v2 else if m = i * 5 + 3 then some v3 else if m = i * 5 + 4 then some v4 else cur[m]? := by
  unfold set5
  simp only [Array.getElem?_setIfInBounds, Array.size_setIfInBounds]
  by_cases h4 : i * 5 + 4 = m
  · rw [if_pos h4, if_pos (by omega), if_neg (by omega), if_neg (by omega), if_neg (by omega), if_neg (by omega), if_pos h4.symm]
  rw [if_neg h4]
  by_cases h3 : i * 5 + 3 = m
  · rw [if_pos h3, if_pos (by omega), if_neg (by omega), if_neg (by omega), if_neg (by omega), if_pos h3.symm]
  rw [if_neg h3]
  by_cases h2 : i * 5 + 2 = m
  · rw [if_pos h2, if_pos (by omega), if_neg (by omega), if_neg (by omega), if_pos h2.symm]
  rw [if_neg h2]
  by_cases h1 : i * 5 + 1 = m
  · rw [if_pos h1, if_pos (by omega), if_neg (by omega), if_pos h1.symm]
  rw [if_neg h1]
  by_cases h0 : i * 5 = m
  · rw [if_pos h0, if_pos (by omega), if_pos h0.symm]
  rw [if_neg h0, if_neg (by omega), if_neg (by omega), if_neg (by omega), if_neg (by omega), if_neg (by omega)]

theorem heap_set5 (w : World) (b i : Nat) (cur : Array Value) (t : TypeId) (v0 v1 v2 v3 v4 : Value) (h : w.heap[b]? = some (.cells cur t (0, 0))) :
    (((((w.setCell ⟨b, i * 5, none⟩ v0).setCell ⟨b, i * 5 + 1, none⟩ v1).setCell ⟨b, i * 5 + 2, none⟩ v2).setCell ⟨b, i * 5 + 3, none⟩ v3).setCell ⟨b, i * 5 + 4, none⟩ v4).heap[b]? = some (.cells (set5 cur i v0 v1 v2 v3 v4) t (0, 0)) :=
  heap_setCell_same _ _ _ _ _ _ (heap_setCell_same _ _ _ _ _ _ (heap_setCell_same _ _ _ _ _ _ (heap_setCell_same _ _ _ _ _ _ (heap_setCell_same _ _ _ _ _ _ h))))

def put5 (cur : Array Value) (i : Nat) (p : Par) : Array Value := set5 cur i (.int .i64 p.f) (.int .i64 p.t) (.string p.s) (.int .i64 p.at_) (.int .i64 p.sent)

@[simp] theorem size_put5 (cur : Array Value) (i : Nat) (p : Par) : (put5 cur i p).size = cur.size := by simp [put5]
theorem get_put5_same (cur : Array Value) (i : Nat) (p : Par) (h : i * 5 + 4 < cur.size) :
    (put5 cur i p)[i * 5]? = some (.int .i64 p.f) ∧ (put5 cur i p)[i * 5 + 1]? = some (.int .i64 p.t) ∧ (put5 cur i p)[i * 5 + 2]? = some (.string p.s) ∧
    (put5 cur i p)[i * 5 + 3]? = some (.int .i64 p.at_) ∧ (put5 cur i p)[i * 5 + 4]? = some (.int .i64 p.sent) := by
  refine ⟨?_, ?_, ?_, ?_, ?_⟩ <;> rw [put5, get_set5 _ _ _ _ _ _ _ h] <;> (repeat (first | rw [if_pos rfl] | rw [if_neg (by omega)]))
theorem get_put5_other (cur : Array Value) (i : Nat) (p : Par) (h : i * 5 + 4 < cur.size) (k r : Nat) (hr : r < 5) (hk : k ≠ i) : (put5 cur i p)[k * 5 + r]? = cur[k * 5 + r]? := by
  rw [put5, get_set5 _ _ _ _ _ _ _ h, if_neg (by omega), if_neg (by omega), if_neg (by omega), if_neg (by omega), if_neg (by omega)]
theorem get_put5_others (cur : Array Value) (i : Nat) (p : Par) (h : i * 5 + 4 < cur.size) (k : Nat) (hk : k ≠ i) :
    (put5 cur i p)[k * 5]? = cur[k * 5]? ∧ (put5 cur i p)[k * 5 + 1]? = cur[k * 5 + 1]? ∧ (put5 cur i p)[k * 5 + 2]? = cur[k * 5 + 2]? ∧ (put5 cur i p)[k * 5 + 3]? = cur[k * 5 + 3]? ∧ (put5 cur i p)[k * 5 + 4]? = cur[k * 5 + 4]? :=
  ⟨get_put5_other cur i p h k 0 (by omega) hk, get_put5_other cur i p h k 1 (by omega) hk, get_put5_other cur i p h k 2 (by omega) hk, get_put5_other cur i p h k 3 (by omega) hk, get_put5_other cur i p h k 4 (by omega) hk⟩

theorem RowIs.sw {cur : Array Value} {xs : List Par} {cap i j : Nat} (h : RowIs cur xs) (hs : cur.size = cap * 5) (hc : xs.length ≤ cap) (hi : i < xs.length) (hj : j < xs.length) :
    RowIs (put5 (put5 cur i (gt xs j)) j (gt xs i)) (sw xs i j) := by
  intro k hk
  rw [sw_length] at hk
  rw [gt_sw hi hj]
  by_cases e1 : k = j
  · subst e1
    rw [if_pos rfl]
    exact get_put5_same _ _ _ (by simp; omega)
  · obtain ⟨a0, a1, a2, a3, a4⟩ := get_put5_others (put5 cur i (gt xs j)) j (gt xs i) (by simp; omega) k e1
    rw [if_neg e1, a0, a1, a2, a3, a4]
    by_cases e2 : k = i
    · subst e2
      rw [if_pos rfl]
      exact get_put5_same _ _ _ (by omega)
    · obtain ⟨b0, b1, b2, b3, b4⟩ := get_put5_others cur i (gt xs j) (by omega) k e2
      rw [if_neg e2, b0, b1, b2, b3, b4]
      exact h k hk

theorem RowIs.take {cur : Array Value} {xs : List Par} (h : RowIs cur xs) (n : Nat) : RowIs cur (xs.take n) := by
  intro k hk
  simp at hk
  rw [gt_take (by omega)]
  exact h k (by omega)

/-- A row of parcels in memory. -/
structure Row (w : World) (b cap : Nat) (xs : List Par) : Prop where
  fits : xs.length ≤ cap
  max : cap ≤ maxLen
  cur : ∃ cur, w.heap[b]? = some (.cells cur 75 (0, 0)) ∧ cur.size = cap * 5 ∧ RowIs cur xs

theorem Row.keep {w w' : World} {b cap : Nat} {xs : List Par} (h : Row w b cap xs) (hk : w'.heap[b]? = w.heap[b]?) : Row w' b cap xs :=
  ⟨h.fits, h.max, by rw [hk]; exact h.cur⟩
theorem Row.lt {w : World} {b cap : Nat} {xs : List Par} (h : Row w b cap xs) : b < w.heap.size := by
  obtain ⟨cur, hc, _⟩ := h.cur
  exact heap_lt hc
theorem Row.at {w : World} {b cap : Nat} {xs : List Par} (h : Row w b cap xs) (k : Nat) (hk : k < xs.length) :
    w.cell? ⟨b, k * 5, none⟩ = some (.int .i64 (gt xs k).f) ∧ w.cell? ⟨b, k * 5 + 1, none⟩ = some (.int .i64 (gt xs k).t) ∧ w.cell? ⟨b, k * 5 + 2, none⟩ = some (.string (gt xs k).s) ∧
    w.cell? ⟨b, k * 5 + 3, none⟩ = some (.int .i64 (gt xs k).at_) ∧ w.cell? ⟨b, k * 5 + 4, none⟩ = some (.int .i64 (gt xs k).sent) := by
  obtain ⟨cur, hc, _, hr⟩ := h.cur
  simp only [cell_of_row w b _ cur 75 (0, 0) hc]
  exact hr k hk
theorem Row.free {w : World} {b cap : Nat} {xs : List Par} (h : Row w b cap xs) (o : Nat) : w.frozen? ⟨b, o, none⟩ = false := by
  obtain ⟨cur, hc, _, hr⟩ := h.cur
  exact frozen_of_row w b o cur 75 hc
end Go.Proofs.Ytcadockapeancaa
