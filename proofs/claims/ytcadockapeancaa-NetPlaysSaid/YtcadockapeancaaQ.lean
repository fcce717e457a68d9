/- A queue of parcels in memory: the slice in the field of a net, and its row. -/
import Derived.Test.YtcadockapeancaaSt
import Derived.Test.YtcadockapeancaaAp
namespace Go.Proofs.Ytcadockapeancaa
open Go.RowKit

def Par.cells (p : Par) : List Value := [.int .i64 p.f, .int .i64 p.t, .string p.s, .int .i64 p.at_, .int .i64 p.sent]
def rowOf (xs : List Par) : List Value := xs.flatMap Par.cells
@[simp] theorem Par.cells_length (p : Par) : p.cells.length = 5 := rfl
theorem rowOf_cons (p : Par) (xs : List Par) : rowOf (p :: xs) = p.cells ++ rowOf xs := rfl
theorem rowOf_snoc (p : Par) (xs : List Par) : rowOf (xs ++ [p]) = rowOf xs ++ p.cells := by simp [rowOf]
theorem rowOf_length (xs : List Par) : (rowOf xs).length = xs.length * 5 := by
  induction xs with
  | nil => rfl
  | cons p xs ih => rw [rowOf_cons, List.length_append, ih]; simp; omega
theorem gt_cons_zero (p : Par) (xs : List Par) : gt (p :: xs) 0 = p := rfl
theorem gt_cons_succ (p : Par) (xs : List Par) (k : Nat) : gt (p :: xs) (k + 1) = gt xs k := rfl
theorem rowOf_get (xs : List Par) (k r : Nat) (hr : r < 5) (hk : k < xs.length) : (rowOf xs)[k * 5 + r]? = (gt xs k).cells[r]? := by
  induction xs generalizing k with
  | nil => simp at hk
  | cons p xs ih =>
    rw [rowOf_cons]
    cases k with
    | zero => rw [gt_cons_zero, List.getElem?_append_left (by simp; omega)]; congr 1; omega
    | succ k =>
      simp at hk
      rw [gt_cons_succ, List.getElem?_append_right (by simp; omega), ← ih k (by omega)]
      congr 1
      simp
      omega
theorem RowIs.take_eq {cur : Array Value} {xs : List Par} (h : RowIs cur xs) : cur.toList.take (xs.length * 5) = rowOf xs := by
  apply List.ext_getElem?
  intro m
  rw [List.getElem?_take]
  split
  · rename_i hm
    have hk : m / 5 < xs.length := by omega
    have hr : m % 5 < 5 := by omega
    have e : m = m / 5 * 5 + m % 5 := by omega
    obtain ⟨h0, h1, h2, h3, h4⟩ := h (m / 5) hk
    rw [e, rowOf_get xs _ _ hr hk, Array.getElem?_toList]
    have : m % 5 = 0 ∨ m % 5 = 1 ∨ m % 5 = 2 ∨ m % 5 = 3 ∨ m % 5 = 4 := by omega
    rcases this with e | e | e | e | e <;> rw [e]
    · exact h0
    · exact h1
    · exact h2
    · exact h3
    · exact h4
  · rename_i hm
    symm
    rw [List.getElem?_eq_none_iff, rowOf_length]
    omega
theorem RowIs.of_take {cur : Array Value} {xs : List Par} (h : cur.toList.take (xs.length * 5) = rowOf xs) : RowIs cur xs := by
  intro k hk
  have key : ∀ r, r < 5 → cur[k * 5 + r]? = (gt xs k).cells[r]? := by
    intro r hr
    rw [← rowOf_get xs k r hr hk, ← h, List.getElem?_take, if_pos (by omega), Array.getElem?_toList]
  exact ⟨key 0 (by omega), key 1 (by omega), key 2 (by omega), key 3 (by omega), key 4 (by omega)⟩

theorem Row.owns {w : World} {b cap : Nat} {xs : List Par} (h : Row w b cap xs) : w.ownsRow 0 75 5 (.slice (some ⟨b, 0, none⟩) xs.length cap) xs.length (rowOf xs) := by
  obtain ⟨cur, hc, hs, hr⟩ := h.cur
  exact ⟨rowOf_length xs, .inr ⟨b, cap, cur, rfl, by omega, hc, h.fits, h.max, hs, hr.take_eq⟩⟩
theorem Row.of_owns {w : World} {base b n cap : Nat} {xs : List Par} (h : w.ownsRow base 75 5 (.slice (some ⟨b, 0, none⟩) n cap) n (rowOf xs)) (hn : n = xs.length) : Row w b cap xs := by
  subst hn
  rcases h.2 with ⟨hv, _⟩ | ⟨g, cap', cur, hv, hb, hc, hf, hm, hs, ht⟩
  · cases hv
  · simp only [Value.slice.injEq, Option.some.injEq, Addr.mk.injEq, and_true, true_and] at hv
    obtain ⟨rfl, rfl⟩ := hv
    exact ⟨hf, hm, cur, hc, hs, RowIs.of_take ht⟩

/-- What a slice of parcels reads as. -/
def Que (w : World) (v : Value) (xs : List Par) : Prop := (v = .slice none 0 0 ∧ xs = []) ∨ ∃ b cap, v = .slice (some ⟨b, 0, none⟩) xs.length cap ∧ Row w b cap xs
theorem Que.owns {w : World} {v : Value} {xs : List Par} (h : Que w v xs) : w.ownsRow 0 75 5 v xs.length (rowOf xs) := by
  rcases h with ⟨rfl, rfl⟩ | ⟨b, cap, rfl, hr⟩
  · exact World.ownsRow_nil w 0 75 5
  · exact hr.owns
theorem Que.keep {w w' : World} {v : Value} {xs : List Par} (h : Que w v xs) (hk : ∀ b, v.ownBlock = some b → w'.heap[b]? = w.heap[b]?) : Que w' v xs := by
  rcases h with h | ⟨b, cap, rfl, hr⟩
  · exact .inl h
  · exact .inr ⟨b, cap, rfl, hr.keep (hk b rfl)⟩
theorem Que.slice {w : World} {v : Value} {xs : List Par} (h : Que w v xs) : ∃ a cap, v = .slice a xs.length cap ∧ xs.length ≤ maxLen := by
  rcases h with ⟨rfl, rfl⟩ | ⟨b, cap, rfl, hr⟩
  · exact ⟨none, 0, rfl, by unfold maxLen; simp⟩
  · exact ⟨_, cap, rfl, Nat.le_trans hr.fits hr.max⟩
theorem Que.lt {w : World} {v : Value} {xs : List Par} (h : Que w v xs) {b : Nat} (hb : v.ownBlock = some b) : b < w.heap.size := (h.owns.lt b hb).2

/-- A net's struct in memory: five cells. -/
def NetAt (w : World) (pb : Nat) (c0 c1 c2 c3 c4 : Value) : Prop := w.heap[pb]? = some (.cells #[c0, c1, c2, c3, c4] 56 (0, 0))
theorem NetAt.lt {w : World} {pb : Nat} {c0 c1 c2 c3 c4 : Value} (h : NetAt w pb c0 c1 c2 c3 c4) : pb < w.heap.size := heap_lt h
theorem NetAt.at {w : World} {pb : Nat} {c0 c1 c2 c3 c4 : Value} (h : NetAt w pb c0 c1 c2 c3 c4) :
    w.cell? ⟨pb, 0, none⟩ = some c0 ∧ w.cell? ⟨pb, 1, none⟩ = some c1 ∧ w.cell? ⟨pb, 2, none⟩ = some c2 ∧ w.cell? ⟨pb, 3, none⟩ = some c3 ∧ w.cell? ⟨pb, 4, none⟩ = some c4 := by
  simp only [cell_of_row w pb _ _ 56 (0, 0) h]
  exact ⟨rfl, rfl, rfl, rfl, rfl⟩
theorem NetAt.free {w : World} {pb : Nat} {c0 c1 c2 c3 c4 : Value} (h : NetAt w pb c0 c1 c2 c3 c4) (o : Nat) : w.frozen? ⟨pb, o, none⟩ = false := frozen_of_row w pb o _ 56 h
theorem NetAt.keep {w w' : World} {pb : Nat} {c0 c1 c2 c3 c4 : Value} (h : NetAt w pb c0 c1 c2 c3 c4) (hk : w'.heap[pb]? = w.heap[pb]?) : NetAt w' pb c0 c1 c2 c3 c4 := by rw [NetAt, hk]; exact h
theorem NetAt.set2 {w : World} {pb : Nat} {c0 c1 c2 c3 c4 : Value} (h : NetAt w pb c0 c1 c2 c3 c4) (v : Value) : NetAt (w.setCell ⟨pb, 2, none⟩ v) pb c0 c1 v c3 c4 := heap_setCell_same w pb 2 _ 56 v h
theorem NetAt.set3 {w : World} {pb : Nat} {c0 c1 c2 c3 c4 : Value} (h : NetAt w pb c0 c1 c2 c3 c4) (v : Value) : NetAt (w.setCell ⟨pb, 3, none⟩ v) pb c0 c1 c2 v c4 := heap_setCell_same w pb 3 _ 56 v h
theorem NetAt.set4 {w : World} {pb : Nat} {c0 c1 c2 c3 c4 : Value} (h : NetAt w pb c0 c1 c2 c3 c4) (v : Value) : NetAt (w.setCell ⟨pb, 4, none⟩ v) pb c0 c1 c2 c3 v := heap_setCell_same w pb 4 _ 56 v h

theorem Try.info75 : (Try.prog.info? 75).map (fun i => (i.zero, i.size, i.bytes)) = some (some (.agg #[.int .i64 0, .int .i64 0, .string ByteArray.empty, .int .i64 0, .int .i64 0]), 5, 48) := by kernel_rfl
end Go.Proofs.Ytcadockapeancaa
