/- Rows of things of several cells each, as lists of values: plain lists, and the cells of an owned row. No program in sight. -/
import Derived.Test.YtcadockapeancaaAp
namespace Go.Proofs.Ytcadockapeancaa
open Go.RowKit

theorem flat_length {α : Type} (f : α → List Value) (s : Nat) (hs : ∀ x, (f x).length = s) (L : List α) : (L.flatMap f).length = L.length * s := by
  induction L with
  | nil => simp
  | cons x L ih => rw [List.flatMap_cons, List.length_append, ih, hs, List.length_cons, Nat.add_mul]; omega
theorem flat_get {α : Type} (f : α → List Value) (s : Nat) (hs : ∀ x, (f x).length = s) (L : List α) (k r : Nat) (hr : r < s) (hk : k < L.length) : (L.flatMap f)[k * s + r]? = (f L[k])[r]? := by
  induction L generalizing k with
  | nil => simp at hk
  | cons x L ih =>
    rw [List.flatMap_cons]
    cases k with
    | zero => rw [List.getElem?_append_left (by rw [hs]; omega), Nat.zero_mul, Nat.zero_add]; rfl
    | succ k =>
      have hk' : k < L.length := by simpa using hk
      rw [List.getElem?_append_right (by rw [hs, Nat.add_mul]; omega), hs, show (k + 1) * s + r - s = k * s + r by rw [Nat.add_mul]; omega, ih k hk']
      rfl
theorem add_at (b off j : Nat) : (⟨b, off, none⟩ : Addr).add j = ⟨b, off + j, none⟩ := by unfold Addr.add; split <;> simp_all
/-- The cells of a row of things, each place by itself, give the whole list of cells. -/
theorem flat_cells {α : Type} (f : α → List Value) (s : Nat) (hs : ∀ x, (f x).length = s) (hs0 : 0 < s) (L : List α) (w : World) (b off : Nat)
    (h : ∀ k (hk : k < L.length) r (v : Value), (f L[k])[r]? = some v → w.cell? ⟨b, off + k * s + r, none⟩ = some v) : ∀ j u, (L.flatMap f)[j]? = some u → w.cell? ((⟨b, off, none⟩ : Addr).add j) = some u := by
  intro j u hu
  have hj : j < L.length * s := by
    rw [← flat_length f s hs]
    exact (List.getElem?_eq_some_iff.1 hu).1
  have hk : j / s < L.length := Nat.div_lt_of_lt_mul (by rw [Nat.mul_comm]; exact hj)
  have hr : j % s < s := Nat.mod_lt _ hs0
  have e : j = j / s * s + j % s := by rw [Nat.mul_comm]; exact (Nat.div_add_mod j s).symm
  rw [add_at]
  rw [e, flat_get f s hs L _ _ hr hk] at hu
  have := h _ hk _ _ hu
  rw [Nat.add_assoc, ← e] at this
  exact this
/-- The cells of an owned row of things, each place by itself. -/
theorem flat_owned {α : Type} (f : α → List Value) (s : Nat) (hs : ∀ x, (f x).length = s) (L : List α) (w : World) (base : Nat) (e : TypeId) (g n cap : Nat)
    (h : w.ownsRow base e s (.slice (some ⟨g, 0, none⟩) n cap) n (L.flatMap f)) (k : Nat) (hk : k < L.length) (r : Nat) (v : Value) (hr : r < s) (hv : (f L[k])[r]? = some v) : w.cell? ⟨g, k * s + r, none⟩ = some v := by
  have := h.cells (g := g) rfl (k * s + r) v (by rw [flat_get f s hs L k r hr hk]; exact hv)
  rw [add_at, Nat.zero_add] at this
  exact this
end Go.Proofs.Ytcadockapeancaa
