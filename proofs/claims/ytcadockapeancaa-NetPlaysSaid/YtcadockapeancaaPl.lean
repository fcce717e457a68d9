/- Plain laws of a binary heap of parcels, and of the swap of two elements of a list: no program in sight. -/
namespace Go.Proofs.Ytcadockapeancaa

/-- A copy of a message that waits. -/
structure Par where
  f : Int
  t : Int
  s : ByteArray
  at_ : Int
  sent : Int

instance : Inhabited Par := ⟨⟨0, 0, ByteArray.empty, 0, 0⟩⟩

def Par.lt (p q : Par) : Bool := if p.at_ = q.at_ then decide (p.sent < q.sent) else decide (p.at_ < q.at_)
/-- 'not behind'. -/
def Par.le (p q : Par) : Prop := q.lt p = false

theorem Par.le_iff (p q : Par) : p.le q ↔ p.at_ < q.at_ ∨ (p.at_ = q.at_ ∧ p.sent ≤ q.sent) := by
  unfold Par.le Par.lt
  split <;> simp <;> omega
theorem Par.lt_iff (p q : Par) : p.lt q = true ↔ p.at_ < q.at_ ∨ (p.at_ = q.at_ ∧ p.sent < q.sent) := by
  unfold Par.lt
  split <;> simp <;> omega
theorem Par.le_refl (p : Par) : p.le p := by rw [Par.le_iff]; omega
theorem Par.le_trans {p q r : Par} (h : p.le q) (k : q.le r) : p.le r := by rw [Par.le_iff] at *; omega
theorem Par.le_of_lt {p q : Par} (h : p.lt q = true) : p.le q := by rw [Par.lt_iff] at h; rw [Par.le_iff]; omega

def gt (xs : List Par) (k : Nat) : Par := (xs[k]?).getD default
theorem gt_eq {xs : List Par} {k : Nat} (h : k < xs.length) : gt xs k = xs[k] := by simp [gt, h]
theorem gt_take {xs : List Par} {n k : Nat} (h : k < n) : gt (xs.take n) k = gt xs k := by simp [gt, h]
theorem gt_append_left {xs ys : List Par} {k : Nat} (h : k < xs.length) : gt (xs ++ ys) k = gt xs k := by simp [gt, List.getElem?_append, h]

def sw (xs : List Par) (i j : Nat) : List Par := (xs.set i (gt xs j)).set j (gt xs i)
@[simp] theorem sw_length (xs : List Par) (i j : Nat) : (sw xs i j).length = xs.length := by simp [sw]
theorem gt_sw {xs : List Par} {i j : Nat} (hi : i < xs.length) (hj : j < xs.length) (k : Nat) :
    gt (sw xs i j) k = if k = j then gt xs i else if k = i then gt xs j else gt xs k := by
  unfold sw gt
  simp only [List.getElem?_set, List.length_set]
  by_cases h1 : k = j
  · subst h1; simp [hj]
  · by_cases h2 : k = i
    · subst h2; simp [h1, hi, Ne.symm h1]
    · simp [h1, h2, Ne.symm h1, Ne.symm h2]
theorem sw_perm {xs : List Par} {i j : Nat} (hi : i < xs.length) (hj : j < xs.length) : (sw xs i j).Perm xs := by
  unfold sw
  rw [gt_eq hi, gt_eq hj]
  exact List.set_set_perm hi hj
theorem sw_append_left {xs ys : List Par} {i j : Nat} (hi : i < xs.length) (hj : j < xs.length) : sw (xs ++ ys) i j = sw xs i j ++ ys := by
  unfold sw
  rw [gt_append_left hi, gt_append_left hj, List.set_append_left _ _ hi, List.set_append_left _ _ (by simpa using hj)]

/-- The heap's property. -/
def Heap (xs : List Par) : Prop := ∀ k, 0 < k → k < xs.length → (gt xs ((k - 1) / 2)).le (gt xs k)
def HeapUp (xs : List Par) (j : Nat) : Prop :=
  (∀ k, 0 < k → k < xs.length → k ≠ j → (gt xs ((k - 1) / 2)).le (gt xs k)) ∧ (∀ k, 0 < k → k < xs.length → (k - 1) / 2 = j → 0 < j → (gt xs ((j - 1) / 2)).le (gt xs k))
def HeapDn (xs : List Par) (i : Nat) : Prop :=
  (∀ k, 0 < k → k < xs.length → (k - 1) / 2 ≠ i → (gt xs ((k - 1) / 2)).le (gt xs k)) ∧ (∀ k, 0 < k → k < xs.length → (k - 1) / 2 = i → 0 < i → (gt xs ((i - 1) / 2)).le (gt xs k))

theorem heap_nil : Heap [] := fun k _ h => by simp at h
theorem up_start {xs : List Par} (h : Heap xs) (p : Par) : HeapUp (xs ++ [p]) xs.length := by
  refine ⟨fun k h0 hk hn => ?_, fun k h0 hk he _ => ?_⟩
  · simp at hk
    rw [gt_append_left (by omega), gt_append_left (by omega)]
    exact h k h0 (by omega)
  · simp at hk
    omega
theorem up_stop {xs : List Par} {j : Nat} (h : HeapUp xs j) (hs : j = 0 ∨ (gt xs ((j - 1) / 2)).le (gt xs j)) : Heap xs := by
  intro k h0 hk
  by_cases e : k = j
  · subst e
    rcases hs with rfl | hs
    · omega
    · exact hs
  · exact h.1 k h0 hk e
theorem up_step {xs : List Par} {j : Nat} (h : HeapUp xs j) (h0 : 0 < j) (hj : j < xs.length) (hl : (gt xs j).lt (gt xs ((j - 1) / 2)) = true) :
    HeapUp (sw xs ((j - 1) / 2) j) ((j - 1) / 2) := by
  have hp : (j - 1) / 2 < xs.length := by omega
  have hle := Par.le_of_lt hl
  refine ⟨fun k k0 hk hn => ?_, fun k k0 hk he hp0 => ?_⟩
  · simp at hk
    rw [gt_sw hp hj, gt_sw hp hj]
    by_cases e1 : k = j
    · subst e1
      rw [if_neg (by omega), if_pos rfl, if_pos rfl]
      exact hle
    · rw [if_neg e1, if_neg hn]
      by_cases e2 : (k - 1) / 2 = j
      · rw [if_pos e2]
        exact h.2 k k0 hk e2 h0
      · rw [if_neg e2]
        by_cases e3 : (k - 1) / 2 = (j - 1) / 2
        · rw [if_pos e3]
          have := h.1 k k0 hk e1
          rw [e3] at this
          exact Par.le_trans hle this
        · rw [if_neg e3]
          exact h.1 k k0 hk e1
  · simp at hk
    rw [gt_sw hp hj, gt_sw hp hj]
    rw [if_neg (by omega), if_neg (by omega)]
    have hpar := h.1 ((j - 1) / 2) hp0 (by omega) (by omega)
    by_cases e1 : k = j
    · rw [if_pos e1]
      exact hpar
    · rw [if_neg e1, if_neg (by omega)]
      have := h.1 k k0 hk e1
      rw [he] at this
      exact Par.le_trans hpar this

theorem dn_start {xs : List Par} {n : Nat} (h : Heap xs) (hn : xs.length = n + 1) : HeapDn ((sw xs 0 n).take n) 0 := by
  refine ⟨fun k k0 hk he => ?_, fun k _ _ _ h0 => by omega⟩
  simp at hk
  rw [gt_take (by omega), gt_take (by omega), gt_sw (by omega) (by omega), gt_sw (by omega) (by omega)]
  rw [if_neg (by omega), if_neg he, if_neg (by omega), if_neg (by omega)]
  exact h k k0 (by omega)
theorem dn_stop {xs : List Par} {i : Nat} (h : HeapDn xs i) (h1 : 2 * i + 1 < xs.length → (gt xs i).le (gt xs (2 * i + 1))) (h2 : 2 * i + 2 < xs.length → (gt xs i).le (gt xs (2 * i + 2))) : Heap xs := by
  intro k k0 hk
  by_cases e : (k - 1) / 2 = i
  · have : k = 2 * i + 1 ∨ k = 2 * i + 2 := by omega
    rw [e]
    rcases this with rfl | rfl
    · exact h1 hk
    · exact h2 hk
  · exact h.1 k k0 hk e
theorem dn_step {xs : List Par} {i j : Nat} (h : HeapDn xs i) (hij : (j - 1) / 2 = i) (j0 : 0 < j) (hj : j < xs.length) (hl : (gt xs j).le (gt xs i))
    (hs : ∀ k, 0 < k → k < xs.length → (k - 1) / 2 = i → (gt xs j).le (gt xs k)) : HeapDn (sw xs i j) j := by
  have hi : i < xs.length := by omega
  refine ⟨fun k k0 hk hn => ?_, fun k k0 hk he hp0 => ?_⟩
  · simp at hk
    rw [gt_sw hi hj, gt_sw hi hj]
    rw [if_neg hn]
    by_cases e1 : (k - 1) / 2 = i
    · rw [if_pos e1]
      by_cases e2 : k = j
      · rw [if_pos e2]; exact hl
      · rw [if_neg e2, if_neg (by omega)]
        exact hs k k0 hk e1
    · rw [if_neg e1, if_neg (by intro e; rw [e] at e1; exact e1 hij)]
      by_cases e3 : k = i
      · rw [if_pos e3]
        subst e3
        exact h.2 j j0 hj hij (by omega)
      · rw [if_neg e3]
        exact h.1 k k0 hk e1
  · simp at hk
    rw [hij, gt_sw hi hj, gt_sw hi hj]
    rw [if_neg (by omega), if_pos rfl, if_neg (by omega), if_neg (by omega)]
    have := h.1 k k0 hk (by omega)
    rw [he] at this
    exact this

theorem heap_least {xs : List Par} (h : Heap xs) : ∀ k, k < xs.length → (gt xs 0).le (gt xs k) := by
  intro k
  induction k using Nat.strongRecOn with
  | _ k ih =>
    intro hk
    by_cases k0 : k = 0
    · subst k0; exact Par.le_refl _
    · exact Par.le_trans (ih ((k - 1) / 2) (by omega) (by omega)) (h k (by omega) hk)
theorem heap_least_mem {xs : List Par} (h : Heap xs) {q : Par} (hq : q ∈ xs) : (gt xs 0).le q := by
  obtain ⟨k, hk, rfl⟩ := List.getElem_of_mem hq
  have := heap_least h k hk
  rwa [gt_eq hk] at this

/-- A list that begins with its prefix of n, and ends with the one element behind it. -/
theorem take_snoc {xs : List Par} {n : Nat} (h : xs.length = n + 1) : xs = xs.take n ++ [gt xs n] := by
  have : xs.drop n = [gt xs n] := by
    rw [gt_eq (by omega), List.drop_eq_getElem_cons (by omega), List.drop_eq_nil_of_le (by omega)]
  rw [← this, List.take_append_drop]
end Go.Proofs.Ytcadockapeancaa
