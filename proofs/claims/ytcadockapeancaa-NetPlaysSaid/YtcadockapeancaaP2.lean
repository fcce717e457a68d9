/- Plain laws of a net's state: what is sent, what comes next, and that no two copies have one key. No program in sight. -/
import Derived.Test.YtcadockapeancaaW9
namespace Go.Proofs.Ytcadockapeancaa

/-- Of the first k + 1 places, the first that is not behind any. -/
def bestTo (xs : List Par) : Nat → Nat
  | 0 => 0
  | k + 1 => if (gt xs (k + 1)).lt (gt xs (bestTo xs k)) then k + 1 else bestTo xs k
def best (xs : List Par) : Nat := bestTo xs (xs.length - 1)
def pick (xs : List Par) : Par := gt xs (best xs)
def left (xs : List Par) : List Par := xs.eraseIdx (best xs)
theorem bestTo_le (xs : List Par) (k : Nat) : bestTo xs k ≤ k := by
  induction k with
  | zero => exact Nat.le_refl _
  | succ k ih => unfold bestTo; split <;> omega
theorem bestTo_min (xs : List Par) (k i : Nat) (hi : i ≤ k) : (gt xs (bestTo xs k)).le (gt xs i) := by
  induction k generalizing i with
  | zero => obtain rfl : i = 0 := (by omega); exact Par.le_refl _
  | succ k ih =>
    unfold bestTo
    by_cases h : (gt xs (k + 1)).lt (gt xs (bestTo xs k)) = true
    · rw [if_pos h]
      by_cases e : i = k + 1
      · subst e; exact Par.le_refl _
      · exact Par.le_trans (Par.le_of_lt h) (ih i (by omega))
    · rw [if_neg h]
      by_cases e : i = k + 1
      · subst e; exact Bool.eq_false_iff.2 h
      · exact ih i (by omega)
theorem best_lt {xs : List Par} (h : xs ≠ []) : best xs < xs.length := by
  have := bestTo_le xs (xs.length - 1)
  have := List.length_pos_iff.2 h
  unfold best
  omega
theorem pick_min {xs : List Par} {q : Par} (h : q ∈ xs) : (pick xs).le q := by
  obtain ⟨k, hk, rfl⟩ := List.getElem_of_mem h
  have := bestTo_min xs (xs.length - 1) k (by omega)
  rwa [gt_eq hk] at this
theorem erase_perm (xs : List Par) (k : Nat) (h : k < xs.length) : xs.Perm (gt xs k :: xs.eraseIdx k) := by
  rw [gt_eq h, List.eraseIdx_eq_take_drop_succ]
  have : xs = xs.take k ++ xs[k] :: xs.drop (k + 1) := by rw [← List.drop_eq_getElem_cons h, List.take_append_drop]
  conv => lhs; rw [this]
  exact List.perm_middle
theorem pick_perm {xs : List Par} (h : xs ≠ []) : xs.Perm (pick xs :: left xs) := erase_perm xs _ (best_lt h)
theorem pick_mem {xs : List Par} (h : xs ≠ []) : pick xs ∈ xs := (pick_perm h).symm.subset (List.mem_cons_self)
theorem left_length {xs : List Par} (h : xs ≠ []) : (left xs).length + 1 = xs.length := by
  have := (pick_perm h).length_eq
  simpa using this.symm

/-- No two copies have one key. -/
def Keys (xs : List Par) : Prop := xs.Pairwise fun p q => ¬ (p.at_ = q.at_ ∧ p.sent = q.sent)
theorem Keys.perm {xs ys : List Par} (h : Keys xs) (hp : xs.Perm ys) : Keys ys := (hp.pairwise_iff (fun h e => h ⟨e.1.symm, e.2.symm⟩)).1 h
theorem Keys.eq {xs : List Par} (h : Keys xs) {p q : Par} (hp : p ∈ xs) (hq : q ∈ xs) (h1 : p.le q) (h2 : q.le p) : p = q := by
  rw [Par.le_iff] at h1 h2
  have e : p.at_ = q.at_ ∧ p.sent = q.sent := by omega
  obtain ⟨i, hi, rfl⟩ := List.getElem_of_mem hp
  obtain ⟨j, hj, rfl⟩ := List.getElem_of_mem hq
  rw [Keys, List.pairwise_iff_getElem] at h
  by_cases h1 : i < j
  · exact absurd e (h i j hi hj h1)
  · by_cases h2 : j < i
    · exact absurd ⟨e.1.symm, e.2.symm⟩ (h j i hj hi h2)
    · have : i = j := by omega
      subst this
      rfl
theorem pick_of {xs rest : List Par} {p : Par} (hk : Keys xs) (hp : xs.Perm (p :: rest)) (hm : ∀ q ∈ xs, p.le q) : p = pick xs ∧ rest.Perm (left xs) := by
  have hne : xs ≠ [] := by rintro rfl; simpa using hp.length_eq
  have hmem : p ∈ xs := hp.symm.subset List.mem_cons_self
  have e : p = pick xs := hk.eq hmem (pick_mem hne) (hm _ (pick_mem hne)) (pick_min hmem)
  subst e
  exact ⟨rfl, List.Perm.cons_inv (hp.symm.trans (pick_perm hne))⟩

/-- A state of a net in which no two copies have one key, and which has counted all that waits. -/
structure NSt.Good (S : NSt) : Prop where
  keys : Keys S.wait
  past : ∀ p ∈ S.wait, p.sent < (S.sent : Int)
theorem parcels_keys (t : Tr) (sent : Nat) (now f tt : Int) (s : ByteArray) (n : Nat) : Keys (parcelsOf t sent now f tt s n) := by
  unfold Keys parcelsOf
  rw [List.pairwise_map]
  exact List.pairwise_lt_range.imp fun {a b} h => by simp; omega
theorem parcels_sent {t : Tr} {sent : Nat} {now f tt : Int} {s : ByteArray} {n : Nat} {p : Par} (h : p ∈ parcelsOf t sent now f tt s n) : p.sent = (sent : Int) := by
  unfold parcelsOf at h
  rw [List.mem_map] at h
  obtain ⟨j, _, rfl⟩ := h
  rfl
theorem NSt.Good.send {S : NSt} (h : S.Good) (now f tt : Int) (s : ByteArray) : (S.send now f tt s).Good := by
  have key : ∀ l : List Par, Keys l → (∀ p ∈ l, p.sent = (S.sent : Int)) → NSt.Good { S with sent := S.sent + 1, wait := S.wait ++ l } := by
    intro l hl hs
    refine ⟨List.pairwise_append.2 ⟨h.keys, hl, fun p hp q hq e => ?_⟩, fun p hp => ?_⟩
    · have := h.past p hp
      have := hs q hq
      omega
    · rcases List.mem_append.1 hp with hp | hp
      · have := h.past p hp
        show p.sent < ((S.sent + 1 : Nat) : Int)
        omega
      · have := hs p hp
        show p.sent < ((S.sent + 1 : Nat) : Int)
        omega
  unfold NSt.send
  split
  · exact key _ (parcels_keys _ _ _ _ _ _ _) (fun p hp => parcels_sent hp)
  · exact key [] List.Pairwise.nil (fun p hp => by simp at hp)
theorem copies_le (t : Tr) : copiesOf t ≤ 8 := by unfold copiesOf; omega
theorem send_length (S : NSt) (now f tt : Int) (s : ByteArray) : (S.send now f tt s).wait.length ≤ S.wait.length + 8 := by
  unfold NSt.send
  have := copies_le (trouble S.script S.sent)
  split
  · simp [parcelsOf]; omega
  · simp
theorem send_script (S : NSt) (now f tt : Int) (s : ByteArray) : (S.send now f tt s).script = S.script := rfl
theorem send_sent (S : NSt) (now f tt : Int) (s : ByteArray) : (S.send now f tt s).sent = S.sent + 1 := rfl
theorem send_nodes (S : NSt) (now f tt : Int) (s : ByteArray) : (S.send now f tt s).nodes = S.nodes := rfl
theorem send_groups (S : NSt) (now f tt : Int) (s : ByteArray) : (S.send now f tt s).groups = S.groups := rfl
def NSt.next (S : NSt) : NSt := { S with wait := left S.wait }
theorem left_sub {xs : List Par} {p : Par} (h : p ∈ left xs) : p ∈ xs := List.mem_of_mem_eraseIdx h
theorem NSt.Good.next {S : NSt} (h : S.Good) : S.next.Good :=
  ⟨h.keys.sublist (List.eraseIdx_sublist _ _), fun p hp => h.past p (left_sub hp)⟩
theorem NSt.Good.part {S : NSt} (h : S.Good) (L : List Int) : NSt.Good { S with groups := L } := ⟨h.keys, h.past⟩
theorem good_new (nodes : Int) (L : List Tr) (G : List Int) : NSt.Good ⟨nodes, L, [], 0, G⟩ := ⟨List.Pairwise.nil, fun p hp => by simp at hp⟩
end Go.Proofs.Ytcadockapeancaa
