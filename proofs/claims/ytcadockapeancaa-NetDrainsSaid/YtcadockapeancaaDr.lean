/- Plain laws for NetDrains: what waits after the messages, and in which order it comes. No program in sight. -/
import Derived.Test.YtcadockapeancaaWG
namespace Go.Proofs.Ytcadockapeancaa

def drS (L : List Tr) (Z : List Int) : Nat → NSt
  | 0 => ⟨1, scriptOf L, [], 0, []⟩
  | k + 1 => (drS L Z k).send (gtI Z k) k 0 noText
theorem drS_props (L : List Tr) (Z : List Int) (k : Nat) : (drS L Z k).script = scriptOf L ∧ (drS L Z k).sent = k ∧ (drS L Z k).wait.length ≤ 8 * k ∧ (drS L Z k).nodes = 1 ∧ (drS L Z k).groups = [] := by
  induction k with
  | zero => exact ⟨rfl, rfl, by simp [drS], rfl, rfl⟩
  | succ k ih =>
    obtain ⟨a, b, c, d, e⟩ := ih
    have := send_length (drS L Z k) (gtI Z k) k 0 noText
    exact ⟨a, by show (drS L Z k).sent + 1 = _; rw [b], by show ((drS L Z k).send (gtI Z k) k 0 noText).wait.length ≤ _; omega, d, e⟩
theorem drS_delivers (L : List Tr) (Z : List Int) (k : Nat) (t : Tr) : delivers (drS L Z k) t k 0 = !t.lost := by
  obtain ⟨_, _, _, hn, hg⟩ := drS_props L Z k
  unfold delivers
  rw [hn, hg]
  have h0 : nodeB 1 0 = true := by decide
  have hg : (groupOf [] (k : Int) == groupOf [] 0) = true := by rw [groupOf_nil, groupOf_nil]; rfl
  rw [h0, hg]
  simp
def drCopies (t : Tr) : Nat := if t.lost then 0 else copiesOf t
theorem drS_count (L : List Tr) (Z : List Int) (k : Nat) : (drS L Z (k + 1)).wait.length = (drS L Z k).wait.length + drCopies (trouble (scriptOf L) k) := by
  obtain ⟨hs, hk, _⟩ := drS_props L Z k
  show ((drS L Z k).send (gtI Z k) k 0 noText).wait.length = _
  unfold NSt.send
  rw [hs, hk, drS_delivers]
  unfold drCopies
  cases (trouble (scriptOf L) k).lost <;> simp [parcelsOf]
/-- Each copy that waits is of a message that was sent, and not ahead of its time. -/
def DrOk (Z : List Int) (n : Nat) (xs : List Par) : Prop := ∀ q ∈ xs, ∃ i : Nat, i < n ∧ q.f = i ∧ q.sent = i ∧ gtI Z i ≤ q.at_
theorem drS_ok (L : List Tr) (Z : List Int) (k : Nat) : DrOk Z k (drS L Z k).wait := by
  induction k with
  | zero => intro q hq; simp [drS] at hq
  | succ k ih =>
    obtain ⟨hs, hk, _⟩ := drS_props L Z k
    intro q hq
    have hq' : q ∈ (drS L Z k).wait ++ if delivers (drS L Z k) (trouble (scriptOf L) k) k 0 then parcelsOf (trouble (scriptOf L) k) k (gtI Z k) k 0 noText (copiesOf (trouble (scriptOf L) k)) else [] := by
      have : q ∈ ((drS L Z k).send (gtI Z k) k 0 noText).wait := hq
      unfold NSt.send at this
      rwa [hs, hk] at this
    rcases List.mem_append.1 hq' with h | h
    · obtain ⟨i, hi, r⟩ := ih q h
      exact ⟨i, by omega, r⟩
    · split at h
      · unfold parcelsOf at h
        rw [List.mem_map] at h
        obtain ⟨j, _, rfl⟩ := h
        refine ⟨k, by omega, rfl, rfl, ?_⟩
        simp only
        omega
      · simp at h
/-- What is behind the last copy that came: it comes no earlier; at the same time, its message was not sent earlier. -/
def DrAfter (last first : Int) (xs : List Par) : Prop := ∀ q ∈ xs, last ≤ q.at_ ∧ (q.at_ = last → first ≤ q.f)
theorem dr_start {Z : List Int} {n : Nat} {xs : List Par} (h : DrOk Z n xs) (hz : ∀ i, 0 ≤ gtI Z i) : DrAfter (-1) (-1) xs := by
  intro q hq
  obtain ⟨i, _, hf, _, hz'⟩ := h q hq
  have := hz i
  exact ⟨by omega, fun e => by omega⟩
theorem dr_next {Z : List Int} {n : Nat} {xs : List Par} (h : DrOk Z n xs) (hne : xs ≠ []) : DrAfter (pick xs).at_ (pick xs).f (left xs) := by
  intro q hq
  have hm := pick_min (left_sub hq)
  rw [Par.le_iff] at hm
  obtain ⟨i, _, hf, hs, _⟩ := h q (left_sub hq)
  obtain ⟨j, _, hf', hs', _⟩ := h (pick xs) (pick_mem hne)
  exact ⟨by omega, fun e => by omega⟩
theorem DrOk.left {Z : List Int} {n : Nat} {xs : List Par} (h : DrOk Z n xs) : DrOk Z n (left xs) := fun q hq => h q (left_sub hq)
end Go.Proofs.Ytcadockapeancaa
