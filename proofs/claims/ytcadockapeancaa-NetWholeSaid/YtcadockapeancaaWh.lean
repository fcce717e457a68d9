/- Messages that came in, as plain lists; and the plain laws of NetWhole. No program in sight but the reading. -/
import Derived.Test.YtcadockapeancaaOp
namespace Go.Proofs.Ytcadockapeancaa
open Go.ChangeShapes Go.WideShapes Go.Deep Go.RowKit Go.Joins

structure Ms where
  f : Int
  t : Int
  s : ByteArray
instance : Inhabited Ms := ⟨⟨0, 0, ⟨#[]⟩⟩⟩
def gtM (Z : List Ms) (k : Nat) : Ms := (Z[k]?).getD default
theorem gtM_eq {L : List Ms} {k : Nat} (h : k < L.length) : gtM L k = L[k] := by simp [gtM, h]
/-- A slice of messages that came in. -/
def Mss (w : World) (v : Value) (L : List Ms) : Prop := ((v = .slice none 0 0 ∨ ∃ a cap, v = .slice (some a) 0 cap) ∧ L = []) ∨ ∃ b off cap, v = .slice (some ⟨b, off, none⟩) L.length cap ∧ L.length ≤ cap ∧ cap ≤ maxLen ∧ 0 < L.length ∧
  ∀ k, k < L.length → w.cell? ⟨b, off + k * 3, none⟩ = some (.int .i64 (gtM L k).f) ∧ w.cell? ⟨b, off + k * 3 + 1, none⟩ = some (.int .i64 (gtM L k).t) ∧ w.cell? ⟨b, off + k * 3 + 2, none⟩ = some (.string (gtM L k).s)

section
variable {H : Type} {enc : TypeId × Value → H} {w : World} {base : Nat} {spare : Nat → Bool} {held : Bool}
theorem read_mss {r : Reach} {b0 : Nat} {v : Value} {d : DataW H} {ps : List MemPlace} (hv : Value.okWide Try.prog w r b0 47 v) (h : DataW.Trod enc Try.prog w base spare held 47 v d ps) :
    ∃ L, Mss w v L ∧ L.length ≤ maxLen ∧ ∀ k, k < L.length → (Lit.int .i64 (gtM L k).f).wf = true ∧ (Lit.int .i64 (gtM L k).t).wf = true := by
  rcases read_slice 3 Try.underlying47 c31 (by omega) hv h with rfl | ⟨a, cap, rfl⟩ | ⟨b, off, len, cap, rfl, h0, hl, hm, hi⟩
  · exact ⟨[], .inl ⟨.inl rfl, rfl⟩, by simp, fun i h => by simp at h⟩
  · exact ⟨[], .inl ⟨.inr ⟨a, cap, rfl⟩, rfl⟩, by simp, fun i h => by simp at h⟩
  · obtain ⟨L, hlen, hL⟩ := list_of (P := fun i (x : Ms) => (w.cell? ⟨b, off + i * 3, none⟩ = some (.int .i64 x.f) ∧ w.cell? ⟨b, off + i * 3 + 1, none⟩ = some (.int .i64 x.t) ∧ w.cell? ⟨b, off + i * 3 + 2, none⟩ = some (.string x.s)) ∧ (Lit.int .i64 x.f).wf = true ∧ (Lit.int .i64 x.t).wf = true) len (fun i hil => by
      obtain ⟨cs, n, y, hcl, hc, hd⟩ := hi i hil
      obtain ⟨xs, n', _, _, _, hxl, hf⟩ := DataW.trod_struct Try.underlying31 hd
      have hxl' : xs.length = 3 := hxl
      obtain ⟨v0, y0, e0, t0⟩ := part1 (T := 3) (off := 0) (k := 0) c3 (by omega) (by omega) (hf 0 _ rfl)
      obtain ⟨v1, y1, e1, t1⟩ := part1 (T := 3) (off := 1) (k := 1) c3 (by omega) (by omega) (hf 1 _ rfl)
      obtain ⟨v2, y2, e2, t2⟩ := part1 (T := 9) (off := 2) (k := 2) c9 (by omega) (by omega) (hf 2 _ rfl)
      obtain ⟨x0, h0', _, w0⟩ := DataW.trod_int Try.underlying3 t0
      obtain ⟨x1, h1', _, w1⟩ := DataW.trod_int Try.underlying3 t1
      obtain ⟨x2, h2', _⟩ := DataW.trod_string Try.underlying9 t2
      cases h0'
      cases h1'
      cases h2'
      exact ⟨⟨x0, x1, x2⟩, ⟨by rw [← e0]; exact hc 0 (by omega), by rw [← e1]; exact hc 1 (by omega), by rw [← e2]; exact hc 2 (by omega)⟩, w0, w1⟩)
    subst hlen
    exact ⟨L, .inr ⟨b, off, cap, rfl, hl, hm, h0, fun i h => by rw [gtM_eq h]; exact (hL i h).1⟩, by omega, fun i h => by rw [gtM_eq h]; exact (hL i h).2⟩
end
theorem Mss.slice {w : World} {v : Value} {L : List Ms} (h : Mss w v L) : ∃ a cap, v = .slice a L.length cap ∧ L.length ≤ cap := by
  rcases h with ⟨rfl | ⟨a, cap, rfl⟩, rfl⟩ | ⟨b, off, cap, rfl, hl, _⟩
  · exact ⟨none, 0, rfl, by simp⟩
  · exact ⟨some a, cap, rfl, by simp⟩
  · exact ⟨_, cap, rfl, hl⟩
theorem Mss.at {w : World} {a : Option Addr} {n cap : Nat} {L : List Ms} (h : Mss w (.slice a n cap) L) : ∀ i, i < L.length → ∃ b off, a = some ⟨b, off, none⟩ ∧ b < w.heap.size ∧
    w.cell? ⟨b, off + i * 3, none⟩ = some (.int .i64 (gtM L i).f) ∧ w.cell? ⟨b, off + i * 3 + 1, none⟩ = some (.int .i64 (gtM L i).t) ∧ w.cell? ⟨b, off + i * 3 + 2, none⟩ = some (.string (gtM L i).s) := by
  intro i hi
  rcases h with ⟨_, rfl⟩ | ⟨b, off, cap', hv, _, _, h0, hr⟩
  · simp at hi
  · simp only [Value.slice.injEq] at hv
    obtain ⟨rfl, _, rfl⟩ := hv
    exact ⟨b, off, rfl, block_lt_of_cell (hr i hi).1, hr i hi⟩

-- the plain laws
def whP (d : Int) (Z : List Ms) (k : Nat) : Par := ⟨(gtM Z k).f, (gtM Z k).t, (gtM Z k).s, 10 * (k : Int) + d, (k : Int)⟩
/-- Those of the messages a, a + 1, .. (n of them) that go to a node that is there. -/
def whW (many d : Int) (Z : List Ms) (a : Nat) : Nat → List Par
  | 0 => []
  | n + 1 => (if nodeB many (gtM Z a).t then [whP d Z a] else []) ++ whW many d Z (a + 1) n
theorem whW_snoc (many d : Int) (Z : List Ms) (a n : Nat) : whW many d Z a (n + 1) = whW many d Z a n ++ (if nodeB many (gtM Z (a + n)).t then [whP d Z (a + n)] else []) := by
  induction n generalizing a with
  | zero => simp [whW]
  | succ n ih =>
    rw [show whW many d Z a (n + 1 + 1) = (if nodeB many (gtM Z a).t then [whP d Z a] else []) ++ whW many d Z (a + 1) (n + 1) from rfl, ih (a + 1), show whW many d Z a (n + 1) = (if nodeB many (gtM Z a).t then [whP d Z a] else []) ++ whW many d Z (a + 1) n from rfl, List.append_assoc,
      show a + 1 + n = a + (n + 1) by omega]
theorem whW_length (many d : Int) (Z : List Ms) (a n : Nat) : (whW many d Z a n).length ≤ n := by
  induction n generalizing a with
  | zero => simp [whW]
  | succ n ih =>
    have := ih (a + 1)
    unfold whW
    rw [List.length_append]
    split <;> simp <;> omega
theorem whW_late (many d : Int) (Z : List Ms) (a n : Nat) : ∀ q ∈ whW many d Z a n, ∃ i : Nat, a ≤ i ∧ q.at_ = 10 * (i : Int) + d := by
  induction n generalizing a with
  | zero => intro q hq; simp [whW] at hq
  | succ n ih =>
    intro q hq
    unfold whW at hq
    rcases List.mem_append.1 hq with h | h
    · split at h
      · simp at h
        subst h
        exact ⟨a, Nat.le_refl _, rfl⟩
      · simp at h
    · obtain ⟨i, hi, r⟩ := ih (a + 1) q h
      exact ⟨i, by omega, r⟩
theorem bestTo_head (xs : List Par) (n : Nat) (h : ∀ i, i ≤ n → (gt xs 0).le (gt xs i)) : bestTo xs n = 0 := by
  induction n with
  | zero => rfl
  | succ n ih =>
    unfold bestTo
    rw [ih (fun i hi => h i (by omega))]
    have := h (n + 1) (Nat.le_refl _)
    unfold Par.le at this
    rw [this]
    rfl
theorem pick_head {p : Par} {rest : List Par} (h : ∀ q ∈ rest, p.le q) : pick (p :: rest) = p ∧ left (p :: rest) = rest := by
  have e : best (p :: rest) = 0 := by
    unfold best
    refine bestTo_head _ _ fun i hi => ?_
    cases i with
    | zero => exact Par.le_refl _
    | succ i =>
      have hi' : i < rest.length := by simp at hi; omega
      have e1 : gt (p :: rest) (i + 1) = rest[i] := by simp [gt, hi']
      have e0 : gt (p :: rest) 0 = p := by simp [gt]
      rw [e1, e0]
      exact h _ (List.getElem_mem _)
  unfold pick left
  rw [e]
  exact ⟨by simp [gt], by simp⟩
theorem whW_pick (many d : Int) (Z : List Ms) (a n : Nat) (h : nodeB many (gtM Z a).t = true) : whW many d Z a (n + 1) ≠ [] ∧ pick (whW many d Z a (n + 1)) = whP d Z a ∧ left (whW many d Z a (n + 1)) = whW many d Z (a + 1) n := by
  have e : whW many d Z a (n + 1) = whP d Z a :: whW many d Z (a + 1) n := by
    show (if _ then _ else _) ++ _ = _
    rw [if_pos h]
    rfl
  rw [e]
  refine ⟨by simp, pick_head fun q hq => ?_⟩
  obtain ⟨i, hi, hq'⟩ := whW_late many d Z (a + 1) n q hq
  rw [Par.le_iff, hq']
  left
  show 10 * (a : Int) + d < _
  omega
theorem whW_skip (many d : Int) (Z : List Ms) (a n : Nat) (h : nodeB many (gtM Z a).t = false) : whW many d Z a (n + 1) = whW many d Z (a + 1) n := by
  show (if _ then _ else _) ++ _ = _
  rw [if_neg (by simp [h])]
  rfl
def whS (many d : Int) (Z : List Ms) (k : Nat) : NSt := ⟨many, [⟨false, 0, d⟩], whW many d Z 0 k, k, []⟩
theorem whS_send (many d : Int) (Z : List Ms) (k : Nat) (hd : 0 ≤ d) : (whS many d Z k).send (10 * (k : Int)) (gtM Z k).f (gtM Z k).t (gtM Z k).s = whS many d Z (k + 1) := by
  have ht : trouble [(⟨false, 0, d⟩ : Tr)] k = ⟨false, 0, d⟩ := by
    unfold trouble
    rw [if_neg (by simp)]
    have : k % [(⟨false, 0, d⟩ : Tr)].length = 0 := by simp; omega
    rw [this]
    rfl
  have hdl : delivers (whS many d Z k) ⟨false, 0, d⟩ (gtM Z k).f (gtM Z k).t = nodeB many (gtM Z k).t := by
    unfold delivers whS
    simp [groupOf_nil]
  have hp : parcelsOf ⟨false, 0, d⟩ k (10 * (k : Int)) (gtM Z k).f (gtM Z k).t (gtM Z k).s (copiesOf ⟨false, 0, d⟩) = [whP d Z k] := by
    have e1 : copiesOf ⟨false, 0, d⟩ = 1 := rfl
    have e2 : max d 0 = d := by omega
    rw [e1]
    simp [parcelsOf, List.range_succ, whP, e2]
  unfold NSt.send
  rw [show (whS many d Z k).script = [⟨false, 0, d⟩] from rfl, show (whS many d Z k).sent = k from rfl, ht, hdl, hp]
  unfold whS
  rw [whW_snoc, Nat.zero_add]
theorem wh_script (w : World) (d : Int) : Scr (w.alloc (.cells #[.bool false, .int .i64 0, .int .i64 d] 44)) (.slice (some ⟨w.heap.size, 0, none⟩) 1 1) [⟨false, 0, d⟩] := by
  refine .inr ⟨w.heap.size, 0, 1, rfl, fun k hk => ?_, by simp⟩
  have hn := heap_alloc_new w (.cells #[.bool false, .int .i64 0, .int .i64 d] 44)
  simp only [cell_of_row _ _ _ _ 44 (0, 0) hn]
  have : k = 0 := by simp at hk; omega
  subst this
  exact ⟨rfl, rfl, rfl⟩
theorem wh_small (d : Int) (h0 : d ≤ 65535) : SmallScript [(⟨false, 0, d⟩ : Tr)] := by
  refine ⟨by simp, fun k hk => ?_⟩
  have : k = 0 := by simp at hk; omega
  subst this
  simp [gtT]
  omega
end Go.Proofs.Ytcadockapeancaa
