/- Pairs that came in, as plain lists; and the plain laws of NetParts. -/
import Derived.Test.YtcadockapeancaaOp
namespace Go.Proofs.Ytcadockapeancaa
open Go.ChangeShapes Go.WideShapes Go.Deep Go.RowKit Go.Joins

def gtP (L : List (Int × Int)) (k : Nat) : Int × Int := (L[k]?).getD (0, 0)
theorem gtP_eq {L : List (Int × Int)} {k : Nat} (h : k < L.length) : gtP L k = L[k] := by simp [gtP, h]
/-- A slice of pairs of small numbers that came in. -/
def Prs (w : World) (v : Value) (L : List (Int × Int)) : Prop := ((v = .slice none 0 0 ∨ ∃ a cap, v = .slice (some a) 0 cap) ∧ L = []) ∨ ∃ b off cap, v = .slice (some ⟨b, off, none⟩) L.length cap ∧ 0 < L.length ∧
  ∀ k, k < L.length → w.cell? ⟨b, off + k * 2, none⟩ = some (.int .u8 (gtP L k).1) ∧ w.cell? ⟨b, off + k * 2 + 1, none⟩ = some (.int .u8 (gtP L k).2)
section
variable {H : Type} {enc : TypeId × Value → H} {w : World} {base : Nat} {spare : Nat → Bool} {held : Bool}
theorem c61 : Try.prog.cellsOf 61 = 2 := by kernel_rfl
theorem c5 : Try.prog.cellsOf 5 = 1 := by kernel_rfl
theorem read_prs {r : Reach} {b0 : Nat} {v : Value} {d : DataW H} {ps : List MemPlace} (hv : Value.okWide Try.prog w r b0 59 v) (h : DataW.Trod enc Try.prog w base spare held 59 v d ps) :
    ∃ L, Prs w v L ∧ L.length ≤ maxLen ∧ ∀ k, k < L.length → (Lit.int .u8 (gtP L k).1).wf = true ∧ (Lit.int .u8 (gtP L k).2).wf = true := by
  rcases read_slice 2 Try.underlying59 c61 (by omega) hv h with rfl | ⟨a, cap, rfl⟩ | ⟨b, off, len, cap, rfl, h0, hl, hm, hi⟩
  · exact ⟨[], .inl ⟨.inl rfl, rfl⟩, by simp, fun i h => by simp at h⟩
  · exact ⟨[], .inl ⟨.inr ⟨a, cap, rfl⟩, rfl⟩, by simp, fun i h => by simp at h⟩
  · obtain ⟨L, hlen, hL⟩ := list_of (P := fun i (x : Int × Int) => (w.cell? ⟨b, off + i * 2, none⟩ = some (.int .u8 x.1) ∧ w.cell? ⟨b, off + i * 2 + 1, none⟩ = some (.int .u8 x.2)) ∧ (Lit.int .u8 x.1).wf = true ∧ (Lit.int .u8 x.2).wf = true) len (fun i hil => by
      obtain ⟨cs, n, y, hcl, hc, hd⟩ := hi i hil
      obtain ⟨xs, m, _, _, _, hxl, hi'⟩ := DataW.trod_array Try.underlying61 hd
      have h0 := hi' 0 (by omega)
      have h1 := hi' 1 (by omega)
      rw [c5] at h0 h1
      obtain ⟨y0, hy0⟩ : ∃ y, xs[0]? = some y := ⟨_, List.getElem?_eq_getElem (by omega)⟩
      obtain ⟨y1, hy1⟩ : ∃ y, xs[1]? = some y := ⟨_, List.getElem?_eq_getElem (by omega)⟩
      rw [hy0] at h0
      rw [hy1] at h1
      obtain ⟨x0, e0, _, w0⟩ := DataW.trod_int Try.underlying5 h0
      obtain ⟨x1, e1, _, w1⟩ := DataW.trod_int Try.underlying5 h1
      obtain ⟨a0, a1, rfl⟩ : ∃ a0 a1, cs = [a0, a1] := by
        match cs, hcl with
        | [a0, a1], _ => exact ⟨a0, a1, rfl⟩
      simp at e0 e1
      subst e0 e1
      exact ⟨(x0, x1), ⟨hc 0 (by omega), hc 1 (by omega)⟩, w0, w1⟩)
    subst hlen
    exact ⟨L, .inr ⟨b, off, cap, rfl, h0, fun i h => by rw [gtP_eq h]; exact (hL i h).1⟩, by omega, fun i h => by rw [gtP_eq h]; exact (hL i h).2⟩
end
theorem Prs.slice {w : World} {v : Value} {L : List (Int × Int)} (h : Prs w v L) : ∃ a cap, v = .slice a L.length cap := by
  rcases h with ⟨rfl | ⟨a, cap, rfl⟩, rfl⟩ | ⟨b, off, cap, rfl, _⟩
  · exact ⟨none, 0, rfl⟩
  · exact ⟨some a, cap, rfl⟩
  · exact ⟨_, cap, rfl⟩
theorem Prs.at {w : World} {a : Option Addr} {n cap : Nat} {L : List (Int × Int)} (h : Prs w (.slice a n cap) L) : ∀ i, i < L.length → ∃ b off, a = some ⟨b, off, none⟩ ∧ b < w.heap.size ∧
    w.cell? ⟨b, off + i * 2, none⟩ = some (.int .u8 (gtP L i).1) ∧ w.cell? ⟨b, off + i * 2 + 1, none⟩ = some (.int .u8 (gtP L i).2) := by
  intro i hi
  rcases h with ⟨_, rfl⟩ | ⟨b, off, cap', hv, h0, hr⟩
  · simp at hi
  · simp only [Value.slice.injEq] at hv
    obtain ⟨rfl, _, rfl⟩ := hv
    exact ⟨b, off, rfl, block_lt_of_cell (hr i hi).1, hr i hi⟩

-- the groups
def gP (Z : List Int) : List Int := (Z.take 8).map (·.tmod 3)
theorem gP_length (Z : List Int) : (gP Z).length = min 8 Z.length := by simp [gP]
theorem gP_succ (Z : List Int) (k : Nat) (hk : k < Z.length) (h8 : k < 8) : gP (Z.take (k + 1)) = gP (Z.take k) ++ [(gtI Z k).tmod 3] := by
  unfold gP
  rw [List.take_take, List.take_take, Nat.min_eq_right (by omega), Nat.min_eq_right (by omega), List.take_succ_eq_append_getElem hk, List.map_append]
  simp [gtI, hk]
theorem gP_end (Z : List Int) (k : Nat) (h : Z.length ≤ k ∨ 8 ≤ k) : gP (Z.take k) = gP Z := by
  unfold gP
  rw [List.take_take]
  rcases h with h | h
  · by_cases h8 : 8 ≤ k
    · rw [Nat.min_eq_left h8]
    · rw [Nat.min_eq_right (by omega), List.take_of_length_le h, List.take_of_length_le (by omega)]
  · rw [Nat.min_eq_left h]
theorem tmod3 (x : Int) : -3 < x.tmod 3 ∧ x.tmod 3 < 3 := by
  have h1 := Int.tmod_lt_of_pos x (by omega : (0 : Int) < 3)
  have h2 : -3 < x.tmod 3 := by
    have := Int.tmod_lt_of_pos (-x) (by omega : (0 : Int) < 3)
    rw [Int.neg_tmod] at this
    omega
  exact ⟨h2, h1⟩
theorem gP_wf (Z : List Int) : wfI (gP Z) := by
  intro k hk
  have : gtI (gP Z) k = ((Z.take 8)[k]'(by simpa [gP] using hk)).tmod 3 := by
    unfold gtI
    rw [List.getElem?_eq_getElem hk]
    simp [gP]
  rw [this]
  have := tmod3 ((Z.take 8)[k]'(by simpa [gP] using hk))
  exact WalkArith.wf_i64 (by omega)

/-- The group of a node, read off the list. -/
theorem groupOf_at (G : List Int) (x : Int) (h0 : 0 ≤ x) : groupOf G x = gtI G x.toNat := by
  unfold groupOf gtI
  rw [if_neg (by omega)]
def paD (G : List Int) (f t : Int) : Bool := nodeB 8 t && (!nodeB 8 f || groupOf G f == groupOf G t)
def paS (G : List Int) (k : Nat) : NSt := ⟨8, [], [], k, G⟩
theorem pa_delivers (G : List Int) (k : Nat) (f t : Int) : delivers (paS G k) (trouble [] k) f t = paD G f t := by
  unfold delivers paD paS trouble
  simp
theorem pa_send (G : List Int) (k : Nat) (f t : Int) (now : Int) : (paS G k).send now f t noText = ⟨8, [], if paD G f t then [⟨f, t, noText, now + 1, (k : Int)⟩] else [], k + 1, G⟩ := by
  have hd := pa_delivers G k f t
  unfold NSt.send
  rw [show (paS G k).script = [] from rfl, show (paS G k).sent = k from rfl, hd]
  have hp : parcelsOf (trouble [] k) k now f t noText (copiesOf (trouble [] k)) = [⟨f, t, noText, now + 1, (k : Int)⟩] := by
    have e1 : trouble [] k = ⟨false, 1, 1⟩ := by simp [trouble]
    rw [e1]
    have e2 : copiesOf ⟨false, 1, 1⟩ = 1 := rfl
    rw [e2]
    simp [parcelsOf, List.range_succ]
    omega
  rw [hp]
  rfl
theorem pa_next (G : List Int) (k : Nat) (f t : Int) (now : Int) : ((paS G k).send now f t noText).next = paS G (k + 1) := by
  rw [pa_send]
  cases paD G f t <;> rfl
theorem pa_msg (G : List Int) (k : Nat) (f t : Int) (now : Int) : msgOf ((paS G k).send now f t noText).wait = if paD G f t then (⟨f, t, noText, now + 1, (k : Int)⟩ : Par).msg else noMsg := by
  rw [pa_send]
  cases paD G f t <;> rfl
theorem pa_length (G : List Int) (k : Nat) (f t : Int) (now : Int) : ((paS G k).send now f t noText).wait.length ≤ 1 := by
  rw [pa_send]
  cases paD G f t <;> simp
theorem pa_last (k : Nat) : ((paS [] k).send 0 0 7 noText).wait.length = 1 := by
  rw [pa_send]
  have : paD [] 0 7 = true := by unfold paD; rw [groupOf_nil, groupOf_nil]; decide
  rw [this]
  rfl

/-- A row of numbers of the law's own: whatever they say. -/
def RowI (w : World) (b n : Nat) : Prop := ∃ cur, w.heap[b]? = some (.cells cur 3 (0, 0)) ∧ n ≤ cur.size
theorem RowI.keep {w w' : World} {b n : Nat} (h : RowI w b n) (hk : w'.heap[b]? = w.heap[b]?) : RowI w' b n := by
  obtain ⟨cur, hc, r⟩ := h
  exact ⟨cur, hk.trans hc, r⟩
theorem RowI.at {w : World} {b n : Nat} (h : RowI w b n) (k : Nat) (hk : k < n) : (∃ x, w.cell? ⟨b, k, none⟩ = some x) ∧ w.frozen? ⟨b, k, none⟩ = false := by
  obtain ⟨cur, hc, r⟩ := h
  refine ⟨?_, frozen_of_row w b k cur 3 hc⟩
  rw [cell_of_row w b _ cur 3 (0, 0) hc]
  exact ⟨_, Array.getElem?_eq_getElem (by omega)⟩
theorem RowI.set {w : World} {b n : Nat} (h : RowI w b n) (k : Nat) (x : Value) : RowI (w.setCell ⟨b, k, none⟩ x) b n := by
  obtain ⟨cur, hc, r⟩ := h
  exact ⟨_, heap_setCell_same _ _ _ _ _ _ hc, by simpa using r⟩
/-- A row of numbers that the law has built. -/
theorem ints_of_owns {w : World} {base g n cap : Nat} {G : List Int} (h : w.ownsRow base 3 1 (.slice (some ⟨g, 0, none⟩) n cap) n (G.map (Value.int .i64))) (hn : n = G.length) (h0 : 0 < n) :
    Ints w (.slice (some ⟨g, 0, none⟩) n cap) G ∧ RowI w g n := by
  subst hn
  rcases h.2 with ⟨hv, _⟩ | ⟨g', cap', cur, hv, _, hc, hle, _, hcs, htake⟩
  · cases hv
  · simp only [Value.slice.injEq, Option.some.injEq, Addr.mk.injEq, and_true, true_and] at hv
    obtain ⟨rfl, rfl⟩ := hv
    refine ⟨.inr ⟨g, 0, cap, rfl, fun k hk => ?_, h0⟩, cur, hc, by omega⟩
    rw [cell_of_row w g _ cur 3 (0, 0) hc, Nat.zero_add]
    have h1 : (cur.toList.take (G.length * 1))[k]? = (G.map (Value.int .i64))[k]? := by
      rw [← htake]
    rw [List.getElem?_take, if_pos (by omega)] at h1
    have h2 : cur[k]? = (G.map (Value.int .i64))[k]? := by simpa using h1
    rw [h2]
    simp [gtI, hk]
theorem ints_add {w : World} {b : Nat} {G : List Int} (h : ∀ k, k < G.length → w.cell? ⟨b, 0 + k, none⟩ = some (.int .i64 (gtI G k))) : ∀ j u, (G.map (Value.int .i64))[j]? = some u → w.cell? ((⟨b, 0, none⟩ : Addr).add j) = some u := by
  intro j u hu
  have hj : j < G.length := by
    have := (List.getElem?_eq_some_iff.1 hu).1
    simpa using this
  rw [add_at, h j hj]
  simp [hj] at hu
  rw [← hu]
  simp [gtI, hj]
theorem ints_cells_one {G : List Int} : ∀ u ∈ G.map (Value.int .i64), u.oneCell' = true := by
  intro u hu
  rw [List.mem_map] at hu
  obtain ⟨x, _, rfl⟩ := hu
  rfl
end Go.Proofs.Ytcadockapeancaa
