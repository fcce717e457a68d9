/- Plain laws of NetAlone: what happens to one message does not turn on the others. -/
import Derived.Test.YtcadockapeancaaTw
import Derived.Test.YtcadockapeancaaOp
namespace Go.Proofs.Ytcadockapeancaa
open Go.RowKit

abbrev otherText : ByteArray := ⟨#[111, 116, 104, 101, 114]⟩
abbrev thisText : ByteArray := ⟨#[116, 104, 105, 115]⟩
def alS (L : List Tr) (Z : List Int) : Nat → NSt
  | 0 => ⟨2, scriptOf L, [], 0, []⟩
  | k + 1 => (alS L Z k).send (gtI Z k) k 1 otherText
def alT (L : List Tr) (k : Nat) : NSt := ⟨2, scriptOf L, [], k, []⟩
theorem alS_props (L : List Tr) (Z : List Int) (k : Nat) : (alS L Z k).script = scriptOf L ∧ (alS L Z k).sent = k ∧ (alS L Z k).wait.length ≤ 8 * k ∧ (alS L Z k).nodes = 2 ∧ (alS L Z k).groups = [] ∧ ∀ q ∈ (alS L Z k).wait, q.t = 1 := by
  induction k with
  | zero => exact ⟨rfl, rfl, by simp [alS], rfl, rfl, fun q hq => by simp [alS] at hq⟩
  | succ k ih =>
    obtain ⟨a, b, c, d, e, f⟩ := ih
    have := send_length (alS L Z k) (gtI Z k) k 1 otherText
    refine ⟨a, by show (alS L Z k).sent + 1 = _; rw [b], by show ((alS L Z k).send (gtI Z k) k 1 otherText).wait.length ≤ _; omega, d, e, fun q hq => ?_⟩
    have hq' : q ∈ ((alS L Z k).send (gtI Z k) k 1 otherText).wait := hq
    unfold NSt.send at hq'
    rcases List.mem_append.1 hq' with h | h
    · exact f q h
    · split at h
      · unfold parcelsOf at h
        rw [List.mem_map] at h
        obtain ⟨j, _, rfl⟩ := h
        rfl
      · simp at h
theorem alT_not (L : List Tr) (k : Nat) : delivers (alT L k) (trouble (alT L k).script (alT L k).sent) 0 5 = false := by
  unfold delivers
  have : nodeB (alT L k).nodes 5 = false := by show nodeB 2 5 = false; decide
  rw [this]
  simp
theorem alT_send (L : List Tr) (k : Nat) : (alT L k).send 0 0 5 noText = alT L (k + 1) := by
  unfold NSt.send
  rw [alT_not]
  rfl
/-- Two nets: the second waits for those that the first waits for and that go to node 0. -/
def AlRel (X Y : List Par) : Prop := Y.Perm (X.filter (fun p => p.t == 0)) ∧ ∀ q ∈ X, q.t = 0 → q.f = 7 ∧ q.s = thisText
theorem al_start (L : List Tr) (Z : List Int) (k : Nat) (now : Int) : AlRel ((alS L Z k).send now 7 0 thisText).wait ((alT L k).send now 7 0 thisText).wait ∧ ((alS L Z k).send now 7 0 thisText).wait.length ≤ 8 * k + 8 := by
  obtain ⟨a, b, c, d, e, f⟩ := alS_props L Z k
  have hl := send_length (alS L Z k) now 7 0 thisText
  refine ⟨?_, by omega⟩
  have hd : ∀ t, delivers (alS L Z k) t 7 0 = delivers (alT L k) t 7 0 := by
    intro t
    unfold delivers
    rw [d, e]
    rfl
  unfold NSt.send
  rw [a, b, hd, show (alT L k).script = scriptOf L from rfl, show (alT L k).sent = k from rfl, show (alT L k).wait = [] from rfl]
  simp only
  generalize hP : (if delivers (alT L k) (trouble (scriptOf L) k) 7 0 = true then parcelsOf (trouble (scriptOf L) k) k now 7 0 thisText (copiesOf (trouble (scriptOf L) k)) else []) = P
  have hP' : ∀ q ∈ P, q.t = 0 ∧ q.f = 7 ∧ q.s = thisText := by
    intro q hq
    subst hP
    split at hq
    · unfold parcelsOf at hq
      rw [List.mem_map] at hq
      obtain ⟨j, _, rfl⟩ := hq
      exact ⟨rfl, rfl, rfl⟩
    · simp at hq
  refine ⟨?_, fun q hq h0 => ?_⟩
  · rw [List.filter_append, List.filter_eq_nil_iff.2 (fun q hq => by simp [f q hq]), List.filter_eq_self.2 (fun q hq => by simp [(hP' q hq).1])]
  · rcases List.mem_append.1 hq with h | h
    · have := f q h
      omega
    · exact (hP' q h).2
theorem al_nil {X Y : List Par} (h : AlRel X Y) (hx : X = []) : Y = [] := by
  have := h.1
  rw [hx] at this
  simpa using this
theorem al_skip {X Y : List Par} (h : AlRel X Y) (hx : X ≠ []) (h0 : (pick X).t ≠ 0) : AlRel (left X) Y := by
  refine ⟨h.1.trans ?_, fun q hq => h.2 q (left_sub hq)⟩
  have := (pick_perm hx).filter (fun p => p.t == 0)
  rwa [List.filter_cons_of_neg (by simpa using h0)] at this
theorem al_take {X Y : List Par} (h : AlRel X Y) (hk : Keys Y) (hx : X ≠ []) (h0 : (pick X).t = 0) : Y ≠ [] ∧ pick Y = pick X ∧ AlRel (left X) (left Y) ∧ (pick X).f = 7 ∧ (pick X).s = thisText := by
  have hp := (pick_perm hx).filter (fun p => p.t == 0)
  rw [List.filter_cons_of_pos (by simpa using h0)] at hp
  have hq := h.1.trans hp
  have hm : ∀ q ∈ Y, (pick X).le q := fun q hq => pick_min (List.mem_filter.1 (h.1.subset hq)).1
  obtain ⟨e1, e2⟩ := pick_of hk hq hm
  refine ⟨fun e => by rw [e] at hq; simpa using hq.length_eq, e1.symm, ⟨e2.symm, fun q hq => h.2 q (left_sub hq)⟩, h.2 _ (pick_mem hx) h0⟩

/-- A new block of the law's own beside those that it keeps. -/
theorem Two.allocMore {w0 w : World} {pz pe : Nat} {oz oe : Nat → Prop} {Sz Se : NSt} {K : Nat → Prop} (h : Two w0 w pz oz Sz pe oe Se K) (o : Obj) : Two w0 (w.alloc o) pz oz Sz pe oe Se (fun k => K k ∨ k = w.heap.size) := by
  have h' := h.below ((Below.refl w.heap.size w).alloc (Nat.le_refl _) o)
  refine ⟨h'.l.keepMono fun k hk => ?_, h'.r.keepMono fun k hk => ?_⟩
  · rcases hk with hk | hk | rfl
    · exact h'.l.sep k (.inl hk)
    · exact h'.l.sep k (.inr hk)
    · exact ⟨by simp, fun e => by have := h.l.lt e; omega⟩
  · rcases hk with hk | hk | rfl
    · exact h'.r.sep k (.inl hk)
    · exact h'.r.sep k (.inr hk)
    · exact ⟨by simp, fun e => by have := h.r.lt e; omega⟩
theorem Two.less {w0 w : World} {pz pe : Nat} {oz oe : Nat → Prop} {Sz Se : NSt} {K K' : Nat → Prop} (h : Two w0 w pz oz Sz pe oe Se K) (hk : ∀ k, K' k → K k) : Two w0 w pz oz Sz pe oe Se K' :=
  ⟨h.l.keepMono fun k h' => by
    rcases h' with h' | h'
    · exact h.l.sep k (.inl h')
    · exact h.l.sep k (.inr (hk k h')), h.r.keepMono fun k h' => by
    rcases h' with h' | h'
    · exact h.r.sep k (.inl h')
    · exact h.r.sep k (.inr (hk k h'))⟩
def ThisAt (w : World) (b : Nat) : Prop := w.heap[b]? = some (.cells #[.int .i64 7, .int .i64 0, .string thisText] 31 (0, 0))
theorem ThisAt.cells {w : World} {b : Nat} (h : ThisAt w b) : w.cell? ⟨b, 0, none⟩ = some (.int .i64 7) ∧ w.cell? ⟨b, 1, none⟩ = some (.int .i64 0) ∧ w.cell? ⟨b, 2, none⟩ = some (.string thisText) ∧ b < w.heap.size := by
  unfold ThisAt at h
  simp only [cell_of_row _ _ _ _ 31 (0, 0) h]
  exact ⟨rfl, rfl, rfl, heap_lt h⟩
/-- What holds at the head of each round of the last loop. -/
def AlIn (w wr : World) (pn pm xb j : Nat) : Prop := ∃ on om S T, Two w wr pn on S pm om T (fun k => k = xb) ∧ AlRel S.wait T.wait ∧ j + S.wait.length ≤ 248 ∧ ThisAt wr xb
theorem read_intsc {H : Type} {enc : TypeId × Value → H} {P : Program} {w : World} {base : Nat} {spare : Nat → Bool} {held : Bool} {r : Reach} {b0 : Nat} {t e : TypeId} {k : IntKind} {v : Value} {d : DataW H} {ps : List MemPlace} (ht : P.underlying t = some (.slice e)) (he : P.underlying e = some (.int k)) (hC : P.cellsOf e = 1)
    (hv : Value.okWide P w r b0 t v) (h : DataW.Trod enc P w base spare held t v d ps) : ∃ L, IntsK k w v L ∧ L.length ≤ maxLen ∧ (∀ i, i < L.length → (Lit.int k (gtI L i)).wf = true) ∧ ∀ a n cap, v = .slice a n cap → n ≤ cap := by
  obtain ⟨L, h1, h2, h3⟩ := read_ints ht he hC hv h
  refine ⟨L, h1, h2, h3, fun a n cap hv' => ?_⟩
  rcases read_slice 1 ht hC (by omega) hv h with rfl | ⟨a', cap', rfl⟩ | ⟨b, off, len, cap', rfl, h0, hl, hm, hi⟩
  · cases hv'; simp
  · cases hv'; simp
  · cases hv'; exact hl
theorem IntsK.slice2 {k : IntKind} {w : World} {v : Value} {L : List Int} (h : IntsK k w v L) : ∃ a cap, v = .slice a L.length cap := by
  rcases h with ⟨rfl | ⟨a, cap, rfl⟩, rfl⟩ | ⟨b, off, cap, rfl, _⟩
  · exact ⟨none, 0, rfl⟩
  · exact ⟨some a, cap, rfl⟩
  · exact ⟨_, cap, rfl⟩
theorem IntsK.at2 {k : IntKind} {w : World} {a : Option Addr} {n cap : Nat} {L : List Int} (h : IntsK k w (.slice a n cap) L) : ∀ i, i < L.length → ∃ b off, a = some ⟨b, off, none⟩ ∧ b < w.heap.size ∧ w.cell? ⟨b, off + i, none⟩ = some (.int k (gtI L i)) := by
  intro i hi
  rcases h with ⟨_, rfl⟩ | ⟨b, off, cap', hv, hr, h0⟩
  · simp at hi
  · simp only [Value.slice.injEq] at hv
    obtain ⟨rfl, _, rfl⟩ := hv
    exact ⟨b, off, rfl, block_lt_of_cell (hr i hi), hr i hi⟩
end Go.Proofs.Ytcadockapeancaa
