/- Scripts of troubles in memory, and the groups of a net: no function is walked here. -/
import Derived.Test.YtcadockapeancaaQ
import Derived.Test.YtcadockapeancaaFl
import Derived.Maps.OwnOps
namespace Go.Proofs.Ytcadockapeancaa
open Go.RowKit Go.Maps

structure Tr where
  lost : Bool
  copies : Int
  delay : Int
instance : Inhabited Tr := ⟨⟨false, 0, 0⟩⟩
def gtT (L : List Tr) (k : Nat) : Tr := (L[k]?).getD default
def Tr.val (t : Tr) : Value := .agg #[.bool t.lost, .int .i64 t.copies, .int .i64 t.delay]
def Tr.cells (t : Tr) : List Value := [.bool t.lost, .int .i64 t.copies, .int .i64 t.delay]

/-- A row of troubles at an address. -/
def TrAt (w : World) (b off : Nat) (L : List Tr) : Prop := ∀ k, k < L.length →
  w.cell? ⟨b, off + k * 3, none⟩ = some (.bool (gtT L k).lost) ∧ w.cell? ⟨b, off + k * 3 + 1, none⟩ = some (.int .i64 (gtT L k).copies) ∧ w.cell? ⟨b, off + k * 3 + 2, none⟩ = some (.int .i64 (gtT L k).delay)
theorem TrAt.keep {w w' : World} {b off : Nat} {L : List Tr} (h : TrAt w b off L) (hk : w'.heap[b]? = w.heap[b]?) : TrAt w' b off L := by
  intro k hkl
  rw [World.cell?_of_block (w := w) (w' := w') (a := ⟨b, off + k * 3, none⟩) hk, World.cell?_of_block (w := w) (w' := w') (a := ⟨b, off + k * 3 + 1, none⟩) hk, World.cell?_of_block (w := w) (w' := w') (a := ⟨b, off + k * 3 + 2, none⟩) hk]
  exact h k hkl
theorem gtT_eq {L : List Tr} {k : Nat} (h : k < L.length) : gtT L k = L[k] := by simp [gtT, h]
theorem Tr.cells_length (t : Tr) : t.cells.length = 3 := rfl
theorem TrAt.news {w : World} {b off : Nat} {L : List Tr} (h : TrAt w b off L) : ∀ j u, (L.flatMap Tr.cells)[j]? = some u → w.cell? ((⟨b, off, none⟩ : Addr).add j) = some u := by
  refine flat_cells Tr.cells 3 Tr.cells_length (by omega) L w b off (fun k hk r v hv => ?_)
  obtain ⟨h0, h1, h2⟩ := h k hk
  rw [gtT_eq hk] at h0 h1 h2
  have hr : r < 3 := (List.getElem?_eq_some_iff.1 hv).1
  have : r = 0 ∨ r = 1 ∨ r = 2 := by omega
  rcases this with rfl | rfl | rfl
  · rw [Nat.add_zero, h0, ← hv]; rfl
  · rw [h1, ← hv]; rfl
  · rw [h2, ← hv]; rfl
theorem TrAt.of_owns {w : World} {base g n cap : Nat} {L : List Tr} (h : w.ownsRow base 44 3 (.slice (some ⟨g, 0, none⟩) n cap) n (L.flatMap Tr.cells)) : TrAt w g 0 L := by
  intro k hk
  rw [gtT_eq hk, Nat.zero_add]
  exact ⟨flat_owned Tr.cells 3 Tr.cells_length L w base 44 g n cap h k hk 0 _ (by omega) rfl, flat_owned Tr.cells 3 Tr.cells_length L w base 44 g n cap h k hk 1 _ (by omega) rfl, flat_owned Tr.cells 3 Tr.cells_length L w base 44 g n cap h k hk 2 _ (by omega) rfl⟩
theorem Tr.cells_one {L : List Tr} : ∀ u ∈ L.flatMap Tr.cells, u.oneCell' = true := by
  intro u hu
  rw [List.mem_flatMap] at hu
  obtain ⟨t, _, ht⟩ := hu
  simp only [Tr.cells, List.mem_cons, List.not_mem_nil, or_false] at ht
  rcases ht with rfl | rfl | rfl <;> rfl
/-- A slice of troubles, of the program's own making or one that came in. -/
def Scr (w : World) (v : Value) (L : List Tr) : Prop := ((v = .slice none 0 0 ∨ ∃ a cap, v = .slice (some a) 0 cap) ∧ L = []) ∨ ∃ b off cap, v = .slice (some ⟨b, off, none⟩) L.length cap ∧ TrAt w b off L ∧ 0 < L.length
theorem Scr.keep {w w' : World} {v : Value} {L : List Tr} (h : Scr w v L) (hk : ∀ b, v.ownBlock = some b → 0 < L.length → w'.heap[b]? = w.heap[b]?) : Scr w' v L := by
  rcases h with h | ⟨b, off, cap, rfl, ht, h0⟩
  · exact .inl h
  · exact .inr ⟨b, off, cap, rfl, ht.keep (hk b rfl h0), h0⟩
theorem Scr.slice {w : World} {v : Value} {L : List Tr} (h : Scr w v L) : ∃ a cap, v = .slice a L.length cap := by
  rcases h with ⟨rfl | ⟨a, cap, rfl⟩, rfl⟩ | ⟨b, off, cap, rfl, _⟩
  · exact ⟨none, 0, rfl⟩
  · exact ⟨some a, cap, rfl⟩
  · exact ⟨_, cap, rfl⟩

theorem Scr.lt {w : World} {v : Value} {L : List Tr} (h : Scr w v L) {b : Nat} (hb : v.ownBlock = some b) (h0 : 0 < L.length) : b < w.heap.size := by
  rcases h with ⟨_, rfl⟩ | ⟨b', off, cap, rfl, hr, h0⟩
  · simp at h0
  · simp [Value.ownBlock] at hb
    subst hb
    exact block_lt_of_cell (hr 0 h0).1
/-- What happens to a message. -/
def trouble (L : List Tr) (sent : Nat) : Tr := if L.length = 0 then ⟨false, 1, 1⟩ else gtT L (sent % L.length)

/-- The group of a node. -/
def groupOf (L : List Int) (i : Int) : Int := if i < 0 then 0 else (L[i.toNat]?).getD 0
def Grp (w : World) (v : Value) (L : List Int) : Prop := (v = .map none ∧ L = []) ∨
  ∃ B n D, v = .map (some B) ∧ w.ownsMap (H := Unit) Try.prog 3 (plainElem Try.prog 3) B n D ∧ ∀ i, (Lit.int .i64 i).wf = true → D.atKey (.int .i64 i) (.lit (.int .i64 0)) = .lit (.int .i64 (groupOf L i))
def Value.mapBlock : Value → Option Nat
  | .map o => o
  | _ => none
theorem Grp.keep {w w' : World} {v : Value} {L : List Int} (h : Grp w v L) (hk : ∀ b, Value.mapBlock v = some b → w'.heap[b]? = w.heap[b]?) : Grp w' v L := by
  rcases h with h | ⟨B, n, D, rfl, ⟨es, clock, hb, F, hs, hD⟩, hat⟩
  · exact .inl h
  · exact .inr ⟨B, n, D, rfl, ⟨es, clock, (hk B rfl).trans hb, F, hs, hD⟩, hat⟩
theorem groupOf_nil (i : Int) : groupOf [] i = 0 := by unfold groupOf; split <;> simp
theorem law3 : Keyed Try.prog 3 := int_keyed Try.underlying3
theorem zero3 (w : World) : (zeroValue 3).run Try.prog w = .ok (.int .i64 0) w := by kernel_rfl
theorem lookup_nil (i : Int) (w : World) : (Instr.lookup 54 (.map none) (.int .i64 i) false).run Try.prog w = .ok (.int .i64 0) w := by kernel_rfl
theorem Grp.lookup {w : World} {v : Value} {L : List Int} (h : Grp w v L) (i : Int) (hw : (Lit.int .i64 i).wf = true) : (Instr.lookup 54 v (.int .i64 i) false).run Try.prog w = .ok (.int .i64 (groupOf L i)) w := by
  rcases h with ⟨rfl, rfl⟩ | ⟨B, n, D, rfl, hown, hat⟩
  · rw [groupOf_nil]; exact lookup_nil i w
  · obtain ⟨c, hrun, hc, _⟩ := hown.lookup_int law3 Try.underlying54 Try.underlying3 (zero3 w) (keyOf_int_mk Try.underlying3 hw)
    rw [hat i hw] at hc
    rw [hrun]
    congr 1
    simp at hc
    rw [hc]
end Go.Proofs.Ytcadockapeancaa
