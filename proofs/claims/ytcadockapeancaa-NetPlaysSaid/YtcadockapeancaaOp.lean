/- Arguments that came in, opened: slices of structs, of arrays and of numbers, as plain lists. -/
import Derived.Test.YtcadockapeancaaWG
import Derived.ProofKit
import Derived.Deep.Slices
import Derived.Deep.Fields
import Derived.OpenShut
import Derived.Lib.SmallJoins
namespace Go.Proofs.Ytcadockapeancaa
open Go.ChangeShapes Go.WideShapes Go.Deep Go.RowKit Go.Joins

theorem list_of {α : Type} {P : Nat → α → Prop} : ∀ n, (∀ i, i < n → ∃ x, P i x) → ∃ L : List α, L.length = n ∧ ∀ i (h : i < L.length), P i L[i]
  | 0, _ => ⟨[], rfl, fun i h => by simp at h⟩
  | n + 1, h => by
    obtain ⟨L, hl, hL⟩ := list_of n (fun i hi => h i (by omega))
    obtain ⟨x, hx⟩ := h n (by omega)
    refine ⟨L ++ [x], by simp [hl], fun i hi => ?_⟩
    by_cases e : i < L.length
    · rw [List.getElem_append_left e]; exact hL i e
    · have : i = n := by simp at hi; omega
      subst this
      rw [List.getElem_append_right (by omega)]
      simpa [hl] using hx

section
variable {H : Type} {enc : TypeId × Value → H} {P : Program} {w : World} {base : Nat} {spare : Nat → Bool} {held : Bool}

/-- A slice, opened: nil; empty; or a row of elements, each as its cells. -/
theorem read_slice {r : Reach} {b0 : Nat} {t e : TypeId} {v : Value} {d : DataW H} {ps : List MemPlace} (size : Nat) (ht : P.underlying t = some (.slice e)) (hs : P.cellsOf e = size) (hs0 : 0 < size) (hv : Value.okWide P w r b0 t v) (h : DataW.Trod enc P w base spare held t v d ps) :
    v = .slice none 0 0 ∨ (∃ a cap, v = .slice (some a) 0 cap) ∨
    ∃ b off len cap, v = .slice (some ⟨b, off, none⟩) len cap ∧ 0 < len ∧ len ≤ cap ∧ cap ≤ maxLen ∧ ∀ i, i < len → ∃ (cs : List Value) (n : Nat) (y : DataW H × List MemPlace), cs.length = size ∧
      (∀ j, j < size → w.cell? ⟨b, off + i * size + j, none⟩ = cs[j]?) ∧ DataW.trod enc P w base spare held n e cs = some y := by
  obtain ⟨a, len, cap, rfl⟩ := okWide_slice ht hv
  obtain ⟨fuel, hf⟩ := h
  rcases open_slice ht hf with ⟨hcs, _⟩ | ⟨a', len', cap', m, n, D, Pl, hcs, hb, hl, hm, hmm, hx, hi⟩
  · simp [Value.cells] at hcs
    obtain ⟨rfl, rfl, rfl⟩ := hcs
    exact .inl rfl
  · simp [Value.cells] at hcs
    obtain ⟨rfl, rfl, rfl⟩ := hcs
    by_cases h0 : len = 0
    · subst h0
      exact .inr (.inl ⟨a', cap, rfl⟩)
    · obtain ⟨b, off, spot⟩ := a'
      have hlm : len ≤ m := by rw [hmm]; split <;> omega
      have hspot : spot = none := by
        obtain ⟨cs', hc, _⟩ := hi 0 (by omega)
        obtain ⟨_, hl', hc'⟩ := World.cells?_some hc
        have h1 := hc' 0 (by omega)
        have h2 : cs'[0]? = some (cs'[0]'(by omega)) := List.getElem?_eq_getElem (by omega)
        rw [h2] at h1
        have := World.cell?_spot h1
        simpa [Addr.add] using this
      subst hspot
      refine .inr (.inr ⟨b, off, len, cap, rfl, by omega, hl, hm, fun i hil => ?_⟩)
      obtain ⟨cs', hc, hd⟩ := hi i (by omega)
      obtain ⟨_, hl', hc'⟩ := World.cells?_some hc
      rw [hs] at hl' hc'
      refine ⟨cs', n, _, hl', fun j hj => ?_, hd⟩
      have := hc' j hj
      rwa [add_at, add_at] at this

/-- One cell of a struct or of an array. -/
theorem part1 {n : Nat} {T : TypeId} {cs : List Value} {off k : Nat} {xs : List (DataW H × List MemPlace)} (hC : P.cellsOf T = 1) (hoff : off < cs.length) (hk : k < xs.length)
    (h : DataW.trod enc P w base spare held n T ((cs.drop off).take (P.cellsOf T)) = xs[k]?) : ∃ v y, cs[off]? = some v ∧ DataW.trod enc P w base spare held n T [v] = some y := by
  rw [hC] at h
  have e : (cs.drop off).take 1 = [cs[off]] := by rw [List.drop_eq_getElem_cons hoff]; rfl
  rw [e, List.getElem?_eq_getElem hk] at h
  exact ⟨_, _, List.getElem?_eq_getElem hoff, h⟩

/-- A slice of numbers. -/
def IntsK (k : IntKind) (w : World) (v : Value) (L : List Int) : Prop := ((v = .slice none 0 0 ∨ ∃ a cap, v = .slice (some a) 0 cap) ∧ L = []) ∨
  ∃ b off cap, v = .slice (some ⟨b, off, none⟩) L.length cap ∧ (∀ i, i < L.length → w.cell? ⟨b, off + i, none⟩ = some (.int k (gtI L i))) ∧ 0 < L.length
theorem read_ints {r : Reach} {b0 : Nat} {t e : TypeId} {k : IntKind} {v : Value} {d : DataW H} {ps : List MemPlace} (ht : P.underlying t = some (.slice e)) (he : P.underlying e = some (.int k)) (hC : P.cellsOf e = 1)
    (hv : Value.okWide P w r b0 t v) (h : DataW.Trod enc P w base spare held t v d ps) : ∃ L, IntsK k w v L ∧ L.length ≤ maxLen ∧ ∀ i, i < L.length → (Lit.int k (gtI L i)).wf = true := by
  rcases read_slice 1 ht hC (by omega) hv h with rfl | ⟨a, cap, rfl⟩ | ⟨b, off, len, cap, rfl, h0, hl, hm, hi⟩
  · exact ⟨[], .inl ⟨.inl rfl, rfl⟩, by simp, fun i h => by simp at h⟩
  · exact ⟨[], .inl ⟨.inr ⟨a, cap, rfl⟩, rfl⟩, by simp, fun i h => by simp at h⟩
  · obtain ⟨L, hlen, hL⟩ := list_of (P := fun i x => w.cell? ⟨b, off + i, none⟩ = some (.int k x) ∧ (Lit.int k x).wf = true) len (fun i hil => by
      obtain ⟨cs, n, y, hcl, hc, hd⟩ := hi i hil
      obtain ⟨x, rfl, _, hw⟩ := DataW.trod_int he hd
      exact ⟨x, by simpa using hc 0 (by omega), hw⟩)
    have hg : ∀ i (h : i < L.length), gtI L i = L[i] := fun i h => by simp [gtI, h]
    subst hlen
    exact ⟨L, .inr ⟨b, off, cap, rfl, fun i h => by rw [hg i h]; exact (hL i h).1, h0⟩, by omega, fun i h => by rw [hg i h]; exact (hL i h).2⟩
end

section
variable {H : Type} {enc : TypeId × Value → H} {w : World} {base : Nat} {spare : Nat → Bool} {held : Bool}
theorem c3 : Try.prog.cellsOf 3 = 1 := by kernel_rfl
theorem c4 : Try.prog.cellsOf 4 = 1 := by kernel_rfl
theorem c9 : Try.prog.cellsOf 9 = 1 := by kernel_rfl
theorem c42 : Try.prog.cellsOf 42 = 1 := by kernel_rfl
theorem c44 : Try.prog.cellsOf 44 = 3 := by kernel_rfl
theorem c49 : Try.prog.cellsOf 49 = 2 := by kernel_rfl
theorem c31 : Try.prog.cellsOf 31 = 3 := by kernel_rfl

/-- A slice of troubles that came in. -/
theorem read_scr {r : Reach} {b0 : Nat} {v : Value} {d : DataW H} {ps : List MemPlace} (hv : Value.okWide Try.prog w r b0 22 v) (h : DataW.Trod enc Try.prog w base spare held 22 v d ps) : ∃ L, Scr w v L ∧ L.length ≤ maxLen := by
  rcases read_slice 3 Try.underlying22 c44 (by omega) hv h with rfl | ⟨a, cap, rfl⟩ | ⟨b, off, len, cap, rfl, h0, hl, hm, hi⟩
  · exact ⟨[], .inl ⟨.inl rfl, rfl⟩, by simp⟩
  · exact ⟨[], .inl ⟨.inr ⟨a, cap, rfl⟩, rfl⟩, by simp⟩
  · obtain ⟨L, hlen, hL⟩ := list_of (P := fun i (x : Tr) => w.cell? ⟨b, off + i * 3, none⟩ = some (.bool x.lost) ∧ w.cell? ⟨b, off + i * 3 + 1, none⟩ = some (.int .i64 x.copies) ∧ w.cell? ⟨b, off + i * 3 + 2, none⟩ = some (.int .i64 x.delay)) len (fun i hil => by
      obtain ⟨cs, n, y, hcl, hc, hd⟩ := hi i hil
      obtain ⟨xs, n', _, _, _, hxl, hf⟩ := DataW.trod_struct Try.underlying44 hd
      have hxl' : xs.length = 3 := hxl
      obtain ⟨v0, y0, e0, t0⟩ := part1 (T := 4) (off := 0) (k := 0) c4 (by omega) (by omega) (hf 0 _ rfl)
      obtain ⟨v1, y1, e1, t1⟩ := part1 (T := 3) (off := 1) (k := 1) c3 (by omega) (by omega) (hf 1 _ rfl)
      obtain ⟨v2, y2, e2, t2⟩ := part1 (T := 3) (off := 2) (k := 2) c3 (by omega) (by omega) (hf 2 _ rfl)
      obtain ⟨x0, h0', _⟩ := DataW.trod_bool Try.underlying4 t0
      obtain ⟨x1, h1', _⟩ := DataW.trod_int Try.underlying3 t1
      obtain ⟨x2, h2', _⟩ := DataW.trod_int Try.underlying3 t2
      cases h0'
      cases h1'
      cases h2'
      exact ⟨⟨x0, x1, x2⟩, by rw [← e0]; exact hc 0 (by omega), by rw [← e1]; exact hc 1 (by omega), by rw [← e2]; exact hc 2 (by omega)⟩)
    subst hlen
    exact ⟨L, .inr ⟨b, off, cap, rfl, fun i h => by rw [gtT_eq h]; exact hL i h, h0⟩, by omega⟩

/-- A message by value. -/
theorem read_msg {r : Reach} {b0 : Nat} {v : Value} {d : DataW H} {ps : List MemPlace} (hv : Value.okWide Try.prog w r b0 31 v) (h : DataW.Trod enc Try.prog w base spare held 31 v d ps) :
    ∃ f t s, v = .agg #[.int .i64 f, .int .i64 t, .string s] ∧ (Lit.int .i64 f).wf = true ∧ (Lit.int .i64 t).wf = true := by
  obtain ⟨v0, v1, v2, y0, y1, y2, n, rfl, _, _, t0, t1, t2⟩ := open_agg3 Try.underlying31 (by kernel_rfl) c31 hv h
  obtain ⟨x0, h0', _, w0⟩ := DataW.trod_int Try.underlying3 t0
  obtain ⟨x1, h1', _, w1⟩ := DataW.trod_int Try.underlying3 t1
  obtain ⟨x2, h2', _⟩ := DataW.trod_string Try.underlying9 t2
  cases h0'
  cases h1'
  cases h2'
  exact ⟨x0, x1, x2, rfl, w0, w1⟩

/-- A pair of numbers by value. -/
theorem read_arr2 {r : Reach} {b0 : Nat} {v : Value} {d : DataW H} {ps : List MemPlace} (hv : Value.okWide Try.prog w r b0 49 v) (h : DataW.Trod enc Try.prog w base spare held 49 v d ps) :
    ∃ a b, v = .agg #[.int .u16 a, .int .u16 b] ∧ (Lit.int .u16 a).wf = true ∧ (Lit.int .u16 b).wf = true := by
  have hv' : ∃ cs, v = .agg cs ∧ cs.size = Try.prog.cellsOf 49 := by
    simp only [Value.okWide, Try.underlying49] at hv
    obtain ⟨cs, h1, h2, _⟩ := hv
    exact ⟨cs, h1, h2⟩
  obtain ⟨cs, rfl, hsz⟩ := hv'
  obtain ⟨x0, x1, rfl⟩ := array2 (hsz.trans c49)
  obtain ⟨fuel, hf⟩ := h
  obtain ⟨xs, m, _, _, _, hxl, hi⟩ := DataW.trod_array Try.underlying49 hf
  have h0 := hi 0 (by omega)
  have h1 := hi 1 (by omega)
  rw [c42] at h0 h1
  obtain ⟨y0, hy0⟩ : ∃ y, xs[0]? = some y := ⟨_, List.getElem?_eq_getElem (by omega)⟩
  obtain ⟨y1, hy1⟩ : ∃ y, xs[1]? = some y := ⟨_, List.getElem?_eq_getElem (by omega)⟩
  rw [hy0] at h0
  rw [hy1] at h1
  obtain ⟨a, e0, _, wa⟩ := DataW.trod_int Try.underlying42 h0
  obtain ⟨b, e1, _, wb⟩ := DataW.trod_int Try.underlying42 h1
  simp [Value.cells] at e0 e1
  subst e0 e1
  exact ⟨a, b, rfl, wa, wb⟩
end
end Go.Proofs.Ytcadockapeancaa
