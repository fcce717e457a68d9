/- The calls that NetPlays makes, as they came in: a slice of structs that hold a message and a slice of numbers each. -/
import Derived.Test.YtcadockapeancaaOp
import Derived.SizedLaws
namespace Go.Proofs.Ytcadockapeancaa
open Go.ChangeShapes Go.WideShapes Go.Deep Go.RowKit Go.Joins

structure Ac where
  kind : Int
  now : Int
  f : Int
  t : Int
  s : ByteArray
  gv : Value
  g : List Int
instance : Inhabited Ac := ⟨⟨0, 0, 0, 0, ⟨#[]⟩, .slice none 0 0, []⟩⟩
def gtA (L : List Ac) (k : Nat) : Ac := (L[k]?).getD default
theorem gtA_eq {L : List Ac} {k : Nat} (h : k < L.length) : gtA L k = L[k] := by simp [gtA, h]
def AcAt (w : World) (b off k : Nat) (x : Ac) : Prop := w.cell? ⟨b, off + k * 6, none⟩ = some (.int .i64 x.kind) ∧ w.cell? ⟨b, off + k * 6 + 1, none⟩ = some (.int .i64 x.now) ∧ w.cell? ⟨b, off + k * 6 + 2, none⟩ = some (.int .i64 x.f) ∧
  w.cell? ⟨b, off + k * 6 + 3, none⟩ = some (.int .i64 x.t) ∧ w.cell? ⟨b, off + k * 6 + 4, none⟩ = some (.string x.s) ∧ w.cell? ⟨b, off + k * 6 + 5, none⟩ = some x.gv
def AcOk (w : World) (x : Ac) : Prop := ((Lit.int .i64 x.kind).wf = true ∧ (Lit.int .i64 x.now).wf = true ∧ (Lit.int .i64 x.f).wf = true ∧ (Lit.int .i64 x.t).wf = true) ∧ Ints w x.gv x.g ∧ wfI x.g ∧ x.g.length ≤ maxLen
def Acs (w : World) (v : Value) (L : List Ac) : Prop := ((v = .slice none 0 0 ∨ ∃ a cap, v = .slice (some a) 0 cap) ∧ L = []) ∨ ∃ b off cap, v = .slice (some ⟨b, off, none⟩) L.length cap ∧ 0 < L.length ∧ ∀ k, k < L.length → AcAt w b off k (gtA L k)
theorem weightsAll_mem' {H : Type} {P : Program} {e : TypeId} : ∀ {l : List (DataW H)} {d : DataW H}, d ∈ l → ∀ n ∈ d.weights P e, n ∈ DataW.weightsAll P e l
  | d' :: r, d, hd, n, hn => by
    simp only [DataW.weightsAll, List.mem_append]
    rcases List.mem_cons.1 hd with rfl | h
    · exact Or.inl hn
    · exact Or.inr (weightsAll_mem' h n hn)

section
variable {H : Type} {enc : TypeId × Value → H} {w : World} {base : Nat} {spare : Nat → Bool} {held : Bool}
theorem c34 : Try.prog.cellsOf 34 = 6 := by kernel_rfl
theorem c32 : Try.prog.cellsOf 32 = 1 := by kernel_rfl
theorem b3 : Try.prog.bytesOf 3 = 8 := by kernel_rfl
/-- A slice of numbers that lies in one cell. -/
theorem read_inner {v : Value} {n : Nat} {y : DataW H × List MemPlace} (h : DataW.trod enc Try.prog w base spare held n 32 [v] = some y) :
    ∃ G, Ints w v G ∧ wfI G ∧ G.length ≤ maxLen ∧ (G = [] ∨ ∃ es sp, y.1 = .slice es sp ∧ es.length = G.length) := by
  rcases open_slice1 Try.underlying32 c3 h with ⟨hcs, _⟩ | ⟨a, len, cap, m, n', V, D, Pl, hcs, hb, hl, hm, hmm, hx, hi⟩
  · cases hcs
    exact ⟨[], .inl ⟨.inl rfl, rfl⟩, fun k hk => by simp at hk, by simp, .inl rfl⟩
  · cases hcs
    by_cases h0 : len = 0
    · subst h0
      exact ⟨[], .inl ⟨.inr ⟨a, cap, rfl⟩, rfl⟩, fun k hk => by simp at hk, by simp, .inl rfl⟩
    · have hlm : len ≤ m := by rw [hmm]; split <;> omega
      obtain ⟨b, off, spot⟩ := a
      have hspot : spot = none := by
        have := World.cell?_spot (hi 0 (by omega)).1
        simpa [Addr.add] using this
      subst hspot
      obtain ⟨G, hlen, hG⟩ := list_of (P := fun i x => w.cell? ⟨b, off + i, none⟩ = some (.int .i64 x) ∧ (Lit.int .i64 x).wf = true) len (fun i hil => by
        obtain ⟨hc, hd⟩ := hi i (by omega)
        obtain ⟨x, hxv, _, hw⟩ := DataW.trod_int Try.underlying3 hd
        rw [add_at] at hc
        have hvx : V i = .int .i64 x := by simpa using hxv
        rw [hvx] at hc
        exact ⟨_, hc, hw⟩)
      have hg : ∀ i (h : i < G.length), gtI G i = G[i] := fun i h => by simp [gtI, h]
      subst hlen
      refine ⟨G, .inr ⟨b, off, cap, rfl, fun i h => by rw [hg i h]; exact (hG i h).1, by omega⟩, fun i h => by rw [hg i h]; exact (hG i h).2, by omega, .inr ⟨_, _, by rw [hx], by simp⟩⟩

theorem read_acts {r : Reach} {b0 : Nat} {v : Value} {d : DataW H} {ps : List MemPlace} (hv : Value.okWide Try.prog w r b0 23 v) (h : DataW.Trod enc Try.prog w base spare held 23 v d ps) :
    ∃ L, Acs w v L ∧ L.length ≤ maxLen ∧ ∀ k, k < L.length → AcOk w (gtA L k) ∧ ((gtA L k).g = [] ∨ ∃ q ∈ d.weights Try.prog 23, (gtA L k).g.length * 8 ≤ q) := by
  obtain ⟨a, len, cap, rfl⟩ := okWide_slice Try.underlying23 hv
  obtain ⟨fuel, hf⟩ := h
  rcases open_slice Try.underlying23 hf with ⟨hcs, _⟩ | ⟨a', len', cap', m, n, D, Pl, hcs, hb, hl, hm, hmm, hx, hi⟩
  · simp [Value.cells] at hcs
    obtain ⟨rfl, rfl, rfl⟩ := hcs
    exact ⟨[], .inl ⟨.inl rfl, rfl⟩, by simp, fun k h => by simp at h⟩
  · simp [Value.cells] at hcs
    obtain ⟨rfl, rfl, rfl⟩ := hcs
    by_cases h0 : len = 0
    · subst h0
      exact ⟨[], .inl ⟨.inr ⟨a', cap, rfl⟩, rfl⟩, by simp, fun k h => by simp at h⟩
    · have hlm : len ≤ m := by rw [hmm]; split <;> omega
      obtain ⟨b, off, spot⟩ := a'
      have hspot : spot = none := by
        obtain ⟨cs', hc, _⟩ := hi 0 (by omega)
        obtain ⟨_, hl', hc'⟩ := World.cells?_some hc
        rw [c34] at hl'
        have h1 := hc' 0 (by rw [c34]; omega)
        have h2 : cs'[0]? = some (cs'[0]'(by omega)) := List.getElem?_eq_getElem (by omega)
        rw [h2] at h1
        have := World.cell?_spot h1
        simpa [Addr.add] using this
      subst hspot
      have hd : d = .slice ((List.range len).map D) ((List.range (m - len)).map fun j => D (len + j)) := congrArg Prod.fst hx
      obtain ⟨L, hlen, hL⟩ := list_of (P := fun i (x : Ac) => (AcAt w b off i x ∧ AcOk w x) ∧ (x.g = [] ∨ ∃ q ∈ (D i).weights Try.prog 34, x.g.length * 8 ≤ q)) len (fun i hil => by
        obtain ⟨cs, hc, hdd⟩ := hi i (by omega)
        obtain ⟨_, hl', hc'⟩ := World.cells?_some hc
        rw [c34] at hl' hc'
        have hcell : ∀ j, j < 6 → w.cell? ⟨b, off + i * 6 + j, none⟩ = cs[j]? := by
          intro j hj
          have := hc' j hj
          rwa [add_at, add_at] at this
        obtain ⟨xs, n', _, hDx, _, hxl, hfs⟩ := DataW.trod_struct Try.underlying34 hdd
        have hxl' : xs.length = 4 := hxl
        obtain ⟨v0, y0, e0, t0⟩ := part1 (T := 3) (off := 0) (k := 0) c3 (by omega) (by omega) (hfs 0 _ rfl)
        obtain ⟨v1, y1, e1, t1⟩ := part1 (T := 3) (off := 1) (k := 1) c3 (by omega) (by omega) (hfs 1 _ rfl)
        have hm2 : DataW.trod enc Try.prog w base spare held n' 31 ((cs.drop 2).take (Try.prog.cellsOf 31)) = xs[2]? := hfs 2 _ rfl
        rw [c31, List.getElem?_eq_getElem (by omega : 2 < xs.length)] at hm2
        obtain ⟨zs, n2, _, _, _, hzl, hzf⟩ := DataW.trod_struct Try.underlying31 hm2
        have hzl' : zs.length = 3 := hzl
        have hml : ((cs.drop 2).take 3).length = 3 := by simp; omega
        obtain ⟨u0, z0, f0, s0⟩ := part1 (T := 3) (off := 0) (k := 0) c3 (by omega) (by omega) (hzf 0 _ rfl)
        obtain ⟨u1, z1, f1, s1⟩ := part1 (T := 3) (off := 1) (k := 1) c3 (by omega) (by omega) (hzf 1 _ rfl)
        obtain ⟨u2, z2, f2, s2⟩ := part1 (T := 9) (off := 2) (k := 2) c9 (by omega) (by omega) (hzf 2 _ rfl)
        have hg5 : DataW.trod enc Try.prog w base spare held n' 32 ((cs.drop 5).take (Try.prog.cellsOf 32)) = xs[3]? := hfs 3 _ rfl
        have hd5 : (cs.drop 5).take 1 = [cs[5]'(by omega)] := by rw [List.drop_eq_getElem_cons (by omega)]; rfl
        rw [c32, hd5, List.getElem?_eq_getElem (by omega : 3 < xs.length)] at hg5
        obtain ⟨G, g1, g2, g3, g4⟩ := read_inner hg5
        obtain ⟨x0, h0', _, w0⟩ := DataW.trod_int Try.underlying3 t0
        obtain ⟨x1, h1', _, w1⟩ := DataW.trod_int Try.underlying3 t1
        obtain ⟨p0, h2', _, w2⟩ := DataW.trod_int Try.underlying3 s0
        obtain ⟨p1, h3', _, w3⟩ := DataW.trod_int Try.underlying3 s1
        obtain ⟨p2, h4', _⟩ := DataW.trod_string Try.underlying9 s2
        cases h0'
        cases h1'
        cases h2'
        cases h3'
        cases h4'
        have k0 : cs[2]? = some (.int .i64 p0) := by rw [← f0]; simp
        have k1 : cs[3]? = some (.int .i64 p1) := by rw [← f1]; simp
        have k2 : cs[4]? = some (.string p2) := by rw [← f2]; simp
        refine ⟨⟨x0, x1, p0, p1, p2, cs[5]'(by omega), G⟩, ⟨⟨?_, ?_, ?_, ?_, ?_, ?_⟩, ⟨w0, w1, w2, w3⟩, g1, g2, g3⟩, ?_⟩
        · have := hcell 0 (by omega); rw [e0] at this; simpa using this
        · rw [hcell 1 (by omega), e1]
        · rw [hcell 2 (by omega), k0]
        · rw [hcell 3 (by omega), k1]
        · rw [hcell 4 (by omega), k2]
        · rw [hcell 5 (by omega)]; exact List.getElem?_eq_getElem _
        · rcases g4 with g4 | ⟨es, sp, g4, g5⟩
          · exact .inl g4
          · refine .inr ⟨(es.length + sp.length) * Try.prog.bytesOf 3, ?_, by rw [b3, g5]; exact Nat.mul_le_mul_right _ (Nat.le_add_right _ _)⟩
            have hD : D i = .agg (xs.map (·.1)) := congrArg Prod.fst hDx
            rw [hD]
            simp only [DataW.weights, Try.underlying34]
            refine DataW.weights_mem_each (j := 3) (t := 32) (d := .slice es sp) rfl ?_ _ (by simp [DataW.weights, Try.underlying32])
            rw [List.getElem?_map, List.getElem?_eq_getElem (by omega : 3 < xs.length)]
            simp [g4])
      subst hlen
      refine ⟨L, .inr ⟨b, off, cap, rfl, by omega, fun i h => by rw [gtA_eq h]; exact (hL i h).1.1⟩, by omega, fun i h => ?_⟩
      rw [gtA_eq h]
      refine ⟨(hL i h).1.2, ?_⟩
      rcases (hL i h).2 with e | ⟨q, hq, hle⟩
      · exact .inl e
      · refine .inr ⟨q, ?_, hle⟩
        rw [hd]
        simp only [DataW.weights, Try.underlying23, List.mem_cons, List.mem_append]
        exact Or.inr (Or.inl (weightsAll_mem' (List.mem_map.2 ⟨i, List.mem_range.2 h, rfl⟩) _ hq))
end
theorem Acs.slice {w : World} {v : Value} {L : List Ac} (h : Acs w v L) : ∃ a cap, v = .slice a L.length cap := by
  rcases h with ⟨rfl | ⟨a, cap, rfl⟩, rfl⟩ | ⟨b, off, cap, rfl, _⟩
  · exact ⟨none, 0, rfl⟩
  · exact ⟨some a, cap, rfl⟩
  · exact ⟨_, cap, rfl⟩
theorem Acs.at {w : World} {a : Option Addr} {n cap : Nat} {L : List Ac} (h : Acs w (.slice a n cap) L) : ∀ i, i < L.length → ∃ b off, a = some ⟨b, off, none⟩ ∧ b < w.heap.size ∧ AcAt w b off i (gtA L i) := by
  intro i hi
  rcases h with ⟨_, rfl⟩ | ⟨b, off, cap', hv, h0, hr⟩
  · simp at hi
  · simp only [Value.slice.injEq] at hv
    obtain ⟨rfl, _, rfl⟩ := hv
    exact ⟨b, off, rfl, block_lt_of_cell (hr i hi).1, hr i hi⟩
end Go.Proofs.Ytcadockapeancaa
