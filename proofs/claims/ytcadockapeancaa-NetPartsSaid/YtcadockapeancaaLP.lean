/- The walk of NetParts: it returns true. -/
import Derived.Test.YtcadockapeancaaPa
import Derived.Deep.DeepCutAuto
import Derived.Laws.AppendOwnNone
namespace Go.Proofs.Ytcadockapeancaa
open Go.RowKit

theorem Try.info3 : (Try.prog.info? 3).map (fun i => (i.zero, i.size, i.bytes)) = some (some (.int .i64 0), 1, 8) := by kernel_rfl
theorem IntsK.slice' {k : IntKind} {w : World} {v : Value} {L : List Int} (h : IntsK k w v L) : ∃ a cap, v = .slice a L.length cap := by
  rcases h with ⟨rfl | ⟨a, cap, rfl⟩, rfl⟩ | ⟨b, off, cap, rfl, _⟩
  · exact ⟨none, 0, rfl⟩
  · exact ⟨some a, cap, rfl⟩
  · exact ⟨_, cap, rfl⟩
theorem IntsK.at' {k : IntKind} {w : World} {a : Option Addr} {n cap : Nat} {L : List Int} (h : IntsK k w (.slice a n cap) L) : ∀ i, i < L.length → ∃ b off, a = some ⟨b, off, none⟩ ∧ b < w.heap.size ∧ w.cell? ⟨b, off + i, none⟩ = some (.int k (gtI L i)) := by
  intro i hi
  rcases h with ⟨_, rfl⟩ | ⟨b, off, cap', hv, hr, h0⟩
  · simp at hi
  · simp only [Value.slice.injEq] at hv
    obtain ⟨rfl, _, rfl⟩ := hv
    exact ⟨b, off, rfl, block_lt_of_cell (hr i hi), hr i hi⟩
theorem Ints.at {w : World} {a : Option Addr} {n cap : Nat} {L : List Int} (h : Ints w (.slice a n cap) L) : ∀ i, i < L.length → ∃ b off, a = some ⟨b, off, none⟩ ∧ b < w.heap.size ∧ w.cell? ⟨b, off + i, none⟩ = some (.int .i64 (gtI L i)) := by
  intro i hi
  rcases h with ⟨_, rfl⟩ | ⟨b, off, cap', hv, hr, h0⟩
  · simp at hi
  · simp only [Value.slice.injEq] at hv
    obtain ⟨rfl, _, rfl⟩ := hv
    exact ⟨b, off, rfl, block_lt_of_cell (hr i hi), hr i hi⟩

def PaRel (w : World) (Z : List Int) (v : Value) (k : Nat) (wr : World) : Prop :=
  wr.ownsRow w.heap.size 3 1 v k ((gP (Z.take k)).map (Value.int .i64)) ∧ Below w.heap.size w wr ∧ (k = 0 → v = .slice none 0 0)
theorem pa_step {w wr w1 : World} {Z : List Int} {v : Value} {k : Nat} {x : Int} (h : PaRel w Z v k wr) (hk : k < Z.length) (h8 : k < 8) (hx : x = (gtI Z k).tmod 3) {g cap : Nat}
    (ho : w1.ownsRow w.heap.size 3 1 (.slice (some ⟨g, 0, none⟩) (k + 1) cap) (k + 1) ((gP (Z.take k)).map (Value.int .i64) ++ [.int .i64 x]))
    (hg : (wr.alloc (.cells #[.int .i64 x] 3)).grownBy w1 v.ownBlock) : PaRel w Z (.slice (some ⟨g, 0, none⟩) (k + 1) cap) (k + 1) w1 := by
  refine ⟨?_, (h.2.1.alloc h.2.1.size _).grown hg (by simp; have := h.2.1.size; omega) (fun b hb => (h.1.lt b hb).1), fun h => by omega⟩
  rw [gP_succ Z k hk h8, List.map_append, ← hx]
  simpa using ho
theorem one_news (w : World) (x : Int) (j : Nat) (u : Value) (h : ([.int .i64 x] : List Value)[j]? = some u) : (w.alloc (.cells #[.int .i64 x] 3)).cell? ((⟨w.heap.size, 0, none⟩ : Addr).add j) = some u := by
  rw [add_at, Nat.zero_add, cell_of_row _ w.heap.size j _ 3 (0, 0) (heap_alloc_new w _)]
  simpa using h
/-- The groups as they lie behind the first loop. -/
structure PaGot (w wr : World) (G : List Int) (a : Option Addr) (c : Nat) : Prop where
  ints : Ints wr (.slice a G.length c) G
  bel : Below w.heap.size w wr
  row : ∀ g, (Value.slice a G.length c).ownBlock = some g → w.heap.size ≤ g ∧ g < wr.heap.size ∧ RowI wr g G.length
  none : G.length = 0 → a = .none ∧ c = 0
  some : 0 < G.length → ∃ g, a = .some ⟨g, 0, .none⟩
theorem pa_got {w wr : World} {Z : List Int} {v : Value} {k : Nat} (h : PaRel w Z v k wr) (hk : k ≤ Z.length) (h8 : k ≤ 8) (he : Z.length ≤ k ∨ 8 ≤ k) : ∃ a c, v = .slice a (gP Z).length c ∧ PaGot w wr (gP Z) a c := by
  have e := gP_end Z k he
  have hl : k = (gP Z).length := by rw [gP_length]; omega
  obtain ⟨h1, h2, h3⟩ := h
  rw [e, hl] at h1
  by_cases h0 : (gP Z).length = 0
  · refine ⟨none, 0, by rw [h3 (by omega), h0], ⟨.inl ⟨.inl (by rw [h0]), List.eq_nil_of_length_eq_zero h0⟩, h2, fun g hg => by simp [Value.ownBlock] at hg, fun _ => ⟨rfl, rfl⟩, fun h => by omega⟩⟩
  · obtain ⟨g, cap, rfl, hb, hc, hm⟩ := ownsRow_form h1 (by omega)
    obtain ⟨i1, i2⟩ := ints_of_owns h1 rfl (by omega)
    refine ⟨_, _, rfl, ⟨i1, h2, fun g' hg => ?_, fun h => by omega, fun _ => ⟨g, rfl⟩⟩⟩
    simp [Value.ownBlock] at hg
    subst hg
    exact ⟨hb, (h1.lt _ rfl).2, i2⟩
/-- What holds behind the copy of the groups. -/
structure PaMid (w wx : World) (pb : Nat) (own : Nat → Prop) (G : List Int) (a : Option Addr) (c : Nat) (a9 : Option Addr) (c9 : Nat) : Prop where
  inv : Inv w wx pb own (paS G 0) (fun b => (Value.slice a G.length c).ownBlock = some b ∨ (Value.slice a9 G.length c9).ownBlock = some b)
  ints : Ints wx (.slice a9 G.length c9) G
  row : ∀ g, (Value.slice a G.length c).ownBlock = some g → w.heap.size ≤ g ∧ g < wx.heap.size ∧ RowI wx g G.length ∧ (Value.slice a9 G.length c9).ownBlock ≠ some g
theorem pa_mid {w wr w3 w5 wx : World} {pb : Nat} {own : Nat → Prop} {G : List Int} {a a9 : Option Addr} {c c9 : Nat} (hg : PaGot w wr G a c) (h3 : Below wr.heap.size wr w3) (hI : Inv w w5 pb own (paS G 0) (fun b => b < wr.heap.size)) (hK : Keep (fun b => b < wr.heap.size) w3 w5)
    (hb : Below w5.heap.size w5 wx) (hi : Ints wx (.slice a9 G.length c9) G) (hn : ∀ b, (Value.slice a9 G.length c9).ownBlock = some b → w5.heap.size ≤ b ∧ b < wx.heap.size) : PaMid w wx pb own G a c a9 c9 := by
  have hsub : ∀ b, (Value.slice a G.length c).ownBlock = some b → b < wr.heap.size := fun b h => (hg.row b h).2.1
  refine ⟨(hI.below hb).keepMono fun b h => ?_, hi, fun g h => ?_⟩
  · rcases h with h | h
    · exact ⟨Nat.lt_of_lt_of_le (hI.sep b (hsub b h)).1 hb.size, (hI.sep b (hsub b h)).2⟩
    · exact ⟨(hn b h).2, fun e => by have := hI.lt e; have := (hn b h).1; omega⟩
  · obtain ⟨r1, r2, r3⟩ := hg.row g h
    have r4 := (hI.sep g r2).1
    refine ⟨r1, Nat.lt_of_lt_of_le r4 hb.size, r3.keep ((hb.block g r4).trans ((hK g r2).trans (h3.block g r2))), fun e => ?_⟩
    have := (hn g e).1
    omega
/-- .. and in the loop that overwrites the first one. -/
def PaOver (w wr : World) (pb : Nat) (own : Nat → Prop) (G : List Int) (a : Option Addr) (c : Nat) (a9 : Option Addr) (c9 : Nat) : Prop := PaMid w wr pb own G a c a9 c9
theorem PaMid.set {w wr : World} {pb : Nat} {own : Nat → Prop} {G : List Int} {g : Nat} {c : Nat} {a9 : Option Addr} {c9 : Nat} (h : PaMid w wr pb own G (some ⟨g, 0, none⟩) c a9 c9) (k : Nat) (x : Value) : PaMid w (wr.setCell ⟨g, k, none⟩ x) pb own G (some ⟨g, 0, none⟩) c a9 c9 := by
  have hF : Fr (fun b => b = g) wr (wr.setCell ⟨g, k, none⟩ x) := (Fr.refl (fun k => k = g) wr).setCell (.inr rfl) _
  obtain ⟨r1, r2, r3, r4⟩ := h.row g rfl
  refine ⟨h.inv.frame hF (fun b hb e => ?_) (fun b e => by subst e; exact r1), h.ints.keep fun b hb h0 => ?_, fun g' hg' => ?_⟩
  · subst e
    exact (h.inv.sep b (.inl rfl)).2 hb
  · have hne : b ≠ g := fun e => r4 (e ▸ hb)
    exact hF.block b (h.inv.sep b (.inr hb)).1 hne
  · simp [Value.ownBlock] at hg'
    subst hg'
    exact ⟨r1, by rw [size_setCell]; exact r2, r3.set k x, r4⟩
/-- What holds at the head of each round of the last loop. -/
def PaIn (w wr : World) (pb : Nat) (G : List Int) (a9 : Option Addr) (c9 k : Nat) : Prop := ∃ own, Inv w wr pb own (paS G k) (fun b => (Value.slice a9 G.length c9).ownBlock = some b) ∧ Ints wr (.slice a9 G.length c9) G
theorem pa_in {w wr w' : World} {pb : Nat} {own : Nat → Prop} {G : List Int} {a9 : Option Addr} {c9 k : Nat} (hI : Inv w w' pb own (paS G k) (fun b => (Value.slice a9 G.length c9).ownBlock = some b)) (hi : Ints wr (.slice a9 G.length c9) G) (hK : Keep (fun b => (Value.slice a9 G.length c9).ownBlock = some b) wr w') : PaIn w w' pb G a9 c9 k :=
  ⟨own, hI, hi.keep fun b hb _ => hK b hb⟩
theorem pa_copy {w w1 : World} {G : List Int} {g cap : Nat} (h0 : 0 < G.length) (ho : w1.ownsRow w.heap.size 3 1 (.slice (some ⟨g, 0, none⟩) (0 + G.length) cap) (0 + G.length) ([] ++ G.map (Value.int .i64)))
    (hg : (w.alloc (.cells #[] 3)).grownBy w1 (some w.heap.size)) : Below w.heap.size w w1 ∧ Ints w1 (.slice (some ⟨g, 0, none⟩) G.length cap) G ∧ ∀ b, (Value.slice (some ⟨g, 0, none⟩) G.length cap).ownBlock = some b → w.heap.size ≤ b ∧ b < w1.heap.size := by
  rw [Nat.zero_add, List.nil_append] at ho
  refine ⟨((Below.refl _ _).alloc (Nat.le_refl _) _).grown hg (by simp) (fun k hk => by cases hk; exact Nat.le_refl _), (ints_of_owns ho rfl h0).1, fun b hb => ho.lt b hb⟩
theorem pa_news {w : World} {g c : Nat} {G : List Int} (h : Ints w (.slice (some ⟨g, 0, none⟩) G.length c) G) : ∀ j u, (G.map (Value.int .i64))[j]? = some u → w.cell? ((⟨g, 0, none⟩ : Addr).add j) = some u := by
  refine ints_add fun k hk => ?_
  obtain ⟨b, off, e, _, hc⟩ := h.at k hk
  cases e
  exact hc
theorem groupOf_in (G : List Int) (i : Nat) : groupOf G (i : Int) = gtI G i := by rw [groupOf_at G _ (by omega)]; rfl
theorem groupOf_out (G : List Int) (i : Nat) (h : G.length ≤ i) : groupOf G (i : Int) = 0 := by rw [groupOf_in]; simp [gtI, h]
theorem paD_true {G : List Int} {i j : Nat} (h : paD G i j = true) : (j : Int) < 8 ∧ ((8 : Int) ≤ i ∨ ((i : Int) < 8 ∧ groupOf G i = groupOf G j)) := by
  unfold paD nodeB at h
  simp at h
  obtain ⟨h1, h2⟩ := h
  refine ⟨by omega, ?_⟩
  rcases h2 with h2 | h2
  · exact .inl (by omega)
  · by_cases h3 : (8 : Int) ≤ i
    · exact .inl h3
    · exact .inr ⟨by omega, h2⟩
theorem paD_false {G : List Int} {i j : Nat} (h : paD G i j = false) : (8 : Int) ≤ j ∨ ((j : Int) < 8 ∧ (i : Int) < 8 ∧ (groupOf G i == groupOf G j) = false) := by
  by_cases h1 : (8 : Int) ≤ j
  · exact .inl h1
  · refine .inr ⟨by omega, ?_⟩
    unfold paD nodeB at h
    simp at h
    have h2 := h (by omega)
    exact ⟨by omega, by simpa using h2.2⟩
theorem small_nil : SmallScript [] := ⟨by simp, fun k hk => by simp at hk⟩
end Go.Proofs.Ytcadockapeancaa
