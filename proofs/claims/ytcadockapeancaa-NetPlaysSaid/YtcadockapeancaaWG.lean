/- The walk of script: at most twelve troubles, without extreme delays. -/
import Derived.Test.YtcadockapeancaaWF
namespace Go.Proofs.Ytcadockapeancaa
open Go.RowKit

def cutTr (t : Tr) : Tr := { t with delay := t.delay.tmod 100000 }
def scriptOf (L : List Tr) : List Tr := (L.take 12).map cutTr
theorem scriptOf_length (L : List Tr) : (scriptOf L).length = min 12 L.length := by simp [scriptOf]
theorem scriptOf_succ (L : List Tr) (k : Nat) (hk : k < L.length) (h12 : k < 12) : scriptOf (L.take (k + 1)) = scriptOf (L.take k) ++ [cutTr (gtT L k)] := by
  unfold scriptOf
  rw [List.take_take, List.take_take, Nat.min_eq_right (by omega), Nat.min_eq_right (by omega), List.take_succ_eq_append_getElem hk, List.map_append, gtT_eq hk]
  rfl
theorem scriptOf_end (L : List Tr) (k : Nat) (h : L.length ≤ k ∨ 12 ≤ k) : scriptOf (L.take k) = scriptOf L := by
  unfold scriptOf
  rw [List.take_take]
  rcases h with h | h
  · by_cases h12 : 12 ≤ k
    · rw [Nat.min_eq_left h12]
    · rw [Nat.min_eq_right (by omega), List.take_of_length_le h, List.take_of_length_le (by omega)]
  · rw [Nat.min_eq_left h]
theorem tmod_small (x : Int) : -100000 < x.tmod 100000 ∧ x.tmod 100000 < 100000 := by
  have h1 := Int.tmod_lt_of_pos x (by omega : (0 : Int) < 100000)
  have h2 : -100000 < x.tmod 100000 := by
    have := Int.tmod_lt_of_pos (-x) (by omega : (0 : Int) < 100000)
    rw [Int.neg_tmod] at this
    omega
  exact ⟨h2, h1⟩
theorem scriptOf_small (L : List Tr) : SmallScript (scriptOf L) := by
  refine ⟨by rw [scriptOf_length]; omega, fun k hk => ?_⟩
  rw [gtT_eq hk]
  simp only [scriptOf, List.getElem_map]
  have := (tmod_small ((List.take 12 L)[k]'(by simpa [scriptOf] using hk)).delay).2
  simp only [cutTr]
  omega

theorem scr_of_owns {w : World} {base n : Nat} {v : Value} {L : List Tr} (h : w.ownsRow base 44 3 v n (L.flatMap Tr.cells)) (hn : n = L.length) : Scr w v L := by
  subst hn
  by_cases h0 : L.length = 0
  · rcases h.2 with ⟨rfl, _⟩ | ⟨g, cap, cur, rfl, _⟩
    · exact .inl ⟨.inl rfl, List.eq_nil_of_length_eq_zero h0⟩
    · exact .inl ⟨.inr ⟨_, cap, by rw [h0]⟩, List.eq_nil_of_length_eq_zero h0⟩
  · obtain ⟨g, cap, rfl, _, _, _⟩ := ownsRow_form h (by omega)
    exact .inr ⟨g, 0, cap, rfl, TrAt.of_owns h, by omega⟩

/-- What script leaves: a row of its own. -/
def ScriptEnd (w : World) (L : List Tr) (e : Ending) (w' : World) : Prop :=
  ∃ v, e = .returned v ∧ w'.ownsRow w.heap.size 44 3 v (scriptOf L).length ((scriptOf L).flatMap Tr.cells) ∧ Below w.heap.size w w' ∧ ((scriptOf L).length = 0 → v = .slice none 0 0)
def ScRel (w : World) (L : List Tr) (v : Value) (k : Nat) (wr : World) : Prop :=
  wr.ownsRow w.heap.size 44 3 v k ((scriptOf (L.take k)).flatMap Tr.cells) ∧ Below w.heap.size w wr ∧ (k = 0 → v = .slice none 0 0)
theorem Tr.cells_one1 (t : Tr) : ∀ u ∈ t.cells, u.oneCell' = true := by
  intro u hu
  simp only [Tr.cells, List.mem_cons, List.not_mem_nil, or_false] at hu
  rcases hu with rfl | rfl | rfl <;> rfl
theorem two_news (w : World) (t : Tr) (t' : Tr) (j : Nat) (u : Value) (h : t.cells[j]? = some u) :
    ((w.alloc (.cells #[.bool t'.lost, .int .i64 t'.copies, .int .i64 t'.delay] 44)).alloc (.cells #[.bool t.lost, .int .i64 t.copies, .int .i64 t.delay] 44)).cell? ((⟨w.heap.size + 1, 0, none⟩ : Addr).add j) = some u := by
  rw [add_at, Nat.zero_add, cell_of_row _ (w.heap.size + 1) j _ 44 (0, 0) (heap_alloc2_new w _ _)]
  simpa [Tr.cells] using h

theorem script_step {w wr w1 : World} {L : List Tr} {v : Value} {k : Nat} {t0 : Tr} (h : ScRel w L v k wr) (hk : k < L.length) (h12 : k < 12) {g cap : Nat}
    (ho : w1.ownsRow w.heap.size 44 3 (.slice (some ⟨g, 0, none⟩) (k + 1) cap) (k + 1) ((scriptOf (L.take k)).flatMap Tr.cells ++ (cutTr (gtT L k)).cells))
    (hg : ((wr.alloc (.cells #[.bool t0.lost, .int .i64 t0.copies, .int .i64 t0.delay] 44)).alloc (.cells #[.bool t0.lost, .int .i64 t0.copies, .int .i64 t0.delay] 44)).grownBy w1 v.ownBlock) : ScRel w L (.slice (some ⟨g, 0, none⟩) (k + 1) cap) (k + 1) w1 := by
  refine ⟨?_, ((h.2.1.alloc h.2.1.size _).alloc (by simp; have := h.2.1.size; omega) _).grown hg (by simp; have := h.2.1.size; omega) (fun b hb => (h.1.lt b hb).1), fun h => by omega⟩
  rw [scriptOf_succ L k hk h12, List.flatMap_append]
  simpa using ho
theorem script_end {w wr : World} {L : List Tr} {v : Value} {k : Nat} (h : ScRel w L v k wr) (hk : k ≤ L.length) (h12 : k ≤ 12) (he : L.length ≤ k ∨ 12 ≤ k) : ScriptEnd w L (.returned v) wr := by
  have e := scriptOf_end L k he
  have hl : k = (scriptOf L).length := by rw [scriptOf_length]; omega
  obtain ⟨h1, h2, h3⟩ := h
  rw [e, hl] at h1
  exact ⟨v, rfl, h1, h2, fun h0 => h3 (by omega)⟩

set_option maxHeartbeats 1000000 in
theorem script_any (v : Value) (L : List Tr) (w : World) (h : Scr w v L) (hm : L.length ≤ maxLen) : Calls Try.prog 12 #[v] w fun e w' => ScriptEnd w L e w' := by
  obtain ⟨a, cap, rfl⟩ := h.slice
  obtain ⟨i0, hi, hz0, hz1, hz2⟩ := info_parts Try.info44
  have hstart : ScRel w L (.slice none 0 0) 0 w := ⟨World.ownsRow_nil w _ 44 3, Below.refl _ _, fun _ => rfl⟩
  have hcell : ∀ k, k < L.length → ∃ b off, a = some ⟨b, off, none⟩ ∧ b < w.heap.size ∧ w.cell? ⟨b, off + k * 3, none⟩ = some (.bool (gtT L k).lost) ∧ w.cell? ⟨b, off + k * 3 + 1, none⟩ = some (.int .i64 (gtT L k).copies) ∧ w.cell? ⟨b, off + k * 3 + 2, none⟩ = some (.int .i64 (gtT L k).delay) := by
    intro k hk
    rcases h with ⟨_, rfl⟩ | ⟨b, off, cap', hv, hr, h0⟩
    · simp at hk
    · simp only [Value.slice.injEq, true_and] at hv
      obtain ⟨rfl, rfl⟩ := hv
      exact ⟨b, off, rfl, block_lt_of_cell (hr k hk).1, hr k hk⟩
  have HCELL := Lib.hid hcell
  clear hcell h
  unfold maxLen at hm
  go_enter Try.func12, Try.ntmps12
  go_wp2_with fail
  go_loopg [3, 4] (L.length + 1) (fun g so sk wr => ∃ k : Nat, sk = .int .i64 (k : Int) ∧ L.length < k + g ∧ k ≤ L.length ∧ k ≤ 12 ∧ ScRel w L so k wr)
  case atStart => exact ⟨0, rfl, by omega, by omega, by omega, hstart⟩
  case round =>
    clear hstart
    obtain ⟨k, rfl, hg, hkL, hk12, hR⟩ := hrel
    by_cases h1 : k < L.length
    · have h1' : (k : Int) < (L.length : Int) := by omega
      by_cases h2 : k < 12
      · have h2' : (k : Int) < 12 := by omega
        obtain ⟨b, off, rfl, hb, c0, c1, c2⟩ := HCELL.out k h1
        have d0 := (hR.2.1.cell (p := ⟨b, off + k * 3, none⟩) hb).trans c0
        have d1 := (hR.2.1.cell (p := ⟨b, off + k * 3 + 1, none⟩) hb).trans c1
        have d2 := (hR.2.1.cell (p := ⟨b, off + k * 3 + 2, none⟩) hb).trans c2
        have hbr := Nat.lt_of_lt_of_le hb hR.2.1.size
        have hbr1 : b < wr.heap.size + 1 := by omega
        have hbd := tmod_small (gtT L k).delay
        have hbd1 := hbd.1
        have hbd2 := hbd.2
        have hown := Lib.hid ((hR.1.alloc (.cells #[.bool (cutTr (gtT L k)).lost, .int .i64 (cutTr (gtT L k)).copies, .int .i64 (cutTr (gtT L k)).delay] 44)).alloc (.cells #[.bool (cutTr (gtT L k)).lost, .int .i64 (cutTr (gtT L k)).copies, .int .i64 (cutTr (gtT L k)).delay] 44))
        have hbase := Lib.hid (fun o1 o2 => (show w.heap.size ≤ ((wr.alloc o1).alloc o2).heap.size by have := hR.2.1.size; simp; omega))
        have ST := Lib.hid (fun g cap w1 h1' h2' => script_step (g := g) (cap := cap) (w1 := w1) (t0 := cutTr (gtT L k)) hR h1 h2 h1' h2')
        have hnews := Lib.hid (two_news wr (cutTr (gtT L k)) (cutTr (gtT L k)))
        have hone := Lib.hid (Tr.cells_one1 (cutTr (gtT L k)))
        have h63 : k + 1 ≤ maxLen := by unfold maxLen; omega
        clear hbd hR c0 c1 c2
        go_wp2_with (at_builtin; go_must (refine wpList_append_mine rfl (.tmp 24) (.tmp 26) 22 rfl w.heap.size 44 i0 _ 3 24 Try.underlying22 hi hz0 hz1 hz2 rfl (by decide) _ k _ rfl hown.out (hbase.out _ _) ⟨wr.heap.size + 1, 0, none⟩ 1 1 (cutTr (gtT L k)).cells rfl rfl hnews.out hone.out (by decide) h63 (by omega) ?_); intro g cap' w1 ho hgr hd)
        have HS := Lib.hid (ST.out g cap' w1 ho hgr)
        clear ho hgr hd ST hown hnews hone d0 d1 d2 HCELL
        go_wp2_with fail
        go_roundg (L.length - k)
        case measure => omega
        case rel => exact ⟨k + 1, by go_num, by omega, by omega, by omega, HS.out⟩
      · have h2' : (12 : Int) ≤ (k : Int) := by omega
        have HE := Lib.hid (script_end hR hkL hk12 (.inr (by omega)))
        clear hR
        go_wp2_with fail
        go_ret
        exact HE.out
    · have h1' : (L.length : Int) ≤ (k : Int) := by omega
      have HE := Lib.hid (script_end hR hkL hk12 (.inl (by omega)))
      clear hR
      go_wp2_with fail
      go_ret
      exact HE.out
end Go.Proofs.Ytcadockapeancaa
