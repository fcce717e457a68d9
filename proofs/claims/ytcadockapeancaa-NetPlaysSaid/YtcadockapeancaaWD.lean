/- The walks of Part, and of the methods of a nil net. -/
import Derived.Test.YtcadockapeancaaWC
import Derived.Maps.Views
namespace Go.Proofs.Ytcadockapeancaa
open Go.RowKit Go.Maps

set_option maxHeartbeats 400000 in
theorem send_nil (w : World) (now f tt : Int) (s : ByteArray) : Calls Try.prog 15 #[.pointer none, .int .i64 now, .agg #[.int .i64 f, .int .i64 tt, .string s]] w fun e w' => e = .returned (.tuple #[]) ∧ Below w.heap.size w w' := by
  go_enter Try.func15, Try.ntmps15
  go_wp2_with fail
  refine bodyPost_ret (results_none rfl _ _ _) rfl ?_
  exact ⟨rfl, (Below.refl _ _).alloc (Nat.le_refl _) _⟩
set_option maxHeartbeats 400000 in
theorem part_nil (w : World) (a : Option Addr) (n cap : Nat) : Calls Try.prog 17 #[.pointer none, .slice a n cap] w fun e w' => e = .returned (.tuple #[]) ∧ w = w' := by
  go_enter Try.func17, Try.ntmps17
  go_wp2_with fail
  refine bodyPost_ret (results_none rfl _ _ _) rfl ?_
  exact ⟨rfl, rfl⟩

def gtI (L : List Int) (k : Nat) : Int := (L[k]?).getD 0
/-- A slice of ints. -/
def Ints (w : World) (v : Value) (L : List Int) : Prop := ((v = .slice none 0 0 ∨ ∃ a cap, v = .slice (some a) 0 cap) ∧ L = []) ∨
  ∃ b off cap, v = .slice (some ⟨b, off, none⟩) L.length cap ∧ (∀ k, k < L.length → w.cell? ⟨b, off + k, none⟩ = some (.int .i64 (gtI L k))) ∧ 0 < L.length
theorem Ints.slice {w : World} {v : Value} {L : List Int} (h : Ints w v L) : ∃ a cap, v = .slice a L.length cap := by
  rcases h with ⟨rfl | ⟨a, cap, rfl⟩, rfl⟩ | ⟨b, off, cap, rfl, _⟩
  · exact ⟨none, 0, rfl⟩
  · exact ⟨some a, cap, rfl⟩
  · exact ⟨_, cap, rfl⟩
theorem Ints.lt {w : World} {v : Value} {L : List Int} (h : Ints w v L) {b : Nat} (hb : v.ownBlock = some b) (h0 : 0 < L.length) : b < w.heap.size := by
  rcases h with ⟨_, rfl⟩ | ⟨b', off, cap, rfl, hr, h0⟩
  · simp at h0
  · simp [Value.ownBlock] at hb
    subst hb
    exact block_lt_of_cell (hr 0 h0)
theorem Ints.keep {w w' : World} {v : Value} {L : List Int} (h : Ints w v L) (hk : ∀ b, v.ownBlock = some b → 0 < L.length → w'.heap[b]? = w.heap[b]?) : Ints w' v L := by
  rcases h with h | ⟨b, off, cap, rfl, hr, h0⟩
  · exact .inl h
  · refine .inr ⟨b, off, cap, rfl, fun k hkl => ?_, h0⟩
    rw [World.cell?_of_block (w := w) (w' := w') (a := ⟨b, off + k, none⟩) (hk b rfl h0)]
    exact hr k hkl

def wfI (L : List Int) : Prop := ∀ k, k < L.length → (Lit.int .i64 (gtI L k)).wf = true

theorem groupOf_snoc (L : List Int) (k : Nat) (hk : k < L.length) (i : Int) : groupOf (L.take (k + 1)) i = if i = (k : Int) then gtI L k else groupOf (L.take k) i := by
  unfold groupOf gtI
  by_cases h0 : i < 0
  · rw [if_pos h0, if_pos h0, if_neg (by omega)]
  · rw [if_neg h0, if_neg h0]
    obtain ⟨j, rfl⟩ := Int.eq_ofNat_of_zero_le (by omega : 0 ≤ i)
    simp only [Int.toNat_natCast, List.getElem?_take]
    by_cases h1 : j = k
    · subst h1
      simp
    · have h1' : ¬ (j : Int) = (k : Int) := by omega
      rw [if_neg h1']
      by_cases h2 : j < k
      · have h3 : j < k + 1 := by omega
        rw [if_pos h2, if_pos h3]
      · have h3 : ¬ j < k + 1 := by omega
        rw [if_neg h2, if_neg h3]

def PartEnd (w : World) (pb : Nat) (own : Nat → Prop) (S' : NSt) (e : Ending) (w' : World) : Prop :=
  e = .returned (.tuple #[]) ∧ ∃ own', NetIs w' pb own' S' ∧ Fr own w w' ∧ ∀ k, own' k → own k ∨ w.heap.size ≤ k

/-- What holds at the head of each round of Part. -/
structure PartRel (w : World) (pb B : Nat) (c0 c1 c2 c3 : Value) (L : List Int) (k : Nat) (wr : World) : Prop where
  net : NetAt wr pb c0 c1 c2 c3 (.map (some B))
  map : ∃ D, wr.ownsMap (H := Unit) Try.prog 3 (plainElem Try.prog 3) B k D ∧ ∀ i, (Lit.int .i64 i).wf = true → D.atKey (.int .i64 i) (.lit (.int .i64 0)) = .lit (.int .i64 (groupOf (L.take k) i))
  fr : Fr (fun k => k = pb) w wr

theorem part_step {w wr w2 : World} {pb B : Nat} {c0 c1 c2 c3 : Value} {L : List Int} {k : Nat} (h : PartRel w pb B c0 c1 c2 c3 L k wr) (hk : k < L.length) (hB : B ≠ pb) (hBw : w.heap.size ≤ B) {D : DataW Unit}
    (hat : ∀ i, (Lit.int .i64 i).wf = true → D.atKey (.int .i64 i) (.lit (.int .i64 0)) = .lit (.int .i64 (groupOf (L.take k) i))) (hm : IsMap D) (hkw : (Lit.int .i64 (k : Int)).wf = true)
    (hown : w2.ownsMap (H := Unit) Try.prog 3 (plainElem Try.prog 3) B (k + 1) (D.put (.int .i64 k) (.lit (.int .i64 (gtI L k))))) (hg : wr.grownBy w2 (some B)) : PartRel w pb B c0 c1 c2 c3 L (k + 1) w2 := by
  refine ⟨h.net.keep (hg.block pb h.net.lt (by intro e; exact hB (Option.some.inj e).symm)), ⟨_, hown, fun i hi => ?_⟩, h.fr.grown hg (fun k hk => by cases hk; exact .inl hBw)⟩
  rw [groupOf_snoc L k hk]
  by_cases e : i = (k : Int)
  · subst e
    rw [if_pos rfl]
    exact atKey_put_same hm (law3.key (v := .int .i64 k) (keyOf_int_mk Try.underlying3 hkw)) _ _
  · rw [if_neg e, atKey_put_other (by intro h; cases h; exact e rfl)]
    exact hat i hi

set_option maxHeartbeats 1000000 in
theorem part_loop (pb : Nat) (c0 c1 c2 c3 mv : Value) (L : List Int) (a : Option Addr) (cap : Nat) (w : World) (hn : NetAt w pb c0 c1 c2 c3 mv) (hi : Ints w (.slice a L.length cap) L) (hwf : wfI L) (hm : L.length ≤ maxLen)
    (hne : ∀ b, (Value.slice a L.length cap).ownBlock = some b → b ≠ pb) :
    Calls Try.prog 17 #[.pointer (some ⟨pb, 0, none⟩), .slice a L.length cap] w fun e w' => e = .returned (.tuple #[]) ∧ PartRel w pb w.heap.size c0 c1 c2 c3 L L.length w' := by
  have hmm := @run_makeMap Try.prog
  obtain ⟨_, _, _, _, c4⟩ := hn.at
  have z4 := hn.free 4
  have hlt := hn.lt
  have hml := hm
  unfold maxLen at hm
  have hstart : PartRel w pb w.heap.size c0 c1 c2 c3 L 0 ((w.setCell ⟨pb, 4, none⟩ (.map (some w.heap.size))).alloc (.map #[] 0)) := by
    refine ⟨(hn.set4 _).keep (Below.heap_alloc _ _ _ (by rw [size_setCell]; exact hlt)), ⟨.map [], ?_, fun i _ => ?_⟩, ((Fr.refl (fun k => k = pb) w).setCell (.inr rfl) _).alloc _⟩
    · have := World.ownsMap_made (H := Unit) (w.setCell ⟨pb, 4, none⟩ (.map (some w.heap.size))) Try.prog 3 (plainElem Try.prog 3)
      rwa [size_setCell] at this
    · rw [List.take_zero, groupOf_nil]; rfl
  have HI : ∀ k, k < L.length → ∃ b off, a = some ⟨b, off, none⟩ ∧ b ≠ pb ∧ b < w.heap.size ∧ w.cell? ⟨b, off + k, none⟩ = some (.int .i64 (gtI L k)) := by
    intro k hk
    rcases hi with ⟨_, rfl⟩ | ⟨b, off, cap', hv, hr, h0⟩
    · simp at hk
    · simp only [Value.slice.injEq, true_and] at hv
      obtain ⟨rfl, rfl⟩ := hv
      exact ⟨b, off, rfl, hne b rfl, block_lt_of_cell (hr k hk), hr k hk⟩
  have HIH := Lib.hid HI
  have HB : w.heap.size ≠ pb := by omega
  clear HI hi hne hn
  go_enter Try.func17, Try.ntmps17
  go_wp2_with fail
  clear c4 z4 hmm
  go_loopg [14] (L.length + 1) (fun g sk wr => ∃ k : Nat, sk = .int .i64 (k : Int) ∧ L.length < k + g ∧ k ≤ L.length ∧ PartRel w pb w.heap.size c0 c1 c2 c3 L k wr)
  case atStart => exact ⟨0, rfl, by omega, by omega, hstart⟩
  case round =>
    clear hstart
    obtain ⟨k, rfl, hg, hkN, hR⟩ := hrel
    by_cases hk : k < L.length
    · have hk' : (k : Int) < (L.length : Int) := by omega
      obtain ⟨b, off, ha, hbp, hbl, hcell⟩ := HIH.out k hk
      subst ha
      have hc := hR.fr.cell hcell (by exact hbp)
      obtain ⟨D, hown, hat⟩ := hR.map
      have c4 := hR.net.at.2.2.2.2
      have hkw : (Lit.int .i64 (k : Int)).wf = true := WalkArith.wf_i64 (by omega)
      have ST := Lib.hid (fun w2 h1 h2 => part_step (w2 := w2) hR hk HB (Nat.le_refl _) hat (by obtain ⟨es, h, _⟩ := hown.tidy law3; exact ⟨es, h⟩) hkw h1 h2)
      have WF := hwf k hk
      have WFH := Lib.hid WF
      clear WF hR hat hcell HIH
      generalize gtI L k = x at *
      go_wp2_with (at_mapUpdate; refine wpList_mapUpdate_own _ rfl _ _ _ 54 rfl 3 3 law3 Try.underlying54 _ w.heap.size k D rfl hown (by unfold maxLen; omega) _ _ _ rfl rfl (keyOf_int_mk Try.underlying3 hkw) _ [] (plainElem_int Try.underlying3 WFH.out) ?_; intro w1 hown1 hgrow1)
      have HS := Lib.hid (ST.out w1 hown1 hgrow1)
      clear hown1 hgrow1 ST hown c4 hc
      go_wp2_with fail
      go_roundg (L.length - k)
      case measure => omega
      case rel => exact ⟨k + 1, by go_num, by omega, by omega, HS.out⟩
    · obtain rfl : k = L.length := by omega
      go_wp2_with fail
      go_end0
      exact ⟨rfl, hR⟩

theorem part_any (pb : Nat) (own : Nat → Prop) (S : NSt) (v : Value) (L : List Int) (w : World) (h : NetIs w pb own S) (hi : Ints w v L) (hwf : wfI L) (hm : L.length ≤ maxLen) (hne : ∀ b, v.ownBlock = some b → b ≠ pb) :
    Calls Try.prog 17 #[.pointer (some ⟨pb, 0, none⟩), v] w fun e w' => PartEnd w pb own { S with groups := L } e w' := by
  obtain ⟨sv, qv, mv, ⟨hn, hv, ys, hq, hh, hp⟩, hs, hg, o1, o2, o3, o4, o5⟩ := h
  obtain ⟨a, cap, rfl⟩ := hi.slice
  refine (part_loop pb _ _ _ _ _ L a cap w hn hi hwf hm hne).mono fun e w' ⟨he, hR⟩ => ?_
  obtain ⟨hnet, ⟨D, hown, hat⟩, hf⟩ := hR
  have hlt := hn.lt
  have hmb := hown.lt
  refine ⟨he, fun k => own k ∨ k = w.heap.size, ⟨sv, qv, .map (some w.heap.size), ⟨hnet, hv, ys, hq.keep (fun b hb => hf.block b (hq.lt hb) (by rintro rfl; exact hv hb)), hh, hp⟩, hs.keep (fun b hb h0 => hf.block b (hs.lt hb h0) (by rintro rfl; exact (o3 _ hb h0).2 (.inl rfl))), ?_, .inl o1, fun g h => .inl (o2 g h),
    fun g h h0 => ⟨.inl (o3 g h h0).1, (o3 g h h0).2⟩, ?_, ?_⟩, hf.mono (fun k _ e => by subst e; exact o1), ?_⟩
  · refine .inr ⟨_, _, D, rfl, hown, fun i hi => ?_⟩
    rw [hat i hi, List.take_length]
  · intro g hg
    cases hg
    refine ⟨.inr rfl, ?_⟩
    rintro (h | h)
    · omega
    · have := hq.lt h; omega
  · rintro k (h | rfl)
    · exact Nat.lt_of_lt_of_le (o5 k h) hf.size
    · exact hmb
  · rintro k (h | rfl)
    · exact .inl h
    · exact .inr (Nat.le_refl _)
end Go.Proofs.Ytcadockapeancaa
