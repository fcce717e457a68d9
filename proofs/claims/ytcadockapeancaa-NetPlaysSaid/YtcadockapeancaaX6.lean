/- The reference's net in the hands of a law, beside a net; Part of a net, where the groups' slice may be empty and lie anywhere. -/
import Derived.Test.YtcadockapeancaaX5
import Derived.Test.YtcadockapeancaaTw
import Derived.Maps.Views
namespace Go.Proofs.Ytcadockapeancaa
open Go.RowKit Go.Maps

structure RInv (w0 wr : World) (pb : Nat) (own : Nat → Prop) (S : NSt) (keep : Nat → Prop) : Prop where
  net : RefIs wr pb own S
  new : ∀ k, own k → w0.heap.size ≤ k
  bel : Below w0.heap.size w0 wr
  sep : ∀ k, keep k → k < wr.heap.size ∧ ¬ own k
theorem RInv.step {w0 w w' : World} {pb : Nat} {own own' keep : Nat → Prop} {S S' : NSt} (h : RInv w0 w pb own S keep) (hn : RefIs w' pb own' S') (hf : Fr own w w') (ho : ∀ k, own' k → own k ∨ w.heap.size ≤ k) :
    RInv w0 w' pb own' S' keep ∧ Keep keep w w' := by
  refine ⟨⟨hn, fun k hk => ?_, h.bel.trans ⟨hf.os, hf.tape, hf.output, hf.size, fun k hk => hf.block k (Nat.lt_of_lt_of_le hk h.bel.size) (fun e => by have := h.new k e; omega)⟩, fun k hk => ?_⟩, fun k hk => hf.block k (h.sep k hk).1 (h.sep k hk).2⟩
  · rcases ho k hk with e | e
    · exact h.new k e
    · exact Nat.le_trans h.bel.size e
  · obtain ⟨h1, h2⟩ := h.sep k hk
    refine ⟨Nat.lt_of_lt_of_le h1 hf.size, fun e => ?_⟩
    rcases ho k e with e | e
    · exact h2 e
    · omega
theorem RInv.below {w0 w w' : World} {pb : Nat} {own keep : Nat → Prop} {S : NSt} (h : RInv w0 w pb own S keep) (hf : Below w.heap.size w w') : RInv w0 w' pb own S keep :=
  ⟨h.net.frame (other := fun _ => False) (Fr.ofBelow0 _ hf) (fun _ _ e => e), h.new, h.bel.trans (hf.mono h.bel.size), fun k hk => ⟨Nat.lt_of_lt_of_le (h.sep k hk).1 hf.size, (h.sep k hk).2⟩⟩
theorem RInv.keepMono {w0 w : World} {pb : Nat} {own keep keep' : Nat → Prop} {S : NSt} (h : RInv w0 w pb own S keep) (hk : ∀ k, keep' k → k < w.heap.size ∧ ¬ own k) : RInv w0 w pb own S keep' := ⟨h.net, h.new, h.bel, hk⟩
theorem RInv.lt {w0 w : World} {pb : Nat} {own keep : Nat → Prop} {S : NSt} (h : RInv w0 w pb own S keep) {k : Nat} (hk : own k) : k < w.heap.size := by
  obtain ⟨_, _, _, r⟩ := h.net
  exact r.o5 k hk
def RDone (w0 w : World) (pb : Nat) (S' : NSt) (keep : Nat → Prop) (w' : World) : Prop := ∃ own', RInv w0 w' pb own' S' keep ∧ Keep keep w w'
theorem rinv_send {w0 w : World} {pb : Nat} {own keep : Nat → Prop} {S : NSt} (h : RInv w0 w pb own S keep) (hL : SmallScript S.script) (hs : S.sent ≤ 999999999) (hG : S.groups.length ≤ maxLen) (hw : S.wait.length ≤ 900000)
    (now f tt : Int) (s : ByteArray) (hnow : -1000000000 ≤ now ∧ now ≤ 1000000000) (wf : (Lit.int .i64 f).wf = true) (wt : (Lit.int .i64 tt).wf = true) :
    Calls Try.prog 16 #[.pointer (some ⟨pb, 0, none⟩), .int .i64 now, .agg #[.int .i64 f, .int .i64 tt, .string s]] w fun e w' => e = .returned (.tuple #[]) ∧ RDone w0 w pb (S.send now f tt s) keep w' :=
  (rsend_any pb own S now f tt s w h.net hL.1 hs hG hnow (trouble_small hL _) hw wf wt).mono fun _ _ ⟨he, own', hn, hf, ho⟩ => ⟨he, own', h.step hn hf ho⟩
theorem rinv_part {w0 w : World} {pb : Nat} {own keep : Nat → Prop} {S : NSt} (h : RInv w0 w pb own S keep) (v : Value) (L : List Int) (hi : Ints w v L) (hm : L.length * 8 ≤ 140737488355328) :
    Calls Try.prog 18 #[.pointer (some ⟨pb, 0, none⟩), v] w fun e w' => e = .returned (.tuple #[]) ∧ RDone w0 w pb { S with groups := L } keep w' :=
  (rpart_any pb own S v L w h.net hi hm).mono fun _ _ ⟨he, own', hn, hf, ho⟩ => ⟨he, own', h.step hn hf ho⟩
theorem rinv_next {w0 w : World} {pb : Nat} {own keep : Nat → Prop} {S : NSt} (h : RInv w0 w pb own S keep) (hw : S.wait.length ≤ 1000000) :
    Calls Try.prog 20 #[.pointer (some ⟨pb, 0, none⟩)] w fun e w' => e = .returned (msgOf S.wait) ∧ RDone w0 w pb S.next keep w' := by
  have key : ∀ e w', RNextEnd w pb own S e w' → e = .returned (msgOf S.wait) ∧ RDone w0 w pb S.next keep w' := fun _ _ ⟨he, own', hn, hf, ho⟩ => ⟨he, own', h.step hn hf ho⟩
  by_cases hx : S.wait = []
  · exact (rnext_empty pb own S w h.net hx).mono key
  · exact (rnext_some pb own S w h.net hx hw).mono key
theorem rinv_waiting {w0 w : World} {pb : Nat} {own keep : Nat → Prop} {S : NSt} (h : RInv w0 w pb own S keep) :
    Calls Try.prog 22 #[.pointer (some ⟨pb, 0, none⟩)] w fun e w' => e = .returned (.int .i64 S.wait.length) ∧ w = w' := rwaiting_any pb own S w h.net
theorem rinv_new {w0 w : World} (hb : Below w0.heap.size w0 w) (nodes : Int) (v : Value) (L : List Tr) (h : Scr w v L) (hL : L.length ≤ 1000000) :
    Calls Try.prog 14 #[.int .i64 nodes, v] w fun e w' => ∃ pb own, e = .returned (.pointer (some ⟨pb, 0, none⟩)) ∧ RInv w0 w' pb own ⟨nodes, L, [], 0, []⟩ (fun k => k < w.heap.size) ∧ (∀ k, own k → w.heap.size ≤ k) ∧ Below w.heap.size w w' := by
  refine (rnew_any nodes v L w h hL).mono fun e w' ⟨pb, own, he, hn, ho, hbl⟩ => ⟨pb, own, he, ⟨hn, fun k hk => Nat.le_trans hb.size (ho k hk), hb.trans (hbl.mono hb.size), fun k hk => ⟨Nat.lt_of_lt_of_le hk hbl.size, fun e => ?_⟩⟩, ho, hbl⟩
  have := ho k e
  omega

/-- A net and the reference's, each apart from the other. -/
structure Both (w0 w : World) (pz : Nat) (oz : Nat → Prop) (Sz : NSt) (pe : Nat) (oe : Nat → Prop) (Se : NSt) (K : Nat → Prop) : Prop where
  l : Inv w0 w pz oz Sz (fun k => oe k ∨ K k)
  r : RInv w0 w pe oe Se (fun k => oz k ∨ K k)
theorem Both.left {w0 w w' : World} {pz pe : Nat} {oz oe oz' K : Nat → Prop} {Sz Se Sz' : NSt} (h : Both w0 w pz oz Sz pe oe Se K) (h1 : Inv w0 w' pz oz' Sz' (fun k => oe k ∨ K k)) (hk : Keep (fun k => oe k ∨ K k) w w') : Both w0 w' pz oz' Sz' pe oe Se K :=
  ⟨h1, ⟨h.r.net.keepOn fun k hk' => hk k (.inl hk'), h.r.new, h1.bel, fun k hk' => by
    rcases hk' with hk' | hk'
    · exact ⟨h1.lt hk', fun e => (h1.sep k (.inl e)).2 hk'⟩
    · exact ⟨(h1.sep k (.inr hk')).1, (h.r.sep k (.inr hk')).2⟩⟩⟩
theorem Both.right {w0 w w' : World} {pz pe : Nat} {oz oe oe' K : Nat → Prop} {Sz Se Se' : NSt} (h : Both w0 w pz oz Sz pe oe Se K) (h1 : RInv w0 w' pe oe' Se' (fun k => oz k ∨ K k)) (hk : Keep (fun k => oz k ∨ K k) w w') : Both w0 w' pz oz Sz pe oe' Se' K :=
  ⟨⟨h.l.net.keepOn fun k hk' => hk k (.inl hk'), h.l.good, h.l.new, h1.bel, fun k hk' => by
    rcases hk' with hk' | hk'
    · exact ⟨h1.lt hk', fun e => (h1.sep k (.inl e)).2 hk'⟩
    · exact ⟨(h1.sep k (.inr hk')).1, (h.l.sep k (.inr hk')).2⟩⟩, h1⟩
theorem Both.below {w0 w w' : World} {pz pe : Nat} {oz oe K : Nat → Prop} {Sz Se : NSt} (h : Both w0 w pz oz Sz pe oe Se K) (hf : Below w.heap.size w w') : Both w0 w' pz oz Sz pe oe Se K := ⟨h.l.below hf, h.r.below hf⟩
theorem both_new {w0 w w' : World} {pz pe : Nat} {oz oe K : Nat → Prop} {Sz Se : NSt} (h : Inv w0 w pz oz Sz K) (h1 : RInv w0 w' pe oe Se (fun k => k < w.heap.size)) (hn : ∀ k, oe k → w.heap.size ≤ k) (hb : Below w.heap.size w w') : Both w0 w' pz oz Sz pe oe Se K := by
  have hz := h.below hb
  refine ⟨hz.keepMono fun k hk => ?_, h1.keepMono fun k hk => ?_⟩
  · rcases hk with hk | hk
    · exact ⟨h1.lt hk, fun e => by have := hn k hk; have := h.lt e; omega⟩
    · exact hz.sep k hk
  · rcases hk with hk | hk
    · exact h1.sep k (h.lt hk)
    · exact h1.sep k (h.sep k hk).1
theorem Both.allocMore {w0 w : World} {pz pe : Nat} {oz oe : Nat → Prop} {Sz Se : NSt} {K : Nat → Prop} (h : Both w0 w pz oz Sz pe oe Se K) (o : Obj) : Both w0 (w.alloc o) pz oz Sz pe oe Se (fun k => K k ∨ k = w.heap.size) := by
  have h' := h.below ((Below.refl w.heap.size w).alloc (Nat.le_refl _) o)
  refine ⟨h'.l.keepMono fun k hk => ?_, h'.r.keepMono fun k hk => ?_⟩
  · rcases hk with hk | hk | rfl
    · exact h'.l.sep k (.inl hk)
    · exact h'.l.sep k (.inr hk)
    · exact ⟨by simp, fun e => by have := h.l.lt e; omega⟩
  · rcases hk with hk | hk | rfl
    · exact h'.r.sep k (.inl hk)
    · exact h'.r.sep k (.inr hk)
    · exact ⟨by simp, fun e => by have := h.r.lt e; omega⟩
theorem Both.less {w0 w : World} {pz pe : Nat} {oz oe : Nat → Prop} {Sz Se : NSt} {K K' : Nat → Prop} (h : Both w0 w pz oz Sz pe oe Se K) (hk : ∀ k, K' k → K k) : Both w0 w pz oz Sz pe oe Se K' :=
  ⟨h.l.keepMono fun k h' => by
    rcases h' with h' | h'
    · exact h.l.sep k (.inl h')
    · exact h.l.sep k (.inr (hk k h')), h.r.keepMono fun k h' => by
    rcases h' with h' | h'
    · exact h.r.sep k (.inl h')
    · exact h.r.sep k (.inr (hk k h'))⟩

/- Part of a net, the groups' own block asked for only where there are groups: by program from WD's text. -/
set_option maxHeartbeats 1000000 in
theorem part_loop2 (pb : Nat) (c0 c1 c2 c3 mv : Value) (L : List Int) (a : Option Addr) (cap : Nat) (w : World) (hn : NetAt w pb c0 c1 c2 c3 mv) (hi : Ints w (.slice a L.length cap) L) (hwf : wfI L) (hm : L.length ≤ maxLen)
    (hne : ∀ b, (Value.slice a L.length cap).ownBlock = some b → 0 < L.length → b ≠ pb) :
    Calls Try.prog 17 #[.pointer (some ⟨pb, 0, none⟩), .slice a L.length cap] w fun e w' => e = .returned (.tuple #[]) ∧ PartRel w pb w.heap.size c0 c1 c2 c3 L L.length w' := by
  have hmm := @run_makeMap Try.prog
  obtain ⟨_, _, _, _, c4⟩ := hn.at
  have z4 := hn.free 4
  have hlt := hn.lt
  have hml := hm
  unfold maxLen at hm
  have hstart : PartRel w pb w.heap.size c0 c1 c2 c3 L 0 ((w.setCell ⟨pb, 4, none⟩ (.map (some w.heap.size))).alloc (.map #[] 0)) := by
    refine ⟨(hn.set4 _).keep (Below.heap_alloc _ _ _ (by rw [size_setCell]; exact hlt)), ⟨.map [], ?_, fun i _ => ?_⟩, ((Fr.refl (fun k => k = pb) w).setCell (.inr rfl) _).alloc _⟩
    · have := World.ownsMap_made (H := Unit) (w.setCell ⟨pb, 4, none⟩ (.map (some w.heap.size))) Try.prog 3 (plainElem Try.prog 3)
      rwa [size_setCell] at this
    · rw [List.take_zero, groupOf_nil]; rfl
  have HI : ∀ k, k < L.length → ∃ b off, a = some ⟨b, off, none⟩ ∧ b ≠ pb ∧ b < w.heap.size ∧ w.cell? ⟨b, off + k, none⟩ = some (.int .i64 (gtI L k)) := by
    intro k hk
    rcases hi with ⟨_, rfl⟩ | ⟨b, off, cap', hv, hr, h0⟩
    · simp at hk
    · simp only [Value.slice.injEq, true_and] at hv
      obtain ⟨rfl, rfl⟩ := hv
      exact ⟨b, off, rfl, hne b rfl h0, block_lt_of_cell (hr k hk), hr k hk⟩
  have HIH := Lib.hid HI
  have HB : w.heap.size ≠ pb := by omega
  clear HI hi hne hn
  go_enter Try.func17, Try.ntmps17
  go_wp2_with fail
  clear c4 z4 hmm
  go_loopg [14] (L.length + 1) (fun g sk wr => ∃ k : Nat, sk = .int .i64 (k : Int) ∧ L.length < k + g ∧ k ≤ L.length ∧ PartRel w pb w.heap.size c0 c1 c2 c3 L k wr)
  case atStart => exact ⟨0, rfl, by omega, by omega, hstart⟩
  case round =>
    clear hstart
    obtain ⟨k, rfl, hg, hkN, hR⟩ := hrel
    by_cases hk : k < L.length
    · have hk' : (k : Int) < (L.length : Int) := by omega
      obtain ⟨b, off, ha, hbp, hbl, hcell⟩ := HIH.out k hk
      subst ha
      have hc := hR.fr.cell hcell (by exact hbp)
      obtain ⟨D, hown, hat⟩ := hR.map
      have c4 := hR.net.at.2.2.2.2
      have hkw : (Lit.int .i64 (k : Int)).wf = true := WalkArith.wf_i64 (by omega)
      have ST := Lib.hid (fun w2 h1 h2 => part_step (w2 := w2) hR hk HB (Nat.le_refl _) hat (by obtain ⟨es, h, _⟩ := hown.tidy law3; exact ⟨es, h⟩) hkw h1 h2)
      have WF := hwf k hk
      have WFH := Lib.hid WF
      clear WF hR hat hcell HIH
      generalize gtI L k = x at *
      go_wp2_with (at_mapUpdate; refine wpList_mapUpdate_own _ rfl _ _ _ 54 rfl 3 3 law3 Try.underlying54 _ w.heap.size k D rfl hown (by unfold maxLen; omega) _ _ _ rfl rfl (keyOf_int_mk Try.underlying3 hkw) _ [] (plainElem_int Try.underlying3 WFH.out) ?_; intro w1 hown1 hgrow1)
      have HS := Lib.hid (ST.out w1 hown1 hgrow1)
      clear hown1 hgrow1 ST hown c4 hc
      go_wp2_with fail
      go_roundg (L.length - k)
      case measure => omega
      case rel => exact ⟨k + 1, by go_num, by omega, by omega, HS.out⟩
    · obtain rfl : k = L.length := by omega
      go_wp2_with fail
      go_end0
      exact ⟨rfl, hR⟩

theorem part_any2 (pb : Nat) (own : Nat → Prop) (S : NSt) (v : Value) (L : List Int) (w : World) (h : NetIs w pb own S) (hi : Ints w v L) (hwf : wfI L) (hm : L.length ≤ maxLen) (hne : ∀ b, v.ownBlock = some b → 0 < L.length → b ≠ pb) :
    Calls Try.prog 17 #[.pointer (some ⟨pb, 0, none⟩), v] w fun e w' => PartEnd w pb own { S with groups := L } e w' := by
  obtain ⟨sv, qv, mv, ⟨hn, hv, ys, hq, hh, hp⟩, hs, hg, o1, o2, o3, o4, o5⟩ := h
  obtain ⟨a, cap, rfl⟩ := hi.slice
  refine (part_loop2 pb _ _ _ _ _ L a cap w hn hi hwf hm hne).mono fun e w' ⟨he, hR⟩ => ?_
  obtain ⟨hnet, ⟨D, hown, hat⟩, hf⟩ := hR
  have hlt := hn.lt
  have hmb := hown.lt
  refine ⟨he, fun k => own k ∨ k = w.heap.size, ⟨sv, qv, .map (some w.heap.size), ⟨hnet, hv, ys, hq.keep (fun b hb => hf.block b (hq.lt hb) (by rintro rfl; exact hv hb)), hh, hp⟩, hs.keep (fun b hb h0 => hf.block b (hs.lt hb h0) (by rintro rfl; exact (o3 _ hb h0).2 (.inl rfl))), ?_, .inl o1, fun g h => .inl (o2 g h),
    fun g h h0 => ⟨.inl (o3 g h h0).1, (o3 g h h0).2⟩, ?_, ?_⟩, hf.mono (fun k _ e => by subst e; exact o1), ?_⟩
  · refine .inr ⟨_, _, D, rfl, hown, fun i hi => ?_⟩
    rw [hat i hi, List.take_length]
  · intro g hg
    cases hg
    refine ⟨.inr rfl, ?_⟩
    rintro (h | h)
    · omega
    · have := hq.lt h; omega
  · rintro k (h | rfl)
    · exact Nat.lt_of_lt_of_le (o5 k h) hf.size
    · exact hmb
  · rintro k (h | rfl)
    · exact .inl h
    · exact .inr (Nat.le_refl _)
theorem inv_part2 {w0 w : World} {pb : Nat} {own keep : Nat → Prop} {S : NSt} (h : Inv w0 w pb own S keep) (v : Value) (L : List Int) (hi : Ints w v L) (hwf : wfI L) (hm : L.length ≤ maxLen) (hne : ∀ b, v.ownBlock = some b → 0 < L.length → b ≠ pb) :
    Calls Try.prog 17 #[.pointer (some ⟨pb, 0, none⟩), v] w fun e w' => SentEnd w0 w pb { S with groups := L } keep e w' :=
  (part_any2 pb own S v L w h.net hi hwf hm hne).mono fun _ _ ⟨he, own', hn, hf, ho⟩ => ⟨he, own', h.step hn (h.good.part L) hf ho⟩
end Go.Proofs.Ytcadockapeancaa
