/- The walk of the reference's Send. -/
import Derived.Test.YtcadockapeancaaX4
import Derived.Deep.CutBlock
namespace Go.Proofs.Ytcadockapeancaa
open Go.RowKit

def msgObj (f tt : Int) (s : ByteArray) : Obj := .cells #[.int .i64 f, .int .i64 tt, .string s] 31
def rsW (w : World) (f tt : Int) (s : ByteArray) (t : Tr) : World := (w.alloc (.cells #[.int .i64 f, .int .i64 tt, .string s] 31)).alloc (.cells #[.bool t.lost, .int .i64 t.copies, .int .i64 t.delay] 44)
/-- What is known behind the choice of the trouble. -/
structure RMid (w W : World) (pb : Nat) (own : Nat → Prop) (S : NSt) (t : Tr) (f tt : Int) (s : ByteArray) (sv lv gv : Value) : Prop where
  has : RefHas W pb own S sv lv gv
  fr : Fr own w W
  msg : W.heap[w.heap.size]? = some (.cells #[.int .i64 f, .int .i64 tt, .string s] 31 (0, 0))
  tr : W.heap[w.heap.size + 1]? = some (.cells #[.bool t.lost, .int .i64 t.copies, .int .i64 t.delay] 44 (0, 0))
theorem rmid_of {w W : World} {pb : Nat} {own : Nat → Prop} {S : NSt} {t : Tr} {f tt : Int} {s : ByteArray} {sv lv gv : Value} (h : RefHas w pb own S sv lv gv) (hd : SomeDrew (rsW w f tt s t) W) : RMid w W pb own S t f tt s sv lv gv := by
  have hb : Below w.heap.size w W := by
    obtain ⟨q, rfl⟩ := hd
    exact Below.drewN' (((Below.refl _ _).alloc (Nat.le_refl _) _).alloc (by simp) _) q
  obtain ⟨p1, p2, p3⟩ := h.parts (w' := W) (fun k hk _ => hb.block k (h.o5 k hk))
  refine ⟨⟨h.rat.keep (hb.block pb (h.o5 pb h.o1)), p1, p2, p3, h.o1, h.o2, h.o3, h.o4, fun k hk => Nat.lt_of_lt_of_le (h.o5 k hk) hb.size⟩, Fr.ofBelow0 own hb, ?_, ?_⟩
  · obtain ⟨q, rfl⟩ := hd
    show ((w.alloc _).alloc _).heap[_]? = _
    rw [Below.heap_alloc _ _ _ (by simp), heap_alloc_new]
  · obtain ⟨q, rfl⟩ := hd
    exact heap_alloc2_new w _ _

theorem rmid_set {w W : World} {pb : Nat} {own : Nat → Prop} {S : NSt} {t : Tr} {f tt : Int} {s : ByteArray} {sv lv gv : Value} (hlt : pb < w.heap.size) (h : RMid w W pb own S t f tt s sv lv gv) : RMid w (W.setCell ⟨pb, 3, none⟩ (.int .i64 ((S.sent : Int) + 1))) pb own { S with sent := S.sent + 1 } t f tt s sv lv gv := by
  have hk : ∀ k, k ≠ pb → (W.setCell ⟨pb, 3, none⟩ (.int .i64 ((S.sent : Int) + 1))).heap[k]? = W.heap[k]? := fun k hk => heap_setCell_other W ⟨pb, 3, none⟩ k _ hk
  obtain ⟨p1, p2, p3⟩ := h.has.parts (fun k _ hne => hk k hne)
  refine ⟨⟨h.has.rat.set3 _, p1, p2, p3, h.has.o1, h.has.o2, h.has.o3, h.has.o4, fun k hk => by rw [size_setCell]; exact h.has.o5 k hk⟩, h.fr.setCell (.inr h.has.o1) _, ?_, ?_⟩
  · rw [hk _ (by omega)]; exact h.msg
  · rw [hk _ (by omega)]; exact h.tr

def RLoop (W : World) (pb : Nat) (S : NSt) (sv lv gv : Value) (t : Tr) (now f tt : Int) (s : ByteArray) (k : Nat) (wr : World) : Prop :=
  ∃ a c n, n = S.wait.length + k ∧ RefAt wr pb (.int .i64 S.nodes) sv (.slice a n c) (.int .i64 ((S.sent : Int) + 1)) gv ∧ wr.ownsRow 0 78 5 (.slice a n c) n (rowOf (S.wait ++ parcelsOf t S.sent now f tt s k)) ∧
    (∀ g, (Value.slice a n c).ownBlock = some g → g ≠ pb ∧ (lv.ownBlock = some g ∨ W.heap.size ≤ g)) ∧ Fr (fun b => b = pb ∨ lv.ownBlock = some b) W wr
theorem rloop_start {w W : World} {pb : Nat} {own : Nat → Prop} {S : NSt} {t : Tr} {now f tt : Int} {s : ByteArray} {sv lv gv : Value} (h : RMid w W pb own { S with sent := S.sent + 1 } t f tt s sv lv gv) : RLoop W pb S sv lv gv t now f tt s 0 W := by
  have hm : ∃ a c, lv = .slice a S.wait.length c := by
    rcases h.has.row.2 with ⟨rfl, h0⟩ | ⟨g, cap, cur, rfl, _⟩
    · exact ⟨none, 0, by rw [show S.wait.length = 0 from h0]⟩
    · exact ⟨_, cap, rfl⟩
  obtain ⟨a, c, rfl⟩ := hm
  refine ⟨a, c, S.wait.length, rfl, h.has.rat, ?_, fun g hg => ⟨(h.has.o2 g hg).2, .inl hg⟩, Fr.refl _ _⟩
  have := h.has.row
  simpa [parcelsOf] using this
def rpar (t : Tr) (sent : Nat) (now f tt : Int) (s : ByteArray) (k : Nat) : Par := ⟨f, tt, s, now + max t.delay 0 + (k : Int), sent⟩
def rObj (p : Par) : Obj := .cells #[.int .i64 p.f, .int .i64 p.t, .string p.s, .int .i64 p.at_, .int .i64 p.sent] 78
theorem rloop_step {W wr w1 : World} {pb : Nat} {S : NSt} {t : Tr} {now f tt : Int} {s : ByteArray} {sv lv gv : Value} {k n : Nat} {a : Option Addr} {c g cap : Nat} (hn : n = S.wait.length + k) (hra : RefAt wr pb (.int .i64 S.nodes) sv (.slice a n c) (.int .i64 ((S.sent : Int) + 1)) gv)
    (hgb : ∀ g, (Value.slice a n c).ownBlock = some g → g ≠ pb ∧ (lv.ownBlock = some g ∨ W.heap.size ≤ g)) (hf : Fr (fun b => b = pb ∨ lv.ownBlock = some b) W wr) (hlt : pb < wr.heap.size)
    (ho : w1.ownsRow 0 78 5 (.slice (some ⟨g, 0, none⟩) (n + 1) cap) (n + 1) (rowOf (S.wait ++ parcelsOf t S.sent now f tt s k) ++ (rpar t S.sent now f tt s k).cells)) (hg : ((wr.alloc (rObj (rpar t S.sent now f tt s k))).drew).grownBy w1 (Value.slice a n c).ownBlock)
    (hd : (Value.slice a n c).ownBlock = some g ∨ ((wr.alloc (rObj (rpar t S.sent now f tt s k))).drew).heap.size ≤ g) :
    RLoop W pb S sv lv gv t now f tt s (k + 1) (w1.setCell ⟨pb, 2, none⟩ (.slice (some ⟨g, 0, none⟩) (n + 1) cap)) := by
  have hsz : ((wr.alloc (rObj (rpar t S.sent now f tt s k))).drew).heap.size = wr.heap.size + 1 := by show (wr.alloc _).heap.size = _; simp
  have hp1 : w1.heap[pb]? = wr.heap[pb]? := by
    rw [hg.block pb (by rw [hsz]; omega) (fun e => (hgb pb e.symm).1 rfl)]
    exact Below.heap_alloc wr _ pb hlt
  have hgp : g ≠ pb := by
    rcases hd with hd | hd
    · exact (hgb g hd).1
    · rw [hsz] at hd; omega
  refine ⟨some ⟨g, 0, none⟩, cap, n + 1, by omega, (hra.keep hp1).set2 _, ?_, fun g' hg' => ?_, ?_⟩
  · have : w1.ownsRow 0 78 5 (.slice (some ⟨g, 0, none⟩) (n + 1) cap) (n + 1) (rowOf (S.wait ++ parcelsOf t S.sent now f tt s (k + 1))) := by
      rw [parcels_succ, ← List.append_assoc, rowOf_snoc]; exact ho
    exact row_keep this fun b hb => by cases hb; exact heap_setCell_other w1 ⟨pb, 2, none⟩ g _ hgp
  · obtain rfl : g = g' := by simpa [Value.ownBlock] using hg'
    refine ⟨hgp, ?_⟩
    rcases hd with hd | hd
    · exact (hgb g hd).2
    · exact .inr (Nat.le_trans hf.size (by rw [hsz] at hd; exact Nat.le_trans (Nat.le_succ _) hd))
  · refine ((((hf.alloc _).drew).grown hg (fun k' hk' => ?_)).setCell (p := ⟨pb, 2, none⟩) (.inr (.inl rfl)) _)
    rcases (hgb k' hk').2 with h' | h'
    · exact .inr (.inr h')
    · exact .inl h'
theorem rsend_no {w W W' : World} {pb : Nat} {own : Nat → Prop} {S : NSt} {t : Tr} {now f tt : Int} {s : ByteArray} {sv lv gv : Value} (h : RMid w W pb own { S with sent := S.sent + 1 } t f tt s sv lv gv) (ht : trouble S.script S.sent = t) (hd : delivers S t f tt = false) (hw : SomeDrew W W') : RSentEnd w pb own (S.send now f tt s) (.returned (.tuple #[])) W' := by
  have e : S.send now f tt s = { S with sent := S.sent + 1 } := by unfold NSt.send; rw [ht, hd]; simp
  rw [e]
  obtain ⟨q, rfl⟩ := hw
  exact ⟨rfl, own, RefIs.frame ⟨_, _, _, h.has⟩ ((Fr.refl (fun _ => False) W).drewN q) (fun _ _ e => e), h.fr.drewN q, fun k hk => .inl hk⟩
theorem rsend_yes {w W W' : World} {pb : Nat} {own : Nat → Prop} {S : NSt} {t : Tr} {now f tt : Int} {s : ByteArray} {sv lv gv : Value} (h : RMid w W pb own { S with sent := S.sent + 1 } t f tt s sv lv gv) (ht : trouble S.script S.sent = t) (hd : delivers S t f tt = true) (hw : RLoop W pb S sv lv gv t now f tt s (copiesOf t) W') : RSentEnd w pb own (S.send now f tt s) (.returned (.tuple #[])) W' := by
  have e : S.send now f tt s = { S with sent := S.sent + 1, wait := S.wait ++ parcelsOf t S.sent now f tt s (copiesOf t) } := by unfold NSt.send; rw [ht, hd]; simp
  rw [e]
  obtain ⟨a, c, n, hn, hra, hrow, hgb, hf⟩ := hw
  have hlen : (S.wait ++ parcelsOf t S.sent now f tt s (copiesOf t)).length = n := by rw [List.length_append, parcels_length, hn]
  have hsz := h.fr.size
  have hfo : Fr own w W' := h.fr.trans hf (fun k hk e => by
    rcases e with rfl | e
    · exact h.has.o1
    · exact (h.has.o2 k e).1)
  have hkk : ∀ k, own k → k ≠ pb → lv.ownBlock ≠ some k → W'.heap[k]? = W.heap[k]? := fun k hk h1 h2 => hf.block k (h.has.o5 k hk) (fun e => e.elim h1 h2)
  refine ⟨rfl, fun k => own k ∨ (Value.slice a n c).ownBlock = some k, ⟨sv, .slice a n c, gv, hra, ?_, ?_, ?_, .inl h.has.o1, fun g hg => ⟨.inr hg, (hgb g hg).1⟩, fun g hg h0 => ⟨.inl (h.has.o3 g hg h0).1, (h.has.o3 g hg h0).2.1, fun e => ?_⟩, fun g hg h0 => ⟨.inl (h.has.o4 g hg h0).1, (h.has.o4 g hg h0).2.1, fun e => ?_⟩, ?_⟩, hfo, ?_⟩
  · exact h.has.scr.keep fun b hb h0 => hkk b (h.has.o3 b hb h0).1 (h.has.o3 b hb h0).2.1 (h.has.o3 b hb h0).2.2
  · rw [show (NSt.wait { S with sent := S.sent + 1, wait := S.wait ++ parcelsOf t S.sent now f tt s (copiesOf t) }) = S.wait ++ parcelsOf t S.sent now f tt s (copiesOf t) from rfl, hlen]; exact hrow
  · exact h.has.grp.keep fun b hb h0 => hkk b (h.has.o4 b hb h0).1 (h.has.o4 b hb h0).2.1 (h.has.o4 b hb h0).2.2
  · rcases (hgb g e).2 with e' | e'
    · exact (h.has.o3 g hg h0).2.2 e'
    · have := h.has.o5 g (h.has.o3 g hg h0).1; omega
  · rcases (hgb g e).2 with e' | e'
    · exact (h.has.o4 g hg h0).2.2 e'
    · have := h.has.o5 g (h.has.o4 g hg h0).1; omega
  · rintro k (h' | h')
    · exact Nat.lt_of_lt_of_le (h.has.o5 k h') hf.size
    · exact (hrow.lt k h').2
  · rintro k (h' | h')
    · exact .inl h'
    · rcases (hgb k h').2 with e' | e'
      · exact .inl (h.has.o2 k e').1
      · exact .inr (Nat.le_trans hsz e')

theorem RLoop.drew {W wr w2 : World} {pb : Nat} {S : NSt} {sv lv gv : Value} {t : Tr} {now f tt : Int} {s : ByteArray} {k : Nat} (h : RLoop W pb S sv lv gv t now f tt s k wr) (hd : SomeDrew wr w2) : RLoop W pb S sv lv gv t now f tt s k w2 := by
  obtain ⟨q, rfl⟩ := hd
  obtain ⟨a, c, n, h1, h2, h3, h4, h5⟩ := h
  exact ⟨a, c, n, h1, h2, h3, h4, h5.drewN q⟩
theorem robj_news (w : World) (f tt : Int) (s : ByteArray) (d : Int) (sent : Nat) (j : Nat) (u : Value) (h : (⟨f, tt, s, d, sent⟩ : Par).cells[j]? = some u) :
    (w.alloc (.cells #[.int .i64 f, .int .i64 tt, .string s, .int .i64 d, .int .i64 sent] 78)).drew.cell? ((⟨w.heap.size, 0, none⟩ : Addr).add j) = some u := by
  rw [add_at, Nat.zero_add]
  show (w.alloc _).cell? _ = _
  rw [cell_of_row _ w.heap.size j _ 78 (0, 0) (heap_alloc_new w _)]
  simpa [Par.cells] using h
theorem send_ways (S : NSt) (t : Tr) (f tt : Int) : (t.lost = true ∧ delivers S t f tt = false) ∨ (t.lost = false ∧ tt < 0 ∧ delivers S t f tt = false) ∨ (t.lost = false ∧ 0 ≤ tt ∧ decide (tt < 0) = false ∧ S.nodes ≤ tt ∧ delivers S t f tt = false) ∨
    (t.lost = false ∧ 0 ≤ tt ∧ decide (tt < 0) = false ∧ tt < S.nodes ∧ decide (S.nodes ≤ tt) = false ∧ f < 0 ∧ decide (0 ≤ f) = false ∧ delivers S t f tt = true) ∨
    (t.lost = false ∧ 0 ≤ tt ∧ decide (tt < 0) = false ∧ tt < S.nodes ∧ decide (S.nodes ≤ tt) = false ∧ 0 ≤ f ∧ S.nodes ≤ f ∧ decide (f < S.nodes) = false ∧ delivers S t f tt = true) ∨
    (t.lost = false ∧ 0 ≤ tt ∧ decide (tt < 0) = false ∧ tt < S.nodes ∧ decide (S.nodes ≤ tt) = false ∧ 0 ≤ f ∧ f < S.nodes ∧ (groupOf S.groups f != groupOf S.groups tt) = true ∧ delivers S t f tt = false) ∨
    (t.lost = false ∧ 0 ≤ tt ∧ decide (tt < 0) = false ∧ tt < S.nodes ∧ decide (S.nodes ≤ tt) = false ∧ 0 ≤ f ∧ f < S.nodes ∧ groupOf S.groups f = groupOf S.groups tt ∧ delivers S t f tt = true) := by
  unfold delivers nodeB
  cases hl : t.lost
  · right
    by_cases h1 : tt < 0
    · left; exact ⟨rfl, h1, by simp; omega⟩
    right
    by_cases h2 : S.nodes ≤ tt
    · left; exact ⟨rfl, by omega, by simpa using h1, h2, by simp; omega⟩
    right
    have e1 : decide (0 ≤ tt) = true := by simp; omega
    have e2 : decide (tt < S.nodes) = true := by simp; omega
    by_cases h3 : f < 0
    · left
      have e3 : decide (0 ≤ f) = false := by simp; omega
      exact ⟨rfl, by omega, by simpa using h1, by omega, by simpa using h2, h3, e3, by rw [e1, e2, e3]; rfl⟩
    right
    have e3 : decide (0 ≤ f) = true := by simp; omega
    by_cases h4 : S.nodes ≤ f
    · left
      have e4 : decide (f < S.nodes) = false := by simp; omega
      exact ⟨rfl, by omega, by simpa using h1, by omega, by simpa using h2, by omega, h4, e4, by rw [e1, e2, e3, e4]; rfl⟩
    right
    have e4 : decide (f < S.nodes) = true := by simp; omega
    by_cases h5 : groupOf S.groups f = groupOf S.groups tt
    · right
      exact ⟨rfl, by omega, by simpa using h1, by omega, by simpa using h2, by omega, by omega, h5, by rw [e1, e2, e3, e4, h5]; simp⟩
    · left
      exact ⟨rfl, by omega, by simpa using h1, by omega, by simpa using h2, by omega, by omega, by simpa using h5, by rw [e1, e2, e3, e4]; simpa using h5⟩
  · exact .inl ⟨rfl, rfl⟩

set_option maxHeartbeats 40000000 in
set_option maxRecDepth 100000 in
theorem rsend_any (pb : Nat) (own : Nat → Prop) (S : NSt) (now f tt : Int) (s : ByteArray) (w : World) (h : RefIs w pb own S) (hL : S.script.length ≤ 1000000) (hsent : S.sent ≤ 999999999) (hG : S.groups.length ≤ maxLen)
    (hnow : -1000000000 ≤ now ∧ now ≤ 1000000000) (hdel : (trouble S.script S.sent).delay ≤ 1000000000) (hwl : S.wait.length ≤ 900000) (wf : (Lit.int .i64 f).wf = true) (wt : (Lit.int .i64 tt).wf = true) :
    Calls Try.prog 16 #[.pointer (some ⟨pb, 0, none⟩), .int .i64 now, .agg #[.int .i64 f, .int .i64 tt, .string s]] w fun e w' => RSentEnd w pb own (S.send now f tt s) e w' := by
  obtain ⟨sv, lv, gv, r⟩ := h
  obtain ⟨sa, scap, rfl⟩ := r.scr.slice
  have hlt := r.o5 pb r.o1
  have hlt1 : pb < w.heap.size + 1 := by omega
  have hlt2 : pb < w.heap.size + 1 + 1 := by omega
  have hb2 : Below w.heap.size w (rsW w f tt s ⟨false, 1, 1⟩) := ((Below.refl _ _).alloc (Nat.le_refl _) _).alloc (by simp) _
  have hra := r.rat.keep (hb2.block pb hlt)
  have c1 : (rsW w f tt s ⟨false, 1, 1⟩).cell? ⟨pb, 1, none⟩ = some (.slice sa S.script.length scap) := hra.at.2.1
  have c3 : (rsW w f tt s ⟨false, 1, 1⟩).cell? ⟨pb, 3, none⟩ = some (.int .i64 S.sent) := hra.at.2.2.2.1
  have HMID := Lib.hid (fun W t hd => rmid_of (W := W) (t := t) (f := f) (tt := tt) (s := s) r hd)
  have SC := Lib.hid (fun i (hi : i < S.script.length) => by
    have hs2 := r.scr.keep (w' := rsW w f tt s ⟨false, 1, 1⟩) (fun b hb h0 => hb2.block b (r.o5 b (r.o3 b hb h0).1))
    rcases hs2 with ⟨_, h0⟩ | ⟨b, off, cap', hv, hr, h0⟩
    · rw [h0] at hi; simp at hi
    · simp only [Value.slice.injEq] at hv
      exact (⟨b, off, hv.1, (hr i hi).1, (hr i hi).2.1, (hr i hi).2.2⟩ : ∃ b off, sa = some ⟨b, off, none⟩ ∧ (rsW w f tt s ⟨false, 1, 1⟩).cell? ⟨b, off + i * 3, none⟩ = some (.bool (gtT S.script i).lost) ∧ (rsW w f tt s ⟨false, 1, 1⟩).cell? ⟨b, off + i * 3 + 1, none⟩ = some (.int .i64 (gtT S.script i).copies) ∧ (rsW w f tt s ⟨false, 1, 1⟩).cell? ⟨b, off + i * 3 + 2, none⟩ = some (.int .i64 (gtT S.script i).delay)))
  have HR := Lib.hid r
  clear r hra hb2
  have HTR := Lib.hid (rfl : trouble S.script S.sent = trouble S.script S.sent)
  generalize htr : trouble S.script S.sent = t at *
  have HTT := Lib.hid htr
  clear htr HTR
  unfold rsW at c1 c3 SC
  go_enter Try.func16, Try.ntmps16
  go_upto_if 15 with fail
  go_cut [] (fun wx => SomeDrew (rsW w f tt s t) wx)
  case first =>
    unfold rsW at *
    generalize hn : S.script.length = n at *
    have HN := Lib.hid hn
    clear hn
    by_cases h0 : n = 0
    · have h0' : (n : Int) ≤ 0 := by omega
      have ht : t = ⟨false, 1, 1⟩ := by rw [← HTT.out]; simp [trouble, HN.out, h0]
      subst ht
      clear h0
      go_wp2_with fail
      go_meet
      exact ⟨0, rfl⟩
    · have h0' : (0 : Int) < (n : Int) := by omega
      have hj : S.sent % n < n := Nat.mod_lt _ (by omega)
      have hjt : t = gtT S.script (S.sent % n) := by
        rw [← HTT.out]
        unfold trouble
        rw [HN.out, if_neg h0]
      have hrem : (S.sent : Int) % (n : Int) = ((S.sent % n : Nat) : Int) := by omega
      generalize S.sent % n = j at *
      obtain ⟨b, off, rfl, d0, d1, d2⟩ := SC.out j hj
      rw [← hjt] at d0 d1 d2
      have hj' : (j : Int) < (n : Int) := by omega
      clear hjt SC h0
      go_wp2_with fail
      go_region
      go_wp2_with fail
      go_meet
      exact ⟨1, rfl⟩
  case rest =>
    have hm1 := rmid_set hlt (HMID.out _ t hcut)
    have hm0 := HMID.out _ t hcut
    obtain ⟨c0', _, _, c3', _⟩ := hm0.has.rat.at
    have z3' := hm0.has.rat.free 3
    have hlt3 := hm0.has.rat.lt
    clear c1 c3 SC hcut HMID
    have HM1 := Lib.hid hm1
    clear hm1 hm0
    go_upto_region 6 with fail
    clear c0' c3' z3'
    generalize wc.setCell ⟨pb, 3, none⟩ (.int .i64 ((S.sent : Int) + 1)) = W at *
    have M := HM1.out
    obtain ⟨n0, _, _, _, _⟩ := M.has.rat.at
    have hcx : ∀ i, W.cell? ⟨w.heap.size, i, none⟩ = #[Value.int .i64 f, .int .i64 tt, .string s][i]? := fun i => cell_of_row W w.heap.size i _ 31 (0, 0) M.msg
    have hcy : ∀ i, W.cell? ⟨w.heap.size + 1, i, none⟩ = #[Value.bool t.lost, .int .i64 t.copies, .int .i64 t.delay][i]? := fun i => cell_of_row W (w.heap.size + 1) i _ 44 (0, 0) M.tr
    have x0 := hcx 0
    have x1 := hcx 1
    have y0 := hcy 0
    simp only [List.getElem?_toArray, List.getElem?_cons_zero, List.getElem?_cons_succ] at x0 x1 y0
    have HQ' := Lib.hid (fun (i g : Int) (hi : 0 ≤ i) (hg : groupOf S.groups i = g) (q : Nat) => ((rgroup_any pb _ _ _ _ gv S.groups i (W.drewN q) (M.has.rat.keep rfl) (M.has.grp.keep fun _ _ _ => rfl) hG hi).mono (fun e w' h => (⟨by rw [← hg]; exact h.1, h.2.symm⟩ : e = .returned (.int .i64 g) ∧ w' = W.drewN q))))
    have HX := Lib.hid hcx
    have HY := Lib.hid hcy
    clear hcx hcy M
    have HNO := Lib.hid (fun hd W' hw => rsend_no (now := now) (W' := W') HM1.out HTT.out hd hw)
    have HYES := Lib.hid (fun hd W' hw => rsend_yes (W' := W') (now := now) HM1.out HTT.out hd hw)
    have HST := Lib.hid (rloop_start (now := now) HM1.out)
    have HLT := Lib.hid (HM1.out.has.rat.lt)
    have HFB := Lib.hid (fun b (hb : w.heap.size ≤ b) => (fun e => by
        rcases e with rfl | e
        · omega
        · have := HR.out.o5 b (HR.out.o2 b e).1; omega : ¬ (b = pb ∨ lv.ownBlock = some b)))
    clear HR HM1
    go_cut [83] (fun s83 wx => s83 = .bool (!delivers S t f tt) ∧ SomeDrew W wx)
    case first =>
      clear hdel hnow hwl hsent HNO HYES HST HLT HFB HX HY
      have hw := send_ways S t f tt
      generalize hga : groupOf S.groups f = ga at *
      generalize hgb : groupOf S.groups tt = gb at *
      generalize hdd : delivers S t f tt = D at *
      clear hdd
      rcases hw with ⟨hlo, rfl⟩ | ⟨hlo, h1, rfl⟩ | ⟨hlo, h1, h1', h2, rfl⟩ | ⟨hlo, h1, h1', h2, h2', h3, h3', rfl⟩ | ⟨hlo, h1, h1', h2, h2', h3, h4, h4', rfl⟩ | ⟨hlo, h1, h1', h2, h2', h3, h4, h5, rfl⟩ | ⟨hlo, h1, h1', h2, h2', h3, h4, rfl, rfl⟩
      all_goals
        rw [hlo] at y0
        clear hlo
        go_quiet ((go_at_call 28; exact Calls.quiet_of_same (HQ'.out _ _ (by assumption) (by assumption) _)))
        go_wp2_with fail
        go_meet
        exact ⟨rfl, ⟨_, rfl⟩⟩
    case rest =>
      obtain ⟨rfl, hsd⟩ := hcut
      cases hD : delivers S t f tt
      · have HE := Lib.hid (HNO.out hD _ hsd)
        clear HNO HYES HST hsd hD n0 x0 x1 y0 HX HY HQ' HFB
        go_wp2_with fail
        go_end0
        exact HE.out
      · have HY2 := Lib.hid (HYES.out hD)
        have HR0 := Lib.hid (HST.out.drew hsd)
        have hc3 : (t.copies ≤ 1 ∧ copiesOf t = 1) ∨ (1 < t.copies ∧ t.copies < 8 ∧ t.copies = (copiesOf t : Int)) ∨ (8 ≤ t.copies ∧ copiesOf t = 8) := by unfold copiesOf; omega
        have HC3 := Lib.hid hc3
        clear HNO HYES HST hsd hD n0 x0 x1 y0 HQ' hc3
        generalize hNN : copiesOf t = N at *
        clear hNN
        have hN8 : N ≤ 8 := by have := HC3.out; omega
        go_wp2_with fail
        go_loopg [8] (N + 1) (fun gg s8 wr => ∃ k : Nat, s8 = .int .i64 (k : Int) ∧ N < k + gg ∧ k ≤ N ∧ RLoop W pb S (.slice sa S.script.length scap) lv gv t now f tt s k wr)
        case atStart => exact ⟨0, rfl, by omega, by omega, HR0.out⟩
        case round =>
          clear HR0
          obtain ⟨k, rfl, hg, hkN, hR⟩ := hrel
          have HRL := Lib.hid hR
          obtain ⟨a, c, n, hn, hra, hrow, hgb, hfr⟩ := hR
          have y1 := hfr.cell (HY.out 1) (HFB.out _ (Nat.le_succ _))
          have y2 := hfr.cell (HY.out 2) (HFB.out _ (Nat.le_succ _))
          have x0 := hfr.cell (HX.out 0) (HFB.out _ (Nat.le_refl _))
          have x1 := hfr.cell (HX.out 1) (HFB.out _ (Nat.le_refl _))
          have x2 := hfr.cell (HX.out 2) (HFB.out _ (Nat.le_refl _))
          have hc2 := hra.at.2.2.1
          have hz2 := hra.free 2
          have hlp := hra.lt
          by_cases hk : k < N
          · have hn9 : n ≤ 900010 := by omega
            have HO := Lib.hid (fun d : Int => (hrow.alloc (.cells #[.int .i64 f, .int .i64 tt, .string s, .int .i64 d, .int .i64 S.sent] 78) : (wr.alloc (.cells #[.int .i64 f, .int .i64 tt, .string s, .int .i64 d, .int .i64 S.sent] 78)).drew.ownsRow 0 78 5 (.slice a n c) n (rowOf (S.wait ++ parcelsOf t S.sent now f tt s k))))
            have hnews := Lib.hid (fun (d : Int) (j : Nat) (u : Value) (h : (⟨f, tt, s, d, S.sent⟩ : Par).cells[j]? = some u) => robj_news wr f tt s d S.sent j u h)
            have STEP := Lib.hid (fun (d : Int) (hd' : d = now + max t.delay 0 + (k : Int)) (g cap : Nat) (w1 : World) (ho : w1.ownsRow 0 78 5 (.slice (some ⟨g, 0, none⟩) (n + 1) cap) (n + 1) (rowOf (S.wait ++ parcelsOf t S.sent now f tt s k) ++ (⟨f, tt, s, d, S.sent⟩ : Par).cells)) (hg' : ((wr.alloc (.cells #[.int .i64 f, .int .i64 tt, .string s, .int .i64 d, .int .i64 S.sent] 78)).drew).grownBy w1 (Value.slice a n c).ownBlock) (hdd : (Value.slice a n c).ownBlock = some g ∨ ((wr.alloc (.cells #[.int .i64 f, .int .i64 tt, .string s, .int .i64 d, .int .i64 S.sent] 78)).drew).heap.size ≤ g) => show RLoop W pb S (.slice sa S.script.length scap) lv gv t now f tt s (k + 1) (w1.setCell ⟨pb, 2, none⟩ (.slice (some ⟨g, 0, none⟩) (n + 1) cap)) by
              subst hd'
              exact (rloop_step (cap := cap) (g := g) (w1 := w1) hn hra hgb hfr hlp ho hg' hdd : RLoop W pb S (.slice sa S.script.length scap) lv gv t now f tt s (k + 1) (w1.setCell ⟨pb, 2, none⟩ (.slice (some ⟨g, 0, none⟩) (n + 1) cap))))
            have HCC := Lib.hid (fun (d : Int) (w1 : World) (hg' : ((wr.alloc (.cells #[.int .i64 f, .int .i64 tt, .string s, .int .i64 d, .int .i64 S.sent] 78)).drew).grownBy w1 (Value.slice a n c).ownBlock) => by
              have hp1 : w1.heap[pb]? = wr.heap[pb]? := by
                rw [hg'.block pb (by show pb < (wr.alloc _).heap.size; simp; omega) (fun e => (hgb pb e.symm).1 rfl)]
                exact Below.heap_alloc wr _ pb hlp
              have h1 := hra.keep hp1
              exact (⟨h1.at.2.2.1, h1.free 2, h1.lt⟩ : w1.cell? ⟨pb, 2, none⟩ = some (.slice a n c) ∧ w1.frozen? ⟨pb, 2, none⟩ = false ∧ pb < w1.heap.size))
            obtain ⟨i0, hi0, hz0, hz1, hz2'⟩ := info_parts Try.info78
            have h63 : n + 1 ≤ maxLen := by unfold maxLen; omega
            have hcc : (t.copies ≤ 1 ∧ k < 1) ∨ (1 < t.copies ∧ t.copies < 8 ∧ (k : Int) < t.copies) ∨ (8 ≤ t.copies ∧ k < 8) := by have := HC3.out; omega
            have hdl : t.delay < 0 ∨ 0 ≤ t.delay := by omega
            obtain ⟨w1', w2'⟩ := hnow
            have hk8 : k ≤ 8 := by omega
            clear hn hra hrow hgb hfr HC3 HY2 HX HY HFB HRL
            go_upto_region 8 with fail
            go_cut [89] (fun s89 wx => s89 = .bool true ∧ wr = wx)
            case first =>
              rcases hcc with ⟨q1, q2⟩ | ⟨q1, q2, q3⟩ | ⟨q1, q2⟩
              all_goals
                go_wp2_with fail
              all_goals
                go_meet
                exact ⟨by first | rfl | exact congrArg Value.bool (decide_eq_true (by omega)), rfl⟩
            case rest =>
              obtain ⟨rfl, rfl⟩ := hcut
              clear hcc
              go_upto_block 1 with fail
              go_cut [] (fun wx => RLoop W pb S (.slice sa S.script.length scap) lv gv t now f tt s (k + 1) wx)
              case first =>
                rcases hdl with hdl | hdl
                all_goals
                  go_upto_region 10 with fail
                  go_region_law (refine step_append_mine rfl (.tmp 96) (.tmp 107) 65 rfl 0 78 i0 _ 5 48 Try.underlying65 hi0 hz0 hz1 hz2' rfl (by decide) (.slice a n c) n _ rfl (HO.out _) (Nat.zero_le _) ⟨wr.heap.size, 0, none⟩ 1 1 _ rfl rfl (hnews.out _) (cells_one _) (by decide) h63 (by omega) ?_; intro g cap' w1 ho hg2 hd2; have ⟨hc1, hz3, hl3⟩ := HCC.out _ w1 hg2)
                all_goals
                  go_wp2_with fail
                  go_meet
                  exact STEP.out _ (by first | omega | (simp only [IntKind.wrap_i64]; omega)) g cap' w1 ho hg2 hd2
              case rest =>
                have HRN := Lib.hid hcut
                clear hcut STEP HCC HO hnews
                go_wp2_with fail
                go_roundg (N - k)
                case measure => omega
                case rel => exact ⟨k + 1, by go_num, by omega, by omega, HRN.out⟩
          · have hkk : (N : Int) ≤ (k : Int) := by omega
            obtain rfl : k = N := by omega
            have HE := Lib.hid (HY2.out _ HRL.out)
            have hcc : (t.copies ≤ 1 ∧ 1 ≤ k) ∨ (1 < t.copies ∧ t.copies < 8 ∧ t.copies ≤ (k : Int)) ∨ (8 ≤ t.copies ∧ 8 ≤ k) := by have := HC3.out; omega
            clear hra hrow hgb hfr HC3 HY2 HRL hn
            rcases hcc with ⟨q1, q2⟩ | ⟨q1, q2, q3⟩ | ⟨q1, q2⟩
            all_goals
              go_wp2_with fail
            all_goals
              go_end0
              exact HE.out
end Go.Proofs.Ytcadockapeancaa
