/- A net in the hands of a law: what it does at each call, its own blocks apart from those that the law keeps. -/
import Derived.Test.YtcadockapeancaaWD
import Derived.Test.YtcadockapeancaaP2
namespace Go.Proofs.Ytcadockapeancaa
open Go.RowKit

/-- A net of the call's own; 'keep': other blocks, apart from the net's. -/
structure Inv (w0 wr : World) (pb : Nat) (own : Nat → Prop) (S : NSt) (keep : Nat → Prop) : Prop where
  net : NetIs wr pb own S
  good : S.Good
  new : ∀ k, own k → w0.heap.size ≤ k
  bel : Below w0.heap.size w0 wr
  sep : ∀ k, keep k → k < wr.heap.size ∧ ¬ own k

def Keep (keep : Nat → Prop) (w w' : World) : Prop := ∀ k, keep k → w'.heap[k]? = w.heap[k]?
theorem Keep.cell {keep : Nat → Prop} {w w' : World} (h : Keep keep w w') {a : Addr} {v : Value} (hc : w.cell? a = some v) (hk : keep a.block) : w'.cell? a = some v := by
  rw [World.cell?_of_block (w := w) (h a.block hk)]; exact hc
theorem Keep.trans {keep : Nat → Prop} {a b c : World} (h : Keep keep a b) (k : Keep keep b c) : Keep keep a c := fun i hi => (k i hi).trans (h i hi)
theorem Keep.refl (keep : Nat → Prop) (w : World) : Keep keep w w := fun _ _ => rfl

/-- What a call on the net leaves. -/
theorem Inv.step {w0 w w' : World} {pb : Nat} {own own' keep : Nat → Prop} {S S' : NSt} (h : Inv w0 w pb own S keep) (hn : NetIs w' pb own' S') (hg : S'.Good) (hf : Fr own w w') (ho : ∀ k, own' k → own k ∨ w.heap.size ≤ k) :
    Inv w0 w' pb own' S' keep ∧ Keep keep w w' := by
  refine ⟨⟨hn, hg, fun k hk => ?_, h.bel.trans ⟨hf.os, hf.tape, hf.output, hf.size, fun k hk => hf.block k (Nat.lt_of_lt_of_le hk h.bel.size) (fun e => by have := h.new k e; omega)⟩, fun k hk => ?_⟩, fun k hk => hf.block k (h.sep k hk).1 (h.sep k hk).2⟩
  · rcases ho k hk with e | e
    · exact h.new k e
    · exact Nat.le_trans h.bel.size e
  · obtain ⟨h1, h2⟩ := h.sep k hk
    refine ⟨Nat.lt_of_lt_of_le h1 hf.size, fun e => ?_⟩
    rcases ho k e with e | e
    · exact h2 e
    · omega
/-- What something else leaves: it writes into blocks of 'other' alone, which are none of the net's. -/
theorem Inv.frame {w0 w w' : World} {pb : Nat} {own keep other : Nat → Prop} {S : NSt} (h : Inv w0 w pb own S keep) (hf : Fr other w w') (hd : ∀ k, own k → ¬ other k) (hw : ∀ k, other k → w0.heap.size ≤ k) : Inv w0 w' pb own S keep :=
  ⟨h.net.frame hf hd, h.good, h.new, h.bel.trans ⟨hf.os, hf.tape, hf.output, hf.size, fun k hk => hf.block k (Nat.lt_of_lt_of_le hk h.bel.size) (fun e => by have := hw k e; omega)⟩,
    fun k hk => ⟨Nat.lt_of_lt_of_le (h.sep k hk).1 hf.size, (h.sep k hk).2⟩⟩
theorem Inv.below {w0 w w' : World} {pb : Nat} {own keep : Nat → Prop} {S : NSt} (h : Inv w0 w pb own S keep) (hf : Below w.heap.size w w') : Inv w0 w' pb own S keep :=
  h.frame (other := fun _ => False) (Fr.ofBelow0 _ hf) (fun _ _ e => e) (fun _ e => e.elim)
theorem Inv.keepMono {w0 w : World} {pb : Nat} {own keep keep' : Nat → Prop} {S : NSt} (h : Inv w0 w pb own S keep) (hk : ∀ k, keep' k → k < w.heap.size ∧ ¬ own k) : Inv w0 w pb own S keep' := ⟨h.net, h.good, h.new, h.bel, hk⟩
theorem Inv.lt {w0 w : World} {pb : Nat} {own keep : Nat → Prop} {S : NSt} (h : Inv w0 w pb own S keep) {k : Nat} (hk : own k) : k < w.heap.size := by
  obtain ⟨_, _, _, _, _, _, _, _, _, _, o5⟩ := h.net
  exact o5 k hk
theorem Inv.own {w0 w : World} {pb : Nat} {own keep : Nat → Prop} {S : NSt} (h : Inv w0 w pb own S keep) : own pb := by
  obtain ⟨_, _, _, _, _, _, o1, _⟩ := h.net
  exact o1

def SmallScript (L : List Tr) : Prop := L.length ≤ 1000000 ∧ ∀ k, k < L.length → (gtT L k).delay ≤ 1000000000
theorem trouble_small {L : List Tr} (h : SmallScript L) (sent : Nat) : (trouble L sent).delay ≤ 1000000000 := by
  unfold trouble
  split
  · simp
  · exact h.2 _ (Nat.mod_lt _ (by omega))

def SentEnd (w0 w : World) (pb : Nat) (S' : NSt) (keep : Nat → Prop) (e : Ending) (w' : World) : Prop := e = .returned (.tuple #[]) ∧ ∃ own', Inv w0 w' pb own' S' keep ∧ Keep keep w w'

theorem inv_send {w0 w : World} {pb : Nat} {own keep : Nat → Prop} {S : NSt} (h : Inv w0 w pb own S keep) (hL : SmallScript S.script) (hs : S.sent ≤ 999999999) (hw : S.wait.length ≤ 900000)
    (now f tt : Int) (s : ByteArray) (hnow : -1000000000 ≤ now ∧ now ≤ 1000000000) (wf : (Lit.int .i64 f).wf = true) (wt : (Lit.int .i64 tt).wf = true) :
    Calls Try.prog 15 #[.pointer (some ⟨pb, 0, none⟩), .int .i64 now, .agg #[.int .i64 f, .int .i64 tt, .string s]] w fun e w' => SentEnd w0 w pb (S.send now f tt s) keep e w' := by
  have key : ∀ e w', SendEnd w pb own (S.send now f tt s) e w' → SentEnd w0 w pb (S.send now f tt s) keep e w' := fun e w' ⟨he, own', hn, hf, ho⟩ => ⟨he, own', h.step hn (h.good.send now f tt s) hf ho⟩
  cases hd : delivers S (trouble S.script S.sent) f tt
  · exact (send_not pb own S now f tt s w h.net hL.1 hs hd wf wt).mono key
  · exact (send_yes pb own S now f tt s w h.net hL.1 hs hd hnow (trouble_small hL _) hw wf wt).mono key
/-- Where nothing is delivered the time may be any. -/
theorem inv_send_not {w0 w : World} {pb : Nat} {own keep : Nat → Prop} {S : NSt} (h : Inv w0 w pb own S keep) (hL : S.script.length ≤ 1000000) (hs : S.sent ≤ 999999999)
    (now f tt : Int) (s : ByteArray) (hd : delivers S (trouble S.script S.sent) f tt = false) (wf : (Lit.int .i64 f).wf = true) (wt : (Lit.int .i64 tt).wf = true) :
    Calls Try.prog 15 #[.pointer (some ⟨pb, 0, none⟩), .int .i64 now, .agg #[.int .i64 f, .int .i64 tt, .string s]] w fun e w' => SentEnd w0 w pb (S.send now f tt s) keep e w' :=
  (send_not pb own S now f tt s w h.net hL hs hd wf wt).mono fun _ _ ⟨he, own', hn, hf, ho⟩ => ⟨he, own', h.step hn (h.good.send now f tt s) hf ho⟩

def msgOf (xs : List Par) : Value := if xs = [] then noMsg else (pick xs).msg
theorem msgOf_nil : msgOf [] = noMsg := rfl
theorem msgOf_some {xs : List Par} (h : xs ≠ []) : msgOf xs = (pick xs).msg := by simp [msgOf, h]
def NextsEnd (w0 w : World) (pb : Nat) (S : NSt) (keep : Nat → Prop) (e : Ending) (w' : World) : Prop := e = .returned (msgOf S.wait) ∧ ∃ own', Inv w0 w' pb own' S.next keep ∧ Keep keep w w'

theorem NetIs.perm {w : World} {pb : Nat} {own : Nat → Prop} {S : NSt} (h : NetIs w pb own S) {l : List Par} (hp : S.wait.Perm l) : NetIs w pb own { S with wait := l } := by
  obtain ⟨sv, v, mv, ⟨hn, hv, ys, hq, hh, hp'⟩, r⟩ := h
  exact ⟨sv, v, mv, ⟨hn, hv, ys, hq, hh, hp'.trans hp⟩, r⟩

theorem inv_next {w0 w : World} {pb : Nat} {own keep : Nat → Prop} {S : NSt} (h : Inv w0 w pb own S keep) (hw : S.wait.length ≤ 1000000) :
    Calls Try.prog 19 #[.pointer (some ⟨pb, 0, none⟩)] w fun e w' => NextsEnd w0 w pb S keep e w' := by
  by_cases hx : S.wait = []
  · obtain ⟨sv, v, mv, ⟨hn, hv, ys, hq, hh, hp⟩, _⟩ := h.net
    rw [hx] at hp
    obtain rfl := List.perm_nil.1 hp
    obtain ⟨a, cap, hvv, _⟩ := hq.slice
    have hc := hn.at.2.2.1
    rw [hvv] at hc
    refine (next_empty pb a cap w hc hn.lt).mono fun e w' ⟨he, hb⟩ => ⟨by rw [hx]; exact he, own, ?_, fun k hk => hb.block k (h.sep k hk).1⟩
    have e : S.next = S := by
      obtain ⟨a1, a2, a3, a4, a5⟩ := S
      simp only at hx
      subst hx
      rfl
    rw [e]
    exact h.below hb
  · refine (next_some pb own S w h.net hx hw).mono fun e w' ⟨p, rest, he, hp, hm, hn, hf⟩ => ?_
    obtain ⟨rfl, hr⟩ := pick_of h.good.keys hp hm
    exact ⟨by rw [msgOf_some hx]; exact he, own, h.step (hn.perm hr) h.good.next hf (fun k hk => .inl hk)⟩

theorem inv_waiting {w0 w : World} {pb : Nat} {own keep : Nat → Prop} {S : NSt} (h : Inv w0 w pb own S keep) :
    Calls Try.prog 21 #[.pointer (some ⟨pb, 0, none⟩)] w fun e w' => e = .returned (.int .i64 S.wait.length) ∧ w = w' := by
  obtain ⟨sv, v, mv, ⟨hn, hv, ys, hq, hh, hp⟩, _⟩ := h.net
  obtain ⟨a, cap, hvv, hm⟩ := hq.slice
  have hc := hn.at.2.2.1
  rw [hvv] at hc
  rw [← hp.length_eq]
  exact waiting_any pb a _ cap w hc hm

theorem inv_part {w0 w : World} {pb : Nat} {own keep : Nat → Prop} {S : NSt} (h : Inv w0 w pb own S keep) (v : Value) (L : List Int) (hi : Ints w v L) (hwf : wfI L) (hm : L.length ≤ maxLen) (hne : ∀ b, v.ownBlock = some b → b ≠ pb) :
    Calls Try.prog 17 #[.pointer (some ⟨pb, 0, none⟩), v] w fun e w' => SentEnd w0 w pb { S with groups := L } keep e w' :=
  (part_any pb own S v L w h.net hi hwf hm hne).mono fun _ _ ⟨he, own', hn, hf, ho⟩ => ⟨he, own', h.step hn (h.good.part L) hf ho⟩

/-- A new net, all of it in new blocks. -/
theorem inv_new {w0 w : World} (hb : Below w0.heap.size w0 w) (nodes : Int) (v : Value) (L : List Tr) (h : Scr w v L) (hL : L.length ≤ 1000000) :
    Calls Try.prog 13 #[.int .i64 nodes, v] w fun e w' => ∃ pb own, e = .returned (.pointer (some ⟨pb, 0, none⟩)) ∧ Inv w0 w' pb own ⟨nodes, L, [], 0, []⟩ (fun k => k < w.heap.size) ∧ (∀ k, own k → w.heap.size ≤ k) ∧ Below w.heap.size w w' := by
  refine (new_any nodes v L w h hL).mono fun e w' ⟨pb, own, he, hn, ho, hbl⟩ => ⟨pb, own, he, ⟨hn, good_new _ _ _, fun k hk => Nat.le_trans hb.size (ho k hk), hb.trans (hbl.mono hb.size), fun k hk => ⟨Nat.lt_of_lt_of_le hk hbl.size, fun e => ?_⟩⟩, ho, hbl⟩
  have := ho k e
  omega
end Go.Proofs.Ytcadockapeancaa
