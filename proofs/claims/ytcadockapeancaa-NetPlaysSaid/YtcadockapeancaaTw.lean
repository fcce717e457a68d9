/- Two nets in the hands of one law, each apart from the other. -/
import Derived.Test.YtcadockapeancaaWG
namespace Go.Proofs.Ytcadockapeancaa
open Go.RowKit

theorem NetIs.keepOn {w w' : World} {pb : Nat} {own : Nat → Prop} {S : NSt} (h : NetIs w pb own S) (hk : ∀ k, own k → w'.heap[k]? = w.heap[k]?) : NetIs w' pb own S := by
  obtain ⟨sv, v, mv, ⟨hn, hv, ys, hq, hh, hp⟩, hs, hg, o1, o2, o3, o4, o5⟩ := h
  refine ⟨sv, v, mv, ⟨hn.keep (hk pb o1), hv, ys, hq.keep fun b hb => hk b (o2 b hb), hh, hp⟩, hs.keep fun b hb h0 => hk b (o3 b hb h0).1, hg.keep fun b hb => hk b (o4 b hb).1, o1, o2, o3, o4, fun k hok => ?_⟩
  have h1 := hk k hok
  have h2 := o5 k hok
  rw [Array.getElem?_eq_getElem h2] at h1
  exact (Array.getElem?_eq_some_iff.1 h1).1

/-- Two nets, and blocks that both leave alone. -/
structure Two (w0 w : World) (pz : Nat) (oz : Nat → Prop) (Sz : NSt) (pe : Nat) (oe : Nat → Prop) (Se : NSt) (K : Nat → Prop) : Prop where
  l : Inv w0 w pz oz Sz (fun k => oe k ∨ K k)
  r : Inv w0 w pe oe Se (fun k => oz k ∨ K k)
theorem Two.left {w0 w w' : World} {pz pe : Nat} {oz oe oz' K : Nat → Prop} {Sz Se Sz' : NSt} (h : Two w0 w pz oz Sz pe oe Se K) (h1 : Inv w0 w' pz oz' Sz' (fun k => oe k ∨ K k)) (hk : Keep (fun k => oe k ∨ K k) w w') : Two w0 w' pz oz' Sz' pe oe Se K :=
  ⟨h1, ⟨h.r.net.keepOn fun k hk' => hk k (.inl hk'), h.r.good, h.r.new, h1.bel, fun k hk' => by
    rcases hk' with hk' | hk'
    · exact ⟨h1.lt hk', fun e => (h1.sep k (.inl e)).2 hk'⟩
    · exact ⟨(h1.sep k (.inr hk')).1, (h.r.sep k (.inr hk')).2⟩⟩⟩
theorem Two.swap {w0 w : World} {pz pe : Nat} {oz oe K : Nat → Prop} {Sz Se : NSt} (h : Two w0 w pz oz Sz pe oe Se K) : Two w0 w pe oe Se pz oz Sz K := ⟨h.r, h.l⟩
theorem Two.right {w0 w w' : World} {pz pe : Nat} {oz oe oe' K : Nat → Prop} {Sz Se Se' : NSt} (h : Two w0 w pz oz Sz pe oe Se K) (h1 : Inv w0 w' pe oe' Se' (fun k => oz k ∨ K k)) (hk : Keep (fun k => oz k ∨ K k) w w') : Two w0 w' pz oz Sz pe oe' Se' K :=
  (h.swap.left h1 hk).swap
theorem Two.below {w0 w w' : World} {pz pe : Nat} {oz oe K : Nat → Prop} {Sz Se : NSt} (h : Two w0 w pz oz Sz pe oe Se K) (hf : Below w.heap.size w w') : Two w0 w' pz oz Sz pe oe Se K := ⟨h.l.below hf, h.r.below hf⟩
/-- A second net, made when the first was there. -/
theorem two_new {w0 w w' : World} {pz pe : Nat} {oz oe K : Nat → Prop} {Sz Se : NSt} (h : Inv w0 w pz oz Sz K) (h1 : Inv w0 w' pe oe Se (fun k => k < w.heap.size)) (hn : ∀ k, oe k → w.heap.size ≤ k) (hb : Below w.heap.size w w') : Two w0 w' pz oz Sz pe oe Se K := by
  have hz := h.below hb
  refine ⟨hz.keepMono fun k hk => ?_, h1.keepMono fun k hk => ?_⟩
  · rcases hk with hk | hk
    · exact ⟨h1.lt hk, fun e => by have := hn k hk; have := h.lt e; omega⟩
    · exact hz.sep k hk
  · rcases hk with hk | hk
    · exact h1.sep k (h.lt hk)
    · exact h1.sep k (h.sep k hk).1

/-- A new block of the law's own, which both leave alone. -/
theorem Two.allocKeep {w0 w : World} {pz pe : Nat} {oz oe : Nat → Prop} {Sz Se : NSt} {K : Nat → Prop} (h : Two w0 w pz oz Sz pe oe Se K) (o : Obj) : Two w0 (w.alloc o) pz oz Sz pe oe Se (fun k => k = w.heap.size) := by
  have h' := h.below ((Below.refl w.heap.size w).alloc (Nat.le_refl _) o)
  refine ⟨h'.l.keepMono fun k hk => ?_, h'.r.keepMono fun k hk => ?_⟩
  · rcases hk with hk | rfl
    · exact h'.l.sep k (.inl hk)
    · exact ⟨by simp, fun e => by have := h.l.lt e; omega⟩
  · rcases hk with hk | rfl
    · exact h'.r.sep k (.inl hk)
    · exact ⟨by simp, fun e => by have := h.r.lt e; omega⟩
theorem Two.forget {w0 w : World} {pz pe : Nat} {oz oe : Nat → Prop} {Sz Se : NSt} {K : Nat → Prop} (h : Two w0 w pz oz Sz pe oe Se K) : Two w0 w pz oz Sz pe oe Se (fun _ => False) :=
  ⟨h.l.keepMono fun k hk => by rcases hk with hk | hk
                               · exact h.l.sep k (.inl hk)
                               · exact hk.elim, h.r.keepMono fun k hk => by rcases hk with hk | hk
                                                                            · exact h.r.sep k (.inl hk)
                                                                            · exact hk.elim⟩
/-- The cells of a message that lies in a kept block. -/
theorem msg_cells {w w' : World} {b : Nat} {f t : Int} {s : ByteArray} (h : w'.heap[b]? = (w.alloc (.cells #[.int .i64 f, .int .i64 t, .string s] 31)).heap[b]?) (hb : b = w.heap.size) :
    w'.cell? ⟨w.heap.size, 0, none⟩ = some (.int .i64 f) ∧ w'.cell? ⟨w.heap.size, 1, none⟩ = some (.int .i64 t) ∧ w'.cell? ⟨w.heap.size, 2, none⟩ = some (.string s) ∧ w.heap.size < w'.heap.size := by
  subst hb
  rw [heap_alloc_new] at h
  simp only [cell_of_row _ _ _ _ 31 (0, 0) h]
  exact ⟨rfl, rfl, rfl, heap_lt h⟩
/-- What keeps: a net's call, in the words of one limb. -/
theorem SentEnd.out {w0 w : World} {pb : Nat} {S' : NSt} {keep : Nat → Prop} {e : Ending} {w' : World} (h : SentEnd w0 w pb S' keep e w') : e = .returned (.tuple #[]) ∧ ∃ own', Inv w0 w' pb own' S' keep ∧ Keep keep w w' := h
end Go.Proofs.Ytcadockapeancaa
