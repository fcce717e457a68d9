/- The walk of Send. -/
import Derived.Test.YtcadockapeancaaW8
namespace Go.Proofs.Ytcadockapeancaa
open Go.RowKit

def delivers (S : NSt) (t : Tr) (f tt : Int) : Bool := !t.lost && nodeB S.nodes tt && (!nodeB S.nodes f || groupOf S.groups f == groupOf S.groups tt)
def copiesOf (t : Tr) : Nat := (min (max t.copies 1) 8).toNat
def parcelsOf (t : Tr) (sent : Nat) (now f tt : Int) (s : ByteArray) (n : Nat) : List Par := (List.range n).map fun (j : Nat) => ⟨f, tt, s, now + max t.delay 0 + (j : Int), (sent : Int)⟩
def NSt.send (S : NSt) (now f tt : Int) (s : ByteArray) : NSt :=
  { S with sent := S.sent + 1, wait := S.wait ++ if delivers S (trouble S.script S.sent) f tt then parcelsOf (trouble S.script S.sent) S.sent now f tt s (copiesOf (trouble S.script S.sent)) else [] }
def SendEnd (w : World) (pb : Nat) (own : Nat → Prop) (S' : NSt) (e : Ending) (w' : World) : Prop :=
  e = .returned (.tuple #[]) ∧ ∃ own', NetIs w' pb own' S' ∧ Fr own w w' ∧ ∀ k, own' k → own k ∨ w.heap.size ≤ k

/-- What is known of the world in which Send asks whether the message is lost. -/
structure Mid (w W : World) (pb B1 B2 : Nat) (own : Nat → Prop) (S : NSt) (t : Tr) (f tt : Int) (s : ByteArray) (sv v mv : Value) (ys : List Par) : Prop where
  net : NetAt W pb (.int .i64 S.nodes) sv v (.int .i64 (S.sent + 1)) mv
  m0 : W.cell? ⟨B1, 0, none⟩ = some (.int .i64 f)
  m1 : W.cell? ⟨B1, 1, none⟩ = some (.int .i64 tt)
  m2 : W.cell? ⟨B1, 2, none⟩ = some (.string s)
  t0 : W.cell? ⟨B2, 0, none⟩ = some (.bool t.lost)
  t1 : W.cell? ⟨B2, 1, none⟩ = some (.int .i64 t.copies)
  t2 : W.cell? ⟨B2, 2, none⟩ = some (.int .i64 t.delay)
  b1 : w.heap.size ≤ B1
  b2 : w.heap.size ≤ B2
  que : Que W v ys
  scr : Scr W sv S.script
  grp : Grp W mv S.groups
  fr : Fr (fun k => k = pb) w W

theorem mid_of {w w1 : World} {pb : Nat} {own : Nat → Prop} {S : NSt} {t : Tr} {f tt : Int} {s : ByteArray} {sv v mv : Value} {ys : List Par}
    (hn : NetAt w pb (.int .i64 S.nodes) sv v (.int .i64 S.sent) mv) (hv : v.ownBlock ≠ some pb) (hq : Que w v ys) (hs : Scr w sv S.script) (hg : Grp w mv S.groups)
    (o3 : ∀ g, sv.ownBlock = some g → 0 < S.script.length → own g ∧ ¬ OwnQ pb v g) (o4 : ∀ g, Value.mapBlock mv = some g → own g ∧ ¬ OwnQ pb v g) (o5 : ∀ k, own k → k < w.heap.size)
    (hb : Below (w.alloc (.cells #[.int .i64 f, .int .i64 tt, .string s] 31)).heap.size (w.alloc (.cells #[.int .i64 f, .int .i64 tt, .string s] 31)) w1) :
    Mid w ((w1.setCell ⟨pb, 3, none⟩ (.int .i64 (S.sent + 1))).alloc (.cells #[.bool t.lost, .int .i64 t.copies, .int .i64 t.delay] 44)) pb w.heap.size w1.heap.size own S t f tt s sv v mv ys := by
  have hlt := hn.lt
  have hsz : w.heap.size + 1 ≤ w1.heap.size := by have := hb.size; simpa using this
  have e0 : ∀ k, k < w.heap.size → w1.heap[k]? = w.heap[k]? := by
    intro k hk
    rw [hb.block k (by simp; omega), Below.heap_alloc w _ k hk]
  have e1 : ∀ k, k < w1.heap.size → k ≠ pb → ((w1.setCell ⟨pb, 3, none⟩ (.int .i64 (S.sent + 1))).alloc (.cells #[.bool t.lost, .int .i64 t.copies, .int .i64 t.delay] 44)).heap[k]? = w1.heap[k]? := by
    intro k hk hp
    rw [Below.heap_alloc _ _ k (by rw [size_setCell]; omega), heap_setCell_other _ _ _ _ hp]
  have e2 : ∀ k, k < w.heap.size → k ≠ pb → ((w1.setCell ⟨pb, 3, none⟩ (.int .i64 (S.sent + 1))).alloc (.cells #[.bool t.lost, .int .i64 t.copies, .int .i64 t.delay] 44)).heap[k]? = w.heap[k]? := by
    intro k hk hp
    rw [e1 k (by omega) hp, e0 k hk]
  have hmsg : ((w1.setCell ⟨pb, 3, none⟩ (.int .i64 (S.sent + 1))).alloc (.cells #[.bool t.lost, .int .i64 t.copies, .int .i64 t.delay] 44)).heap[w.heap.size]? = some (.cells #[.int .i64 f, .int .i64 tt, .string s] 31 (0, 0)) := by
    rw [e1 _ (by omega) (by omega), hb.block _ (by simp)]
    exact heap_alloc_new w _
  have htr : ((w1.setCell ⟨pb, 3, none⟩ (.int .i64 (S.sent + 1))).alloc (.cells #[.bool t.lost, .int .i64 t.copies, .int .i64 t.delay] 44)).heap[w1.heap.size]? = some (.cells #[.bool t.lost, .int .i64 t.copies, .int .i64 t.delay] 44 (0, 0)) := by
    have := heap_alloc_new (w1.setCell ⟨pb, 3, none⟩ (.int .i64 (S.sent + 1))) (.cells #[.bool t.lost, .int .i64 t.copies, .int .i64 t.delay] 44)
    rwa [size_setCell] at this
  refine ⟨?_, ?_, ?_, ?_, ?_, ?_, ?_, Nat.le_refl _, by omega, ?_, ?_, ?_, ?_⟩
  · have hn1 := hn.keep (e0 pb hlt)
    exact (hn1.set3 _).keep (Below.heap_alloc _ _ _ (by rw [size_setCell]; omega))
  · rw [cell_of_row _ _ _ _ 31 (0, 0) hmsg]; rfl
  · rw [cell_of_row _ _ _ _ 31 (0, 0) hmsg]; rfl
  · rw [cell_of_row _ _ _ _ 31 (0, 0) hmsg]; rfl
  · rw [cell_of_row _ _ _ _ 44 (0, 0) htr]; rfl
  · rw [cell_of_row _ _ _ _ 44 (0, 0) htr]; rfl
  · rw [cell_of_row _ _ _ _ 44 (0, 0) htr]; rfl
  · exact hq.keep fun b hb' => e2 b (hq.lt hb') (by rintro rfl; exact hv hb')
  · exact hs.keep fun b hb' h0 => e2 b (hs.lt hb' h0) (by rintro rfl; exact (o3 _ hb' h0).2 (.inl rfl))
  · exact hg.keep fun b hb' => e2 b (o5 b (o4 b hb').1) (by rintro rfl; exact (o4 _ hb').2 (.inl rfl))
  · exact ((((Fr.refl _ w).alloc _).trans (Fr.ofBelow0 (fun k => k = pb) hb) (fun _ _ e => e)).setCell (.inr rfl) _).alloc _

theorem send_end_not {w W W' : World} {pb B1 B2 : Nat} {own : Nat → Prop} {S : NSt} {t : Tr} {now f tt : Int} {s : ByteArray} {sv v mv : Value} {ys : List Par} (m : Mid w W pb B1 B2 own S t f tt s sv v mv ys)
    (hv : v.ownBlock ≠ some pb) (hh : Heap ys) (hp : ys.Perm S.wait) (o1 : own pb) (o2 : ∀ g, v.ownBlock = some g → own g) (o3 : ∀ g, sv.ownBlock = some g → 0 < S.script.length → own g ∧ ¬ OwnQ pb v g)
    (o4 : ∀ g, Value.mapBlock mv = some g → own g ∧ ¬ OwnQ pb v g) (o5 : ∀ k, own k → k < w.heap.size) (ht : trouble S.script S.sent = t) (hd : delivers S t f tt = false) (hW : SomeDrew W W') :
    SendEnd w pb own (S.send now f tt s) (.returned (.tuple #[])) W' := by
  have hs : S.send now f tt s = { S with sent := S.sent + 1 } := by unfold NSt.send; rw [ht, hd]; simp
  rw [hs]
  have hheap := hW.heap
  refine ⟨rfl, own, ⟨sv, v, mv, ⟨m.net.keep (by rw [hheap]), hv, ys, m.que.keep (fun _ _ => by rw [hheap]), hh, hp⟩, m.scr.keep (fun _ _ _ => by rw [hheap]), m.grp.keep (fun _ _ => by rw [hheap]), o1, o2, o3, o4, ?_⟩, ?_, fun _ h => .inl h⟩
  · intro k hk
    rw [hheap]
    exact Nat.lt_of_lt_of_le (o5 k hk) m.fr.size
  · exact (m.fr.trans' (hW.fr _)).mono (fun k _ e => by subst e; exact o1)
end Go.Proofs.Ytcadockapeancaa
