/- The walk of NetOwn: it returns true. -/
import Derived.Test.YtcadockapeancaaTw
import Derived.Laws.AppendOwnNone
namespace Go.Proofs.Ytcadockapeancaa
open Go.RowKit

def ownS (L : List Tr) : Nat → NSt
  | 0 => ⟨1, scriptOf L, [], 0, []⟩
  | k + 1 => (ownS L k).send k k 0 noText
theorem ownS_props (L : List Tr) (k : Nat) : (ownS L k).script = scriptOf L ∧ (ownS L k).sent = k ∧ (ownS L k).wait.length ≤ 8 * k ∧ (ownS L k).nodes = 1 := by
  induction k with
  | zero => exact ⟨rfl, rfl, by simp [ownS], rfl⟩
  | succ k ih =>
    obtain ⟨a, b, c, d⟩ := ih
    have := send_length (ownS L k) k k 0 noText
    exact ⟨a, by show (ownS L k).sent + 1 = _; rw [b], by show ((ownS L k).send k k 0 noText).wait.length ≤ _; omega, d⟩

set_option maxHeartbeats 4000000 in
set_option maxRecDepth 100000 in
theorem own_nil (x : Nat) (L : List Tr) (v : Value) (w : World) (hx : x ≤ 255) (hs : Scr w v L) (hm : L.length ≤ maxLen) (h0 : (scriptOf L).length = 0) :
    Calls Try.prog 8 #[v, .int .u8 x] w fun e w' => e = .returned (.bool true) ∧ Below w.heap.size w w' := by
  obtain ⟨va, vcap, rfl⟩ := hs.slice
  obtain ⟨i0, hi, hz0, hz1, hz2⟩ := info_parts Try.info44
  go_enter Try.func8, Try.ntmps8
  go_wp2_with fail
  refine (sanity_any _).mono ?_
  rintro e w1 ⟨rfl, hb1⟩
  have hs1 := hs.keep (w' := w1) (fun b hb h0 => hb1.block b (hs.lt hb h0))
  go_wp2_with fail
  refine (script_any _ L _ hs1 hm).mono ?_
  rintro e w2 ⟨sv, rfl, hsc, hb2, hnil⟩
  obtain rfl := hnil h0
  have hsc' := scr_of_owns hsc rfl
  have hb02 := hb1.trans (hb2.mono hb1.size)
  go_wp2_with fail
  refine (inv_new (w0 := w) hb02 1 _ _ hsc' (by rw [scriptOf_length]; omega)).mono ?_
  rintro e w3 ⟨pn, on, rfl, hI3, hon, hb3⟩
  have HI3 := Lib.hid (hI3.keepMono (keep' := fun _ => False) (fun _ e => e.elim))
  have hL0 : scriptOf L = [] := List.eq_nil_of_length_eq_zero h0
  have hsc4 : Scr (w3.alloc (.cells #[] 44)) (.slice (some ⟨w3.heap.size, 0, none⟩) 0 0) (scriptOf L) := .inl ⟨.inr ⟨_, 0, rfl⟩, hL0⟩
  have hb4 := (Below.refl w3.heap.size w3).alloc (Nat.le_refl _) (.cells #[] 44)
  have P4 := Lib.hid (inv_new (w0 := w) (HI3.out.bel.trans (hb4.mono HI3.out.bel.size)) 1 _ _ hsc4 (by rw [scriptOf_length]; omega))
  have HI4 := Lib.hid (HI3.out.below hb4)
  have hown := World.ownsRow_made (e := 44) (size := 3) w3 #[] 0 (Nat.le_refl _) (by unfold maxLen; omega) rfl
  clear hsc hsc' hb2 hb1 hs1 hs hnil hI3 hon hb3 hb02 HI3 hsc4 hb4 h0 hL0
  go_wp2_with (at_builtin; go_must (refine wpList_append_own_none rfl (.tmp 23) (.tmp 24) 22 rfl w3.heap.size 44 i0 3 Try.underlying22 hi _ 0 [] rfl hown rfl ?_))
  refine P4.out.mono ?_
  rintro e w5 ⟨pm, om, rfl, hI5, hom, hb5⟩
  have hT := two_new (K := fun _ => False) HI4.out hI5 hom hb5
  have HT : Hid (Two w w5 pn on (ownS L 0) pm om (ownS L 0) (fun _ => False)) := hT
  clear hT hI5 hom hb5 HI4 P4 hown
  go_wp2_with fail
  go_loopg [9] 1 (fun g sk wr => sk = .int .i64 0 ∧ wr = w5 ∧ 1 ≤ g)
  case atStart => exact ⟨rfl, rfl, by omega⟩
  case round =>
   obtain ⟨rfl, rfl, _⟩ := hrel
   go_wp2_with fail

   have hN0 : 0 ≤ (x : Int) % 30 := by omega
   have hN1 : (x : Int) % 30 < 30 := by omega
   have hxN : ((x % 30 : Nat) : Int) = (x : Int) % 30 := by omega
   have HXN := Lib.hid hxN
   clear hxN
   go_loopg [10] (x % 30 + 1) (fun g sk wr => ∃ (k : Nat) (o1 o2 : Nat → Prop), sk = .int .i64 (k : Int) ∧ x % 30 < k + g ∧ k ≤ x % 30 ∧ Two w wr pn o1 (ownS L k) pm o2 (ownS L k) (fun _ => False))
   case atStart => exact ⟨0, _, _, rfl, by omega, by omega, HT.out⟩
   case round =>
     clear HT
     obtain ⟨k, o1, o2, rfl, hg, hkN, hT⟩ := hrel
     have HT := Lib.hid hT
     clear hT
     by_cases hk : k < x % 30
     · have hk' : (k : Int) < (x : Int) % 30 := by rw [← HXN.out]; omega
       have hk30 : k < 30 := by omega
       obtain ⟨p1, p2, p3, p4⟩ := ownS_props L k
       have P1 := Lib.hid (inv_send HT.out.l (by rw [p1]; exact scriptOf_small L) (by rw [p2]; omega) (by omega) k k 0 noText (by omega) (WalkArith.wf_i64 (by omega)) (by decide))
       have HP := Lib.hid (And.intro p1 (And.intro p2 p3))
       clear p1 p2 p3 p4
       go_wp2_with fail
       refine P1.out.mono ?_
       rintro e w3 ⟨rfl, o1', hI3, hK3⟩
       have HT3 := Lib.hid (HT.out.left hI3 hK3)
       clear hI3 hK3 P1 HT
       have P2 := Lib.hid (inv_send HT3.out.r (by rw [HP.out.1]; exact scriptOf_small L) (by rw [HP.out.2.1]; omega) (by have := HP.out.2.2; omega) k k 0 noText (by omega) (WalkArith.wf_i64 (by omega)) (by decide))
       go_wp2_with fail
       refine P2.out.mono ?_
       rintro e w4 ⟨rfl, o2', hI4, hK4⟩
       have HT4 := Lib.hid (HT3.out.right hI4 hK4)
       clear hI4 hK4 P2 HT3 HP
       go_wp2_with fail
       go_roundg (x % 30 - k)
       case measure => omega
       case rel => exact ⟨k + 1, o1', o2', by go_num, by omega, by omega, HT4.out⟩
     · have hk' : (x : Int) % 30 ≤ (k : Int) := by rw [← HXN.out]; omega
       obtain ⟨p1, p2, p3, p4⟩ := ownS_props L k
       have hlen : (ownS L k).wait.length ≤ 300 := by omega
       have HLEN := Lib.hid hlen
       clear p1 p2 p3 p4 hlen
       generalize ownS L k = S at *
       go_wp2_with fail
       go_loopg [11] 301 (fun g sk wr => ∃ (j : Nat) (o1 o2 : Nat → Prop) (T : NSt), sk = .int .i64 (j : Int) ∧ 300 < j + g ∧ j ≤ 300 ∧ Two w wr pn o1 T pm o2 T (fun _ => False) ∧ T.wait.length ≤ 300)
       case atStart => exact ⟨0, o1, o2, S, rfl, by omega, by omega, HT.out, HLEN.out⟩
       case round =>
         clear HT HLEN
         obtain ⟨j, o1, o2, T, rfl, hg, hj, hT, hTl⟩ := hrel
         have HT := Lib.hid hT
         clear hT
         by_cases hj3 : j < 300
         · have hj' : (j : Int) < 300 := by omega
           have P1 := Lib.hid (inv_next HT.out.l (by omega))
           go_wp2_with fail
           refine P1.out.mono ?_
           rintro e w3 ⟨rfl, o1', hI3, hK3⟩
           have HT3 := Lib.hid (HT.out.left hI3 hK3)
           clear hI3 hK3 P1 HT
           have hnl : T.next.wait.length ≤ 300 := Nat.le_trans (List.length_eraseIdx_le _ _) hTl
           have HNL := Lib.hid hnl
           clear hnl
           have hxm : msgOf T.wait = noMsg ∨ msgOf T.wait = (pick T.wait).msg := by
             by_cases hx : T.wait = []
             · exact .inl (by rw [hx]; rfl)
             · exact .inr (msgOf_some hx)
           rcases hxm with hx | hx
           · have HX := Lib.hid hx
             rw [hx]
             clear hx
             unfold noMsg
             have hT3k := HT3.out.allocKeep (.cells #[.int .i64 0, .int .i64 0, .string ⟨#[]⟩] 31)
             have P2 := Lib.hid (inv_next hT3k.r (by omega))
             have HT3' := Lib.hid hT3k
             clear HT3 hT3k
             go_wp2_with fail
             refine P2.out.mono ?_
             rintro e w4 ⟨rfl, o2', hI4, hK4⟩
             have HT4 := Lib.hid ((HT3'.out.right hI4 hK4).below ((Below.refl w4.heap.size w4).alloc (Nat.le_refl _) (.cells #[.int .i64 0, .int .i64 0, .string ⟨#[]⟩] 31)) |>.forget)
             obtain ⟨m0, m1, m2, mlt⟩ := msg_cells (hK4 w3.heap.size (.inr rfl)) rfl
             clear hI4 hK4 P2 HT3'
             rw [HX.out]
             unfold noMsg
             go_wp2_with fail
             go_roundg (300 - j)
             case measure => omega
             case rel => exact ⟨j + 1, o1', o2', T.next, by go_num, by omega, by omega, HT4.out, HNL.out⟩
           · have HX := Lib.hid hx
             rw [hx]
             clear hx
             unfold Par.msg
             have hT3k := HT3.out.allocKeep (.cells #[.int .i64 (pick T.wait).f, .int .i64 (pick T.wait).t, .string (pick T.wait).s] 31)
             have P2 := Lib.hid (inv_next hT3k.r (by omega))
             have HT3' := Lib.hid hT3k
             clear HT3 hT3k
             go_wp2_with fail
             refine P2.out.mono ?_
             rintro e w4 ⟨rfl, o2', hI4, hK4⟩
             have HT4 := Lib.hid ((HT3'.out.right hI4 hK4).below ((Below.refl w4.heap.size w4).alloc (Nat.le_refl _) (.cells #[.int .i64 (pick T.wait).f, .int .i64 (pick T.wait).t, .string (pick T.wait).s] 31)) |>.forget)
             obtain ⟨m0, m1, m2, mlt⟩ := msg_cells (hK4 w3.heap.size (.inr rfl)) rfl
             clear hI4 hK4 P2 HT3'
             rw [HX.out]
             unfold Par.msg
             go_wp2_with fail
             go_roundg (300 - j)
             case measure => omega
             case rel => exact ⟨j + 1, o1', o2', T.next, by go_num, by omega, by omega, HT4.out, HNL.out⟩
         · have hj' : (300 : Int) ≤ (j : Int) := by omega
           have HBel := Lib.hid HT.out.l.bel
           clear HT
           go_wp2_with fail
           go_ret
           exact ⟨rfl, HBel.out⟩

/-- A row of troubles of the law's own: whatever they say. -/
def RowT (w : World) (b n : Nat) : Prop := ∃ cur, w.heap[b]? = some (.cells cur 44 (0, 0)) ∧ ∀ j, j < n → (∃ x, cur[j * 3]? = some (.bool x)) ∧ (∃ x, cur[j * 3 + 1]? = some (.int .i64 x)) ∧ (∃ x, cur[j * 3 + 2]? = some (.int .i64 x))
theorem RowT.keep {w w' : World} {b n : Nat} (h : RowT w b n) (hk : w'.heap[b]? = w.heap[b]?) : RowT w' b n := by
  obtain ⟨cur, hc, r⟩ := h
  exact ⟨cur, hk.trans hc, r⟩
theorem RowT.at {w : World} {b n : Nat} (h : RowT w b n) (k : Nat) (hk : k < n) : (∃ x, w.cell? ⟨b, k * 3, none⟩ = some (.bool x)) ∧ (∃ x, w.cell? ⟨b, k * 3 + 1, none⟩ = some (.int .i64 x)) ∧ (∃ x, w.cell? ⟨b, k * 3 + 2, none⟩ = some (.int .i64 x)) ∧ ∀ o, w.frozen? ⟨b, o, none⟩ = false := by
  obtain ⟨cur, hc, r⟩ := h
  simp only [cell_of_row w b _ cur 44 (0, 0) hc]
  exact ⟨(r k hk).1, (r k hk).2.1, (r k hk).2.2, fun o => frozen_of_row w b o cur 44 hc⟩
theorem RowT.set {w : World} {b n : Nat} (h : RowT w b n) (k : Nat) (x : Bool) (y z : Int) : RowT (((w.setCell ⟨b, k * 3, none⟩ (.bool x)).setCell ⟨b, k * 3 + 1, none⟩ (.int .i64 y)).setCell ⟨b, k * 3 + 2, none⟩ (.int .i64 z)) b n := by
  obtain ⟨cur, hc, r⟩ := h
  refine ⟨_, heap_setCell_same _ _ _ _ _ _ (heap_setCell_same _ _ _ _ _ _ (heap_setCell_same _ _ _ _ _ _ hc)), fun j hj => ?_⟩
  obtain ⟨⟨a, ha⟩, ⟨a1, ha1⟩, ⟨a2, ha2⟩⟩ := r j hj
  have l0 := (Array.getElem?_eq_some_iff.1 ha).1
  have l1 := (Array.getElem?_eq_some_iff.1 ha1).1
  have l2 := (Array.getElem?_eq_some_iff.1 ha2).1
  simp only [Array.getElem?_setIfInBounds, Array.size_setIfInBounds]
  by_cases e : k = j
  · subst e
    refine ⟨⟨x, ?_⟩, ⟨y, ?_⟩, ⟨z, ?_⟩⟩
    · rw [if_neg (by omega), if_neg (by omega), if_pos rfl, if_pos l0]
    · rw [if_neg (by omega), if_pos rfl, if_pos l1]
    · rw [if_pos rfl, if_pos l2]
  · refine ⟨⟨a, ?_⟩, ⟨a1, ?_⟩, ⟨a2, ?_⟩⟩
    · rw [if_neg (by omega), if_neg (by omega), if_neg (by omega)]; exact ha
    · rw [if_neg (by omega), if_neg (by omega), if_neg (by omega)]; exact ha1
    · rw [if_neg (by omega), if_neg (by omega), if_neg (by omega)]; exact ha2
theorem RowT.of_owns {w : World} {base g cap : Nat} {L : List Tr} (h : w.ownsRow base 44 3 (.slice (some ⟨g, 0, none⟩) L.length cap) L.length (L.flatMap Tr.cells)) : RowT w g L.length := by
  have ht := TrAt.of_owns h
  rcases h.2 with ⟨hv, _⟩ | ⟨g', cap', cur, hv, _, hc, _⟩
  · cases hv
  · simp only [Value.slice.injEq, Option.some.injEq, Addr.mk.injEq, and_true, true_and] at hv
    obtain ⟨rfl, _⟩ := hv
    refine ⟨cur, hc, fun j hj => ?_⟩
    obtain ⟨a, b, c⟩ := ht j hj
    simp only [cell_of_row w g _ cur 44 (0, 0) hc, Nat.zero_add] at a b c
    exact ⟨⟨_, a⟩, ⟨_, b⟩, ⟨_, c⟩⟩

set_option maxHeartbeats 4000000 in
set_option maxRecDepth 100000 in
theorem own_pos (x : Nat) (L : List Tr) (v : Value) (w : World) (hx : x ≤ 255) (hs : Scr w v L) (hm : L.length ≤ maxLen) (h0 : 0 < (scriptOf L).length) :
    Calls Try.prog 8 #[v, .int .u8 x] w fun e w' => e = .returned (.bool true) ∧ Below w.heap.size w w' := by
  obtain ⟨va, vcap, rfl⟩ := hs.slice
  obtain ⟨i0, hi, hz0, hz1, hz2⟩ := info_parts Try.info44
  have hn12 : (scriptOf L).length ≤ 12 := by rw [scriptOf_length]; omega
  go_enter Try.func8, Try.ntmps8
  go_wp2_with fail
  refine (sanity_any _).mono ?_
  rintro e w1 ⟨rfl, hb1⟩
  have hs1 := hs.keep (w' := w1) (fun b hb h0 => hb1.block b (hs.lt hb h0))
  go_wp2_with fail
  refine (script_any _ L _ hs1 hm).mono ?_
  rintro e w2 ⟨sv, rfl, hsc, hb2, hnil⟩
  obtain ⟨g, cap, rfl, hgb, hnc, hcm⟩ := ownsRow_form hsc h0
  have hsc' := scr_of_owns hsc rfl
  have hrow := RowT.of_owns hsc
  have hglt : g < w2.heap.size := (hsc.lt g rfl).2
  have hb02 := hb1.trans (hb2.mono hb1.size)
  have hgw : w.heap.size ≤ g := Nat.le_trans hb1.size hgb
  go_wp2_with fail
  refine (inv_new (w0 := w) hb02 1 _ _ hsc' (by omega)).mono ?_
  rintro e w3 ⟨pn, on, rfl, hI3, hon, hb3⟩
  have HI3 := Lib.hid (hI3.keepMono (keep' := fun k => k = g) (fun k hk => hI3.sep k (by subst hk; exact hglt)))
  have hrow3 := hrow.keep (hb3.block g hglt)
  have hsc3 := hsc'.keep (w' := w3) (fun b hb _ => by simp [Value.ownBlock] at hb; subst hb; exact hb3.block _ hglt)
  have hglt3 : g < w3.heap.size := Nat.lt_of_lt_of_le hglt hb3.size
  -- the second script: append to an empty one
  have hown := World.ownsRow_made (e := 44) (size := 3) w3 #[] 0 (Nat.le_refl _) (by unfold maxLen; omega) rfl
  have htr : TrAt (w3.alloc (.cells #[] 44)) g 0 (scriptOf L) := by
    have := (TrAt.of_owns hsc).keep (w' := w3.alloc (.cells #[] 44)) ((Below.heap_alloc w3 _ _ hglt3).trans (hb3.block g hglt))
    exact this
  have hnews := Lib.hid htr.news
  have hlen := flat_length Tr.cells 3 Tr.cells_length (scriptOf L)
  have HL := Lib.hid hlen
  have h63 : 0 + (scriptOf L).length ≤ maxLen := by unfold maxLen; omega
  have AP := Lib.hid (fun g' cap' w4 (ho : w4.ownsRow w3.heap.size 44 3 (.slice (some ⟨g', 0, none⟩) (0 + (scriptOf L).length) cap') (0 + (scriptOf L).length) ([] ++ (scriptOf L).flatMap Tr.cells)) (hg : (w3.alloc (.cells #[] 44)).grownBy w4 (some w3.heap.size)) => clone_end h0 ho hg)
  have HROW := Lib.hid hrow3
  clear hsc hsc' hb2 hb1 hs1 hs hnil hI3 hon hb3 hb02 hlen htr hrow hrow3 hsc3
  generalize hnn : (scriptOf L).length = n at *
  have HNN := Lib.hid hnn
  clear hnn
  go_wp2_with (at_builtin; go_must (refine wpList_append_mine rfl (.tmp 23) (.tmp 24) 22 rfl w3.heap.size 44 i0 _ 3 24 Try.underlying22 hi hz0 hz1 hz2 rfl (by decide) _ 0 [] rfl hown (by simp) ⟨g, 0, none⟩ n cap ((scriptOf L).flatMap Tr.cells) rfl HL.out hnews.out Tr.cells_one h0 h63 (by omega) ?_); intro g' cap' w4 ho hg hd)
  obtain ⟨v', hv', hsc4, hvb, hb4⟩ := AP.out g' cap' w4 ho hg
  cases hv'
  have hI4 := HI3.out.below hb4
  have P4 := Lib.hid (inv_new (w0 := w) hI4.bel 1 _ _ hsc4 (by rw [HNN.out]; omega))
  have HI4 := Lib.hid hI4
  have HROW4 := Lib.hid (HROW.out.keep (hb4.block g hglt3))
  have hglt4 : g < w4.heap.size := Nat.lt_of_lt_of_le hglt3 hb4.size
  clear ho hg hd hsc4 hvb hb4 hI4 AP hnews HL hown HI3 HROW h63
  go_wp2_with fail
  refine P4.out.mono ?_
  rintro e w5 ⟨pm, om, rfl, hI5, hom, hb5⟩
  have hT := two_new (K := fun k => k = g) HI4.out hI5 hom hb5
  have HT : Hid (Two w w5 pn on (ownS L 0) pm om (ownS L 0) (fun k => k = g)) := hT
  have HROW5 := Lib.hid (HROW4.out.keep (hb5.block g hglt4))
  clear hT hI5 hom hb5 HI4 P4 HROW4
  go_wp2_with fail
  go_loopg [9] (n + 1) (fun gg sk wr => ∃ k : Nat, sk = .int .i64 (k : Int) ∧ n < k + gg ∧ k ≤ n ∧ Two w wr pn on (ownS L 0) pm om (ownS L 0) (fun k => k = g) ∧ RowT wr g n)
  case atStart => exact ⟨0, rfl, by omega, by omega, HT.out, HROW5.out⟩
  case round =>
   clear HT HROW5
   obtain ⟨k, rfl, hg, hkn, hT, hR⟩ := hrel
   by_cases hk : k < n
   · have hk' : (k : Int) < (n : Int) := by omega
     obtain ⟨⟨y0, a0⟩, ⟨y1, a1⟩, ⟨y2, a2⟩, z⟩ := hR.at k hk
     have z0 := z (k * 3)
     have z1 := z (k * 3 + 1)
     have z2 := z (k * 3 + 2)
     have HS := Lib.hid (hR.set k (!y0) 0 3)
     have hF : Fr (fun k => k = g) wr (((wr.setCell ⟨g, k * 3, none⟩ (.bool (!y0))).setCell ⟨g, k * 3 + 1, none⟩ (.int .i64 0)).setCell ⟨g, k * 3 + 2, none⟩ (.int .i64 3)) :=
       (((Fr.refl (fun k => k = g) wr).setCell (.inr rfl) _).setCell (.inr rfl) _).setCell (.inr rfl) _
     have HT := Lib.hid (show Two w _ pn on (ownS L 0) pm om (ownS L 0) (fun k => k = g) from ⟨hT.l.frame hF (fun k hk e => (hT.l.sep k (.inr e)).2 hk) (fun k e => by subst e; exact hgw), hT.r.frame hF (fun k hk e => (hT.r.sep k (.inr e)).2 hk) (fun k e => by subst e; exact hgw)⟩)
     clear hF hT hR z
     go_wp2_with fail
     go_roundg (n - k)
     case measure => omega
     case rel => exact ⟨k + 1, by go_num, by omega, by omega, HT.out, HS.out⟩
   · have hk' : (n : Int) ≤ (k : Int) := by omega
     have HT := Lib.hid hT.forget
     clear hT hR
     go_wp2_with fail

     have hN0 : 0 ≤ (x : Int) % 30 := by omega
     have hN1 : (x : Int) % 30 < 30 := by omega
     have hxN : ((x % 30 : Nat) : Int) = (x : Int) % 30 := by omega
     have HXN := Lib.hid hxN
     clear hxN
     go_loopg [10] (x % 30 + 1) (fun g sk wr => ∃ (k : Nat) (o1 o2 : Nat → Prop), sk = .int .i64 (k : Int) ∧ x % 30 < k + g ∧ k ≤ x % 30 ∧ Two w wr pn o1 (ownS L k) pm o2 (ownS L k) (fun _ => False))
     case atStart => exact ⟨0, _, _, rfl, by omega, by omega, HT.out⟩
     case round =>
       clear HT
       obtain ⟨k, o1, o2, rfl, hg, hkN, hT⟩ := hrel
       have HT := Lib.hid hT
       clear hT
       by_cases hk : k < x % 30
       · have hk' : (k : Int) < (x : Int) % 30 := by rw [← HXN.out]; omega
         have hk30 : k < 30 := by omega
         obtain ⟨p1, p2, p3, p4⟩ := ownS_props L k
         have P1 := Lib.hid (inv_send HT.out.l (by rw [p1]; exact scriptOf_small L) (by rw [p2]; omega) (by omega) k k 0 noText (by omega) (WalkArith.wf_i64 (by omega)) (by decide))
         have HP := Lib.hid (And.intro p1 (And.intro p2 p3))
         clear p1 p2 p3 p4
         go_wp2_with fail
         refine P1.out.mono ?_
         rintro e w3 ⟨rfl, o1', hI3, hK3⟩
         have HT3 := Lib.hid (HT.out.left hI3 hK3)
         clear hI3 hK3 P1 HT
         have P2 := Lib.hid (inv_send HT3.out.r (by rw [HP.out.1]; exact scriptOf_small L) (by rw [HP.out.2.1]; omega) (by have := HP.out.2.2; omega) k k 0 noText (by omega) (WalkArith.wf_i64 (by omega)) (by decide))
         go_wp2_with fail
         refine P2.out.mono ?_
         rintro e w4 ⟨rfl, o2', hI4, hK4⟩
         have HT4 := Lib.hid (HT3.out.right hI4 hK4)
         clear hI4 hK4 P2 HT3 HP
         go_wp2_with fail
         go_roundg (x % 30 - k)
         case measure => omega
         case rel => exact ⟨k + 1, o1', o2', by go_num, by omega, by omega, HT4.out⟩
       · have hk' : (x : Int) % 30 ≤ (k : Int) := by rw [← HXN.out]; omega
         obtain ⟨p1, p2, p3, p4⟩ := ownS_props L k
         have hlen : (ownS L k).wait.length ≤ 300 := by omega
         have HLEN := Lib.hid hlen
         clear p1 p2 p3 p4 hlen
         generalize ownS L k = S at *
         go_wp2_with fail
         go_loopg [11] 301 (fun g sk wr => ∃ (j : Nat) (o1 o2 : Nat → Prop) (T : NSt), sk = .int .i64 (j : Int) ∧ 300 < j + g ∧ j ≤ 300 ∧ Two w wr pn o1 T pm o2 T (fun _ => False) ∧ T.wait.length ≤ 300)
         case atStart => exact ⟨0, o1, o2, S, rfl, by omega, by omega, HT.out, HLEN.out⟩
         case round =>
           clear HT HLEN
           obtain ⟨j, o1, o2, T, rfl, hg, hj, hT, hTl⟩ := hrel
           have HT := Lib.hid hT
           clear hT
           by_cases hj3 : j < 300
           · have hj' : (j : Int) < 300 := by omega
             have P1 := Lib.hid (inv_next HT.out.l (by omega))
             go_wp2_with fail
             refine P1.out.mono ?_
             rintro e w3 ⟨rfl, o1', hI3, hK3⟩
             have HT3 := Lib.hid (HT.out.left hI3 hK3)
             clear hI3 hK3 P1 HT
             have hnl : T.next.wait.length ≤ 300 := Nat.le_trans (List.length_eraseIdx_le _ _) hTl
             have HNL := Lib.hid hnl
             clear hnl
             have hxm : msgOf T.wait = noMsg ∨ msgOf T.wait = (pick T.wait).msg := by
               by_cases hx : T.wait = []
               · exact .inl (by rw [hx]; rfl)
               · exact .inr (msgOf_some hx)
             rcases hxm with hx | hx
             · have HX := Lib.hid hx
               rw [hx]
               clear hx
               unfold noMsg
               have hT3k := HT3.out.allocKeep (.cells #[.int .i64 0, .int .i64 0, .string ⟨#[]⟩] 31)
               have P2 := Lib.hid (inv_next hT3k.r (by omega))
               have HT3' := Lib.hid hT3k
               clear HT3 hT3k
               go_wp2_with fail
               refine P2.out.mono ?_
               rintro e w4 ⟨rfl, o2', hI4, hK4⟩
               have HT4 := Lib.hid ((HT3'.out.right hI4 hK4).below ((Below.refl w4.heap.size w4).alloc (Nat.le_refl _) (.cells #[.int .i64 0, .int .i64 0, .string ⟨#[]⟩] 31)) |>.forget)
               obtain ⟨m0, m1, m2, mlt⟩ := msg_cells (hK4 w3.heap.size (.inr rfl)) rfl
               clear hI4 hK4 P2 HT3'
               rw [HX.out]
               unfold noMsg
               go_wp2_with fail
               go_roundg (300 - j)
               case measure => omega
               case rel => exact ⟨j + 1, o1', o2', T.next, by go_num, by omega, by omega, HT4.out, HNL.out⟩
             · have HX := Lib.hid hx
               rw [hx]
               clear hx
               unfold Par.msg
               have hT3k := HT3.out.allocKeep (.cells #[.int .i64 (pick T.wait).f, .int .i64 (pick T.wait).t, .string (pick T.wait).s] 31)
               have P2 := Lib.hid (inv_next hT3k.r (by omega))
               have HT3' := Lib.hid hT3k
               clear HT3 hT3k
               go_wp2_with fail
               refine P2.out.mono ?_
               rintro e w4 ⟨rfl, o2', hI4, hK4⟩
               have HT4 := Lib.hid ((HT3'.out.right hI4 hK4).below ((Below.refl w4.heap.size w4).alloc (Nat.le_refl _) (.cells #[.int .i64 (pick T.wait).f, .int .i64 (pick T.wait).t, .string (pick T.wait).s] 31)) |>.forget)
               obtain ⟨m0, m1, m2, mlt⟩ := msg_cells (hK4 w3.heap.size (.inr rfl)) rfl
               clear hI4 hK4 P2 HT3'
               rw [HX.out]
               unfold Par.msg
               go_wp2_with fail
               go_roundg (300 - j)
               case measure => omega
               case rel => exact ⟨j + 1, o1', o2', T.next, by go_num, by omega, by omega, HT4.out, HNL.out⟩
           · have hj' : (300 : Int) ≤ (j : Int) := by omega
             have HBel := Lib.hid HT.out.l.bel
             clear HT
             go_wp2_with fail
             go_ret
             exact ⟨rfl, HBel.out⟩

theorem own_any (x : Int) (L : List Tr) (v : Value) (w : World) (hx : 0 ≤ x ∧ x ≤ 255) (hs : Scr w v L) (hm : L.length ≤ maxLen) :
    Calls Try.prog 8 #[v, .int .u8 x] w fun e w' => e = .returned (.bool true) ∧ Below w.heap.size w w' := by
  obtain ⟨n, rfl⟩ := Int.eq_ofNat_of_zero_le hx.1
  have hn : n ≤ 255 := by omega
  by_cases h0 : (scriptOf L).length = 0
  · exact own_nil n L v w hn hs hm h0
  · exact own_pos n L v w hn hs hm (by omega)
end Go.Proofs.Ytcadockapeancaa
