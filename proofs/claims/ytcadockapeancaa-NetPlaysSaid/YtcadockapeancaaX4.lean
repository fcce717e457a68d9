/- The walk of the reference's Next, where copies wait. -/
import Derived.Test.YtcadockapeancaaX3
namespace Go.Proofs.Ytcadockapeancaa
open Go.RowKit

theorem own_le {w : World} {base base' : Nat} {e : TypeId} {size : Nat} {v : Value} {n : Nat} {xs : List Value} (h : w.ownsRow base e size v n xs) (hb : base' ≤ base) : w.ownsRow base' e size v n xs := by
  refine ⟨h.1, ?_⟩
  rcases h.2 with h' | ⟨g, cap, cur, hv, hbg, r⟩
  · exact .inl h'
  · exact .inr ⟨g, cap, cur, hv, Nat.le_trans hb hbg, r⟩
theorem lt_ways (p q : Par) : (p.at_ < q.at_ ∧ p.lt q = true) ∨ (p.at_ = q.at_ ∧ p.sent < q.sent ∧ p.lt q = true) ∨ (p.at_ = q.at_ ∧ q.sent ≤ p.sent ∧ p.lt q = false) ∨ (q.at_ < p.at_ ∧ (p.at_ == q.at_) = false ∧ decide (p.at_ < q.at_) = false ∧ p.lt q = false) := by
  unfold Par.lt
  by_cases e : p.at_ = q.at_
  · rw [if_pos e]
    by_cases h : p.sent < q.sent
    · exact .inr (.inl ⟨e, h, by simpa using h⟩)
    · exact .inr (.inr (.inl ⟨e, by omega, by simpa using h⟩))
  · rw [if_neg e]
    by_cases h : p.at_ < q.at_
    · exact .inl ⟨h, by simpa using h⟩
    · exact .inr (.inr (.inr ⟨by omega, beq_eq_false_iff_ne.2 e, decide_eq_false h, by simp; omega⟩))

theorem drew_on {w wr : World} (h : SomeDrew w wr) (q : Nat) : SomeDrew w (wr.drewN q) := by
  obtain ⟨m, rfl⟩ := h
  exact ⟨m + q, World.drewN_drewN _ _ _⟩

theorem row_src0 {w : World} {a : Addr} {c : Nat} {xs : List Par} (b m : Nat) (hb : xs.length = b) (hm : m = xs.length - b) : SrcIs w (.slice (some a) m c) m (rowOf (xs.drop b)) := by
  subst hb
  refine .inr ⟨_, _, rfl, fun j u hu => ?_⟩
  simp [rowOf] at hu
theorem rnext_row {w0 w2 : World} {base b n m N : Nat} {v2 : Value} {xs ys : List Par} (hb : w0.heap.size ≤ base) (ho2 : w2.ownsRow base 78 5 v2 (0 + b + m) ([] ++ rowOf (xs.take b) ++ rowOf (xs.drop (b + 1)))) (hm : m = n - (b + 1)) (hN : N = 0 + b + m) (hys : ys = xs) (hl : left xs = xs.take b ++ xs.drop (b + 1)) (hn : xs.length = n) (hb1 : b + 1 ≤ xs.length) :
    N = (left ys).length ∧ w2.ownsRow w0.heap.size 78 5 v2 N (rowOf (left ys)) := by
  subst hys hN hn hm
  have h := own_le ho2 hb
  refine ⟨?_, ?_⟩
  · rw [hl, List.length_append, List.length_take, List.length_drop, Nat.min_eq_left (by omega)]
    omega
  · rw [hl]
    unfold rowOf at h ⊢
    rw [List.flatMap_append]
    simpa using h

set_option maxHeartbeats 4000000 in
set_option maxRecDepth 100000 in
theorem rnext_some (pb : Nat) (own : Nat → Prop) (S : NSt) (w : World) (h : RefIs w pb own S) (hne : S.wait ≠ []) (hL : S.wait.length ≤ 1000000) : Calls Try.prog 20 #[.pointer (some ⟨pb, 0, none⟩)] w fun e w' => RNextEnd w pb own S e w' := by
  obtain ⟨sv, lv, gv, r⟩ := h
  obtain ⟨i0, hi0, hz0, hz1, hz2⟩ := info_parts Try.info78
  have hn0 : 0 < S.wait.length := List.length_pos_iff.2 hne
  obtain ⟨g, cap, rfl, _, hnc, hcm⟩ := ownsRow_form r.row hn0
  have hlt := r.o5 pb r.o1
  have hgo := r.o2 g rfl
  have hgl := r.o5 g hgo.1
  have hlt1 : pb < w.heap.size + 1 := by omega
  have hgl1 : g < w.heap.size + 1 := by omega
  have hmm := msgOf_some hne
  have HM := Lib.hid hmm
  have HN := Lib.hid hne
  -- what is kept in each world behind
  have KEEP := Lib.hid (fun (w1 : World) (hb : Below w.heap.size w w1) => (⟨r.rat.keep (hb.block pb hlt), row_keep r.row fun b hb' => hb.block b (by cases hb'; exact hgl)⟩ : RefAt w1 pb (.int .i64 S.nodes) sv (.slice (some ⟨g, 0, none⟩) S.wait.length cap) (.int .i64 S.sent) gv ∧ w1.ownsRow 0 78 5 (.slice (some ⟨g, 0, none⟩) S.wait.length cap) S.wait.length (rowOf S.wait)))
  have HR := Lib.hid r
  clear r hmm hne hgo
  generalize hxs : S.wait = xs at *
  have HXS := Lib.hid hxs
  clear hxs
  generalize hnn : xs.length = n at *
  have HNN := Lib.hid hnn
  clear hnn
  unfold maxLen at hcm
  have hB0 : Below w.heap.size w (w.alloc (.cells #[.int .i64 0, .int .i64 0, .string ⟨#[]⟩] 31)) := (Below.refl _ _).alloc (Nat.le_refl _) _
  have hc := (KEEP.out _ hB0).1.at.2.2.1
  have HB0 := Lib.hid hB0
  clear hB0
  have hnz : ((n : Int) == 0) = false := beq_eq_false_iff_ne.2 (by omega)
  go_enter Try.func20, Try.ntmps20
  go_wp2_with fail
  go_loopg [5, 6] (n + 1) (fun gg s5 s6 wr => ∃ k : Nat, s6 = .int .i64 ((k + 1 : Nat) : Int) ∧ s5 = .int .i64 ((bestTo xs k : Nat) : Int) ∧ n < k + 1 + gg ∧ k + 1 ≤ n ∧ SomeDrew (w.alloc (.cells #[.int .i64 0, .int .i64 0, .string ⟨#[]⟩] 31)) wr)
  case atStart => exact ⟨0, rfl, rfl, by omega, by omega, ⟨0, rfl⟩⟩
  case round =>
    clear hc
    obtain ⟨k, rfl, rfl, hg, hkn, hsd⟩ := hrel
    have HSD := Lib.hid hsd
    have hBk := bestTo_le xs k
    have hBq : Below w.heap.size w wr := by obtain ⟨q, rfl⟩ := HSD.out; exact Below.drewN' HB0.out q
    clear hsd
    obtain ⟨hra, hrow⟩ := KEEP.out _ hBq
    have hc := hra.at.2.2.1
    by_cases hk : k + 1 < n
    · have hk' : ((k + 1 : Nat) : Int) < (n : Int) := by omega
      obtain ⟨_, _, _, a3, a4⟩ := row_at hrow (k + 1) (by rw [HNN.out]; exact hk)
      obtain ⟨_, _, _, b3, b4⟩ := row_at hrow (bestTo xs k) (by rw [HNN.out]; omega)
      have hw := lt_ways (gt xs (k + 1)) (gt xs (bestTo xs k))
      have HBT := Lib.hid (show bestTo xs (k + 1) = if (gt xs (k + 1)).lt (gt xs (bestTo xs k)) then k + 1 else bestTo xs k from rfl)
      clear hra hrow hBq
      generalize gt xs (k + 1) = p1 at *
      generalize hb : bestTo xs k = b at *
      generalize gt xs b = p2 at *
      have HBB := Lib.hid hb
      clear hb
      obtain ⟨f1, t1, s1, x, sx⟩ := p1
      obtain ⟨f2, t2, s2, y, sy⟩ := p2
      simp only at hw a3 a4 b3 b4
      have hb' : (b : Int) < (n : Int) := by omega
      rcases hw with ⟨h1, h2⟩ | ⟨rfl, h1, h2⟩ | ⟨rfl, h1, h2⟩ | ⟨h1, h3, h4, h2⟩
      all_goals
        rw [h2] at HBT
        clear h2
        go_wp2_with fail
        go_quiet (fail)
        go_wp2_with fail
        go_roundg (n - (k + 1))
        case measure => omega
        case rel => exact ⟨k + 1, by go_num, by rw [HBT.out]; rfl, by omega, by omega, drew_on HSD.out _⟩
    · have hk' : (n : Int) ≤ ((k + 1 : Nat) : Int) := by omega
      have hbest : best xs = bestTo xs k := by unfold best; rw [HNN.out]; congr 1; omega
      have hbn : bestTo xs k < n := by omega
      obtain ⟨b0, b1, b2, b3, b4⟩ := row_at hrow (bestTo xs k) (by rw [HNN.out]; omega)
      have HBE := Lib.hid hbest
      have HPK := Lib.hid (show pick xs = gt xs (bestTo xs k) by unfold pick; rw [hbest])
      have HLF := Lib.hid (show left xs = xs.take (bestTo xs k) ++ xs.drop (bestTo xs k + 1) by unfold left; rw [hbest, List.eraseIdx_eq_take_drop_succ])
      have HBQ := Lib.hid hBq
      have hgr : g < wr.heap.size := Nat.lt_of_lt_of_le hgl hBq.size
      have hpr : pb < wr.heap.size := Nat.lt_of_lt_of_le hlt hBq.size
      have hsz1 : w.heap.size + 1 ≤ wr.heap.size := by obtain ⟨q, rfl⟩ := HSD.out; simp
      have HZ0 : Hid (wr.heap[w.heap.size]? = some (.cells #[.int .i64 0, .int .i64 0, .string ⟨#[]⟩] 31 (0, 0))) := by obtain ⟨q, rfl⟩ := HSD.out; exact Lib.hid (heap_alloc_new w _)
      have hbl : bestTo xs k ≤ xs.length := by rw [HNN.out]; omega
      have HBL := Lib.hid hbl
      have hbn' : ((bestTo xs k : Nat) : Int) < (n : Int) := by omega
      clear hBk hbest hra hrow hBq hbl HSD
      generalize gt xs (bestTo xs k) = p at *
      generalize bestTo xs k = b at *
      obtain ⟨pf, pt, ps, pa, pn⟩ := p
      simp only at b0 b1 b2 b3 b4
      -- the world in which the copy lies
      have HB1 := Lib.hid (HBQ.out.alloc HBQ.out.size (.cells #[.int .i64 pf, .int .i64 pt, .string ps, .int .i64 pa, .int .i64 pn] 78))
      obtain ⟨hra1, hrow1⟩ := KEEP.out _ HB1.out
      have hc1 := hra1.at.2.2.1
      have hsrc := Lib.hid (row_src (c := cap) (hrow1.cells (g := g) rfl) b HBL.out)
      have hlen1 := Lib.hid (show (rowOf (xs.take b)).length = b * 5 by rw [rowOf_length, List.length_take, Nat.min_eq_left HBL.out])
      have h63 : 0 + b ≤ maxLen := by unfold maxLen; omega
      have hown0 := World.ownsRow_nil (wr.alloc (.cells #[.int .i64 pf, .int .i64 pt, .string ps, .int .i64 pa, .int .i64 pn] 78)) (wr.heap.size + 1) 78 5
      have HF := Lib.hid (fun (v1 : Value) (w1 : World) (hg1 : (wr.alloc (.cells #[.int .i64 pf, .int .i64 pt, .string ps, .int .i64 pa, .int .i64 pn] 78)).grownBy w1 none) => by
        have h1 := (Below.refl (wr.heap.size + 1) (wr.alloc (.cells #[.int .i64 pf, .int .i64 pt, .string ps, .int .i64 pa, .int .i64 pn] 78))).grown hg1 (by simp) (fun k hk => by cases hk)
        have h2 := HB1.out.trans (h1.mono (by omega))
        obtain ⟨hra2, hrow2⟩ := KEEP.out _ h2
        have hx : w1.heap[wr.heap.size]? = some (.cells #[.int .i64 pf, .int .i64 pt, .string ps, .int .i64 pa, .int .i64 pn] 78 (0, 0)) := by rw [h1.block _ (by omega)]; exact heap_alloc_new wr _
        exact (⟨h1, h2, hra2.at.2.2.1, hra2.free 2, hra2.lt, hrow2.cells (g := g) rfl, hx⟩ :
          Below (wr.heap.size + 1) (wr.alloc (.cells #[.int .i64 pf, .int .i64 pt, .string ps, .int .i64 pa, .int .i64 pn] 78)) w1 ∧ Below w.heap.size w w1 ∧ w1.cell? ⟨pb, 2, none⟩ = some (.slice (some ⟨g, 0, none⟩) n cap) ∧ w1.frozen? ⟨pb, 2, none⟩ = false ∧ pb < w1.heap.size ∧
          (∀ j u, (rowOf xs)[j]? = some u → w1.cell? ((⟨g, 0, none⟩ : Addr).add j) = some u) ∧ w1.heap[wr.heap.size]? = some (.cells #[.int .i64 pf, .int .i64 pt, .string ps, .int .i64 pa, .int .i64 pn] 78 (0, 0))))
      clear hra1 hrow1
      have hb1n : b + 1 ≤ n := by omega
      have HD := Lib.hid (show n - (b + 1) = xs.length - (b + 1) by rw [HNN.out])
      have HBL1 := Lib.hid (show b + 1 ≤ xs.length by rw [HNN.out]; exact hb1n)
      have hlen2 := Lib.hid (fun (m : Nat) (hm : m = n - (b + 1)) => (show (rowOf (xs.drop (b + 1))).length = m * 5 by rw [rowOf_length, List.length_drop, HNN.out, hm]))
      have h64 := Lib.hid (fun (m : Nat) (hm : m = n - (b + 1)) => (show 0 + b + m ≤ maxLen by unfold maxLen; omega))
      have h65 := Lib.hid (fun (m : Nat) (hm : m = n - (b + 1)) => (show (0 + b + m) * 48 ≤ 140737488355328 by omega))
      have hzb : wr.heap[w.heap.size]? = some (.cells #[.int .i64 0, .int .i64 0, .string ⟨#[]⟩] 31 (0, 0)) := HZ0.out
      have HF2 := Lib.hid (fun (m : Nat) (hm : m = n - (b + 1)) (v1 v2 : Value) (w1 w2 : World) (ho : w1.ownsRow (wr.heap.size + 1) 78 5 v1 (0 + b) ([] ++ rowOf (xs.take b))) (hg1 : Below (wr.heap.size + 1) (wr.alloc (.cells #[.int .i64 pf, .int .i64 pt, .string ps, .int .i64 pa, .int .i64 pn] 78)) w1) (ho2 : w2.ownsRow (wr.heap.size + 1) 78 5 v2 (0 + b + m) ([] ++ rowOf (xs.take b) ++ rowOf (xs.drop (b + 1)))) (hg2 : w1.grownBy w2 v1.ownBlock) => by
        have h1 := (Below.refl (wr.heap.size + 1) w1).grown hg2 (by have := hg1.size; simpa using this) (fun k hk => (ho.lt k hk).1)
        have h2 : Below (wr.heap.size + 1) (wr.alloc (.cells #[.int .i64 pf, .int .i64 pt, .string ps, .int .i64 pa, .int .i64 pn] 78)) w2 := hg1.trans (h1.mono (by omega))
        have h3 := HB1.out.trans (h2.mono (by omega))
        obtain ⟨hra2, _⟩ := KEEP.out _ h3
        have hx : w2.heap[wr.heap.size]? = some (.cells #[.int .i64 pf, .int .i64 pt, .string ps, .int .i64 pa, .int .i64 pn] 78 (0, 0)) := by rw [h2.block _ (by omega)]; exact heap_alloc_new wr _
        have hy : w2.heap[w.heap.size]? = some (.cells #[.int .i64 0, .int .i64 0, .string ⟨#[]⟩] 31 (0, 0)) := by rw [h2.block _ (by omega), Below.heap_alloc wr _ _ (by omega)]; exact hzb
        have hv : ∃ N a2 c2, v2 = .slice a2 N c2 ∧ Hid (N = 0 + b + m) := by
          rcases ho2.2 with ⟨rfl, h0⟩ | ⟨g', cap', cur, rfl, _⟩
          · exact ⟨0, none, 0, rfl, Lib.hid h0.symm⟩
          · exact ⟨_, _, _, rfl, Lib.hid rfl⟩
        exact (⟨h3, hra2.at.2.2.1, hra2.free 2, hra2.lt, hx, hy, hv⟩ :
          Below w.heap.size w w2 ∧ w2.cell? ⟨pb, 2, none⟩ = some (.slice (some ⟨g, 0, none⟩) n cap) ∧ w2.frozen? ⟨pb, 2, none⟩ = false ∧ pb < w2.heap.size ∧ w2.heap[wr.heap.size]? = some (.cells #[.int .i64 pf, .int .i64 pt, .string ps, .int .i64 pa, .int .i64 pn] 78 (0, 0)) ∧
          w2.heap[w.heap.size]? = some (.cells #[.int .i64 0, .int .i64 0, .string ⟨#[]⟩] 31 (0, 0)) ∧ ∃ N a2 c2, v2 = .slice a2 N c2 ∧ Hid (N = 0 + b + m)))
      clear hzb
      have hcapz : (cap = b + 1 ∧ n = b + 1) ∨ ¬ cap = b + 1 := by omega
      rcases hcapz with ⟨rfl, rfl⟩ | hcap
      · go_upto_region 12 with (at_builtin; refine wpList_append_src rfl (.tmp 88) (.tmp 94) 65 rfl (wr.heap.size + 1) 78 i0 _ 5 48 Try.underlying65 hi0 hz0 hz1 hz2 rfl (by decide) _ 0 [] rfl hown0 _ b (rowOf (xs.take b)) rfl hsrc.out hlen1.out cells_row h63 (by omega) (by simp) ?_; intro v1 w1 ho hg1; obtain ⟨g1, g2, hc2, hz2', hp2, hcl, hx⟩ := HF.out v1 w1 hg1)
        have HCL := Lib.hid hcl
        have HX1 := Lib.hid hx
        have HMM := Lib.hid (show 0 = (b + 1) - (b + 1) by omega)
        have hs1 : wr.heap.size + 1 ≤ w1.heap.size := by have := g1.size; simpa using this
        clear hcl hx HF hsrc hown0 hlen1 b0 b1 b2 b3 b4 hc hc1
        go_upto_region 13 with (at_builtin; refine wpList_append_src rfl (.tmp 97) (.tmp 104) 65 rfl (wr.heap.size + 1) 78 i0 _ 5 48 Try.underlying65 hi0 hz0 hz1 hz2 rfl (by decide) _ (0 + b) _ rfl ho _ (0) (rowOf (xs.drop (b + 1))) rfl (row_src0 (b + 1) 0 HNN.out (by rw [HNN.out]; omega)) (hlen2.out _ HMM.out) cells_row (h64.out _ HMM.out) (h65.out _ HMM.out) hs1 ?_; intro v2 w2 ho2 hg2; obtain ⟨f1, f2, f3, f4, f5, f6, N, a2, c2, rfl, hN⟩ := HF2.out _ HMM.out v1 v2 w1 w2 ho g1 ho2 hg2)
        have ho3 := rnext_row (w0 := w) (by omega) ho2 HMM.out hN.out HXS.out HLF.out HNN.out HBL1.out
        have HE := Lib.hid (fun w4 h4 => rnext_end HR.out f1 (w2 := w4) ho3.1 ho3.2 h4)
        have hvb : (Value.slice a2 N c2).ownBlock ≠ some w.heap.size := fun e => by have := (ho2.lt _ e).1; omega
        have hx3 := (heap_setCell_other w2 ⟨pb, 2, none⟩ wr.heap.size (.slice a2 N c2) (by show wr.heap.size ≠ pb; omega)).trans f5
        have hy3 := (heap_setCell_other w2 ⟨pb, 2, none⟩ w.heap.size (.slice a2 N c2) (by show w.heap.size ≠ pb; omega)).trans f6
        clear ho ho2 hg1 hg2 g1 g2 hc2 hz2' hp2 f1 f2 f3 f4 f5 f6 HF2 hN ho3 HCL HX1 hs1 hlen2
        generalize w2.setCell ⟨pb, 2, none⟩ (.slice a2 N c2) = W3 at *
        have hcx : ∀ i, W3.cell? ⟨wr.heap.size, i, none⟩ = #[Value.int .i64 pf, .int .i64 pt, .string ps, .int .i64 pa, .int .i64 pn][i]? := fun i => cell_of_row W3 wr.heap.size i _ 78 (0, 0) hx3
        have hcy : ∀ i, W3.cell? ⟨w.heap.size, i, none⟩ = #[Value.int .i64 0, .int .i64 0, .string ⟨#[]⟩][i]? := fun i => cell_of_row W3 w.heap.size i _ 31 (0, 0) hy3
        have hfy : ∀ i, W3.frozen? ⟨w.heap.size, i, none⟩ = false := fun i => frozen_of_row W3 w.heap.size i _ 31 hy3
        have x0 := hcx 0
        have x1 := hcx 1
        have x2 := hcx 2
        have x3 := hcx 3
        have y0 := hcy 0
        have y1 := hcy 1
        have y2 := hcy 2
        have z0 := hfy 0
        have z1 := hfy 1
        have z2 := hfy 2
        have hl3 : w.heap.size < W3.heap.size := heap_lt hy3
        have hl4 : wr.heap.size < W3.heap.size := heap_lt hx3
        have hne3 : wr.heap.size ≠ w.heap.size := by omega
        simp only [List.getElem?_toArray, List.getElem?_cons_zero, List.getElem?_cons_succ] at x0 x1 x2 x3 y0 y1 y2
        clear hcx hcy hfy hx3 hy3
        go_region
        go_wp2_with fail
        refine bodyPost_ret (v := (⟨pf, pt, ps, pa, pn⟩ : Par).msg) (by simp [results, Try.results20, go_sem, Par.msg, *]) rfl ?_
        exact ⟨by rw [HXS.out, HM.out, HPK.out], HE.out _ ((((Fr.refl _ W3).setCell (.inr ⟨Nat.le_refl _, hvb⟩) _).setCell (.inr ⟨Nat.le_refl _, hvb⟩) _).setCell (.inr ⟨Nat.le_refl _, hvb⟩) _).drew⟩
      · go_upto_region 12 with (at_builtin; refine wpList_append_src rfl (.tmp 88) (.tmp 94) 65 rfl (wr.heap.size + 1) 78 i0 _ 5 48 Try.underlying65 hi0 hz0 hz1 hz2 rfl (by decide) _ 0 [] rfl hown0 _ b (rowOf (xs.take b)) rfl hsrc.out hlen1.out cells_row h63 (by omega) (by simp) ?_; intro v1 w1 ho hg1; obtain ⟨g1, g2, hc2, hz2', hp2, hcl, hx⟩ := HF.out v1 w1 hg1)
        have HCL := Lib.hid hcl
        have HX1 := Lib.hid hx
        have HMM := Lib.hid (show n - (b + 1) = n - (b + 1) by omega)
        have hs1 : wr.heap.size + 1 ≤ w1.heap.size := by have := g1.size; simpa using this
        clear hcl hx HF hsrc hown0 hlen1 b0 b1 b2 b3 b4 hc hc1
        go_upto_region 13 with (at_builtin; refine wpList_append_src rfl (.tmp 97) (.tmp 104) 65 rfl (wr.heap.size + 1) 78 i0 _ 5 48 Try.underlying65 hi0 hz0 hz1 hz2 rfl (by decide) _ (0 + b) _ rfl ho _ (n - (b + 1)) (rowOf (xs.drop (b + 1))) rfl (row_src2 HCL.out (b + 1) (n - (b + 1)) HBL1.out HD.out) (hlen2.out _ HMM.out) cells_row (h64.out _ HMM.out) (h65.out _ HMM.out) hs1 ?_; intro v2 w2 ho2 hg2; obtain ⟨f1, f2, f3, f4, f5, f6, N, a2, c2, rfl, hN⟩ := HF2.out _ HMM.out v1 v2 w1 w2 ho g1 ho2 hg2)
        have ho3 := rnext_row (w0 := w) (by omega) ho2 HMM.out hN.out HXS.out HLF.out HNN.out HBL1.out
        have HE := Lib.hid (fun w4 h4 => rnext_end HR.out f1 (w2 := w4) ho3.1 ho3.2 h4)
        have hvb : (Value.slice a2 N c2).ownBlock ≠ some w.heap.size := fun e => by have := (ho2.lt _ e).1; omega
        have hx3 := (heap_setCell_other w2 ⟨pb, 2, none⟩ wr.heap.size (.slice a2 N c2) (by show wr.heap.size ≠ pb; omega)).trans f5
        have hy3 := (heap_setCell_other w2 ⟨pb, 2, none⟩ w.heap.size (.slice a2 N c2) (by show w.heap.size ≠ pb; omega)).trans f6
        clear ho ho2 hg1 hg2 g1 g2 hc2 hz2' hp2 f1 f2 f3 f4 f5 f6 HF2 hN ho3 HCL HX1 hs1 hlen2
        generalize w2.setCell ⟨pb, 2, none⟩ (.slice a2 N c2) = W3 at *
        have hcx : ∀ i, W3.cell? ⟨wr.heap.size, i, none⟩ = #[Value.int .i64 pf, .int .i64 pt, .string ps, .int .i64 pa, .int .i64 pn][i]? := fun i => cell_of_row W3 wr.heap.size i _ 78 (0, 0) hx3
        have hcy : ∀ i, W3.cell? ⟨w.heap.size, i, none⟩ = #[Value.int .i64 0, .int .i64 0, .string ⟨#[]⟩][i]? := fun i => cell_of_row W3 w.heap.size i _ 31 (0, 0) hy3
        have hfy : ∀ i, W3.frozen? ⟨w.heap.size, i, none⟩ = false := fun i => frozen_of_row W3 w.heap.size i _ 31 hy3
        have x0 := hcx 0
        have x1 := hcx 1
        have x2 := hcx 2
        have x3 := hcx 3
        have y0 := hcy 0
        have y1 := hcy 1
        have y2 := hcy 2
        have z0 := hfy 0
        have z1 := hfy 1
        have z2 := hfy 2
        have hl3 : w.heap.size < W3.heap.size := heap_lt hy3
        have hl4 : wr.heap.size < W3.heap.size := heap_lt hx3
        have hne3 : wr.heap.size ≠ w.heap.size := by omega
        simp only [List.getElem?_toArray, List.getElem?_cons_zero, List.getElem?_cons_succ] at x0 x1 x2 x3 y0 y1 y2
        clear hcx hcy hfy hx3 hy3
        go_region
        go_wp2_with fail
        refine bodyPost_ret (v := (⟨pf, pt, ps, pa, pn⟩ : Par).msg) (by simp [results, Try.results20, go_sem, Par.msg, *]) rfl ?_
        exact ⟨by rw [HXS.out, HM.out, HPK.out], HE.out _ ((((Fr.refl _ W3).setCell (.inr ⟨Nat.le_refl _, hvb⟩) _).setCell (.inr ⟨Nat.le_refl _, hvb⟩) _).setCell (.inr ⟨Nat.le_refl _, hvb⟩) _).drew⟩
end Go.Proofs.Ytcadockapeancaa
