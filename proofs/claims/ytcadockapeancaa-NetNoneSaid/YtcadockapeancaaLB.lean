/- The walk of NetNone: it returns true. -/
import Derived.Test.YtcadockapeancaaTw
namespace Go.Proofs.Ytcadockapeancaa
open Go.RowKit

def emptyS (nodes : Int) (L : List Tr) (sent : Nat) (G : List Int) : NSt := ⟨nodes, L, [], sent, G⟩
theorem empty_send (nodes : Int) (L : List Tr) (sent : Nat) (G : List Int) (now f tt : Int) (s : ByteArray) (hn : nodes ≤ 0) : delivers (emptyS nodes L sent G) (trouble L sent) f tt = false := by
  have : nodeB nodes tt = false := by simp [nodeB]; omega
  simp [delivers, emptyS, this]
theorem empty_sent (nodes : Int) (L : List Tr) (sent : Nat) (G : List Int) (now f tt : Int) (s : ByteArray) (hn : nodes ≤ 0) : (emptyS nodes L sent G).send now f tt s = emptyS nodes L (sent + 1) G := by
  have h := empty_send nodes L sent G now f tt s hn
  unfold NSt.send
  have e : (emptyS nodes L sent G).script = L := rfl
  have e2 : (emptyS nodes L sent G).sent = sent := rfl
  rw [e, e2, h]
  simp [emptyS]
theorem inv_zero {w0 w : World} (hb : Below w0.heap.size w0 w) : Inv w0 (w.alloc (.cells #[.int .i64 0, .slice none 0 0, .slice none 0 0, .int .i64 0, .map none] 56)) w.heap.size (fun k => k = w.heap.size) (emptyS 0 [] 0 []) (fun k => k < w.heap.size) := by
  refine ⟨⟨.slice none 0 0, .slice none 0 0, .map none, ⟨heap_alloc_new w _, by simp [Value.ownBlock], [], .inl ⟨rfl, rfl⟩, heap_nil, .refl _⟩, .inl ⟨.inl rfl, rfl⟩, .inl ⟨rfl, rfl⟩, rfl, by simp [Value.ownBlock], by simp [Value.ownBlock], by simp [Value.mapBlock], fun k hk => by subst hk; simp⟩,
    good_new _ _ _, fun k hk => by subst hk; exact hb.size, hb.alloc hb.size _, fun k hk => ⟨by simp; omega, by omega⟩⟩
theorem ints_one (w : World) (x : Int) : Ints (w.alloc (.cells #[.int .i64 x] 3)) (.slice (some ⟨w.heap.size, 0, none⟩) 1 1) [x] := by
  refine .inr ⟨w.heap.size, 0, 1, rfl, fun k hk => ?_, by simp⟩
  have hn := heap_alloc_new w (.cells #[.int .i64 x] 3)
  rw [cell_of_row _ _ _ _ 3 (0, 0) hn]
  have : k = 0 := by simp at hk; omega
  subst this
  rfl
theorem wfI_one : wfI [1] := by
  intro k hk
  have : k = 0 := by simp at hk; omega
  subst this
  decide

set_option maxHeartbeats 4000000 in
set_option maxRecDepth 100000 in
theorem none_any (f t now : Int) (s : ByteArray) (v : Value) (L : List Tr) (w : World) (wf : (Lit.int .i64 f).wf = true) (wt : (Lit.int .i64 t).wf = true) (hs : Scr w v L) (hm : L.length ≤ maxLen) :
    Calls Try.prog 9 #[.agg #[.int .i64 f, .int .i64 t, .string s], .int .i64 now, v] w fun e w' => e = .returned (.bool true) ∧ Below w.heap.size w w' := by
  obtain ⟨va, vcap, rfl⟩ := hs.slice
  go_enter Try.func9, Try.ntmps9
  go_wp2_with fail
  refine (sanity_any _).mono ?_
  rintro e w1 ⟨rfl, hb1⟩
  have hbw : Below w.heap.size w w1 := ((Below.refl _ _).alloc (Nat.le_refl _) _).trans (hb1.mono (by simp))
  have hB : w.heap.size < w1.heap.size := by have := hb1.size; simp at this; omega
  have hmsg : w1.heap[w.heap.size]? = some (.cells #[.int .i64 f, .int .i64 t, .string s] 31 (0, 0)) := by
    rw [hb1.block _ (by simp)]; exact heap_alloc_new w _
  have hz := (inv_zero hbw).keepMono (keep' := fun k => k = w.heap.size) (fun k hk => ⟨by subst hk; simp; omega, by subst hk; omega⟩)
  have hb2 := hbw.alloc hbw.size (.cells #[.int .i64 0, .slice none 0 0, .slice none 0 0, .int .i64 0, .map none] 56)
  have hs2 := hs.keep (w' := w1.alloc (.cells #[.int .i64 0, .slice none 0 0, .slice none 0 0, .int .i64 0, .map none] 56)) (fun b hb h0 => hb2.block b (hs.lt hb h0))
  have hmsg2 : (w1.alloc (.cells #[.int .i64 0, .slice none 0 0, .slice none 0 0, .int .i64 0, .map none] 56)).heap[w.heap.size]? = some (.cells #[.int .i64 f, .int .i64 t, .string s] 31 (0, 0)) := by
    rw [Below.heap_alloc w1 _ _ hB]; exact hmsg
  have HZ := Lib.hid hz
  have HS := Lib.hid hs2
  have HB2 := Lib.hid hb2
  have HM := Lib.hid hmsg2
  clear hb1 hbw hz hs2 hb2 hs hmsg hmsg2
  go_wp2_with fail
  refine (script_any _ L _ HS.out hm).mono ?_
  rintro e w3 ⟨sv, rfl, hsc, hb3⟩
  have hsc' := scr_of_owns hsc rfl
  obtain ⟨sva, svcap, rfl⟩ := hsc'.slice
  have HI := Lib.hid (inv_new (w0 := w) (HB2.out.trans (hb3.mono HB2.out.size)) (-3) _ _ hsc' (by rw [scriptOf_length]; omega))
  have hz3 := HZ.out.below hb3
  have hm3 := hb3.block w.heap.size (by simp; omega)
  rw [HM.out] at hm3
  have HZ3 := Lib.hid hz3
  have HM3 := Lib.hid hm3
  clear hsc hsc' hb3 hz3 hm3 HB2 HZ HS HM
  go_wp2_with fail
  refine HI.out.mono ?_
  rintro e w4 ⟨pe, oe, rfl, hI, hoe, hb4⟩
  have ht := two_new HZ3.out hI hoe hb4
  have hm4 := (hb4.block w.heap.size (HZ3.out.sep _ rfl).1).trans HM3.out
  have HT := Lib.hid ht
  have HM4 := Lib.hid hm4
  clear hI hoe hb4 ht hm4 HI HZ3 HM3
  generalize w1.heap.size = pz at *
  have msg : ∀ (wx : World), wx.heap[w.heap.size]? = some (.cells #[.int .i64 f, .int .i64 t, .string s] 31 (0, 0)) → wx.cell? ⟨w.heap.size, 0, none⟩ = some (.int .i64 f) ∧ wx.cell? ⟨w.heap.size, 1, none⟩ = some (.int .i64 t) ∧ wx.cell? ⟨w.heap.size, 2, none⟩ = some (.string s) := by
    intro wx h
    simp only [cell_of_row _ _ _ _ 31 (0, 0) h]
    exact ⟨rfl, rfl, rfl⟩
  have HG := Lib.hid msg
  clear msg
  generalize hB0 : w.heap.size = B0 at *
  have HB0 := Lib.hid hB0
  clear hB0
  -- none.Send
  obtain ⟨m0, m1, m2⟩ := HG.out _ HM4.out
  go_wp2_with fail
  refine (send_nil _ _ _ _ _).mono ?_
  rintro e w5 ⟨rfl, hb5⟩
  have HT5 := Lib.hid (HT.out.below hb5)
  have HM5 := Lib.hid ((hb5.block _ (HT.out.l.sep _ (.inr rfl)).1).trans HM4.out)
  clear m0 m1 m2 hb5 HT HM4
  -- none.Part
  go_wp2_with fail
  refine (part_nil _ _ _ _).mono ?_
  rintro e w6 ⟨rfl, rfl⟩
  have hb6 := (Below.refl w5.heap.size w5).alloc (Nat.le_refl _) (.cells #[.int .i64 1] 3)
  have HT6 := Lib.hid (HT5.out.below hb6)
  have HM6 := Lib.hid ((hb6.block _ (HT5.out.l.sep _ (.inr rfl)).1).trans HM5.out)
  clear hb6 HT5 HM5
  generalize (w5.alloc (.cells #[.int .i64 1] 3)) = w6 at *
  -- zero.Part
  go_wp2_with fail
  have hb7 := (Below.refl w6.heap.size w6).alloc (Nat.le_refl _) (.cells #[.int .i64 1] 3)
  have hpz : pz < w6.heap.size := HT6.out.l.lt HT6.out.l.own
  have P7 := Lib.hid (inv_part (HT6.out.l.below hb7) _ [1] (ints_one w6 1) wfI_one (by unfold maxLen; decide) (by rintro b hb rfl; simp [Value.ownBlock] at hb; omega))
  have HT7 := Lib.hid (HT6.out.below hb7)
  have HM7 := Lib.hid ((hb7.block _ (HT6.out.l.sep _ (.inr rfl)).1).trans HM6.out)
  clear hb7 hpz HT6 HM6
  refine P7.out.mono ?_
  rintro e w8 ⟨rfl, oz8, hI8, hK8⟩
  have HT8 := Lib.hid (HT7.out.left hI8 hK8)
  have HM8 := Lib.hid ((hK8 _ (.inr rfl)).trans HM7.out)
  clear hI8 hK8 P7 HT7 HM7
  -- zero.Send
  obtain ⟨m0, m1, m2⟩ := HG.out _ HM8.out
  go_wp2_with fail
  have P9 := Lib.hid (inv_send_not HT8.out.l (by decide) (by decide) now f t s (empty_send 0 [] 0 [1] now f t s (by omega)) wf wt)
  refine P9.out.mono ?_
  rintro e w9 ⟨rfl, oz9, hI9, hK9⟩
  have hI9' : Inv w w9 pz oz9 (emptyS 0 [] 1 [1]) (fun k => oe k ∨ k = B0) := by
    have := hI9
    rw [show ({ emptyS 0 [] 0 [] with groups := [1] } : NSt) = emptyS 0 [] 0 [1] from rfl, empty_sent 0 [] 0 [1] now f t s (by omega)] at this
    exact this
  have HT9 := Lib.hid (HT8.out.left hI9' hK9)
  have HM9 := Lib.hid ((hK9 _ (.inr rfl)).trans HM8.out)
  clear hI9 hI9' hK9 P9 HT8 HM8 m0 m1 m2
  -- empty.Send
  obtain ⟨m0, m1, m2⟩ := HG.out _ HM9.out
  go_wp2_with fail
  have P10 := Lib.hid (inv_send_not (S := emptyS (-3) (scriptOf L) 0 []) HT9.out.r (show (scriptOf L).length ≤ _ by rw [scriptOf_length]; omega) (by simp [emptyS]) now f t s (empty_send (-3) (scriptOf L) 0 [] now f t s (by omega)) wf wt)
  refine P10.out.mono ?_
  rintro e w10 ⟨rfl, oe10, hI10, hK10⟩
  rw [empty_sent (-3) (scriptOf L) 0 [] now f t s (by omega)] at hI10
  have HT10 := Lib.hid (HT9.out.right hI10 hK10)
  clear hI10 hK10 P10 HT9 HM9 m0 m1 m2
  -- none.Next
  go_wp2_with fail
  refine (next_nil _).mono ?_
  rintro e w11 ⟨rfl, hb11⟩
  have hb11' := hb11.trans (((Below.refl w11.heap.size w11).alloc (Nat.le_refl _) (.cells #[.int .i64 0, .int .i64 0, .string ⟨#[]⟩] 31)).mono hb11.size)
  have HT11 := Lib.hid (HT10.out.below hb11')
  clear hb11 hb11' HT10
  unfold noMsg
  go_wp2_with fail
  -- zero.Next
  have P12 := Lib.hid (inv_next HT11.out.l (by decide))
  refine P12.out.mono ?_
  rintro e w12 ⟨rfl, oz12, hI12, hK12⟩
  have HT12 := Lib.hid ((HT11.out.left hI12 hK12).below ((Below.refl w12.heap.size w12).alloc (Nat.le_refl _) (.cells #[.int .i64 0, .int .i64 0, .string ⟨#[]⟩] 31)))
  clear hI12 hK12 P12 HT11
  have e12 : msgOf (emptyS 0 [] 1 [1]).wait = .tuple #[.agg #[.int .i64 0, .int .i64 0, .string ⟨#[]⟩], .int .i64 0, .bool false] := rfl
  rw [e12]
  clear e12
  go_wp2_with fail
  -- empty.Next
  have P13 := Lib.hid (inv_next HT12.out.r (by simp [emptyS]))
  refine P13.out.mono ?_
  rintro e w13 ⟨rfl, oe13, hI13, hK13⟩
  have HT13 := Lib.hid ((HT12.out.right hI13 hK13).below ((Below.refl w13.heap.size w13).alloc (Nat.le_refl _) (.cells #[.int .i64 0, .int .i64 0, .string ⟨#[]⟩] 31)))
  clear hI13 hK13 P13 HT12
  have e13 : msgOf (emptyS (-3) (scriptOf L) (0 + 1) []).wait = .tuple #[.agg #[.int .i64 0, .int .i64 0, .string ⟨#[]⟩], .int .i64 0, .bool false] := rfl
  rw [e13]
  clear e13
  go_wp2_with fail
  refine (waiting_nil _).mono ?_
  rintro e w14 ⟨rfl, rfl⟩
  go_wp2_with fail
  refine (inv_waiting HT13.out.l).mono ?_
  rintro e w14 ⟨rfl, rfl⟩
  have e14 : (((emptyS 0 [] 1 [1]).next.wait.length : Nat) : Int) = 0 := rfl
  rw [e14]
  clear e14
  go_wp2_with fail
  refine (inv_waiting HT13.out.r).mono ?_
  rintro e w14 ⟨rfl, rfl⟩
  have e15 : (((emptyS (-3) (scriptOf L) (0 + 1) []).next.wait.length : Nat) : Int) = 0 := rfl
  rw [e15]
  clear e15
  go_wp2_with fail
  go_ret
  exact ⟨rfl, HT13.out.l.bel⟩
end Go.Proofs.Ytcadockapeancaa
