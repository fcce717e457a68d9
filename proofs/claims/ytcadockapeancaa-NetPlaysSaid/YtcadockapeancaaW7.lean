/- The walks of the small functions of a net: node, queue, trouble, Waiting. -/
import Derived.Test.YtcadockapeancaaW6
import Derived.Test.YtcadockapeancaaT
namespace Go.Proofs.Ytcadockapeancaa
open Go.RowKit

def nodeB (nodes k : Int) : Bool := decide (0 ≤ k) && decide (k < nodes)

set_option maxHeartbeats 400000 in
theorem node_any (pb : Nat) (nodes k : Int) (w : World) (hc : w.cell? ⟨pb, 0, none⟩ = some (.int .i64 nodes)) :
    Calls Try.prog 25 #[.pointer (some ⟨pb, 0, none⟩), .int .i64 k] w fun e w' => e = .returned (.bool (nodeB nodes k)) ∧ w = w' := by
  by_cases h : 0 ≤ k
  · by_cases h2 : k < nodes
    · have H := Lib.hid (show true = nodeB nodes k by simp [nodeB, h, h2])
      go_enter Try.func25, Try.ntmps25
      go_wp2
      go_ret
      exact ⟨ret_bool H.out, rfl⟩
    · have H := Lib.hid (show false = nodeB nodes k by simp [nodeB, h2])
      go_enter Try.func25, Try.ntmps25
      go_wp2
      go_ret
      exact ⟨ret_bool (by simpa [h2] using H.out), rfl⟩
  · have H := Lib.hid (show false = nodeB nodes k by simp [nodeB, h])
    have h' : k < 0 := by omega
    go_enter Try.func25, Try.ntmps25
    go_wp2
    go_ret
    exact ⟨ret_bool (by simpa [h] using H.out), rfl⟩

set_option maxHeartbeats 400000 in
theorem queue_any (pb : Nat) (w : World) :
    Calls Try.prog 27 #[.pointer (some ⟨pb, 0, none⟩)] w fun e w' => e = .returned (.iface 84 (.pointer (some ⟨pb, 2, none⟩))) ∧ w = w' := by
  go_enter Try.func27, Try.ntmps27
  go_wp2
  go_ret
  exact ⟨rfl, rfl⟩

set_option maxHeartbeats 400000 in
theorem waiting_nil (w : World) : Calls Try.prog 21 #[.pointer none] w fun e w' => e = .returned (.int .i64 0) ∧ w = w' := by
  go_enter Try.func21, Try.ntmps21
  go_wp2
  go_ret
  exact ⟨rfl, rfl⟩

set_option maxHeartbeats 400000 in
theorem waiting_any (pb : Nat) (a : Option Addr) (n cap : Nat) (w : World) (hc : w.cell? ⟨pb, 2, none⟩ = some (.slice a n cap)) (hm : n ≤ maxLen) :
    Calls Try.prog 21 #[.pointer (some ⟨pb, 0, none⟩)] w fun e w' => e = .returned (.int .i64 n) ∧ w = w' := by
  have ml := method_Len pb w _ hc
  go_enter Try.func21, Try.ntmps21
  go_wp2_with fail
  refine (queue_any pb _).mono ?_
  rintro e w1 ⟨rfl, rfl⟩
  go_wp2_with fail
  refine (len_any _ _ _ _ hm).mono ?_
  rintro e w1 ⟨rfl, rfl⟩
  go_wp2_with fail
  go_ret
  exact ⟨rfl, rfl⟩

set_option maxHeartbeats 1000000 in
theorem trouble_any (pb : Nat) (c0 sv v mv : Value) (sent : Nat) (L : List Tr) (w : World) (hn : NetAt w pb c0 sv v (.int .i64 sent) mv) (hs : Scr w sv L) (hL : L.length ≤ 1000000) (hsent : sent ≤ 1000000000) :
    Calls Try.prog 24 #[.pointer (some ⟨pb, 0, none⟩)] w fun e w' => e = .returned (.agg #[.bool (trouble L sent).lost, .int .i64 (trouble L sent).copies, .int .i64 (trouble L sent).delay]) ∧ Below w.heap.size w w' := by
  obtain ⟨_, c1, _, c3, _⟩ := hn.at
  have hlt := hn.lt
  by_cases h0 : L.length = 0
  · have ht : trouble L sent = ⟨false, 1, 1⟩ := by simp [trouble, h0]
    obtain ⟨a, cap, rfl⟩ := hs.slice
    rw [h0] at c1
    rw [ht]
    clear ht h0 hs
    go_enter Try.func24, Try.ntmps24
    go_wp2
    refine bodyPost_ret (v := .agg #[.bool false, .int .i64 1, .int .i64 1]) (by simp [results, Try.results24, go_sem]) rfl ⟨rfl, ?_⟩
    exact (Below.refl _ _).alloc (Nat.le_refl _) _
  · have ht : trouble L sent = gtT L (sent % L.length) := by simp [trouble, h0]
    rcases hs with ⟨_, rfl⟩ | ⟨b, off, cap, rfl, hrow, _⟩
    · simp at h0
    · have hmod : sent % L.length < L.length := Nat.mod_lt _ (by omega)
      obtain ⟨d0, d1, d2⟩ := hrow (sent % L.length) hmod
      rw [ht]
      have hb := block_lt_of_cell d0
      simp only at hb
      have hlt1 : pb < w.heap.size + 1 := by omega
      have hlen0 : ((L.length : Int) == 0) = false := beq_eq_false_iff_ne.2 (by omega)
      have hrem : (sent : Int) % (L.length : Int) = ((sent % L.length : Nat) : Int) := by omega
      have HR := Lib.hid hrem
      generalize hi : sent % L.length = i at *
      generalize hl : L.length = l at *
      clear ht hrow h0 hi hl hrem
      have hil : (i : Int) < (l : Int) := by omega
      go_enter Try.func24, Try.ntmps24
      go_wp2
      have hrem := HR.out
      go_region
      go_wp2
      refine bodyPost_ret (v := .agg #[.bool (gtT L i).lost, .int .i64 (gtT L i).copies, .int .i64 (gtT L i).delay]) (by simp [results, Try.results24, go_sem]) rfl ⟨rfl, ?_⟩
      exact ((Below.refl _ _).alloc (Nat.le_refl _) _).drew
end Go.Proofs.Ytcadockapeancaa
