/- The walks of the methods of parcels: Len, Less, Swap. -/
import Derived.Test.YtcadockapeancaaRows
import Derived.Test.YtcadockapeancaaSt
import Derived.WalkKit
import Derived.WalkSpells
import Derived.WalkLawsBesides
import Derived.Deep.QuietTactic
import Derived.BigQuiet
import Derived.BigRegion
import Derived.Lib.Hide
namespace Go.Proofs.Ytcadockapeancaa
open Go.RowKit

set_option maxHeartbeats 400000 in
theorem len_any (a : Option Addr) (n cap : Nat) (w : World) (h : n ≤ maxLen) :
    Calls Try.prog 48 #[.slice a n cap] w fun e w' => e = .returned (.int .i64 n) ∧ w = w' := by
  unfold maxLen at h
  go_enter Try.func48, Try.ntmps48
  go_wp2
  go_ret
  exact ⟨rfl, rfl⟩

def SomeDrew (w w' : World) : Prop := ∃ q, w' = w.drewN q
theorem ret_bool {a b : Bool} (h : a = b) : Ending.returned (.bool a) = .returned (.bool b) := by rw [h]
/-- Which of two keys is less. -/
def ltb (x sx y sy : Int) : Bool := if x = y then decide (sx < sy) else decide (x < y)

set_option maxHeartbeats 400000 in
theorem less_cells (b : Nat) (n cap : Nat) (i j : Nat) (x y sx sy : Int) (w : World) (h : n ≤ maxLen) (hi : i < n) (hj : j < n)
    (hx : w.cell? ⟨b, i * 5 + 3, none⟩ = some (.int .i64 x)) (hy : w.cell? ⟨b, j * 5 + 3, none⟩ = some (.int .i64 y))
    (hsx : w.cell? ⟨b, i * 5 + 4, none⟩ = some (.int .i64 sx)) (hsy : w.cell? ⟨b, j * 5 + 4, none⟩ = some (.int .i64 sy)) :
    Calls Try.prog 49 #[.slice (some ⟨b, 0, none⟩) n cap, .int .i64 i, .int .i64 j] w fun e w' => e = .returned (.bool (ltb x sx y sy)) ∧ SomeDrew w w' := by
  unfold maxLen at h
  by_cases e : x = y
  · subst e
    have hf : decide (sx < sy) = ltb x sx x sy := by simp [ltb]
    have H := Lib.hid hf; clear hf
    go_enter Try.func49, Try.ntmps49
    go_wp2_with fail
    go_quiet (fail)
    go_wp2_with fail
    go_quiet (fail)
    go_wp2_with fail
    go_ret
    exact ⟨ret_bool H.out, ⟨_, World.drewN_drewN _ _ _⟩⟩
  · have hf : decide (x < y) = ltb x sx y sy := by simp [ltb, e]
    have H := Lib.hid hf; clear hf
    have hne : (x != y) = true := by simp [e]
    clear e
    go_enter Try.func49, Try.ntmps49
    go_wp2_with fail
    go_quiet (fail)
    go_wp2_with fail
    go_quiet (fail)
    go_wp2_with fail
    go_ret
    exact ⟨ret_bool H.out, ⟨_, World.drewN_drewN _ _ _⟩⟩

theorem less_row (b n cap : Nat) (xs : List Par) (i j : Nat) (w : World) (hr : Row w b cap xs) (hn : n = xs.length) (hi : i < n) (hj : j < n) :
    Calls Try.prog 49 #[.slice (some ⟨b, 0, none⟩) n cap, .int .i64 i, .int .i64 j] w fun e w' => e = .returned (.bool ((gt xs i).lt (gt xs j))) ∧ SomeDrew w w' := by
  subst hn
  obtain ⟨_, _, _, x3, x4⟩ := hr.at i hi
  obtain ⟨_, _, _, y3, y4⟩ := hr.at j hj
  exact less_cells b _ cap i j _ _ _ _ w (Nat.le_trans hr.fits hr.max) hi hj x3 y3 x4 y4

/-- A parcel is written at place i of row b. -/
def setPar (w : World) (b i : Nat) (p : Par) : World :=
  (((((w.setCell ⟨b, i * 5, none⟩ (.int .i64 p.f)).setCell ⟨b, i * 5 + 1, none⟩ (.int .i64 p.t)).setCell ⟨b, i * 5 + 2, none⟩ (.string p.s)).setCell ⟨b, i * 5 + 3, none⟩ (.int .i64 p.at_)).setCell ⟨b, i * 5 + 4, none⟩ (.int .i64 p.sent))
theorem heap_setPar (w : World) (b i : Nat) (p : Par) (cur : Array Value) (h : w.heap[b]? = some (.cells cur 75 (0, 0))) : (setPar w b i p).heap[b]? = some (.cells (put5 cur i p) 75 (0, 0)) :=
  heap_set5 w b i cur 75 _ _ _ _ _ h
theorem Fr.setPar {own : Nat → Prop} {a w : World} (h : Fr own a w) {b : Nat} (hb : own b) (i : Nat) (p : Par) : Fr own a (setPar w b i p) := by
  unfold Ytcadockapeancaa.setPar
  exact ((((h.setCell (.inr hb) _).setCell (.inr hb) _).setCell (.inr hb) _).setCell (.inr hb) _).setCell (.inr hb) _

set_option maxHeartbeats 1000000 in
theorem swap_cells (b : Nat) (n cap : Nat) (i j : Nat) (p q : Par) (w : World) (h : n ≤ maxLen) (hi : i < n) (hj : j < n) (hij : i ≠ j)
    (hx0 : w.cell? ⟨b, i * 5, none⟩ = some (.int .i64 p.f)) (hy0 : w.cell? ⟨b, j * 5, none⟩ = some (.int .i64 q.f)) (zx0 : w.frozen? ⟨b, i * 5, none⟩ = false) (zy0 : w.frozen? ⟨b, j * 5, none⟩ = false)
    (hx1 : w.cell? ⟨b, i * 5 + 1, none⟩ = some (.int .i64 p.t)) (hy1 : w.cell? ⟨b, j * 5 + 1, none⟩ = some (.int .i64 q.t)) (zx1 : w.frozen? ⟨b, i * 5 + 1, none⟩ = false) (zy1 : w.frozen? ⟨b, j * 5 + 1, none⟩ = false)
    (hx2 : w.cell? ⟨b, i * 5 + 2, none⟩ = some (.string p.s)) (hy2 : w.cell? ⟨b, j * 5 + 2, none⟩ = some (.string q.s)) (zx2 : w.frozen? ⟨b, i * 5 + 2, none⟩ = false) (zy2 : w.frozen? ⟨b, j * 5 + 2, none⟩ = false)
    (hx3 : w.cell? ⟨b, i * 5 + 3, none⟩ = some (.int .i64 p.at_)) (hy3 : w.cell? ⟨b, j * 5 + 3, none⟩ = some (.int .i64 q.at_)) (zx3 : w.frozen? ⟨b, i * 5 + 3, none⟩ = false) (zy3 : w.frozen? ⟨b, j * 5 + 3, none⟩ = false)
    (hx4 : w.cell? ⟨b, i * 5 + 4, none⟩ = some (.int .i64 p.sent)) (hy4 : w.cell? ⟨b, j * 5 + 4, none⟩ = some (.int .i64 q.sent)) (zx4 : w.frozen? ⟨b, i * 5 + 4, none⟩ = false) (zy4 : w.frozen? ⟨b, j * 5 + 4, none⟩ = false) :
    Calls Try.prog 50 #[.slice (some ⟨b, 0, none⟩) n cap, .int .i64 i, .int .i64 j] w fun e w' => e = .returned (.tuple #[]) ∧ w' = (setPar (setPar w b i q) b j p).drew := by
  unfold maxLen at h
  go_enter Try.func50, Try.ntmps50
  go_wp2_with fail
  go_region
  go_end0
  exact ⟨rfl, rfl⟩

set_option maxHeartbeats 1000000 in
theorem swap_cells1 (b : Nat) (n cap : Nat) (i : Nat) (p : Par) (w : World) (h : n ≤ maxLen) (hi : i < n)
    (hx0 : w.cell? ⟨b, i * 5, none⟩ = some (.int .i64 p.f)) (zx0 : w.frozen? ⟨b, i * 5, none⟩ = false)
    (hx1 : w.cell? ⟨b, i * 5 + 1, none⟩ = some (.int .i64 p.t)) (zx1 : w.frozen? ⟨b, i * 5 + 1, none⟩ = false)
    (hx2 : w.cell? ⟨b, i * 5 + 2, none⟩ = some (.string p.s)) (zx2 : w.frozen? ⟨b, i * 5 + 2, none⟩ = false)
    (hx3 : w.cell? ⟨b, i * 5 + 3, none⟩ = some (.int .i64 p.at_)) (zx3 : w.frozen? ⟨b, i * 5 + 3, none⟩ = false)
    (hx4 : w.cell? ⟨b, i * 5 + 4, none⟩ = some (.int .i64 p.sent)) (zx4 : w.frozen? ⟨b, i * 5 + 4, none⟩ = false) :
    Calls Try.prog 50 #[.slice (some ⟨b, 0, none⟩) n cap, .int .i64 i, .int .i64 i] w fun e w' => e = .returned (.tuple #[]) ∧ w' = (setPar (setPar w b i p) b i p).drew := by
  unfold maxLen at h
  go_enter Try.func50, Try.ntmps50
  go_wp2_with fail
  go_region
  go_end0
  exact ⟨rfl, rfl⟩

theorem swap_world (b cap : Nat) (xs : List Par) (i j : Nat) (w : World) (hr : Row w b cap xs) (hi : i < xs.length) (hj : j < xs.length) :
    Row (setPar (setPar w b i (gt xs j)) b j (gt xs i)).drew b cap (sw xs i j) ∧ Fr (fun k => k = b) w (setPar (setPar w b i (gt xs j)) b j (gt xs i)).drew := by
  obtain ⟨cur, hc, hs, hcr⟩ := hr.cur
  have h1 := heap_setPar w b i (gt xs j) cur hc
  have h2 := heap_setPar _ b j (gt xs i) _ h1
  refine ⟨⟨by rw [sw_length]; exact hr.fits, hr.max, put5 (put5 cur i (gt xs j)) j (gt xs i), ?_, by simp [hs], hcr.sw hs hr.fits hi hj⟩, ?_⟩
  · rw [heap_drew]; exact h2
  · exact (((Fr.refl (fun k => k = b) w).setPar (b := b) rfl i _).setPar (b := b) rfl j _).drew

theorem swap_row (b n cap : Nat) (xs : List Par) (i j : Nat) (w : World) (hr : Row w b cap xs) (hn : n = xs.length) (hi : i < n) (hj : j < n) :
    Calls Try.prog 50 #[.slice (some ⟨b, 0, none⟩) n cap, .int .i64 i, .int .i64 j] w fun e w' => e = .returned (.tuple #[]) ∧ Row w' b cap (sw xs i j) ∧ Fr (fun k => k = b) w w' := by
  subst hn
  obtain ⟨x0, x1, x2, x3, x4⟩ := hr.at i hi
  obtain ⟨y0, y1, y2, y3, y4⟩ := hr.at j hj
  have z := hr.free
  have hm := Nat.le_trans hr.fits hr.max
  have key := swap_world b cap xs i j w hr hi hj
  by_cases e : i = j
  · subst e
    refine (swap_cells1 b _ cap i _ w hm hi x0 (z _) x1 (z _) x2 (z _) x3 (z _) x4 (z _)).mono fun e w' h => ?_
    exact ⟨h.1, by rw [h.2]; exact key⟩
  · refine (swap_cells b _ cap i j _ _ w hm hi hj e x0 y0 (z _) (z _) x1 y1 (z _) (z _) x2 y2 (z _) (z _) x3 y3 (z _) (z _) x4 y4 (z _) (z _)).mono fun e w' h => ?_
    exact ⟨h.1, by rw [h.2]; exact key⟩
end Go.Proofs.Ytcadockapeancaa
