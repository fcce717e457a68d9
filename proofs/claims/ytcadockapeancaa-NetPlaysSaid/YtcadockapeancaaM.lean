/- What the methods of a pointer to parcels are, as an interface value calls them. -/
import Derived.Test.YtcadockapeancaaSt
namespace Go.Proofs.Ytcadockapeancaa
open Go.RowKit

theorem method_of (name : String) (f : FuncId) (pb : Nat) (w : World) (v : Value)
    (h : ∀ w, (method 205 84 (.pointer (some ⟨pb, 2, none⟩)) name).run Try.prog w = (Sem.load .plain ⟨pb, 2, none⟩ fun v => .pure (f, v)).run Try.prog w)
    (hc : w.cell? ⟨pb, 2, none⟩ = some v) : (method 205 84 (.pointer (some ⟨pb, 2, none⟩)) name).run Try.prog w = .ok (f, v) w := by
  rw [h]
  simp [Sem.run, hc]
theorem method_Less (pb : Nat) (w : World) (v : Value) (hc : w.cell? ⟨pb, 2, none⟩ = some v) : (method 205 84 (.pointer (some ⟨pb, 2, none⟩)) "Less").run Try.prog w = .ok (49, v) w :=
  method_of _ _ _ _ _ (fun w => by kernel_rfl) hc
theorem method_Swap (pb : Nat) (w : World) (v : Value) (hc : w.cell? ⟨pb, 2, none⟩ = some v) : (method 205 84 (.pointer (some ⟨pb, 2, none⟩)) "Swap").run Try.prog w = .ok (50, v) w :=
  method_of _ _ _ _ _ (fun w => by kernel_rfl) hc
theorem method_Len (pb : Nat) (w : World) (v : Value) (hc : w.cell? ⟨pb, 2, none⟩ = some v) : (method 205 84 (.pointer (some ⟨pb, 2, none⟩)) "Len").run Try.prog w = .ok (48, v) w :=
  method_of _ _ _ _ _ (fun w => by kernel_rfl) hc
theorem method_Push (pb : Nat) (w : World) : (method 205 84 (.pointer (some ⟨pb, 2, none⟩)) "Push").run Try.prog w = .ok (52, .pointer (some ⟨pb, 2, none⟩)) w := by kernel_rfl
theorem method_Pop (pb : Nat) (w : World) : (method 205 84 (.pointer (some ⟨pb, 2, none⟩)) "Pop").run Try.prog w = .ok (51, .pointer (some ⟨pb, 2, none⟩)) w := by kernel_rfl
theorem assert_parcel (v : Value) (w : World) : (Instr.typeAssert (.iface 75 v) 20 75 true).run Try.prog w = .ok (.tuple #[v, .bool true]) w := by kernel_rfl
end Go.Proofs.Ytcadockapeancaa
