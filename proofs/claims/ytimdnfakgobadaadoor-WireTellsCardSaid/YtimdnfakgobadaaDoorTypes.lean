/- The readings of this program's own types. -/
import Derived.Test.YtimdnfakgobadaaDoorRd
namespace Go.Proofs.YtimdnfakgobadaaDoor
open Go.ChangeShapes Go.WideShapes Go.ChangeAt Go.RowKit
/-- an error of a number: 0 nil -/
def errV (k : Int) : Value := if k = 0 then .nilIface else .iface 23 (.int .i64 k)
theorem errV_ne {k : Int} (h : k ≠ 0) : errV k = .iface 23 (.int .i64 k) := by unfold errV; rw [if_neg h]
theorem errV_zero : errV 0 = .nilIface := rfl
theorem oI : Opens Tryd.prog 3 (rdInt .i64) (fun _ => 1) (fun _ => True) := opens_int Tryd.underlying3 (by kernel_rfl)
abbrev rdNet : Rdr (Int × Int) := RdPair (rdInt .u32) (rdInt .i64)
theorem opens_net : Opens Tryd.prog 56 rdNet (fun _ => 3) (fun _ => True ∧ True) :=
  opens_struct2 (n0 := 1) (n1 := 1) Tryd.underlying56 (opens_int Tryd.underlying22 (by kernel_rfl)) oI rfl rfl (by kernel_rfl) (by kernel_rfl) (by kernel_rfl)
end Go.Proofs.YtimdnfakgobadaaDoor
