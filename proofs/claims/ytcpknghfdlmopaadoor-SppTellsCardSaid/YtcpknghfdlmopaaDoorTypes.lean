/- The readings of this program's own types. -/
import Derived.Test.YtcpknghfdlmopaaDoorRd
namespace Go.Proofs.YtcpknghfdlmopaaDoor
open Go.ChangeShapes Go.WideShapes Go.ChangeAt Go.RowKit
/-- an error of a number: 0 nil -/
def errV (k : Int) : Value := if k = 0 then .nilIface else .iface 26 (.int .i64 k)
theorem errV_ne {k : Int} (h : k ≠ 0) : errV k = .iface 26 (.int .i64 k) := by unfold errV; rw [if_neg h]
theorem errV_zero : errV 0 = .nilIface := rfl
theorem oI : Opens Tryd.prog 3 (rdInt .i64) (fun _ => 1) (fun _ => True) := opens_int Tryd.underlying3 (by kernel_rfl)
abbrev rdInts : Rdr (List Int) := RdSlice 1 (rdInt .i64)
theorem opens_ints : Opens Tryd.prog 24 rdInts (fun xs => bulkL (fun _ => 1) xs + 1) (fun xs => xs.length * 8 ≤ reachBytes ∧ ∀ x ∈ xs, True) :=
  opens_slice oI Tryd.underlying24 (by kernel_rfl) (by kernel_rfl) (by omega) (by kernel_rfl)
abbrev rdInts2 : Rdr (List (List Int)) := RdSlice 1 rdInts
theorem opens_ints2 : Opens Tryd.prog 23 rdInts2 (fun xs => bulkL (fun xs => bulkL (fun _ => 1) xs + 1) xs + 1) (fun xs => xs.length * 24 ≤ reachBytes ∧ ∀ x ∈ xs, x.length * 8 ≤ reachBytes ∧ ∀ y ∈ x, True) :=
  opens_slice opens_ints Tryd.underlying23 (by kernel_rfl) (by kernel_rfl) (by omega) (by kernel_rfl)
abbrev rdInts3 : Rdr (List (List (List Int))) := RdSlice 1 rdInts2
theorem opens_ints3 : Opens Tryd.prog 22 rdInts3 (fun xs => bulkL (fun xs => bulkL (fun xs => bulkL (fun _ => 1) xs + 1) xs + 1) xs + 1) (fun xs => xs.length * 24 ≤ reachBytes ∧ ∀ x ∈ xs, x.length * 24 ≤ reachBytes ∧ ∀ y ∈ x, y.length * 8 ≤ reachBytes ∧ ∀ z ∈ y, True) :=
  opens_slice opens_ints2 Tryd.underlying22 (by kernel_rfl) (by kernel_rfl) (by omega) (by kernel_rfl)
end Go.Proofs.YtcpknghfdlmopaaDoor
