/- The readings of this program's own types. -/
import Derived.Test.YtccgaflbhpagcaaDoorRd
namespace Go.Proofs.YtccgaflbhpagcaaDoor
open Go.ChangeShapes Go.WideShapes Go.ChangeAt Go.RowKit
/-- an error of a number: 0 nil -/
def errV (k : Int) : Value := if k = 0 then .nilIface else .iface 24 (.int .i64 k)
theorem errV_ne {k : Int} (h : k ≠ 0) : errV k = .iface 24 (.int .i64 k) := by unfold errV; rw [if_neg h]
theorem errV_zero : errV 0 = .nilIface := rfl
theorem oI : Opens Tryd.prog 3 (rdInt .i64) (fun _ => 1) (fun _ => True) := opens_int Tryd.underlying3 (by kernel_rfl)
abbrev rdInts : Rdr (List Int) := RdSlice 1 (rdInt .i64)
theorem opens_ints : Opens Tryd.prog 26 rdInts (fun xs => bulkL (fun _ => 1) xs + 1) (fun xs => xs.length * 8 ≤ reachBytes ∧ ∀ x ∈ xs, True) :=
  opens_slice oI Tryd.underlying26 (by kernel_rfl) (by kernel_rfl) (by omega) (by kernel_rfl)
abbrev rdLink : Rdr (Int × Int × Int) := RdPair (rdInt .i64) (RdPair (rdInt .i64) (rdInt .i64))
theorem opens_link : Opens Tryd.prog 29 rdLink (fun _ => 4) (fun _ => True ∧ True ∧ True) :=
  opens_struct3 (n0 := 1) (n1 := 1) (n2 := 1) Tryd.underlying29 oI oI oI rfl rfl rfl (by kernel_rfl) (by kernel_rfl) (by kernel_rfl) (by kernel_rfl)
abbrev rdLinks : Rdr (List (Int × Int × Int)) := RdSlice 3 rdLink
theorem opens_links : Opens Tryd.prog 22 rdLinks (fun xs => bulkL (fun _ => 4) xs + 1) (fun xs => xs.length * 24 ≤ reachBytes ∧ ∀ x ∈ xs, True ∧ True ∧ True) :=
  opens_slice opens_link Tryd.underlying22 (by kernel_rfl) (by kernel_rfl) (by omega) (by kernel_rfl)
end Go.Proofs.YtccgaflbhpagcaaDoor
