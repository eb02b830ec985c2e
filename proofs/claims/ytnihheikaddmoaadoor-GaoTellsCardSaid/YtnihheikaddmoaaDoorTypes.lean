/- The readings of this program's own types. -/
import Derived.Test.YtnihheikaddmoaaDoorRd
namespace Go.Proofs.YtnihheikaddmoaaDoor
open Go.ChangeShapes Go.WideShapes Go.ChangeAt Go.RowKit
/-- an error of a number: 0 nil -/
def errV (k : Int) : Value := if k = 0 then .nilIface else .iface 28 (.int .i64 k)
theorem errV_ne {k : Int} (h : k ≠ 0) : errV k = .iface 28 (.int .i64 k) := by unfold errV; rw [if_neg h]
theorem errV_zero : errV 0 = .nilIface := rfl
theorem oI : Opens Tryd.prog 3 (rdInt .i64) (fun _ => 1) (fun _ => True) := opens_int Tryd.underlying3 (by kernel_rfl)
abbrev rdInts : Rdr (List Int) := RdSlice 1 (rdInt .i64)
theorem opens_ints : Opens Tryd.prog 24 rdInts (fun xs => bulkL (fun _ => 1) xs + 1) (fun xs => xs.length * 8 ≤ reachBytes ∧ ∀ x ∈ xs, True) :=
  opens_slice oI Tryd.underlying24 (by kernel_rfl) (by kernel_rfl) (by omega) (by kernel_rfl)
abbrev rdInts2 : Rdr (List (List Int)) := RdSlice 1 rdInts
theorem opens_ints2 : Opens Tryd.prog 48 rdInts2 (fun xs => bulkL (fun xs => bulkL (fun _ => 1) xs + 1) xs + 1) (fun xs => xs.length * 24 ≤ reachBytes ∧ ∀ x ∈ xs, x.length * 8 ≤ reachBytes ∧ ∀ y ∈ x, True) :=
  opens_slice opens_ints Tryd.underlying48 (by kernel_rfl) (by kernel_rfl) (by omega) (by kernel_rfl)
abbrev rdDeal : Rdr (Int × Int × Int) := RdPair (rdInt .i64) (RdPair (rdInt .i64) (rdInt .i64))
theorem opens_deal : Opens Tryd.prog 42 rdDeal (fun _ => 4) (fun _ => True ∧ True ∧ True) :=
  opens_struct3 (n0 := 1) (n1 := 1) (n2 := 1) Tryd.underlying42 oI oI oI rfl rfl rfl (by kernel_rfl) (by kernel_rfl) (by kernel_rfl) (by kernel_rfl)
abbrev rdDeals : Rdr (List (Int × Int × Int)) := RdSlice 3 rdDeal
theorem opens_deals : Opens Tryd.prog 22 rdDeals (fun xs => bulkL (fun _ => 4) xs + 1) (fun xs => xs.length * 24 ≤ reachBytes ∧ ∀ x ∈ xs, True ∧ True ∧ True) :=
  opens_slice opens_deal Tryd.underlying22 (by kernel_rfl) (by kernel_rfl) (by omega) (by kernel_rfl)
abbrev rdWay : Rdr (Int × List Int) := RdPair (rdInt .i64) rdInts
theorem opens_way : Opens Tryd.prog 26 rdWay (fun x => 1 + (bulkL (fun _ => 1) x.2 + 1) + 1) (fun x => True ∧ x.2.length * 8 ≤ reachBytes ∧ ∀ y ∈ x.2, True) :=
  opens_struct2 (n0 := 1) (n1 := 1) Tryd.underlying26 oI opens_ints rfl rfl (by kernel_rfl) (by kernel_rfl) (by kernel_rfl)
abbrev rdWays : Rdr (List (Int × List Int)) := RdSlice 2 rdWay
theorem opens_ways : Opens Tryd.prog 23 rdWays (fun xs => bulkL (fun x => 1 + (bulkL (fun _ => 1) x.2 + 1) + 1) xs + 1) (fun xs => xs.length * 32 ≤ reachBytes ∧ ∀ x ∈ xs, True ∧ x.2.length * 8 ≤ reachBytes ∧ ∀ y ∈ x.2, True) :=
  opens_slice opens_way Tryd.underlying23 (by kernel_rfl) (by kernel_rfl) (by omega) (by kernel_rfl)
end Go.Proofs.YtnihheikaddmoaaDoor
