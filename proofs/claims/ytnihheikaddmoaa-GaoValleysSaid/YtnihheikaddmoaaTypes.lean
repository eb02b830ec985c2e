/- The readings of this program's own types. -/
import Derived.Test.YtnihheikaddmoaaRd
namespace Go.Proofs.Ytnihheikaddmoaa
open Go.ChangeShapes Go.WideShapes Go.ChangeAt Go.RowKit
/-- an error of a number: 0 nil -/
def errV (k : Int) : Value := if k = 0 then .nilIface else .iface 45 (.int .i64 k)
theorem errV_ne {k : Int} (h : k ≠ 0) : errV k = .iface 45 (.int .i64 k) := by unfold errV; rw [if_neg h]
theorem errV_zero : errV 0 = .nilIface := rfl
theorem oI : Opens Try.prog 3 (rdInt .i64) (fun _ => 1) (fun _ => True) := opens_int Try.underlying3 (by kernel_rfl)
abbrev rdInts : Rdr (List Int) := RdSlice 1 (rdInt .i64)
theorem opens_ints : Opens Try.prog 29 rdInts (fun xs => bulkL (fun _ => 1) xs + 1) (fun xs => xs.length * 8 ≤ reachBytes ∧ ∀ x ∈ xs, True) :=
  opens_slice oI Try.underlying29 (by kernel_rfl) (by kernel_rfl) (by omega) (by kernel_rfl)
abbrev rdInts2 : Rdr (List (List Int)) := RdSlice 1 rdInts
theorem opens_ints2 : Opens Try.prog 46 rdInts2 (fun xs => bulkL (fun xs => bulkL (fun _ => 1) xs + 1) xs + 1) (fun xs => xs.length * 24 ≤ reachBytes ∧ ∀ x ∈ xs, x.length * 8 ≤ reachBytes ∧ ∀ y ∈ x, True) :=
  opens_slice opens_ints Try.underlying46 (by kernel_rfl) (by kernel_rfl) (by omega) (by kernel_rfl)
abbrev rdDeal : Rdr (Int × Int × Int) := RdPair (rdInt .i64) (RdPair (rdInt .i64) (rdInt .i64))
theorem opens_deal : Opens Try.prog 43 rdDeal (fun _ => 4) (fun _ => True ∧ True ∧ True) :=
  opens_struct3 (n0 := 1) (n1 := 1) (n2 := 1) Try.underlying43 oI oI oI rfl rfl rfl (by kernel_rfl) (by kernel_rfl) (by kernel_rfl) (by kernel_rfl)
abbrev rdDeals : Rdr (List (Int × Int × Int)) := RdSlice 3 rdDeal
theorem opens_deals : Opens Try.prog 22 rdDeals (fun xs => bulkL (fun _ => 4) xs + 1) (fun xs => xs.length * 24 ≤ reachBytes ∧ ∀ x ∈ xs, True ∧ True ∧ True) :=
  opens_slice opens_deal Try.underlying22 (by kernel_rfl) (by kernel_rfl) (by omega) (by kernel_rfl)
abbrev rdWay : Rdr (Int × List Int) := RdPair (rdInt .i64) rdInts
theorem opens_way : Opens Try.prog 31 rdWay (fun x => 1 + (bulkL (fun _ => 1) x.2 + 1) + 1) (fun x => True ∧ x.2.length * 8 ≤ reachBytes ∧ ∀ y ∈ x.2, True) :=
  opens_struct2 (n0 := 1) (n1 := 1) Try.underlying31 oI opens_ints rfl rfl (by kernel_rfl) (by kernel_rfl) (by kernel_rfl)
abbrev rdWays : Rdr (List (Int × List Int)) := RdSlice 2 rdWay
theorem opens_ways : Opens Try.prog 24 rdWays (fun xs => bulkL (fun x => 1 + (bulkL (fun _ => 1) x.2 + 1) + 1) xs + 1) (fun xs => xs.length * 32 ≤ reachBytes ∧ ∀ x ∈ xs, True ∧ x.2.length * 8 ≤ reachBytes ∧ ∀ y ∈ x.2, True) :=
  opens_slice opens_way Try.underlying24 (by kernel_rfl) (by kernel_rfl) (by omega) (by kernel_rfl)
end Go.Proofs.Ytnihheikaddmoaa
