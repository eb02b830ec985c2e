/- The readings of this program's own types. -/
import Derived.Test.YtcpknghfdlmopaaRd
namespace Go.Proofs.Ytcpknghfdlmopaa
open Go.ChangeShapes Go.WideShapes Go.ChangeAt Go.RowKit
theorem oI : Opens Try.prog 3 (rdInt .i64) (fun _ => 1) (fun _ => True) := opens_int Try.underlying3 (by kernel_rfl)
abbrev rdInts : Rdr (List Int) := RdSlice 1 (rdInt .i64)
theorem opens_ints : Opens Try.prog 23 rdInts (fun xs => bulkL (fun _ => 1) xs + 1) (fun xs => xs.length * 8 ≤ reachBytes ∧ ∀ x ∈ xs, True) :=
  opens_slice oI Try.underlying23 (by kernel_rfl) (by kernel_rfl) (by omega) (by kernel_rfl)
abbrev rdInts2 : Rdr (List (List Int)) := RdSlice 1 rdInts
theorem opens_ints2 : Opens Try.prog 22 rdInts2 (fun xs => bulkL (fun xs => bulkL (fun _ => 1) xs + 1) xs + 1) (fun xs => xs.length * 24 ≤ reachBytes ∧ ∀ x ∈ xs, x.length * 8 ≤ reachBytes ∧ ∀ y ∈ x, True) :=
  opens_slice opens_ints Try.underlying22 (by kernel_rfl) (by kernel_rfl) (by omega) (by kernel_rfl)
abbrev rdInts3 : Rdr (List (List (List Int))) := RdSlice 1 rdInts2
theorem opens_ints3 : Opens Try.prog 25 rdInts3 (fun xs => bulkL (fun xs => bulkL (fun xs => bulkL (fun _ => 1) xs + 1) xs + 1) xs + 1) (fun xs => xs.length * 24 ≤ reachBytes ∧ ∀ x ∈ xs, x.length * 24 ≤ reachBytes ∧ ∀ y ∈ x, y.length * 8 ≤ reachBytes ∧ ∀ z ∈ y, True) :=
  opens_slice opens_ints2 Try.underlying25 (by kernel_rfl) (by kernel_rfl) (by omega) (by kernel_rfl)
end Go.Proofs.Ytcpknghfdlmopaa
