/- Rows that list tables, sentinels and the library's type of errors: what they give, and a world that meets them. -/
import Derived.Test.YtohfeoahdbfjbaaGreatDoorHandF
import Derived.Test.YtohfeoahdbfjbaaGreatDoorHandle
namespace Go.Proofs.YtohfeoahdbfjbaaGreatDoor
open Go.ChangeShapes Go.WideShapes Go.RowKit
theorem handle_part {W : World} {l : List (String × DataW Unit)} (h : laidMetH Tryz.prog l W) (hh : (l.filter fun x => x.1 == "errors.errorType") = [("errors.errorType", Rows.laid_errors_errorType)]) : HErr W := by
  have h1 := h.filter (fun x => x.1 == "errors.errorType")
  rw [hh] at h1
  exact handle_of_laid h1
theorem laidMet_on {P : Program} {w0 : World} {laid : List (String × DataW Unit)} (args : Array Value) (hf : w0.layFits P laid [] = true) (hi : w0.layIfaces P laid (w0.layVars P laid) = true) :
    laidMet P laid ((w0.layVars P laid).forCall (fun _ _ => 0) ⟨#[], args, []⟩).memory := by
  have e1 : (laid.filter fun x => (laid.map (·.1)).contains x.1) = laid := List.filter_eq_self.2 fun x hx => List.contains_iff_mem.2 (List.mem_map.2 ⟨x, hx, rfl⟩)
  have e2 : (laid.filter fun x => !(laid.map (·.1)).contains x.1) = [] := List.filter_eq_nil_iff.2 fun x hx => by rw [List.contains_iff_mem.2 (List.mem_map.2 ⟨x, hx, rfl⟩)]; simp
  have h : laidMet P laid (w0.layVars P laid) := laidMet_layVars (w0 := w0) (laid.map (·.1)) [] (by rw [e1]) (by rw [e1]; exact hf) (by rw [e1]; exact hi) (by rw [e2]; exact LaidIn.none)
  exact h.of_heap (by simp [World.memory, World.forCall, Input.heap])
end Go.Proofs.YtohfeoahdbfjbaaGreatDoor
