/- What the rows' listed variables give the walks over texts. -/
import Derived.Test.YtohfeoahdbfjbaaGreatDoorTextC
import Derived.LaidSub
import Derived.MakeChecks
import Derived.Stop.LaidErr
import Derived.Lay
namespace Go.Proofs.YtohfeoahdbfjbaaGreatDoor
open Go.ChangeShapes Go.WideShapes Go.RowKit
theorem E.star : "*" ++ "errors.errorString" = "*errors.errorString" := by decide
theorem E.rowES (u : TypeId) (h : Tryz.prog.typeName? 3 u = some "*errors.errorString") : u = 132 :=
  typeName_ptr_named (nm := "errors.errorString") (by rw [E.star]; kernel_rfl) (by kernel_rfl) (by decide) u (by rw [E.star]; exact h)
theorem E.cellsES : Tryz.prog.cellsOf 134 = 1 := by kernel_rfl
theorem E.cellsStr : Tryz.prog.cellsOf 9 = 1 := by kernel_rfl
theorem sentinel_of {n : String} {text : List UInt8} {W : World} {g : Nat} (hg : Tryz.prog.globalNamed n = some g) (ht : (Tryz.prog.globals[g]?).map (·.type) = some 30)
    (h : laidMet Tryz.prog [(n, .iface "*errors.errorString" (.ptr (.agg [.lit (.string text)])))] W) : ∃ t p, W.var? Tryz.prog n = some #[.iface t p] := by
  obtain ⟨a, s, hv, _⟩ := laid_sentinel h hg ht Tryz.underlying30 E.rowES Tryz.underlying132 Tryz.underlying134 rfl rfl Tryz.underlying9 E.cellsES E.cellsStr
  exact ⟨_, _, hv⟩
theorem hstr_of_laid {W : World} {l : List (String × DataW Unit)} {t1 t2 : List UInt8} (h : laidMetH Tryz.prog l W) (hS : W.ShapedOpen Tryz.prog) (hp : (l.all fun x => x.2.handleName?.isNone) = true)
    (h1 : (l.filter fun x => x.1 == "internal/strconv.uint64pow10") = [("internal/strconv.uint64pow10", Lib.tabData .u64 Lib.pow10Tab)])
    (h2 : (l.filter fun x => x.1 == "strconv.ErrSyntax") = [("strconv.ErrSyntax", .iface "*errors.errorString" (.ptr (.agg [.lit (.string t1)])))])
    (h3 : (l.filter fun x => x.1 == "strconv.ErrRange") = [("strconv.ErrRange", .iface "*errors.errorString" (.ptr (.agg [.lit (.string t2)])))]) : HStr W := by
  rw [MakeChecks.laidMetH_plain _ _ _ hp] at h
  have f1 := h.filter (fun x => x.1 == "internal/strconv.uint64pow10")
  have f2 := h.filter (fun x => x.1 == "strconv.ErrSyntax")
  have f3 := h.filter (fun x => x.1 == "strconv.ErrRange")
  rw [h1] at f1
  rw [h2] at f2
  rw [h3] at f3
  exact ⟨Lib.tabIs_of_head (by kernel_rfl : Tryz.prog.globalNamed "internal/strconv.uint64pow10" = some 4) (by kernel_rfl) Tryz.underlying138 Tryz.underlying113 (by kernel_rfl) (by kernel_rfl) f1,
    Tryz.laysM145.s1_3 W hS,
    sentinel_of (by kernel_rfl : Tryz.prog.globalNamed "strconv.ErrSyntax" = some 2) (by kernel_rfl) f2,
    sentinel_of (by kernel_rfl : Tryz.prog.globalNamed "strconv.ErrRange" = some 3) (by kernel_rfl) f3⟩
end Go.Proofs.YtohfeoahdbfjbaaGreatDoor
