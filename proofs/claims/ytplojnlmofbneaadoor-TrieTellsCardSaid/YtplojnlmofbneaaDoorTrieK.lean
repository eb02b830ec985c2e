/- What the laws on tables share: blocks of the law's own beside the table; waywardensame.Told. -/
import Derived.Test.YtplojnlmofbneaaDoorTrieG
import Derived.Test.YtplojnlmofbneaaDoorNetsS
import Derived.Test.YtplojnlmofbneaaDoorErr
import Derived.Lib.QuietBelow
namespace Go.Proofs.YtplojnlmofbneaaDoor
open Go.ChangeShapes Go.WideShapes Go.ChangeAt Go.RowKit
set_option linter.unusedVariables false
set_option linter.unusedSimpArgs false
theorem Told2_any (k k' : Int) (w : World) (hg : HErr w) :
    Calls Tryd.prog 13 #[errV k, errV k'] w fun v w' => v = .returned (.bool (k == k')) ∧ Below w.heap.size w w' := by
  have HG := Lib.hid hg
  clear hg
  go_enter Tryd.func13, Tryd.ntmps13
  go_wp2_with fail
  (with_reducible refine (Told_any k _ HG.out).mono ?_)
  rintro v w1 ⟨rfl, hb1⟩
  have HG1 := Lib.hid (HG.out.below hb1)
  have HB1 := Lib.hid hb1
  clear hb1
  go_wp2_with fail
  (with_reducible refine (Told_any k' _ HG1.out).mono ?_)
  rintro v w2 ⟨rfl, hb2⟩
  have HB2 := Lib.hid (HB1.out.trans (hb2.mono HB1.out.size))
  clear hb2
  go_wp2
  go_ret
  exact ⟨rfl, HB2.out⟩
/-- what is found, in one form -/
def fX (a : Int) (r : Option (Nat × Int)) : Int := match r with | none => 0 | some p => fl (lowI p.1) a
def fY (r : Option (Nat × Int)) : Int := match r with | none => 0 | some p => (p.1 : Int)
def fW (r : Option (Nat × Int)) : Int := match r with | none => 0 | some p => p.2
def fE (r : Option (Nat × Int)) : Int := match r with | none => 2 | some _ => 0
theorem findV_u (a : Int) (r : Option (Nat × Int)) : findV a r = .tuple #[.agg #[.int .u32 (fX a r), .int .i64 (fY r)], .int .i64 (fW r), errV (fE r)] := by
  cases r <;> rfl
theorem Tk.new' {W w : World} (hb : Below W.heap.size W w) (S : Nat → Prop) (hS : ∀ g, S g → g < w.heap.size) : Tk W w.heap.size [] S (w.alloc (.cells #[.bool false, .int .i64 0, .pointer none, .pointer none, .int .i64 0] 75)) := by
  obtain ⟨⟨N, hT, _⟩, _⟩ := Tk.new w
  have hN : ∀ x b, N x = some b → b = w.heap.size := by
    intro x b hx
    have h1 := hT.base x b hx
    have h2 := hT.lt hx
    simp at h2; omega
  refine ⟨⟨N, ⟨hT.ok, hT.root, hT.dom, fun x b hx => by have := hT.base x b hx; have := hb.size; omega, hT.inj, hT.up, hT.has, hT.node⟩, fun g hg => ⟨by have := hS g hg; simp; omega, fun x hx => by have := hN x g hx; have := hS g hg; omega⟩⟩, hb.alloc hb.size _⟩
theorem New_s {W w : World} (hb : Below W.heap.size W w) (S : Nat → Prop) (hS : ∀ g, S g → g < w.heap.size) :
    Calls Tryd.prog 9 #[] w fun e w' => e = .returned (.pointer (some ⟨w.heap.size, 0, none⟩)) ∧ Tk W w.heap.size [] S w' ∧ Below w.heap.size w w' :=
  (New_any w).mono fun e w' hh => ⟨hh.1, by rw [hh.2]; exact Tk.new' hb S hS, by rw [hh.2]; exact below_1 _ _⟩
theorem KeptS.blk {S : Nat → Prop} {w w' : World} (h : KeptS S w w') {g : Nat} {o : Obj} (hg : S g) (ho : w.heap[g]? = some o) : w'.heap[g]? = some o := (h g hg).trans ho
theorem KeptS.rd {S : Nat → Prop} {w w' : World} (h : KeptS S w w') {α : Type} {rd : Rdr α} [RdLaw rd] {cs : List Value} {x : α} (hr : rd w S cs x) : rd w' S cs x :=
  RdLaw.keep hr fun p hp => World.cell?_of_block (h p.block hp)
theorem OwnN.readS {w : World} {base : Nat} {v : Value} {xs : List Nt} (h : OwnN w base v xs) {S : Nat → Prop} (hS : ∀ g, base ≤ g → g < w.heap.size → S g) : rdNets w S [v] xs := by
  obtain ⟨A, c, rfl⟩ := h.form
  refine RdSlice.of_own (xs := xs) h.1 rfl (fun g hg => hS g (own_blk h.1 g hg).1 (own_blk h.1 g hg).2) (fun i x hi => ⟨nC x, rfl, rd_nC (h.2 x (List.mem_of_getElem? hi)), fun j u hu => ?_⟩)
  have hj : j < 2 := by have := (List.getElem?_eq_some_iff.1 hu).1; simpa [nC] using this
  rw [nC_at xs i j x hi hj]; exact hu
theorem drop_get {α : Type} {l : List α} {k : Nat} {x : α} (h : l[k]? = some x) : l.drop k = x :: l.drop (k + 1) := by
  obtain ⟨hk, rfl⟩ := List.getElem?_eq_some_iff.1 h
  exact List.drop_eq_getElem_cons hk
theorem sl_form {w : World} {ok : Nat → Prop} {A : Option Addr} {n c : Nat} {l : List Nt} (h : rdNets w ok [.slice A n c] l) : l.length = n := (RdSlice.len h).1.symm
end Go.Proofs.YtplojnlmofbneaaDoor
