/- span.Tree. -/
import Derived.Test.YtccgaflbhpagcaaDoorTreeC
namespace Go.Proofs.YtccgaflbhpagcaaDoor
open Go.ChangeShapes Go.WideShapes Go.ChangeAt Go.RowKit Sp
set_option linter.unusedVariables false
set_option linter.unusedSimpArgs false
set_option maxRecDepth 100000 in
theorem Tree_no {w : World} {n k : Int} {A : Option Addr} {c m : Nat} {l : List Lnk} (hl : R1 rdLinks w (.slice A m c) l) (hr : l.length * 24 ≤ 140737488351232) (hg : graphE n l = k) (h0 : k ≠ 0) :
    Calls Tryd.prog 12 #[.int .i64 n, .slice A m c] w fun e w' => e = .returned (.tuple #[.slice none 0 0, .iface 24 (.int .i64 k)]) ∧ Below w.heap.size w w' := by
  have HL := Lib.hid hl
  have HG := Lib.hid hg
  clear hl hg
  go_enter Tryd.func12, Tryd.ntmps12
  go_wp2_with fail
  go_at_call 11
  (with_reducible refine (Ups_no HL.out hr HG.out h0).mono ?_)
  rintro e w1 ⟨rfl, hb⟩
  go_wp2
  go_ret2
  exact ⟨rfl, hb.alloc hb.size _⟩
def TreePost (w : World) (n : Nat) (l : List Lnk) (e : Ending) (w' : World) : Prop := ∃ v B, e = .returned (.tuple #[v, .nilIface]) ∧ R1 (RdSlice 3 rdT) w' v (treeOf B l) ∧ Last n (arcsOf l) B ∧ Below w.heap.size w w'
set_option maxRecDepth 100000 in
set_option maxHeartbeats 2000000 in
theorem Tree_yes {w : World} {n : Nat} {A : Option Addr} {c m : Nat} {l : List Lnk} (hl : R1 rdLinks w (.slice A m c) l) (hok : OkL n l) (h1 : 1 ≤ n) (h8 : n ≤ 8) :
    Calls Tryd.prog 12 #[.int .i64 n, .slice A m c] w (TreePost w n l) := by
  have HL := Lib.hid hl
  have HOK := Lib.hid hok
  have h64 := len64 hok h8
  have hlen : l.length ≤ 5864062014000 := by omega
  clear hl hok
  go_enter Tryd.func12, Tryd.ntmps12
  go_wp2_with fail
  go_at_call 11
  (with_reducible refine (Ups_yes HL.out HOK.out h1 h8).mono ?_)
  rintro e w1 ⟨v, B, rfl, hv, hlast, hb⟩
  have hBl := (hlast.inv (ok_arcs HOK.out)).len
  obtain ⟨A2, c2, rfl⟩ := hv.form
  rw [List.length_map, hBl] at hv ⊢
  have HV := Lib.hid hv
  have HLA := Lib.hid hlast
  have HB1 := Lib.hid (hb.alloc hb.size (.cells #[.slice A2 n c2] 26))
  have HL1 := Lib.hid ((HL.out.below hb).alloc (.cells #[.slice A2 n c2] 26))
  have s1 := HB1.out.size
  clear hv hlast hb hBl
  go_wp2_with fail
  go_at_call 19
  (with_reducible refine (Clone_any HL1.out hlen).mono ?_)
  rintro e w2 ⟨v2, rfl, hown, hb2⟩
  obtain ⟨A3, c3, rfl⟩ := own_form hown.1
  obtain ⟨M, hM⟩ : ∃ M, l.length = M := ⟨_, rfl⟩
  rw [hM] at hown ⊢
  have HB2 := Lib.hid (HB1.out.trans (hb2.mono s1))
  have HO2 := Lib.hid hown
  have hcap : Cap w2 (w1.heap.size + 1) w1.heap.size A2 n c2 B := by
    have hx := below_block hb2 (by simp) (heap_alloc_new w1 (.cells #[.slice A2 n c2] 26))
    refine ⟨by omega, by have := hb2.size; simpa using this, by rw [cell_of_row _ _ _ _ _ (0, 0) hx]; rfl, ?_⟩
    have h2 := (HV.out.alloc (.cells #[.slice A2 n c2] 26)).below hb2
    have h3 : RdSlice 1 (rdInt .i64) w2 (· < w1.heap.size) [.slice A2 n c2] (B.map fun x => x.2.2) := RdLaw.keep HV.out (fun p hp => by
      rw [hb2.cell (by simp; omega)]
      exact ((Below.refl w1.heap.size w1).alloc (Nat.le_refl _) _).cell hp)
    exact RdLaw.mono h3 (fun b hb => Nat.lt_succ_of_lt hb)
  have HCAP := Lib.hid hcap
  have HIN := Lib.hid (show ∀ x ∈ l, InL n x from fun x hx => by have := HOK.out.rng x hx; unfold InL; omega)
  have s2 : w.heap.size ≤ w1.heap.size + 1 := by simpa using s1
  have HO3 : Hid (OwnT 29 w2 (w1.heap.size + 1) (.slice A3 M c3) l) := Lib.hid (by have := HO2.out; rw [World.size_alloc] at this; exact this)
  clear hown hb2 hM hcap HO2
  go_wp2_with fail
  go_at_call 18
  (with_reducible refine (DeleteFunc_tree HCAP.out HO3.out HIN.out).mono ?_)
  rintro e w3 ⟨v3, rfl, hown3, hb3⟩
  have HO4 := Lib.hid hown3
  have HB3 := Lib.hid (HB2.out.trans (hb3.mono s2))
  clear hown3 hb3
  go_wp2
  go_ret2
  exact ⟨_, B, rfl, HO4.out.read, HLA.out, HB3.out⟩
end Go.Proofs.YtccgaflbhpagcaaDoor
