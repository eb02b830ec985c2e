/- span.Ups. -/
import Derived.Test.YtccgaflbhpagcaaDoorRoots
import Derived.Test.YtccgaflbhpagcaaDoorOwnI
namespace Go.Proofs.YtccgaflbhpagcaaDoor
open Go.ChangeShapes Go.WideShapes Go.ChangeAt Go.RowKit Sp
set_option linter.unusedVariables false
set_option linter.unusedSimpArgs false
set_option maxRecDepth 100000 in
theorem Ups_no {w : World} {n k : Int} {A : Option Addr} {c m : Nat} {l : List Lnk} (hl : R1 rdLinks w (.slice A m c) l) (hr : l.length * 24 ≤ 140737488351232) (hg : graphE n l = k) (h0 : k ≠ 0) :
    Calls Tryd.prog 11 #[.int .i64 n, .slice A m c] w fun e w' => e = .returned (.tuple #[.slice none 0 0, .iface 24 (.int .i64 k)]) ∧ Below w.heap.size w w' := by
  have HL := Lib.hid hl
  have HG := Lib.hid hg
  clear hl hg
  go_enter Tryd.func11, Tryd.ntmps11
  go_wp2_with (first
    | (go_at_call 16; (with_reducible refine (beliefs_no HL.out hr HG.out h0).mono ?_); rintro e w1 ⟨rfl, hb⟩)
    | fail)
  go_ret2
  exact ⟨rfl, hb⟩
def UpsPost (w : World) (n : Nat) (l : List Lnk) (e : Ending) (w' : World) : Prop := ∃ v B, e = .returned (.tuple #[v, .nilIface]) ∧ R1 (RdSlice 1 (rdInt .i64)) w' v (B.map fun x => x.2.2) ∧ Last n (arcsOf l) B ∧ Below w.heap.size w w'
set_option maxRecDepth 100000 in
set_option maxHeartbeats 2000000 in
theorem Ups_yes {w : World} {n : Nat} {A : Option Addr} {c m : Nat} {l : List Lnk} (hl : R1 rdLinks w (.slice A m c) l) (hok : OkL n l) (h1 : 1 ≤ n) (h8 : n ≤ 8) :
    Calls Tryd.prog 11 #[.int .i64 n, .slice A m c] w (UpsPost w n l) := by
  have HL := Lib.hid hl
  have HOK := Lib.hid hok
  clear hl hok
  go_enter Tryd.func11, Tryd.ntmps11
  go_wp2_with fail
  go_at_call 16
  (with_reducible refine (beliefs_yes HL.out HOK.out h1 h8).mono ?_)
  rintro e w1 ⟨v, B, rfl, hv, hlast, hb⟩
  obtain ⟨A1, c1, rfl⟩ := hv.form
  obtain ⟨M, hM⟩ : ∃ M, B.length = M := ⟨_, rfl⟩
  rw [hM] at hv ⊢
  have HV := Lib.hid hv
  have HLA := Lib.hid hlast
  have HB1 := Lib.hid hb
  have s1 := hb.size
  have HM := Lib.hid hM
  have hMn : M ≤ 8 := by (have := (HLA.out.inv (ok_arcs HOK.out)).len; omega)
  clear hv hlast hb hM
  go_wp2
  go_loopw [8, 22] (fun v t wr => ∃ k : Nat, k ≤ M ∧ t = .int .i64 k ∧ OwnI 3 wr w1.heap.size v ((B.take k).map fun x => x.2.2) ∧ Below w1.heap.size w1 wr)
    (fun _ t _ => M - (intOf t).toNat)
  case atStart => exact ⟨0, Nat.zero_le _, rfl, OwnI.nil_ _ _ _, Below.refl _ _⟩
  case round =>
    obtain ⟨k, hk, rfl, hown, hb⟩ := hrel
    have HOWN := Lib.hid hown
    have HB := Lib.hid hb
    have s3 := hb.size
    clear hown hb
    by_cases hlt : k < M
    · obtain ⟨b, o, x, y, z, rfl, hbb, HX, ⟨wx, wy, wz⟩, d0, d1, d2⟩ := RdSlice.atL HV.out hlt
      have c0 := (HB.out.cell hbb).trans d0
      have c1 := (HB.out.cell hbb).trans d1
      have c2 := (HB.out.cell hbb).trans d2
      have HW := Lib.hid wz
      have hlen : ((B.take k).map fun x => x.2.2).length ≤ 5864062014000 := by rw [List.length_map, List.length_take]; omega
      clear d0 d1 d2 wx wy wz
      go_wp2_with (first
        | (at_builtin; go_loud (refine wpList_append_int rfl _ _ 26 3 Tryd.underlying26 int_info rfl w1.heap.size _ _ rfl ((HOWN.out.alloc _).alloc _) (wr.heap.size + 1) z 3 rfl (by have := heap_alloc_new (wr.alloc (.cells #[.int .i64 x, .int .i64 y, .int .i64 z] 47 (0, 0))) (.cells #[.int .i64 z] 3 (0, 0)); rw [World.size_alloc] at this; exact this) HW.out hlen (by simp; omega) ?_); intro v' w2 hown2 hgrow2)
        | go_in)
      have s2 := hgrow2.size
      simp at s2
      go_roundw
      case rel =>
        refine ⟨k + 1, by omega, by go_num, ?_, ?_⟩
        · rw [List.take_add_one, HX.out, List.map_append]
          exact hown2
        · exact hgrow2.below ((HB.out.alloc s3 _).alloc (by simp; omega) _) ((HOWN.out.alloc _).alloc _).1 (Nat.le_refl _) (by simp; omega)
      case measure => simp [intOf]; omega
    · have ek : k = M := by omega
      subst ek
      have e : B.take k = B := List.take_of_length_le (by rw [HM.out]; exact Nat.le_refl _)
      have HE := Lib.hid e
      clear e
      go_wp2
      go_ret2
      exact ⟨_, B, rfl, by have := HOWN.out.read; rw [HE.out] at this; exact this, HLA.out, HB1.out.trans (HB.out.mono s1)⟩
end Go.Proofs.YtccgaflbhpagcaaDoor
