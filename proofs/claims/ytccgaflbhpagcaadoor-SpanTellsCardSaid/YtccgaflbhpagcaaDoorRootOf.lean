/- waywardenref2.RootOf. -/
import Derived.Test.YtccgaflbhpagcaaDoorSpanR
import Derived.Test.YtccgaflbhpagcaaDoorBlkL
import Derived.Test.YtccgaflbhpagcaaDoorInts
namespace Go.Proofs.YtccgaflbhpagcaaDoor
open Go.ChangeShapes Go.WideShapes Go.ChangeAt Go.RowKit Sp
set_option linter.unusedVariables false
set_option linter.unusedSimpArgs false
theorem bool_info : (Tryd.prog.info? 4).map (fun i => (i.zero, i.size, i.bytes)) = some (some (.bool false), 1, 1) := by kernel_rfl
def bL (R : List Bool) : List Value := R.map Value.bool
theorem bL_get {R : List Bool} {i : Nat} (h : i < R.length) : (bL R)[i]? = some (.bool (rGet R i)) := by
  unfold bL rGet; rw [List.getElem?_map, List.getD_eq_getElem?_getD, List.getElem?_eq_getElem h]; rfl
theorem bL_set (R : List Bool) (i : Nat) (b : Bool) : (bL R).set i (.bool b) = bL (R.set i b) := by unfold bL; rw [List.map_set]
theorem bL_rep (n : Nat) : List.replicate n (Value.bool false) = bL (List.replicate n false) := by unfold bL; rw [List.map_replicate]
theorem reachS_no {R : List Bool} {a b : Nat} {c : Int} (h1 : rGet R a = false) (h2 : rGet R b = false) : reachS R ((a : Int), (b : Int), c) = R := by
  unfold reachS; simp only [Int.toNat_natCast, h1, h2]; rfl
theorem reachS_yes {R : List Bool} {a b : Nat} {c : Int} (h : (rGet R a || rGet R b) = true) : reachS R ((a : Int), (b : Int), c) = (R.set a true).set b true := by
  unfold reachS; simp only [Int.toNat_natCast, h, if_true]
def rdB (l : List Lnk) (k : Nat) (R0 : List Bool) : List Bool := (l.take k).foldl reachS R0
theorem rdB_snoc {l : List Lnk} {k : Nat} {x : Lnk} (h : l[k]? = some x) (R0 : List Bool) : rdB l (k + 1) R0 = reachS (rdB l k R0) x := by
  unfold rdB; rw [take_succ_of h, List.foldl_append]; rfl
theorem rdB_len (l : List Lnk) (k : Nat) (R0 : List Bool) : (rdB l k R0).length = R0.length := by
  unfold rdB
  generalize l.take k = m
  induction m generalizing R0 with
  | nil => rfl
  | cons x m ih => rw [List.foldl_cons, ih, len_reachS]
set_option maxRecDepth 100000 in
set_option maxHeartbeats 4000000 in
theorem RootOf_any {w : World} {n i : Nat} {A : Option Addr} {m c : Nat} {l : List Lnk} {B : List Bel} (hl : R1 rdLinks w (.slice A m c) l) (hok : OkL n l) (hf : Fin n (arcsOf l) B) (hi : i < n) (h8 : n ≤ 8) :
    Calls Tryd.prog 6 #[.int .i64 n, .slice A m c, .int .i64 i] w fun e w' => e = .returned (.int .i64 (at_ B i).1) ∧ Below w.heap.size w w' := by
  obtain ⟨hm, hle, hcm⟩ := RdSlice.len hl
  have hm0 : m ≤ 9223372036854775807 := by unfold maxLen at hcm; omega
  have HL := Lib.hid hl
  have HM := Lib.hid hm
  have HOK := Lib.hid hok
  have HF := Lib.hid hf
  have hmk := run_make_list (P := Tryd.prog) 40 4 _ 1 Tryd.underlying40 bool_info rfl n (by omega) (by omega)
  have hst := fun W : World => (Blk.new W 4 (List.replicate n (Value.bool false))).get (i := i) (v := .bool false) (by simp [hi])
  clear hl hm hle hcm hok hf
  go_enter Tryd.func6, Tryd.ntmps6
  go_wp2
  go_loopw [8] (fun t wr => ∃ (k : Nat) (R : List Bool), k ≤ n ∧ t = .int .i64 k ∧ Rch n B i k R ∧ Blk wr w.heap.size 4 (bL R) ∧ Below w.heap.size w wr) (fun t _ => n - (intOf t).toNat)
  case atStart =>
    refine ⟨0, _, Nat.zero_le _, rfl, Rch.start hi, ?_, ?_⟩
    · rw [← bL_set, ← bL_rep]
      first
        | exact (Blk.new w 4 (List.replicate n (Value.bool false))).set i (.bool true)
        | (unfold Blk; refine (heap_alloc_new w _).trans ?_; simp; apply Array.ext'; simp)
    · first
        | exact ((Below.refl _ _).alloc (Nat.le_refl _) _).setCell (Nat.le_refl _) _
        | exact (Below.refl _ _).alloc (Nat.le_refl _) _
  case round =>
    obtain ⟨k, R, hk, rfl, hrch, hblk, hb⟩ := hrel
    have HR := Lib.hid hrch
    have HBK := Lib.hid hblk
    have HB := Lib.hid hb
    have hRl := hrch.len
    have HRL := Lib.hid hRl
    have s1 := hblk.lt
    clear hrch hblk hb hmk hst hRl
    by_cases hlt : k < n
    · go_wp2
      go_loopw [9] (fun t wr => ∃ j : Nat, j ≤ m ∧ t = .int .i64 j ∧ Blk wr w.heap.size 4 (bL (rdB l j R)) ∧ Below w.heap.size w wr) (fun t _ => m - (intOf t).toNat)
      case atStart => exact ⟨0, Nat.zero_le _, rfl, HBK.out, HB.out⟩
      case round =>
        obtain ⟨j, hj, rfl, hblk, hb⟩ := hrel
        have HBJ := Lib.hid hblk
        have HBB := Lib.hid hb
        clear hblk hb
        by_cases hlt2 : j < m
        · obtain ⟨g, o, x0, x1, z, rfl, hbb, HX, -, d0, d1, d2⟩ := RdSlice.atL HL.out hlt2
          have hrg := HOK.out.rng _ (List.mem_of_getElem? HX.out)
          simp only at hrg
          obtain ⟨a, rfl⟩ := Int.eq_ofNat_of_zero_le hrg.1
          obtain ⟨b, rfl⟩ := Int.eq_ofNat_of_zero_le hrg.2.2.1
          have ha : a < n := by omega
          have hb' : b < n := by omega
          have hne : ¬ a = b := by have := hrg.2.2.2.2.2.2; omega
          have c0 := (HBB.out.cell hbb).trans d0
          have c1 := (HBB.out.cell hbb).trans d1
          have hgne : ¬ g = w.heap.size := by have : g < w.heap.size := hbb; omega
          have k0 := HBJ.out.get (bL_get (i := a) (by rw [rdB_len, HRL.out]; exact ha))
          have k1 := HBJ.out.get (bL_get (i := b) (by rw [rdB_len, HRL.out]; exact hb'))
          have f0 := HBJ.out.free a
          have f1 := HBJ.out.free b
          have HS := Lib.hid (rdB_snoc HX.out R)
          clear hrg d0 d1 d2
          obtain ⟨p, hp⟩ : ∃ p, rGet (rdB l j R) a = p := ⟨_, rfl⟩
          obtain ⟨q, hq⟩ : ∃ q, rGet (rdB l j R) b = q := ⟨_, rfl⟩
          rw [hp] at k0
          rw [hq] at k1
          have HP := Lib.hid hp
          have HQ := Lib.hid hq
          clear hp hq
          have i0 : (0 : Int) ≤ (j : Int) := by omega
          have i1 : (j : Int) < (m : Int) := by omega
          cases p
          · cases q
            · have HT := Lib.hid (HS.out.trans (reachS_no HP.out HQ.out))
              go_wp2
              go_roundw
              case rel => exact ⟨j + 1, by omega, by go_num, by rw [HT.out]; exact HBJ.out, HBB.out⟩
              case measure => simp [intOf]; omega
            · have HT := Lib.hid (HS.out.trans (reachS_yes (by rw [HP.out, HQ.out]; rfl)))
              go_wp2
              go_roundw
              case rel => exact ⟨j + 1, by omega, by go_num, by rw [HT.out, ← bL_set, ← bL_set]; exact (HBJ.out.set a _).set b _, (HBB.out.setCell (Nat.le_refl _) _).setCell (Nat.le_refl _) _⟩
              case measure => simp [intOf]; omega
          · have HT := Lib.hid (HS.out.trans (reachS_yes (by rw [HP.out]; rfl)))
            go_wp2
            go_roundw
            case rel => exact ⟨j + 1, by omega, by go_num, by rw [HT.out, ← bL_set, ← bL_set]; exact (HBJ.out.set a _).set b _, (HBB.out.setCell (Nat.le_refl _) _).setCell (Nat.le_refl _) _⟩
            case measure => simp [intOf]; omega
        · have ej : j = m := by omega
          subst ej
          have e : l.take j = l := List.take_of_length_le (by rw [HM.out]; exact Nat.le_refl _)
          have HE : Hid (rdB l j R = reachR l R) := Lib.hid (by unfold rdB; rw [e]; rfl)
          have HRN := Lib.hid (HR.out.round HOK.out HF.out hi)
          clear e
          go_wp2
          go_roundw
          case rel => exact ⟨k + 1, _, by omega, by go_num, HRN.out, by rw [← HE.out]; exact HBJ.out, HBB.out⟩
          case measure => simp [intOf]; omega
    · have ek : k = n := by omega
      subst ek
      obtain ⟨r, hr, hr1, hr2, hr3⟩ := HR.out.fin HOK.out HF.out hi
      have HR1 := Lib.hid hr1
      have HR2 := Lib.hid hr2
      have HR3 := Lib.hid hr3
      clear hr1 hr2 hr3
      go_wp2
      go_loop [10] (fun t => ∃ j : Nat, t = .int .i64 j ∧ j ≤ r) (fun t => k - (intOf t).toNat)
      case atStart => exact ⟨0, rfl, Nat.zero_le _⟩
      case round =>
        obtain ⟨j, rfl, hj⟩ := hrel
        have hjk : j < k := by omega
        have k0 := HBK.out.get (bL_get (i := j) (by rw [HRL.out]; exact hjk))
        have i0 : (0 : Int) ≤ (j : Int) := by omega
        obtain ⟨p, hp⟩ : ∃ p, rGet R j = p := ⟨_, rfl⟩
        rw [hp] at k0
        have HP := Lib.hid hp
        clear hp
        cases p
        · have hjr : j ≠ r := fun e => by have h1 := HR2.out; have h2 := HP.out; rw [← e, h2] at h1; cases h1
          have hjr2 : j + 1 ≤ r := by omega
          clear hjr
          go_wp2
          go_round
          case rel => exact ⟨j + 1, by go_num, hjr2⟩
          case measure => simp [intOf]; omega
        · have hjr : j = r := Nat.le_antisymm hj (HR3.out j HP.out hjk)
          have HJ : Hid ((at_ B i).1 = (j : Int)) := Lib.hid (by rw [HR1.out, hjr])
          clear hjr
          go_wp2
          go_ret
          exact ⟨by rw [HJ.out]; rfl, HB.out⟩
end Go.Proofs.YtccgaflbhpagcaaDoor
