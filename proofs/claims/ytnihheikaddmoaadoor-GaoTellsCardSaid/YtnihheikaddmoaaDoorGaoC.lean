/- gao: nodes, ContainsFunc by the second closure, Contains at bools; the table. -/
import Derived.Test.YtnihheikaddmoaaDoorGaoB
import Derived.Deep.RegionHeld3
namespace Go.Proofs.YtnihheikaddmoaaDoor
open Go.ChangeShapes Go.WideShapes Go.ChangeAt Go.RowKit Ga
set_option linter.unusedVariables false
set_option linter.unusedSimpArgs false
def natsI (n : Nat) : List Int := (List.range n).map fun (k : Nat) => (k : Int)
theorem natsI_at {n k : Nat} (h : k < n) : (natsI n)[k]? = some (k : Int) := by unfold natsI; rw [List.getElem?_map, List.getElem?_range h]; rfl
theorem natsI_take {n k : Nat} (h : k ≤ n) : (natsI n).take k = natsI k := by unfold natsI; rw [← List.map_take, List.take_range, Nat.min_eq_left h]
set_option maxRecDepth 100000 in
theorem nodes_any {w : World} {n : Nat} (hn : n ≤ 1000000) :
    Calls Tryd.prog 22 #[.int .i64 n] w fun e w' => ∃ v, e = .returned v ∧ OwnI 3 w' w.heap.size v (natsI n) ∧ Below w.heap.size w w' := by
  go_enter Tryd.func22, Tryd.ntmps22
  go_wp2
  go_loopw [3, 6] (fun v t wr => ∃ k : Nat, k ≤ n ∧ t = .int .i64 k ∧ OwnI 3 wr w.heap.size v (natsI k) ∧ Below w.heap.size w wr) (fun _ t _ => n - (intOf t).toNat)
  case atStart => exact ⟨0, Nat.zero_le _, rfl, OwnI.nil_ _ _ _, Below.refl _ _⟩
  case round =>
    obtain ⟨k, hk, rfl, hown, hb⟩ := hrel
    have HOWN := Lib.hid hown
    have HB := Lib.hid hb
    have s1 := hb.size
    clear hown hb
    by_cases hlt : k < n
    · have hlen : (natsI k).length ≤ 5864062014000 := by unfold natsI; simp; omega
      have HREP := Lib.hid (show natsI (k + 1) = natsI k ++ [(k : Int)] by unfold natsI; rw [List.range_succ, List.map_append]; rfl)
      have HX := Lib.hid (show (Lit.int .i64 (k : Int)).wf = true from WalkArith.wf_i64 (by omega))
      go_wp2_with (first
        | (at_builtin; go_loud (refine wpList_append_int rfl _ _ 24 3 Tryd.underlying24 info_int rfl w.heap.size _ _ rfl (HOWN.out.alloc _) wr.heap.size (k : Int) 3 rfl (heap_alloc_new wr _) HX.out hlen (by simp; omega) ?_); intro v' w2 hown2 hgrow2)
        | go_in)
      have s2 := hgrow2.size
      simp at s2
      go_roundw
      case rel => exact ⟨k + 1, by omega, by go_num, by rw [HREP.out]; exact hown2, hgrow2.below (HB.out.alloc s1 _) (HOWN.out.alloc _).1 (Nat.le_refl _) (by simp; omega)⟩
      case measure => simp [intOf]; omega
    · have ek : k = n := by omega
      subst ek
      go_wp2
      go_ret
      exact ⟨_, rfl, HOWN.out, HB.out⟩
def openK (W : Nat → Nat → Int) (D : List Bool) (i : Nat) (k : Nat) : Bool := decide (W i k = 3) && !doneG D k
theorem open_take (W : Nat → Nat → Int) (D : List Bool) (i k : Nat) : openB W (k + 1) D i = (openB W k D i || openK W D i k) := by
  unfold openB openK; rw [List.range_succ, List.any_append]; simp
theorem open_of {W : Nat → Nat → Int} {D : List Bool} {i k n : Nat} (hk : k < n) (h : openK W D i k = true) : openB W n D i = true := by
  unfold openB; exact List.any_eq_true.2 ⟨k, by simpa using hk, h⟩
set_option maxRecDepth 100000 in
set_option maxHeartbeats 1000000 in
theorem IndexFunc_I {w : World} {gw gi gd : Nat} {A A' : Option Addr} {n c g i c' : Nat} {W : Nat → Nat → Int} {D : List Bool} (h : Cap2 w gw gi gd A n c g i W D) (hi : i < n) (hl : R1 (RdSlice 1 (rdInt .i64)) w (.slice A' n c') (natsI n)) :
    Calls Tryd.prog 32 #[.slice A' n c', .func (Fn.func 20) #[] #[.pointer (some ⟨gw, 0, none⟩), .pointer (some ⟨gi, 0, none⟩), .pointer (some ⟨gd, 0, none⟩)]] w fun e w' => ∃ r : Int, e = .returned (.int .i64 r) ∧ Hid (decide (0 ≤ r) = openB W n D i) ∧ -1 ≤ r ∧ w = w' := by
  obtain ⟨hm, hle, hcm⟩ := RdSlice.len hl
  have hm0 : n ≤ 9223372036854775807 := by unfold maxLen at hcm; omega
  have HC := Lib.hid h
  have HL := Lib.hid hl
  clear h hl hm hle hcm
  go_enter Tryd.func32, Tryd.ntmps32
  go_wp2
  go_loop [8] (fun t => ∃ k : Nat, k ≤ n ∧ t = .int .i64 k ∧ openB W k D i = false) (fun t => n - (intOf t).toNat)
  case atStart => exact ⟨0, Nat.zero_le _, rfl, rfl⟩
  case round =>
    obtain ⟨k, hk, rfl, he⟩ := hrel
    have HE := Lib.hid he
    clear he
    by_cases hlt : k < n
    · obtain ⟨b, o, rfl, hbb⟩ := RdSlice.where_ HL.out (show 0 < n by omega)
      have c0 := RdSlice.cellI HL.out (natsI_at hlt)
      have HS := Lib.hid ((open_take W D i k).trans (by rw [HE.out, Bool.false_or]))
      have HA := Lib.hid (fun h => open_of (n := n) (W := W) (D := D) (i := i) hlt h)
      obtain ⟨r, hr⟩ : ∃ r, openK W D i k = r := ⟨_, rfl⟩
      rw [hr] at HS HA
      have HR := Lib.hid hr
      have HCL := Lib.hid (clos2 HC.out hi hlt HR.out)
      clear hr
      go_wp2_with fail
      go_at_call 20
      (with_reducible refine HCL.out.mono ?_)
      rintro e w1 ⟨rfl, rfl⟩
      cases r
      · go_wp2
        go_round
        case rel => exact ⟨k + 1, by omega, by go_num, HS.out⟩
        case measure => simp [intOf]; omega
      · have HA2 := Lib.hid (HA.out rfl)
        go_wp2
        go_ret
        exact ⟨k, rfl, Lib.hid (by rw [HA2.out]; simp), by omega, rfl⟩
    · have ek : k = n := by omega
      subst ek
      go_wp2
      go_ret
      exact ⟨-1, rfl, Lib.hid (by rw [HE.out]; rfl), by omega, rfl⟩
set_option maxRecDepth 100000 in
theorem ContainsFunc_I {w : World} {gw gi gd : Nat} {A A' : Option Addr} {n c g i c' : Nat} {W : Nat → Nat → Int} {D : List Bool} (h : Cap2 w gw gi gd A n c g i W D) (hi : i < n) (hl : R1 (RdSlice 1 (rdInt .i64)) w (.slice A' n c') (natsI n)) {r : Bool} (hr : openB W n D i = r) :
    Calls Tryd.prog 21 #[.slice A' n c', .func (Fn.func 20) #[] #[.pointer (some ⟨gw, 0, none⟩), .pointer (some ⟨gi, 0, none⟩), .pointer (some ⟨gd, 0, none⟩)]] w fun e w' => e = .returned (.bool r) ∧ w = w' := by
  have HC := Lib.hid h
  have HL := Lib.hid hl
  have HR := Lib.hid hr
  clear h hl hr
  go_enter Tryd.func21, Tryd.ntmps21
  go_wp2_with fail
  go_at_call 32
  (with_reducible refine (IndexFunc_I HC.out hi HL.out).mono ?_)
  rintro e w1 ⟨z, rfl, hz, hz1, rfl⟩
  go_wp2
  go_ret
  exact ⟨ret_bool (hz.out.trans HR.out), rfl⟩
theorem notall_snoc {D : List Bool} {k : Nat} (h : k < D.length) : (D.take (k + 1)).any (fun b => !b) = ((D.take k).any (fun b => !b) || !doneG D k) := by
  have hx : D[k]? = some (doneG D k) := by unfold doneG; rw [List.getD_eq_getElem?_getD, List.getElem?_eq_getElem h]; rfl
  rw [take_succ_of hx, List.any_append]; simp
set_option maxRecDepth 100000 in
set_option maxHeartbeats 1000000 in
theorem IndexB_any {w : World} {g n : Nat} {D : List Bool} (h : Blk w g 4 (bL D)) (hn : D.length = n) (hn1 : n ≤ 1000000) :
    Calls Tryd.prog 33 #[.slice (some ⟨g, 0, none⟩) n n, .bool false] w fun e w' => ∃ r : Int, e = .returned (.int .i64 r) ∧ Hid (decide (0 ≤ r) = D.any fun b => !b) ∧ -1 ≤ r ∧ w = w' := by
  have HB := Lib.hid h
  have HN := Lib.hid hn
  clear h hn
  go_enter Tryd.func33, Tryd.ntmps33
  go_wp2
  go_loop [8] (fun t => ∃ k : Nat, k ≤ n ∧ t = .int .i64 k ∧ (D.take k).any (fun b => !b) = false) (fun t => n - (intOf t).toNat)
  case atStart => exact ⟨0, Nat.zero_le _, rfl, rfl⟩
  case round =>
    obtain ⟨k, hk, rfl, he⟩ := hrel
    have HE := Lib.hid he
    clear he
    by_cases hlt : k < n
    · have c0 := HB.out.get (bL_get (i := k) (by rw [HN.out]; exact hlt))
      have HS := Lib.hid ((notall_snoc (D := D) (k := k) (by rw [HN.out]; exact hlt)).trans (by rw [HE.out, Bool.false_or]))
      have hx : D[k]? = some (doneG D k) := by unfold doneG; rw [List.getD_eq_getElem?_getD, List.getElem?_eq_getElem (by rw [HN.out]; exact hlt)]; rfl
      have HM := Lib.hid (List.mem_of_getElem? hx)
      clear hx
      obtain ⟨r, hr⟩ : ∃ r, doneG D k = r := ⟨_, rfl⟩
      rw [hr] at c0 HS HM
      clear hr
      cases r
      · have HA2 : Hid ((D.any fun b => !b) = true) := Lib.hid (List.any_eq_true.2 ⟨false, HM.out, rfl⟩)
        go_wp2
        go_ret
        exact ⟨k, rfl, Lib.hid (by rw [HA2.out]; simp), by omega, rfl⟩
      · go_wp2
        go_round
        case rel => exact ⟨k + 1, by omega, by go_num, HS.out⟩
        case measure => simp [intOf]; omega
    · have ek : k = n := by omega
      subst ek
      have e : D.take k = D := List.take_of_length_le (by rw [HN.out]; exact Nat.le_refl _)
      have HE2 : Hid ((D.any fun b => !b) = false) := Lib.hid (by have := HE.out; rw [e] at this; exact this)
      clear e
      go_wp2
      go_ret
      exact ⟨-1, rfl, Lib.hid (by rw [HE2.out]; rfl), by omega, rfl⟩
set_option maxRecDepth 100000 in
theorem ContainsB_any {w : World} {g n : Nat} {D : List Bool} (h : Blk w g 4 (bL D)) (hn : D.length = n) (hn1 : n ≤ 1000000) {r : Bool} (hr : D.all id = !r) :
    Calls Tryd.prog 23 #[.slice (some ⟨g, 0, none⟩) n n, .bool false] w fun e w' => e = .returned (.bool r) ∧ w = w' := by
  have hany : (D.any fun b => !b) = r := by
    have : (D.any fun b => !b) = !(D.all id) := by
      clear h hn hr
      induction D with
      | nil => rfl
      | cons b D ih => simp only [List.any_cons, List.all_cons, ih, id]; cases b <;> simp
    rw [this, hr, Bool.not_not]
  have HB := Lib.hid h
  have HN := Lib.hid hn
  have HR := Lib.hid hany
  clear h hn hr hany
  go_enter Tryd.func23, Tryd.ntmps23
  go_wp2_with fail
  go_at_call 33
  (with_reducible refine (IndexB_any HB.out HN.out hn1).mono ?_)
  rintro e w1 ⟨z, rfl, hz, hz1, rfl⟩
  go_wp2
  go_ret
  exact ⟨ret_bool (hz.out.trans HR.out), rfl⟩
end Go.Proofs.YtnihheikaddmoaaDoor
