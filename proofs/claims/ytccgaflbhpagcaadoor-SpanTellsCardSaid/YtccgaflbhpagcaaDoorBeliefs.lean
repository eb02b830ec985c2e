/- span.beliefs. -/
import Derived.Test.YtccgaflbhpagcaaDoorSpanL
import Derived.Test.YtccgaflbhpagcaaDoorBelRow
import Derived.Test.YtccgaflbhpagcaaDoorConcat
import Derived.Test.YtccgaflbhpagcaaDoorSpanT
import Derived.Test.YtccgaflbhpagcaaDoorGraph
import Derived.Test.YtccgaflbhpagcaaDoorSpanI
import Derived.BigQuiet
import Derived.Lib.QuietBelow
import Derived.Deep.RegionHeld3
namespace Go.Proofs.YtccgaflbhpagcaaDoor
open Go.ChangeShapes Go.WideShapes Go.ChangeAt Go.RowKit Sp
set_option linter.unusedVariables false
set_option linter.unusedSimpArgs false
theorem errE_ne {k : Int} (h : k ≠ 0) : errE k = .iface 24 (.int .i64 k) := by unfold errE; rw [if_neg h]
theorem Check_no {w : World} {n k : Int} {A : Option Addr} {c m : Nat} {l : List Lnk} (hl : R1 rdLinks w (.slice A m c) l) (hr : l.length * 24 ≤ 140737488351232) (hg : graphE n l = k) (h0 : k ≠ 0) :
    Calls Tryd.prog 22 #[.int .i64 n, .slice A m c] w fun e w' => e = .returned (.iface 24 (.int .i64 k)) ∧ Below w.heap.size w w' :=
  (GCheck_any hl hr).mono fun e w' ⟨h, hb⟩ => ⟨by rw [h, hg, errE_ne h0], hb⟩
theorem Check_yes {w : World} {n : Int} {A : Option Addr} {c m : Nat} {l : List Lnk} (hl : R1 rdLinks w (.slice A m c) l) (hr : l.length * 24 ≤ 140737488351232) (hg : graphE n l = 0) :
    Calls Tryd.prog 22 #[.int .i64 n, .slice A m c] w fun e w' => e = .returned .nilIface ∧ Below w.heap.size w w' :=
  (GCheck_any hl hr).mono fun e w' ⟨h, hb⟩ => ⟨by rw [h, hg]; rfl, hb⟩
set_option maxRecDepth 100000 in
theorem beliefs_no {w : World} {n k : Int} {A : Option Addr} {c m : Nat} {l : List Lnk} (hl : R1 rdLinks w (.slice A m c) l) (hr : l.length * 24 ≤ 140737488351232) (hg : graphE n l = k) (h0 : k ≠ 0) :
    Calls Tryd.prog 16 #[.int .i64 n, .slice A m c] w fun e w' => e = .returned (.tuple #[.slice none 0 0, .iface 24 (.int .i64 k)]) ∧ Below w.heap.size w w' := by
  have HL := Lib.hid hl
  have HG := Lib.hid hg
  clear hl hg
  go_enter Tryd.func16, Tryd.ntmps16
  go_wp2_with (first
    | (go_at_call 22; (with_reducible refine (Check_no HL.out hr HG.out h0).mono ?_); rintro e w1 ⟨rfl, hb⟩)
    | fail)
  go_ret2
  exact ⟨rfl, hb⟩
open Classical in
noncomputable def mu (e : TypeId) (base : Nat) (V : Value) (q : Bool) (w : World) : Nat :=
  2 * (if h : ∃ B, OwnT e w base V B then ranks (Classical.choose h) else 0) + (if q then 1 else 0)
theorem mu_of {e : TypeId} {base : Nat} {V : Value} {q : Bool} {w : World} {B : List Bel} (h : OwnT e w base V B) : mu e base V q w = 2 * ranks B + (if q then 1 else 0) := by
  have hx : ∃ B, OwnT e w base V B := ⟨B, h⟩
  unfold mu
  rw [dif_pos hx, (Classical.choose_spec hx).inj h]
def boolOf : Value → Bool
  | .bool b => b
  | _ => false
theorem start_succ (k : Nat) : Sp.start (k + 1) = Sp.start k ++ [((k : Int), 0, -1)] := by unfold Sp.start; rw [List.range_succ, List.map_append]; rfl
theorem start_len (k : Nat) : (Sp.start k).length = k := by simp [Sp.start]
def BelPost (w : World) (n : Nat) (l : List Lnk) (e : Ending) (w' : World) : Prop := ∃ v B, e = .returned (.tuple #[v, .nilIface]) ∧ R1 (RdSlice 3 rdT) w' v B ∧ Last n (arcsOf l) B ∧ Below w.heap.size w w'
theorem better_c {a b c x y z : Int} {r : Bool} (hr : lexB (a, b, c) (x, y, z) = r) (h1 : wf3 a b c) (h2 : wf3 x y z) (w : World) (d : Nat) (os : Array Obj) :
    Calls Tryd.prog 25 #[.agg #[.int .i64 a, .int .i64 b, .int .i64 c], .agg #[.int .i64 x, .int .i64 y, .int .i64 z]] (Sort.grow (redrawn w d) os) fun e w'' => e = .returned (.bool r) ∧ ∃ p : Regrown, w'' = Sort.grow (redrawn w p.d) p.os :=
  Calls.regrown_of (better_is hr h1 h2 _)
set_option maxRecDepth 100000 in
set_option maxHeartbeats 4000000 in
theorem beliefs_yes {w : World} {n : Nat} {A : Option Addr} {c m : Nat} {l : List Lnk} (hl : R1 rdLinks w (.slice A m c) l) (hok : OkL n l) (h1 : 1 ≤ n) (h8 : n ≤ 8) :
    Calls Tryd.prog 16 #[.int .i64 n, .slice A m c] w (BelPost w n l) := by
  have HL := Lib.hid hl
  have HG := Lib.hid (graphE_sub hok h1 h8 (List.Sublist.refl l))
  have HOK := Lib.hid hok
  have h64 := len64 hok h8
  have hr2 : l.length * 24 ≤ 140737488351232 := by omega
  have hr3 : l.length ≤ 5864062013000 := by omega
  have hr4 : l.length + (l.map turnL).length ≤ 5864062014000 := by rw [List.length_map]; omega
  clear hl hok
  go_enter Tryd.func16, Tryd.ntmps16
  go_wp2_with (first
    | (go_at_call 22; (with_reducible refine (Check_yes HL.out hr2 HG.out).mono ?_); rintro e w1 ⟨rfl, hb⟩)
    | fail)
  have s1 := hb.size
  have HB1 := Lib.hid hb
  clear hb
  go_loopw [7, 8, 20] (fun v u t wr => ∃ k : Nat, k ≤ n ∧ t = .int .i64 k ∧ OwnT 47 wr w.heap.size v (Sp.start k) ∧ Below w.heap.size w wr)
    (fun _ _ t _ => n - (intOf t).toNat)
  case atStart => exact ⟨0, Nat.zero_le _, rfl, OwnT.nil_ _ _ _, HB1.out⟩
  case round =>
    obtain ⟨k, hk, rfl, hown, hb⟩ := hrel
    have HOWN := Lib.hid hown
    have HB := Lib.hid hb
    have s2 := hb.size
    clear hown hb
    by_cases hlt : k < n
    · have hlen : (Sp.start k).length ≤ 5864062014000 := by rw [start_len]; omega
      have HW := Lib.hid (show wf3 (k : Int) 0 (-1) from ⟨WalkArith.wf_i64 (by omega), by rfl, by rfl⟩)
      go_wp2_with (first
        | (at_builtin; go_loud (refine wpList_append_three rfl _ _ 43 47 Tryd.underlying43 bel_info rfl w.heap.size _ _ rfl (HOWN.out.alloc _) wr.heap.size ((k : Int), 0, -1) 47 rfl (heap_alloc_new wr _) HW.out hlen (by simp; omega) ?_); intro v' w2 hown2 hgrow2)
        | go_in)
      have s3 := hgrow2.size
      simp at s3
      go_roundw
      case rel =>
        refine ⟨k + 1, by omega, by go_num, by rw [start_succ]; exact hown2, ?_⟩
        exact hgrow2.below (HB.out.alloc s2 _) (HOWN.out.alloc _).1 (Nat.le_refl _) (by simp; omega)
      case measure => simp [intOf]; omega
    · have ek : k = n := by omega
      subst ek
      obtain ⟨g, cp, rfl, hgb, hgl⟩ := HOWN.out.some_ (by rw [start_len]; omega)
      have hlen := start_len k
      rw [hlen] at HOWN ⊢
      clear hlen
      go_wp2
      go_loopw [9] (fun ch wr => ∃ (q : Bool) (B : List Bel) (j : Nat), ch = .bool q ∧ B = iterB (arcsOf l) j (Sp.start k) ∧ (q = false → moved B (arcsOf l) = false) ∧ OwnT 47 wr w.heap.size (.slice (some ⟨g, 0, none⟩) k cp) B ∧ Below w.heap.size w wr)
        (fun ch wr => mu 47 w.heap.size (.slice (some ⟨g, 0, none⟩) k cp) (boolOf ch) wr)
      case atStart => exact ⟨true, _, 0, rfl, rfl, (fun h => by cases h), HOWN.out, HB.out⟩
      case round =>
        obtain ⟨q, B, j, rfl, hB, hq, hown, hb⟩ := hrel
        have HOWNB := Lib.hid hown
        have HBL := Lib.hid hb
        have HBI := Lib.hid hB
        have HQ := Lib.hid hq
        have s2 := hb.size
        have HINV : Hid (Inv k (arcsOf l) B) := Lib.hid (by rw [HBI.out]; exact inv_iter (ok_arcs HOK.out) j)
        have HBK : Hid (B.length = k) := Lib.hid HINV.out.len
        obtain ⟨go, cpo, eo, -, hgo⟩ := hown.some_ (by rw [HBK.out]; omega)
        simp only [Value.slice.injEq, Option.some.injEq, Addr.mk.injEq, and_true] at eo
        obtain ⟨rfl, -, rfl⟩ := eo
        clear hown hb hB hq HOWN HB
        cases q
        · have HQ2 := Lib.hid (HQ.out rfl)
          clear HQ
          go_wp2
          go_ret2
          exact ⟨_, B, rfl, HOWNB.out.read, ⟨j, HBI.out, HQ2.out⟩, HBL.out⟩
        · clear HQ
          go_wp2_with fail
          go_at_call 24
          (with_reducible refine (turned_any (HL.out.below HBL.out) hr3).mono ?_)
          rintro e w1 ⟨v1, rfl, ht, hb1⟩
          obtain ⟨A1, c1, rfl⟩ := ht.form
          obtain ⟨M1, hM1⟩ : ∃ M1, (l.map turnL).length = M1 := ⟨_, rfl⟩
          rw [hM1] at ht ⊢
          have HT := Lib.hid ht
          have HM1 := Lib.hid hM1
          have HB1 := Lib.hid (HBL.out.trans (hb1.mono s2))
          have HO1 := Lib.hid (HOWNB.out.below hb1)
          have HO0 := HOWNB
          have s3 := hb1.size
          have s4 : w.heap.size ≤ w1.heap.size := Nat.le_trans s2 s3
          clear ht hM1 hb1 HOWNB HBL
          go_wp2_with fail
          go_at_call 23
          (with_reducible refine (Concat_two (heap_alloc_new w1 _) ((HL.out.below HB1.out).alloc _) (HT.out.alloc _) hr4).mono ?_)
          rintro e w2 ⟨v2, rfl, hcat, hb2⟩
          obtain ⟨A2, c2, rfl⟩ := own_form hcat.1
          obtain ⟨M2, hM2⟩ : ∃ M2, (l ++ l.map turnL).length = M2 := ⟨_, rfl⟩
          rw [hM2] at hcat ⊢
          have hM64 : M2 ≤ 128 := by rw [← hM2, List.length_append, List.length_map]; omega
          have HM2 := Lib.hid hM2
          have HB2 := Lib.hid ((HB1.out.alloc s4 _).trans (hb2.mono (by simp; omega)))
          have HO2 := Lib.hid ((HO1.out.alloc _).below hb2)
          have HCAT := Lib.hid hcat
          have s5 := hb2.size
          simp at s5
          clear hcat hM2 hb2 HO1 HT HM1 HB1
          obtain ⟨base2, hbase2⟩ : ∃ b, w1.heap.size + 1 = b := ⟨_, rfl⟩
          go_wp2
          go_loopw [9, 36] (fun ch t w3 => ∃ (q : Bool) (i : Nat) (C : List Bel), ch = .bool q ∧ t = .int .i64 i ∧ i ≤ M2 ∧ Inn k l B q i C ∧ OwnT 47 w3 w.heap.size (.slice (some ⟨g, 0, none⟩) k cp) C ∧ OwnT 29 w3 base2 (.slice A2 M2 c2) (l ++ l.map turnL) ∧ Below w.heap.size w w3)
            (fun _ t _ => M2 - (intOf t).toNat)
          case atStart => exact ⟨false, 0, B, rfl, rfl, Nat.zero_le _, Inn.start HINV.out, HO2.out, hbase2 ▸ (by have := HCAT.out; rw [World.size_alloc] at this; exact this), HB2.out⟩
          case round =>
            obtain ⟨q, i, C, rfl, rfl, hi, hin, hown, hcat, hb⟩ := hrel
            have HIN := Lib.hid hin
            have HO := Lib.hid hown
            have HC := Lib.hid hcat
            have HB := Lib.hid hb
            have s6 := hb.size
            clear hin hown hcat hb HO2 HCAT HB2
            by_cases hlt2 : i < M2
            · obtain ⟨⟨x0, x1, xc⟩, hx⟩ : ∃ x, (l ++ l.map turnL)[i]? = some x := ⟨_, List.getElem?_eq_getElem (by rw [HM2.out]; exact hlt2)⟩
              obtain ⟨a, b, ea, eb, ha, hb, hc1, hc15, hE⟩ := link_at HOK.out hx
              obtain rfl : x0 = (a : Int) := ea
              obtain rfl : x1 = (b : Int) := eb
              obtain ⟨g2, c2', e2, hg2b, hg2l⟩ := HC.out.some_ (by rw [HM2.out]; omega)
              simp only [Value.slice.injEq] at e2
              obtain ⟨rfl, -, rfl⟩ := e2
              obtain ⟨-, l0, l1, l2, -, -, -⟩ := HC.out.at_ hx
              have hCl := HIN.out.inv.len
              have ga := at_get (B := C) (i := a) (by omega)
              have gb := at_get (B := C) (i := b) (by omega)
              have wa := inv_wf HOK.out h8 HIN.out.inv ha hc1 hc15
              obtain ⟨-, a0, a1, -, -, -, -⟩ := HO.out.at_ ga
              obtain ⟨wb, b0, b1, b2, f0, f1, f2⟩ := HO.out.at_ gb
              obtain ⟨r, hr⟩ : ∃ r, lexB (cand C (a, b, xc)) (at_ C b) = r := ⟨_, rfl⟩
              have HY := Lib.hid (fun h : r = true => HIN.out.yes HOK.out hE (hr.trans h))
              have HN := Lib.hid (fun h : r = false => HIN.out.no HOK.out hE (hr.trans h))
              have HR := Lib.hid hr
              have hgw := HO.out.some_ (by omega)
              obtain ⟨g', cp', e3, -, hgl2⟩ := hgw
              simp only [Value.slice.injEq, Option.some.injEq, Addr.mk.injEq, and_true] at e3
              obtain ⟨rfl, -, rfl⟩ := e3
              have GB := Lib.hid gb
              clear ga gb hr hE hx
              simp only [cand] at HR
              generalize at_ C a = ba at *
              generalize at_ C b = bb at *
              obtain ⟨ra, fa, ua⟩ := ba
              obtain ⟨rb, fb, ub⟩ := bb
              obtain ⟨wa, r0, r1, r2, r3⟩ := wa
              have WA := Lib.hid wa
              have WB := Lib.hid wb
              have HHY := HY
              have HHN := HN
              clear wa wb HY HN
              have HCL := Lib.hid hCl
              clear hCl
              simp only at a0 a1 b0 b1 b2 hc1 hc15 l0 l1 l2 WA WB HHY HR
              go_wp2
              have ng : ¬ (g = wr.heap.size) := by omega
              have hwr : IntKind.i64.wrap (fa + xc) = fa + xc := by rw [IntKind.wrap_i64]; omega
              refine wp_region_noPanic ?_
              refine wp_region_held_drew (S := (fun w' => w'.cell? ⟨g, a * 3, none⟩ = some (.int .i64 ra) ∧ w'.cell? ⟨g, a * 3 + 1, none⟩ = some (.int .i64 fa) ∧ w'.cell? ⟨wr.heap.size, 0, none⟩ = some (.int .i64 a) ∧ w'.cell? ⟨wr.heap.size, 2, none⟩ = some (.int .i64 xc))) (by kernel_rfl) (by go_keep) (fun hHeld => ?_)
              refine' wpAnyH_take (i := 0) ?hia0 ?hsa0 ?hfa0 ?hra0 ?hQa0 ?hya0 ?hSa0 ?ha0
              case hia0 => (simp only [List.getElem?_toArray, List.getElem?_cons_succ, List.getElem?_cons_zero]; exact rfl)
              case hsa0 => kernel_rfl
              case hfa0 => kernel_rfl
              case hra0 => kernel_rfl
              case hQa0 => exact fun _ _ _ h => h
              case hya0 => (first | (refine Or.inr ⟨by rfl, ?_⟩; rfl) | (refine Or.inl ⟨by rfl, ?_⟩; (intro w hSw; (try dsimp only at hSw); go_simp); try with_reducible rfl))
              case hSa0 => assumption
              try simp only [Act.put, List.setIfInBounds_toArray, List.set_cons_zero, List.set_cons_succ]
              refine' wpAnyH_take (i := 1) ?hia1 ?hsa1 ?hfa1 ?hra1 ?hQa1 ?hya1 ?hSa1 ?ha1
              case hia1 => (simp only [List.getElem?_toArray, List.getElem?_cons_succ, List.getElem?_cons_zero]; exact rfl)
              case hsa1 => kernel_rfl
              case hfa1 => kernel_rfl
              case hra1 => kernel_rfl
              case hQa1 => exact fun _ _ _ h => h
              case hya1 => (first | (refine Or.inr ⟨by rfl, ?_⟩; rfl) | (refine Or.inl ⟨by rfl, ?_⟩; (intro w hSw; (try dsimp only at hSw); go_simp); try with_reducible rfl))
              case hSa1 => assumption
              try simp only [Act.put, List.setIfInBounds_toArray, List.set_cons_zero, List.set_cons_succ]
              refine' wpAnyH_take (i := 2) ?hia2 ?hsa2 ?hfa2 ?hra2 ?hQa2 ?hya2 ?hSa2 ?ha2
              case hia2 => (simp only [List.getElem?_toArray, List.getElem?_cons_succ, List.getElem?_cons_zero]; exact rfl)
              case hsa2 => kernel_rfl
              case hfa2 => kernel_rfl
              case hra2 => kernel_rfl
              case hQa2 => exact fun _ _ _ h => h
              case hya2 => (first | (refine Or.inr ⟨by rfl, ?_⟩; rfl) | (refine Or.inl ⟨by rfl, ?_⟩; (intro w hSw; (try dsimp only at hSw); go_simp); try with_reducible rfl))
              case hSa2 => assumption
              try simp only [Act.put, List.setIfInBounds_toArray, List.set_cons_zero, List.set_cons_succ]
              refine' wpAnyH_take (i := 3) ?hia3 ?hsa3 ?hfa3 ?hra3 ?hQa3 ?hya3 ?hSa3 ?ha3
              case hia3 => (simp only [List.getElem?_toArray, List.getElem?_cons_succ, List.getElem?_cons_zero]; exact rfl)
              case hsa3 => kernel_rfl
              case hfa3 => kernel_rfl
              case hra3 => kernel_rfl
              case hQa3 => exact fun _ _ _ h => h
              case hya3 => (first | (refine Or.inr ⟨by rfl, ?_⟩; rfl) | (refine Or.inl ⟨by rfl, ?_⟩; (intro w hSw; (try dsimp only at hSw); go_simp); try with_reducible rfl))
              case hSa3 => assumption
              try simp only [Act.put, List.setIfInBounds_toArray, List.set_cons_zero, List.set_cons_succ]
              refine' wpAnyH_take (i := 4) ?hia4 ?hsa4 ?hfa4 ?hra4 ?hQa4 ?hya4 ?hSa4 ?ha4
              case hia4 => (simp only [List.getElem?_toArray, List.getElem?_cons_succ, List.getElem?_cons_zero]; exact rfl)
              case hsa4 => kernel_rfl
              case hfa4 => kernel_rfl
              case hra4 => kernel_rfl
              case hQa4 => exact fun _ _ _ h => h
              case hya4 => (first | (refine Or.inr ⟨by rfl, ?_⟩; rfl) | (refine Or.inl ⟨by rfl, ?_⟩; (intro w hSw; (try dsimp only at hSw); go_simp); try with_reducible rfl))
              case hSa4 => assumption
              try simp only [Act.put, List.setIfInBounds_toArray, List.set_cons_zero, List.set_cons_succ]
              refine' wpAnyH_take (i := 5) ?hia5 ?hsa5 ?hfa5 ?hra5 ?hQa5 ?hya5 ?hSa5 ?ha5
              case hia5 => (simp only [List.getElem?_toArray, List.getElem?_cons_succ, List.getElem?_cons_zero]; exact rfl)
              case hsa5 => kernel_rfl
              case hfa5 => kernel_rfl
              case hra5 => kernel_rfl
              case hQa5 => exact fun _ _ _ h => h
              case hya5 => (first | (refine Or.inr ⟨by rfl, ?_⟩; rfl) | (refine Or.inl ⟨by rfl, ?_⟩; (intro w hSw; (try dsimp only at hSw); go_simp); try with_reducible rfl))
              case hSa5 => assumption
              try simp only [Act.put, List.setIfInBounds_toArray, List.set_cons_zero, List.set_cons_succ]
              refine' wpAnyH_take (i := 6) ?hia6 ?hsa6 ?hfa6 ?hra6 ?hQa6 ?hya6 ?hSa6 ?ha6
              case hia6 => (simp only [List.getElem?_toArray, List.getElem?_cons_succ, List.getElem?_cons_zero]; exact rfl)
              case hsa6 => kernel_rfl
              case hfa6 => kernel_rfl
              case hra6 => kernel_rfl
              case hQa6 => exact fun _ _ _ h => h
              case hya6 => (first | (refine Or.inr ⟨by rfl, ?_⟩; rfl) | (refine Or.inl ⟨by rfl, ?_⟩; (intro w hSw; (try dsimp only at hSw); go_simp); try with_reducible rfl))
              case hSa6 => assumption
              try simp only [Act.put, List.setIfInBounds_toArray, List.set_cons_zero, List.set_cons_succ]
              refine' wpAnyH_take (i := 7) ?hia7 ?hsa7 ?hfa7 ?hra7 ?hQa7 ?hya7 ?hSa7 ?ha7
              case hia7 => (simp only [List.getElem?_toArray, List.getElem?_cons_succ, List.getElem?_cons_zero]; exact rfl)
              case hsa7 => kernel_rfl
              case hfa7 => kernel_rfl
              case hra7 => kernel_rfl
              case hQa7 => exact fun _ _ _ h => h
              case hya7 => (first | (refine Or.inr ⟨by rfl, ?_⟩; rfl) | (refine Or.inl ⟨by rfl, ?_⟩; (intro w hSw; (try dsimp only at hSw); go_simp); try with_reducible rfl))
              case hSa7 => assumption
              try simp only [Act.put, List.setIfInBounds_toArray, List.set_cons_zero, List.set_cons_succ]
              refine' wpAnyH_take (i := 8) ?hia8 ?hsa8 ?hfa8 ?hra8 ?hQa8 ?hya8 ?hSa8 ?ha8
              case hia8 => (simp only [List.getElem?_toArray, List.getElem?_cons_succ, List.getElem?_cons_zero]; exact rfl)
              case hsa8 => kernel_rfl
              case hfa8 => kernel_rfl
              case hra8 => kernel_rfl
              case hQa8 => exact fun _ _ _ h => h
              case hya8 => (first | (refine Or.inr ⟨by rfl, ?_⟩; rfl) | (refine Or.inl ⟨by rfl, ?_⟩; (intro w hSw; (try dsimp only at hSw); go_simp); try with_reducible rfl))
              case hSa8 => assumption
              try simp only [Act.put, List.setIfInBounds_toArray, List.set_cons_zero, List.set_cons_succ]
              refine' wpAnyH_take (i := 9) ?hia9 ?hsa9 ?hfa9 ?hra9 ?hQa9 ?hya9 ?hSa9 ?ha9
              case hia9 => (simp only [List.getElem?_toArray, List.getElem?_cons_succ, List.getElem?_cons_zero]; exact rfl)
              case hsa9 => kernel_rfl
              case hfa9 => kernel_rfl
              case hra9 => kernel_rfl
              case hQa9 => exact fun _ _ _ h => h
              case hya9 => (first | (refine Or.inr ⟨by rfl, ?_⟩; rfl) | (refine Or.inl ⟨by rfl, ?_⟩; (intro w hSw; (try dsimp only at hSw); go_simp); try with_reducible rfl))
              case hSa9 => assumption
              try simp only [Act.put, List.setIfInBounds_toArray, List.set_cons_zero, List.set_cons_succ]
              refine' wpAnyH_take (i := 10) ?hia10 ?hsa10 ?hfa10 ?hra10 ?hQa10 ?hya10 ?hSa10 ?ha10
              case hia10 => (simp only [List.getElem?_toArray, List.getElem?_cons_succ, List.getElem?_cons_zero]; exact rfl)
              case hsa10 => kernel_rfl
              case hfa10 => kernel_rfl
              case hra10 => kernel_rfl
              case hQa10 => exact fun _ _ _ h => h
              case hya10 => (first | (refine Or.inr ⟨by rfl, ?_⟩; rfl) | (refine Or.inl ⟨by rfl, ?_⟩; (intro w hSw; (try dsimp only at hSw); go_simp); try with_reducible rfl))
              case hSa10 => assumption
              try simp only [Act.put, List.setIfInBounds_toArray, List.set_cons_zero, List.set_cons_succ]
              refine' wpAnyH_take (i := 11) ?hia11 ?hsa11 ?hfa11 ?hra11 ?hQa11 ?hya11 ?hSa11 ?ha11
              case hia11 => (simp only [List.getElem?_toArray, List.getElem?_cons_succ, List.getElem?_cons_zero]; exact rfl)
              case hsa11 => kernel_rfl
              case hfa11 => kernel_rfl
              case hra11 => kernel_rfl
              case hQa11 => exact fun _ _ _ h => h
              case hya11 => (first | (refine Or.inr ⟨by rfl, ?_⟩; rfl) | (refine Or.inl ⟨by rfl, ?_⟩; (intro w hSw; (try dsimp only at hSw); go_simp); try with_reducible rfl))
              case hSa11 => assumption
              try simp only [Act.put, List.setIfInBounds_toArray, List.set_cons_zero, List.set_cons_succ]
              refine' wpAnyH_take (i := 12) ?hia12 ?hsa12 ?hfa12 ?hra12 ?hQa12 ?hya12 ?hSa12 ?ha12
              case hia12 => (simp only [List.getElem?_toArray, List.getElem?_cons_succ, List.getElem?_cons_zero]; exact rfl)
              case hsa12 => kernel_rfl
              case hfa12 => kernel_rfl
              case hra12 => kernel_rfl
              case hQa12 => exact fun _ _ _ h => h
              case hya12 => (first | (refine Or.inr ⟨by rfl, ?_⟩; rfl) | (refine Or.inl ⟨by rfl, ?_⟩; (intro w hSw; (try dsimp only at hSw); go_simp); try with_reducible rfl))
              case hSa12 => assumption
              try simp only [Act.put, List.setIfInBounds_toArray, List.set_cons_zero, List.set_cons_succ]
              refine' wpAnyH_take (i := 13) ?hia13 ?hsa13 ?hfa13 ?hra13 ?hQa13 ?hya13 ?hSa13 ?ha13
              case hia13 => (simp only [List.getElem?_toArray, List.getElem?_cons_succ, List.getElem?_cons_zero]; exact rfl)
              case hsa13 => kernel_rfl
              case hfa13 => kernel_rfl
              case hra13 => kernel_rfl
              case hQa13 => exact fun _ _ _ h => h
              case hya13 => (first | (refine Or.inr ⟨by rfl, ?_⟩; rfl) | (refine Or.inl ⟨by rfl, ?_⟩; (intro w hSw; (try dsimp only at hSw); go_simp); try with_reducible rfl))
              case hSa13 => assumption
              try simp only [Act.put, List.setIfInBounds_toArray, List.set_cons_zero, List.set_cons_succ]
              refine' wpAnyH_take (i := 14) ?hia14 ?hsa14 ?hfa14 ?hra14 ?hQa14 ?hya14 ?hSa14 ?ha14
              case hia14 => (simp only [List.getElem?_toArray, List.getElem?_cons_succ, List.getElem?_cons_zero]; exact rfl)
              case hsa14 => kernel_rfl
              case hfa14 => kernel_rfl
              case hra14 => kernel_rfl
              case hQa14 => exact fun _ _ _ h => h
              case hya14 => (first | (refine Or.inr ⟨by rfl, ?_⟩; rfl) | (refine Or.inl ⟨by rfl, ?_⟩; (intro w hSw; (try dsimp only at hSw); go_simp); try with_reducible rfl))
              case hSa14 => assumption
              try simp only [Act.put, List.setIfInBounds_toArray, List.set_cons_zero, List.set_cons_succ]
              refine' wpAnyH_take (i := 15) ?hia15 ?hsa15 ?hfa15 ?hra15 ?hQa15 ?hya15 ?hSa15 ?ha15
              case hia15 => (simp only [List.getElem?_toArray, List.getElem?_cons_succ, List.getElem?_cons_zero]; exact rfl)
              case hsa15 => kernel_rfl
              case hfa15 => kernel_rfl
              case hra15 => kernel_rfl
              case hQa15 => exact fun _ _ _ h => h
              case hya15 => (first | (refine Or.inr ⟨by rfl, ?_⟩; rfl) | (refine Or.inl ⟨by rfl, ?_⟩; (intro w hSw; (try dsimp only at hSw); go_simp); try with_reducible rfl))
              case hSa15 => assumption
              try simp only [Act.put, List.setIfInBounds_toArray, List.set_cons_zero, List.set_cons_succ]
              refine' wpAnyH_take (i := 16) ?hia16 ?hsa16 ?hfa16 ?hra16 ?hQa16 ?hya16 ?hSa16 ?ha16
              case hia16 => (simp only [List.getElem?_toArray, List.getElem?_cons_succ, List.getElem?_cons_zero]; exact rfl)
              case hsa16 => kernel_rfl
              case hfa16 => kernel_rfl
              case hra16 => kernel_rfl
              case hQa16 => exact fun _ _ _ h => h
              case hya16 => (first | (refine Or.inr ⟨by rfl, ?_⟩; rfl) | (refine Or.inl ⟨by rfl, ?_⟩; (intro w hSw; (try dsimp only at hSw); go_simp); try with_reducible rfl))
              case hSa16 => assumption
              try simp only [Act.put, List.setIfInBounds_toArray, List.set_cons_zero, List.set_cons_succ]
              refine' wpAnyH_take (i := 17) ?hia17 ?hsa17 ?hfa17 ?hra17 ?hQa17 ?hya17 ?hSa17 ?ha17
              case hia17 => (simp only [List.getElem?_toArray, List.getElem?_cons_succ, List.getElem?_cons_zero]; exact rfl)
              case hsa17 => kernel_rfl
              case hfa17 => kernel_rfl
              case hra17 => kernel_rfl
              case hQa17 => exact fun _ _ _ h => h
              case hya17 => (first | (refine Or.inr ⟨by rfl, ?_⟩; rfl) | (refine Or.inl ⟨by rfl, ?_⟩; (intro w hSw; (try dsimp only at hSw); go_simp); try with_reducible rfl))
              case hSa17 => assumption
              try simp only [Act.put, List.setIfInBounds_toArray, List.set_cons_zero, List.set_cons_succ]
              refine wpAnyH_ready (rs := [18]) (by kernel_rfl) (by simp) ?_
              refine' AllReadyH.cons ?hia18 (fun K hK => ?ha18) AllReadyH.nil
              case hia18 => (simp only [List.getElem?_toArray, List.getElem?_cons_succ, List.getElem?_cons_zero]; exact rfl)
              go_simp
              refine hK.out _ _ (by go_keep) (fun hHeld => ?_)
              clear hK K
              refine wpAnyH_ready (rs := [19]) (by kernel_rfl) (by simp) ?_
              refine' AllReadyH.cons ?hia19 (fun K hK => ?ha19) AllReadyH.nil
              case hia19 => (simp only [List.getElem?_toArray, List.getElem?_cons_succ, List.getElem?_cons_zero]; exact rfl)
              go_simp
              refine hK.out _ _ (by go_keep) (fun hHeld => ?_)
              clear hK K
              refine wpAnyH_done (by kernel_rfl) ?_ _
              refine NoPanic.normal ?_
              clear hHeld
              have hL3 : ((wr.alloc (.cells #[.int .i64 a, .int .i64 b, .int .i64 xc] 29)).alloc (.cells #[.int .i64 ra, .int .i64 (fa + xc), .int .i64 a] 47)).drew.heap[wr.heap.size]? = some (.cells #[.int .i64 a, .int .i64 b, .int .i64 xc] 29 (0, 0)) :=
                (box2 (Below.refl _ _)).1
              have hN3 : ((wr.alloc (.cells #[.int .i64 a, .int .i64 b, .int .i64 xc] 29)).alloc (.cells #[.int .i64 ra, .int .i64 (fa + xc), .int .i64 a] 47)).drew.heap[wr.heap.size + 1]? = some (.cells #[.int .i64 ra, .int .i64 (fa + xc), .int .i64 a] 47 (0, 0)) :=
                (box2 (Below.refl _ _)).2
              have hb3 : Below wr.heap.size wr ((wr.alloc (.cells #[.int .i64 a, .int .i64 b, .int .i64 xc] 29)).alloc (.cells #[.int .i64 ra, .int .i64 (fa + xc), .int .i64 a] 47)).drew :=
                below_drewN (((Below.refl _ _).alloc (Nat.le_refl _) _).alloc (by simp) _) 1
              generalize ((wr.alloc (.cells #[.int .i64 a, .int .i64 b, .int .i64 xc] 29)).alloc (.cells #[.int .i64 ra, .int .i64 (fa + xc), .int .i64 a] 47)).drew = w3 at *
              have HL3 := Lib.hid hL3
              have HN3 := Lib.hid hN3
              have HB3 := Lib.hid hb3
              have HO3 := Lib.hid (HO.out.below hb3)
              have HC3 := Lib.hid (HC.out.below hb3)
              clear hL3 hN3 hb3 a0 a1 b0 b1 b2 l0 l1 l2 f0 f1 f2
              have k0 := fun d os => (row3 (below_block (below_regrown w3 d os) (size_of_block HL3.out) HL3.out)).2.1
              have k1 := fun d os => (row3 (below_block (below_regrown w3 d os) (size_of_block HN3.out) HN3.out)).1
              have k2 := fun d os => (row3 (below_block (below_regrown w3 d os) (size_of_block HN3.out) HN3.out)).2.1
              have k3 := fun d os => (row3 (below_block (below_regrown w3 d os) (size_of_block HN3.out) HN3.out)).2.2
              have k4 := fun d os => ((HO3.out.below (below_regrown w3 d os)).at_ GB.out).2.1
              have k5 := fun d os => ((HO3.out.below (below_regrown w3 d os)).at_ GB.out).2.2.1
              have k6 := fun d os => ((HO3.out.below (below_regrown w3 d os)).at_ GB.out).2.2.2.1
              simp only at k4 k5 k6
              go_wp2
              refine wp_region_quiet_below (by kernel_rfl) (by kernel_rfl) ?_
              repeat (go_big_quiet_step (first | (with_reducible exact better_c HR.out WA.out WB.out _ _ _) | fail))
              refine wpQuiet_nil ?_
              intro w4 hw'
              obtain ⟨⟨dq, osq⟩, hw''⟩ := hw'
              have hb4 : Below w3.heap.size w3 w4 := by rw [hw'']; exact below_regrown w3 dq osq
              have hL4 := below_block hb4 (size_of_block HL3.out) HL3.out
              have hN4 := below_block hb4 (size_of_block HN3.out) HN3.out
              have HO4 := Lib.hid (HO3.out.below hb4)
              have HC4 := Lib.hid (HC3.out.below hb4)
              have HB4 := Lib.hid ((HB.out.trans (HB3.out.mono s6)).trans (hb4.mono (Nat.le_trans s6 HB3.out.size)))
              obtain ⟨-, b0, b1, b2, f0, f1, f2⟩ := HO4.out.at_ GB.out
              simp only at b0 b1 b2
              obtain ⟨-, l1, -⟩ := row3 hL4
              obtain ⟨n0, n1, n2⟩ := row3 hN4
              clear k0 k1 k2 k3 k4 k5 k6 hw'' hb4 hL4 hN4 HL3 HN3 HO3 HC3 HO HC hHeld HB3
              cases r
              · have HQ := Lib.hid (HHN.out rfl)
                clear HHN HHY HR
                go_wp2
                go_roundw
                case rel => exact ⟨q, i + 1, C, rfl, by go_num, by omega, HQ.out, HO4.out, HC4.out, HB4.out⟩
                case measure => simp [intOf]; omega
              · have HQ := Lib.hid (HHY.out rfl)
                clear HHN HHY HR
                have HSET := Lib.hid (OwnT.set3 (y := (ra, fa + xc, (a : Int))) (k := b) (xs := C) (g := g) (c := cp) (by have := HO4.out; rw [← HCL.out] at this; exact this) (by rw [HCL.out]; exact hb) WA.out)
                go_wp2
                go_roundw
                case rel => exact ⟨true, i + 1, _, rfl, by go_num, by omega, HQ.out, (by have := HSET.out; rw [HCL.out] at this; exact this), ((HC4.out.setBelow (by simp only; omega) _).setBelow (by simp only; omega) _).setBelow (by simp only; omega) _, ((HB4.out.setCell (by simp only; omega) _).setCell (by simp only; omega) _).setCell (by simp only; omega) _⟩
                case measure => simp [intOf]; omega
            · have HF := Lib.hid (HIN.out.fin (by rw [arcs_len, HM2.out]; omega))
              have HE := Lib.hid (pass_end HOK.out h8 HBI.out HF.out.1 HF.out.2)
              have HMU0 := Lib.hid (mu_of (q := true) HO0.out)
              have HMU1 := Lib.hid (mu_of (q := q) HO.out)
              go_wp2
              go_roundw
              case rel => exact ⟨q, C, j + 1, rfl, HE.out.1, HE.out.2.1, HO.out, HB.out⟩
              case measure =>
                have h1 := HE.out.2.2
                show mu _ _ _ (boolOf (.bool q)) _ < mu _ _ _ (boolOf (.bool true)) _
                simp only [boolOf]
                rw [HMU0.out, HMU1.out]
                simpa using h1
end Go.Proofs.YtccgaflbhpagcaaDoor
