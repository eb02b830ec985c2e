/- SpanTree: the walk of the law. -/
import Derived.Test.YtccgaflbhpagcaaSpanned
import Derived.Test.YtccgaflbhpagcaaTree
import Derived.Test.YtccgaflbhpagcaaLess
namespace Go.Proofs.Ytccgaflbhpagcaa
open Go.ChangeShapes Go.WideShapes Go.ChangeAt Go.RowKit Sp
set_option linter.unusedVariables false
set_option linter.unusedSimpArgs false
set_option maxRecDepth 100000 in
set_option maxHeartbeats 2000000 in
theorem SpanTree_bad {w : World} {n i k : Int} {A : Option Addr} {c m : Nat} {l : List Lnk} (hl : R1 rdLinks w (.slice A m c) l) (hr : l.length * 24 ≤ 140737488351232) (hg : graphE n l = k) (h0 : k ≠ 0) :
    Calls Try.prog 4 #[.int .i64 n, .slice A m c, .int .i64 i] w fun e w' => e = .returned (.bool true) ∧ Below w.heap.size w w' := by
  have HL := Lib.hid hl
  have HG := Lib.hid hg
  clear hl hg
  go_enter Try.func4, Try.ntmps4
  go_wp2_with fail
  go_at_call 5
  (with_reducible refine (spanned_any _).mono ?_)
  rintro e w1 ⟨rfl, hb1⟩
  have HB1 := Lib.hid hb1
  have s1 := hb1.size
  clear hb1
  go_wp2_with fail
  go_at_call 9
  (with_reducible refine (Tree_no (HL.out.below HB1.out) hr HG.out h0).mono ?_)
  rintro e w2 ⟨rfl, hb2⟩
  have HB2 := Lib.hid (HB1.out.trans (hb2.mono s1))
  have s2 := HB2.out.size
  clear hb2
  go_wp2_with fail
  go_at_call 7
  (with_reducible refine (Roots_no (HL.out.below HB2.out) hr HG.out h0).mono ?_)
  rintro e w3 ⟨rfl, hb3⟩
  have HB3 := Lib.hid (HB2.out.trans (hb3.mono s2))
  clear hb3
  go_wp2
  go_ret
  exact ⟨rfl, HB3.out⟩
theorem roots_eq {n : Nat} {B C : List Bel} (hB : B.length = n) (hC : C.length = n) (h : ∀ v, v < n → (at_ C v).1 = (at_ B v).1) : (C.map fun x => x.1) = B.map fun x => x.1 := by
  apply List.ext_getElem?
  intro v
  by_cases hv : v < n
  · rw [List.getElem?_map, List.getElem?_map, at_get (by omega), at_get (by omega)]
    simp [h v hv]
  · rw [List.getElem?_eq_none (by rw [List.length_map]; omega), List.getElem?_eq_none (by rw [List.length_map]; omega)]
theorem roots_ne {n : Nat} {B C : List Bel} (hB : B.length = n) (hC : C.length = n) (h : ¬ ∀ v, v < n → (at_ C v).1 = (at_ B v).1) : ((C.map fun x => x.1) == B.map fun x => x.1) = false := by
  rw [beq_eq_false_iff_ne]
  intro he
  refine h (fun v hv => ?_)
  have := congrArg (fun q => q[v]?) he
  simp only [List.getElem?_map] at this
  rw [at_get (by omega), at_get (by omega)] at this
  simpa using this
def manyN (B : List Bel) (k : Nat) : Nat := (List.range k).countP fun v => decide ((at_ B v).1 = (v : Int))
theorem many_yes {B : List Bel} {k : Nat} (h : (at_ B k).1 = (k : Int)) : manyN B (k + 1) = manyN B k + 1 := by unfold manyN; rw [List.range_succ, List.countP_append]; simp [h]
theorem many_no {B : List Bel} {k : Nat} (h : ¬ (at_ B k).1 = (k : Int)) : manyN B (k + 1) = manyN B k := by unfold manyN; rw [List.range_succ, List.countP_append]; simp [h]
theorem many_le (B : List Bel) (k : Nat) : manyN B k ≤ k := by unfold manyN; have := List.countP_le_length (p := fun v => decide ((at_ B v).1 = ((v : Nat) : Int))) (l := List.range k); simpa using this
set_option maxRecDepth 100000 in
set_option maxHeartbeats 8000000 in
theorem SpanTree_in {w : World} {n : Nat} {i : Int} {A : Option Addr} {c m : Nat} {l : List Lnk} (hl : R1 rdLinks w (.slice A m c) l) (hok : OkL n l) (h1 : 1 ≤ n) (h8 : n ≤ 8) :
    Calls Try.prog 4 #[.int .i64 n, .slice A m c, .int .i64 i] w fun e w' => e = .returned (.bool true) ∧ Below w.heap.size w w' := by
  have HL := Lib.hid hl
  have HOK := Lib.hid hok
  have h64 := len64 hok h8
  clear hl hok
  go_enter Try.func4, Try.ntmps4
  go_wp2_with fail
  go_at_call 5
  (with_reducible refine (spanned_any _).mono ?_)
  rintro e w1 ⟨rfl, hb1⟩
  have HB1 := Lib.hid hb1
  have s1 := hb1.size
  clear hb1
  go_wp2_with fail
  go_at_call 9
  (with_reducible refine (Tree_yes (HL.out.below HB1.out) HOK.out h1 h8).mono ?_)
  rintro e w2 ⟨v2, B, rfl, hv2, hl2, hb2⟩
  have hlen := (hl2.inv (ok_arcs HOK.out)).len
  have HTOK := Lib.hid (tree_ok (B := B) HOK.out)
  have HF := Lib.hid (hl2.fin (ok_arcs HOK.out) h8 (sym_arcs l))
  have hcnt := tree_count HOK.out HF.out
  have htl := len64 HTOK.out h8
  obtain ⟨A2, c2, rfl⟩ := hv2.form
  obtain ⟨T, hT⟩ : ∃ T, treeOf B l = T := ⟨_, rfl⟩
  rw [hT] at hv2 hcnt htl HTOK ⊢
  obtain ⟨M, hM⟩ : ∃ M, T.length = M := ⟨_, rfl⟩
  rw [hM] at hv2 hcnt htl ⊢
  have HB2 := Lib.hid (HB1.out.trans (hb2.mono s1))
  have s2 := HB2.out.size
  have HV2 := Lib.hid hv2
  have HLA := Lib.hid hl2
  have HLEN := Lib.hid hlen
  have HT := Lib.hid hT
  have HM := Lib.hid hM
  have HCNT := Lib.hid hcnt
  clear hb2 hv2 hl2 hlen hT hM hcnt
  go_wp2_with fail
  go_at_call 7
  (with_reducible refine (Roots_yes (HL.out.below HB2.out) HOK.out h1 h8).mono ?_)
  rintro e w3 ⟨v3, B3, rfl, hv3, hl3, hb3⟩
  obtain rfl : B3 = B := hl3.one (ok_arcs HOK.out) h8 HLA.out
  obtain ⟨A3, c3, rfl⟩ := hv3.form
  rw [List.length_map, HLEN.out] at hv3 ⊢
  have HB3 := Lib.hid (HB2.out.trans (hb3.mono s2))
  have s3 := HB3.out.size
  have HV3 := Lib.hid hv3
  have HT3 := Lib.hid (HV2.out.below hb3)
  clear hb3 hv3 hl3 HV2
  go_wp2_with fail
  go_at_call 7
  (with_reducible refine (Roots_yes HT3.out HTOK.out h1 h8).mono ?_)
  rintro e w4 ⟨v4, C, rfl, hv4, hl4, hb4⟩
  have hCl := (hl4.inv (ok_arcs HTOK.out)).len
  have hsame := roots_eq HLEN.out hCl (tree_roots HOK.out HF.out (by rw [HT.out]; exact hl4.fin (ok_arcs HTOK.out) h8 (sym_arcs T)))
  rw [hsame] at hv4
  have HB4 := Lib.hid (HB3.out.trans (hb4.mono s3))
  have HV4 := Lib.hid hv4
  have HR4 := Lib.hid (HV3.out.below hb4)
  have HT4 := Lib.hid (HT3.out.below hb4)
  clear hb4 hv4 hl4 hCl hsame HV3 HT3
  go_wp2_with fail
  go_at_call 10
  (with_reducible refine (Ints_v HV4.out HR4.out).mono ?_)
  rintro e w5 ⟨rfl, d5, rfl⟩
  rw [beq_self_eq_true]
  obtain ⟨w6, hw6⟩ : ∃ w6, w4.drewN d5 = w6 := ⟨_, rfl⟩
  have HB6 : Hid (Below w.heap.size w w6) := Lib.hid (by rw [← hw6]; exact below_drewN HB4.out _)
  have HR6 : Hid (R1 (RdSlice 1 (rdInt .i64)) w6 (.slice A3 n c3) (B3.map fun x => x.1)) := Lib.hid (by rw [← hw6]; exact HR4.out.drewN _)
  have HT6 : Hid (R1 rdLinks w6 (.slice A2 M c2) T) := Lib.hid (by rw [← hw6]; exact HT4.out.drewN _)
  rw [hw6]
  clear hw6 HB4 HV4 HR4 HT4
  obtain ⟨b3, o3, rfl, _⟩ := HR6.out.where_ (by omega)
  go_wp2
  go_loop [15, 16] (fun t u => ∃ k : Nat, k ≤ n ∧ u = .int .i64 k ∧ t = .int .i64 (manyN B3 k)) (fun _ u => n - (intOf u).toNat)
  case atStart => exact ⟨0, Nat.zero_le _, rfl, rfl⟩
  case round =>
    obtain ⟨k, hk, rfl, rfl⟩ := hrel
    have hmk := many_le B3 k
    by_cases hlt : k < n
    · have c0 := HR6.out.cellI (map_at2 (f := fun x => x.1) (v := k) (B := B3) (by rw [HLEN.out]; exact hlt))
      obtain ⟨z, hz⟩ : ∃ z, (at_ B3 k).1 = z := ⟨_, rfl⟩
      rw [hz] at c0
      have HZ := Lib.hid hz
      clear hz
      by_cases hzk : z = (k : Int)
      · have t0 : (z == (k : Int)) = true := by simpa using hzk
        have HS := Lib.hid (many_yes (HZ.out.trans hzk))
        clear hzk
        go_wp2
        go_round
        case rel => exact ⟨k + 1, by omega, by go_num, by rw [HS.out]; go_num⟩
        case measure => simp [intOf]; omega
      · have t0 : (z == (k : Int)) = false := by simpa using hzk
        have HS := Lib.hid (many_no (fun h => hzk (HZ.out.symm.trans h)))
        clear hzk
        go_wp2
        go_round
        case rel => exact ⟨k + 1, by omega, by go_num, by rw [HS.out]⟩
        case measure => simp [intOf]; omega
    · have ek : k = n := by omega
      subst ek
      have hc : (M : Int) = (k : Int) - (manyN B3 k : Int) := by
        have h := HCNT.out
        have e : rootsN k B3 = manyN B3 k := rfl
        rw [e] at h; omega
      have t0 : ((M : Int) != (k : Int) - (manyN B3 k : Int)) = false := by rw [hc]; simp
      have hw0 : IntKind.i64.wrap ((k : Int) - (manyN B3 k : Int)) = (k : Int) - (manyN B3 k : Int) := by rw [IntKind.wrap_i64]; omega
      clear hc
      by_cases hi : i < 0
      · go_wp2
        go_ret
        exact ⟨rfl, HB6.out⟩
      · by_cases hi2 : (M : Int) ≤ i
        · go_wp2
          go_ret
          exact ⟨rfl, HB6.out⟩
        · obtain ⟨i, rfl⟩ := Int.eq_ofNat_of_zero_le (show 0 ≤ i by omega)
          obtain ⟨g, o, x, y, z, rfl, hbb, HX, ⟨wx, wy, wz⟩, d0, d1, d2⟩ := RdSlice.atL HT6.out (show i < M by omega)
          clear wx wy wz
          have hM64 : M ≤ 64 := htl
          have HT7 : Hid (R1 rdLinks w6.drew (.slice (some ⟨g, o, none⟩) M c2) T) := Lib.hid (HT6.out.drewN 1)
          have hTl : T.length ≤ 5864062013000 := by rw [HM.out]; omega
          have s6 : w.heap.size ≤ w6.heap.size := HB6.out.size
          have HOKL := Lib.hid (HTOK.out.sub (less_sub T x y))
          have HLT := Lib.hid (less_lt HX.out)
          go_wp2
          refine wp_region_noPanic ?_
          refine wp_region_held_drew (S := (fun w' => w'.cell? ⟨g, o + i * 3, none⟩ = some (.int .i64 x) ∧ w'.cell? ⟨g, o + i * 3 + 1, none⟩ = some (.int .i64 y))) (by kernel_rfl) (by go_keep) (fun hHeld => ?_)
          refine' wpAnyH_take (i := 0) ?hia0 ?hsa0 ?hfa0 ?hra0 ?hQa0 ?hya0 ?hSa0 ?ha0
          case hia0 => (simp only [List.getElem?_toArray, List.getElem?_cons_succ, List.getElem?_cons_zero]; exact rfl)
          case hsa0 => kernel_rfl
          case hfa0 => kernel_rfl
          case hra0 => kernel_rfl
          case hQa0 => exact fun _ _ _ h => h
          case hya0 => (first | (refine Or.inr ⟨by rfl, ?_⟩; rfl) | (refine Or.inl ⟨by rfl, ?_⟩; (intro w hSw; (try dsimp only at hSw); go_simp); try with_reducible rfl))
          case hSa0 => assumption
          try simp only [Act.put, List.setIfInBounds_toArray, List.set_cons_zero, List.set_cons_succ]
          refine' wpAnyH_take (i := 1) ?hia1 ?hsa1 ?hfa1 ?hra1 ?hQa1 ?hya1 ?hSa1 ?ha1
          case hia1 => (simp only [List.getElem?_toArray, List.getElem?_cons_succ, List.getElem?_cons_zero]; exact rfl)
          case hsa1 => kernel_rfl
          case hfa1 => kernel_rfl
          case hra1 => kernel_rfl
          case hQa1 => exact fun _ _ _ h => h
          case hya1 => (first | (refine Or.inr ⟨by rfl, ?_⟩; rfl) | (refine Or.inl ⟨by rfl, ?_⟩; (intro w hSw; (try dsimp only at hSw); go_simp); try with_reducible rfl))
          case hSa1 => assumption
          try simp only [Act.put, List.setIfInBounds_toArray, List.set_cons_zero, List.set_cons_succ]
          refine' wpAnyH_take (i := 2) ?hia2 ?hsa2 ?hfa2 ?hra2 ?hQa2 ?hya2 ?hSa2 ?ha2
          case hia2 => (simp only [List.getElem?_toArray, List.getElem?_cons_succ, List.getElem?_cons_zero]; exact rfl)
          case hsa2 => kernel_rfl
          case hfa2 => kernel_rfl
          case hra2 => kernel_rfl
          case hQa2 => exact fun _ _ _ h => h
          case hya2 => (first | (refine Or.inr ⟨by rfl, ?_⟩; rfl) | (refine Or.inl ⟨by rfl, ?_⟩; (intro w hSw; (try dsimp only at hSw); go_simp); try with_reducible rfl))
          case hSa2 => assumption
          try simp only [Act.put, List.setIfInBounds_toArray, List.set_cons_zero, List.set_cons_succ]
          refine' wpAnyH_take (i := 3) ?hia3 ?hsa3 ?hfa3 ?hra3 ?hQa3 ?hya3 ?hSa3 ?ha3
          case hia3 => (simp only [List.getElem?_toArray, List.getElem?_cons_succ, List.getElem?_cons_zero]; exact rfl)
          case hsa3 => kernel_rfl
          case hfa3 => kernel_rfl
          case hra3 => kernel_rfl
          case hQa3 => exact fun _ _ _ h => h
          case hya3 => (first | (refine Or.inr ⟨by rfl, ?_⟩; rfl) | (refine Or.inl ⟨by rfl, ?_⟩; (intro w hSw; (try dsimp only at hSw); go_simp); try with_reducible rfl))
          case hSa3 => assumption
          try simp only [Act.put, List.setIfInBounds_toArray, List.set_cons_zero, List.set_cons_succ]
          refine' wpAnyH_take (i := 4) ?hia4 ?hsa4 ?hfa4 ?hra4 ?hQa4 ?hya4 ?hSa4 ?ha4
          case hia4 => (simp only [List.getElem?_toArray, List.getElem?_cons_succ, List.getElem?_cons_zero]; exact rfl)
          case hsa4 => kernel_rfl
          case hfa4 => kernel_rfl
          case hra4 => kernel_rfl
          case hQa4 => exact fun _ _ _ h => h
          case hya4 => (first | (refine Or.inr ⟨by rfl, ?_⟩; rfl) | (refine Or.inl ⟨by rfl, ?_⟩; (intro w hSw; (try dsimp only at hSw); go_simp); try with_reducible rfl))
          case hSa4 => assumption
          try simp only [Act.put, List.setIfInBounds_toArray, List.set_cons_zero, List.set_cons_succ]
          refine' wpAnyH_take (i := 5) ?hia5 ?hsa5 ?hfa5 ?hra5 ?hQa5 ?hya5 ?hSa5 ?ha5
          case hia5 => (simp only [List.getElem?_toArray, List.getElem?_cons_succ, List.getElem?_cons_zero]; exact rfl)
          case hsa5 => kernel_rfl
          case hfa5 => kernel_rfl
          case hra5 => kernel_rfl
          case hQa5 => exact fun _ _ _ h => h
          case hya5 => (first | (refine Or.inr ⟨by rfl, ?_⟩; rfl) | (refine Or.inl ⟨by rfl, ?_⟩; (intro w hSw; (try dsimp only at hSw); go_simp); try with_reducible rfl))
          case hSa5 => assumption
          try simp only [Act.put, List.setIfInBounds_toArray, List.set_cons_zero, List.set_cons_succ]
          refine' wpAnyH_take (i := 6) ?hia6 ?hsa6 ?hfa6 ?hra6 ?hQa6 ?hya6 ?hSa6 ?ha6
          case hia6 => (simp only [List.getElem?_toArray, List.getElem?_cons_succ, List.getElem?_cons_zero]; exact rfl)
          case hsa6 => kernel_rfl
          case hfa6 => kernel_rfl
          case hra6 => kernel_rfl
          case hQa6 => exact fun _ _ _ h => h
          case hya6 => (first | (refine Or.inr ⟨by rfl, ?_⟩; rfl) | (refine Or.inl ⟨by rfl, ?_⟩; (intro w hSw; (try dsimp only at hSw); go_simp); try with_reducible rfl))
          case hSa6 => assumption
          try simp only [Act.put, List.setIfInBounds_toArray, List.set_cons_zero, List.set_cons_succ]
          refine' wpAnyH_take (i := 7) ?hia7 ?hsa7 ?hfa7 ?hra7 ?hQa7 ?hya7 ?hSa7 ?ha7
          case hia7 => (simp only [List.getElem?_toArray, List.getElem?_cons_succ, List.getElem?_cons_zero]; exact rfl)
          case hsa7 => kernel_rfl
          case hfa7 => kernel_rfl
          case hra7 => kernel_rfl
          case hQa7 => exact fun _ _ _ h => h
          case hya7 => (first | (refine Or.inr ⟨by rfl, ?_⟩; rfl) | (refine Or.inl ⟨by rfl, ?_⟩; (intro w hSw; (try dsimp only at hSw); go_simp); try with_reducible rfl))
          case hSa7 => assumption
          try simp only [Act.put, List.setIfInBounds_toArray, List.set_cons_zero, List.set_cons_succ]
          refine' wpAnyH_take (i := 8) ?hia8 ?hsa8 ?hfa8 ?hra8 ?hQa8 ?hya8 ?hSa8 ?ha8
          case hia8 => (simp only [List.getElem?_toArray, List.getElem?_cons_succ, List.getElem?_cons_zero]; exact rfl)
          case hsa8 => kernel_rfl
          case hfa8 => kernel_rfl
          case hra8 => kernel_rfl
          case hQa8 => exact fun _ _ _ h => h
          case hya8 => (first | (refine Or.inr ⟨by rfl, ?_⟩; rfl) | (refine Or.inl ⟨by rfl, ?_⟩; (intro w hSw; (try dsimp only at hSw); go_simp); try with_reducible rfl))
          case hSa8 => assumption
          try simp only [Act.put, List.setIfInBounds_toArray, List.set_cons_zero, List.set_cons_succ]
          refine' wpAnyH_take (i := 9) ?hia9 ?hsa9 ?hfa9 ?hra9 ?hQa9 ?hya9 ?hSa9 ?ha9
          case hia9 => (simp only [List.getElem?_toArray, List.getElem?_cons_succ, List.getElem?_cons_zero]; exact rfl)
          case hsa9 => kernel_rfl
          case hfa9 => kernel_rfl
          case hra9 => kernel_rfl
          case hQa9 => exact fun _ _ _ h => h
          case hya9 => (first | (refine Or.inr ⟨by rfl, ?_⟩; rfl) | (refine Or.inl ⟨by rfl, ?_⟩; (intro w hSw; (try dsimp only at hSw); go_simp); try with_reducible rfl))
          case hSa9 => assumption
          try simp only [Act.put, List.setIfInBounds_toArray, List.set_cons_zero, List.set_cons_succ]
          refine' wpAnyH_take (i := 10) ?hia10 ?hsa10 ?hfa10 ?hra10 ?hQa10 ?hya10 ?hSa10 ?ha10
          case hia10 => (simp only [List.getElem?_toArray, List.getElem?_cons_succ, List.getElem?_cons_zero]; exact rfl)
          case hsa10 => kernel_rfl
          case hfa10 => kernel_rfl
          case hra10 => kernel_rfl
          case hQa10 => exact fun _ _ _ h => h
          case hya10 => (first | (refine Or.inr ⟨by rfl, ?_⟩; rfl) | (refine Or.inl ⟨by rfl, ?_⟩; (intro w hSw; (try dsimp only at hSw); go_simp); try with_reducible rfl))
          case hSa10 => assumption
          try simp only [Act.put, List.setIfInBounds_toArray, List.set_cons_zero, List.set_cons_succ]
          refine' wpAnyH_take (i := 11) ?hia11 ?hsa11 ?hfa11 ?hra11 ?hQa11 ?hya11 ?hSa11 ?ha11
          case hia11 => (simp only [List.getElem?_toArray, List.getElem?_cons_succ, List.getElem?_cons_zero]; exact rfl)
          case hsa11 => kernel_rfl
          case hfa11 => kernel_rfl
          case hra11 => kernel_rfl
          case hQa11 => exact fun _ _ _ h => h
          case hya11 => (first | (refine Or.inr ⟨by rfl, ?_⟩; rfl) | (refine Or.inl ⟨by rfl, ?_⟩; (intro w hSw; (try dsimp only at hSw); go_simp); try with_reducible rfl))
          case hSa11 => assumption
          try simp only [Act.put, List.setIfInBounds_toArray, List.set_cons_zero, List.set_cons_succ]
          refine wpAnyH_ready (rs := [12]) (by kernel_rfl) (by simp) ?_
          refine' AllReadyH.cons ?hia12 (fun K hK => ?ha12) AllReadyH.nil
          case hia12 => (simp only [List.getElem?_toArray, List.getElem?_cons_succ, List.getElem?_cons_zero]; exact rfl)
          go_simp
          go_at_call 11
          (with_reducible refine (Less_any HT7.out hTl x y).mono ?_)
          rintro e w7 ⟨v7, rfl, ho7, hb7⟩
          obtain ⟨A7, c7, rfl⟩ := own_form ho7.1
          obtain ⟨T7, hT7⟩ : ∃ T7, lessL T x y = T7 := ⟨_, rfl⟩
          rw [hT7] at ho7 HOKL HLT ⊢
          obtain ⟨M7, hM7⟩ : ∃ M7, T7.length = M7 := ⟨_, rfl⟩
          rw [hM7] at ho7 HLT ⊢
          have e0 := (hb7.cell hbb).trans d0
          have e1 := (hb7.cell hbb).trans d1
          have s7 : w6.heap.size ≤ w7.heap.size := hb7.size
          have HB7 : Hid (Below w.heap.size w w7) := Lib.hid (HB6.out.trans (Below.trans (below_drewN (Below.refl _ _) 1) (hb7.mono s6)))
          have HR7 := Lib.hid ((HR6.out.drewN 1).below hb7)
          have HO7 := Lib.hid ho7.read
          have HT7S := Lib.hid hT7
          clear hb7 ho7 hT7 hM7
          refine hK.out _ _ (by go_keep) (fun hHeld => ?_)
          clear hK K
          refine wpAnyH_ready (rs := [13]) (by kernel_rfl) (by simp) ?_
          refine' AllReadyH.cons ?hia13 (fun K hK => ?ha13) AllReadyH.nil
          case hia13 => (simp only [List.getElem?_toArray, List.getElem?_cons_succ, List.getElem?_cons_zero]; exact rfl)
          go_simp
          go_at_call 7
          (with_reducible refine (Roots_yes HO7.out HOKL.out h1 h8).mono ?_)
          rintro e w8 ⟨v8, D, rfl, hv8, hl8, hb8⟩
          have g0 := (hb8.cell (p := ⟨g, o + i * 3, none⟩) (Nat.lt_of_lt_of_le hbb s7)).trans e0
          have g1 := (hb8.cell (p := ⟨g, o + i * 3 + 1, none⟩) (Nat.lt_of_lt_of_le hbb s7)).trans e1
          have HB8 := Lib.hid (HB7.out.trans (hb8.mono (Nat.le_trans s6 s7)))
          have HR8 := Lib.hid (HR7.out.below hb8)
          have HV8 := Lib.hid hv8
          have HL8 := Lib.hid hl8
          clear hv8 hl8 hb8
          refine hK.out _ _ (by go_keep) (fun hHeld => ?_)
          clear hK K
          refine' wpAnyH_take (i := 14) ?hia14 ?hsa14 ?hfa14 ?hra14 ?hQa14 ?hya14 ?hSa14 ?ha14
          case hia14 => (simp only [List.getElem?_toArray, List.getElem?_cons_succ, List.getElem?_cons_zero]; exact rfl)
          case hsa14 => kernel_rfl
          case hfa14 => kernel_rfl
          case hra14 => kernel_rfl
          case hQa14 => exact fun _ _ _ h => h
          case hya14 => (first | (refine Or.inr ⟨by rfl, ?_⟩; rfl) | (refine Or.inl ⟨by rfl, ?_⟩; (intro w hSw; (try dsimp only at hSw); go_simp); try with_reducible rfl))
          case hSa14 => assumption
          try simp only [Act.put, List.setIfInBounds_toArray, List.set_cons_zero, List.set_cons_succ]
          refine' wpAnyH_take (i := 15) ?hia15 ?hsa15 ?hfa15 ?hra15 ?hQa15 ?hya15 ?hSa15 ?ha15
          case hia15 => (simp only [List.getElem?_toArray, List.getElem?_cons_succ, List.getElem?_cons_zero]; exact rfl)
          case hsa15 => kernel_rfl
          case hfa15 => kernel_rfl
          case hra15 => kernel_rfl
          case hQa15 => exact fun _ _ _ h => h
          case hya15 => (first | (refine Or.inr ⟨by rfl, ?_⟩; rfl) | (refine Or.inl ⟨by rfl, ?_⟩; (intro w hSw; (try dsimp only at hSw); go_simp); try with_reducible rfl))
          case hSa15 => assumption
          try simp only [Act.put, List.setIfInBounds_toArray, List.set_cons_zero, List.set_cons_succ]
          refine' wpAnyH_take (i := 16) ?hia16 ?hsa16 ?hfa16 ?hra16 ?hQa16 ?hya16 ?hSa16 ?ha16
          case hia16 => (simp only [List.getElem?_toArray, List.getElem?_cons_succ, List.getElem?_cons_zero]; exact rfl)
          case hsa16 => kernel_rfl
          case hfa16 => kernel_rfl
          case hra16 => kernel_rfl
          case hQa16 => exact fun _ _ _ h => h
          case hya16 => (first | (refine Or.inr ⟨by rfl, ?_⟩; rfl) | (refine Or.inl ⟨by rfl, ?_⟩; (intro w hSw; (try dsimp only at hSw); go_simp); try with_reducible rfl))
          case hSa16 => assumption
          try simp only [Act.put, List.setIfInBounds_toArray, List.set_cons_zero, List.set_cons_succ]
          refine' wpAnyH_take (i := 17) ?hia17 ?hsa17 ?hfa17 ?hra17 ?hQa17 ?hya17 ?hSa17 ?ha17
          case hia17 => (simp only [List.getElem?_toArray, List.getElem?_cons_succ, List.getElem?_cons_zero]; exact rfl)
          case hsa17 => kernel_rfl
          case hfa17 => kernel_rfl
          case hra17 => kernel_rfl
          case hQa17 => exact fun _ _ _ h => h
          case hya17 => (first | (refine Or.inr ⟨by rfl, ?_⟩; rfl) | (refine Or.inl ⟨by rfl, ?_⟩; (intro w hSw; (try dsimp only at hSw); go_simp); try with_reducible rfl))
          case hSa17 => assumption
          try simp only [Act.put, List.setIfInBounds_toArray, List.set_cons_zero, List.set_cons_succ]
          refine' wpAnyH_take (i := 18) ?hia18 ?hsa18 ?hfa18 ?hra18 ?hQa18 ?hya18 ?hSa18 ?ha18
          case hia18 => (simp only [List.getElem?_toArray, List.getElem?_cons_succ, List.getElem?_cons_zero]; exact rfl)
          case hsa18 => kernel_rfl
          case hfa18 => kernel_rfl
          case hra18 => kernel_rfl
          case hQa18 => exact fun _ _ _ h => h
          case hya18 => (first | (refine Or.inr ⟨by rfl, ?_⟩; rfl) | (refine Or.inl ⟨by rfl, ?_⟩; (intro w hSw; (try dsimp only at hSw); go_simp); try with_reducible rfl))
          case hSa18 => assumption
          try simp only [Act.put, List.setIfInBounds_toArray, List.set_cons_zero, List.set_cons_succ]
          refine wpAnyH_done (by kernel_rfl) ?_ _
          refine NoPanic.normal ?_
          have hne := roots_ne HLEN.out (HL8.out.inv (ok_arcs HOKL.out)).len (less_roots HOK.out HF.out (m := T7) (by rw [HT.out, ← HT7S.out]; exact less_sub _ _ _) (by rw [HT.out, ← HT7S.out]; exact less_lt HX.out) (HL8.out.fin (ok_arcs HOKL.out) h8 (sym_arcs T7)))
          have HNE := Lib.hid hne
          clear hHeld hne d0 d1 d2 e0 e1 g0 g1
          go_wp2_with fail
          go_at_call 10
          (with_reducible refine (Ints_v HV8.out HR8.out).mono ?_)
          rintro e w9 ⟨rfl, d9, rfl⟩
          rw [HNE.out]
          go_wp2
          go_ret
          exact ⟨rfl, below_drewN HB8.out _⟩
theorem SpanTree_walk (w : World) (n : Int) (bn : -9223372036854775808 ≤ n ∧ n ≤ 9223372036854775807) (A : Option Addr) (m c : Nat) (l : List Lnk) (rr1 : RV rdLinks w (.slice A m c) l) (q1 : l.length * 24 ≤ reachBytes ∧ ∀ x ∈ l, True ∧ True ∧ True) (i : Int) (bi : -9223372036854775808 ≤ i ∧ i ≤ 9223372036854775807) :
    Calls Try.prog 4 #[.int .i64 n, .slice A m c, .int .i64 i] w fun e w' => e = .returned (.bool true) ∧ Below w.heap.size w w' := by
  by_cases h0 : graphE n l = 0
  · obtain ⟨N, rfl, h1, h8, hok⟩ := graphE_ok h0
    exact SpanTree_in (show R1 rdLinks w _ l from rr1) hok h1 h8
  · exact SpanTree_bad (show R1 rdLinks w _ l from rr1) q1.1 rfl h0
end Go.Proofs.Ytccgaflbhpagcaa
