/- DeskKeeps: the first lines are the same; a line that ends in an error changes nothing. The walk. -/
import Derived.Test.YtgdlkjahlajcpaaGreatDoorKM
import Derived.Test.YtgdlkjahlajcpaaGreatDoorKQ
import Derived.Test.YtgdlkjahlajcpaaGreatDoorKY
import Derived.Lib.QuietBelow
import Derived.BigQuiet
import Derived.Deep.DeepCutAuto
namespace Go.Proofs.YtgdlkjahlajcpaaGreatDoor
open Go.ChangeShapes Go.WideShapes Go.ChangeAt Go.RowKit
set_option linter.unusedVariables false
set_option linter.unusedSimpArgs false

/-- desk.Run with what comes of it written out -/
theorem Run_r {s : ByteArray} {t : List UInt8} {w : World} (hw : HStr w) (hs : s.size ≤ 2097152) (ht : s.data.toList = t) :
    Calls Tryz.prog 6 #[.string s] w fun e w' => ∃ A c n, e = .returned (.slice A n c) ∧ n = (deskA t).length ∧ n ≤ c ∧ Hid (RdT w' A n (deskA t)) ∧ Below w.heap.size w w' :=
  (Run_any s w hw hs).mono fun e w' ⟨v, he, ho, hb⟩ => by
    rw [ht] at ho
    obtain ⟨A, c, hv⟩ := ho.form
    rw [hv] at ho he
    obtain ⟨h1, h2, h3⟩ := ho.rd
    exact ⟨A, c, _, he, rfl, h3, Lib.hid h1, hb⟩
theorem desk_len (s : List UInt8) : (deskA s).length ≤ 100 := by
  unfold deskA
  split
  · simp
  · rename_i h
    rw [runA_length]; omega
theorem rd_two (w : World) (x y : List UInt8) : RdT (w.alloc (.cells #[strV x, strV y] 9)) (some ⟨w.heap.size, 0, none⟩) 2 [x, y] := by
  refine ⟨rfl, fun _ => ⟨_, _, rfl, by simp, fun k l hl => ?_⟩⟩
  rw [cell_of_row _ w.heap.size _ _ _ (0, 0) (heap_alloc_new _ _)]
  match k, hl with
  | 0, hl => simp at hl; subst hl; rfl
  | 1, hl => simp at hl; subst hl; rfl
set_option maxRecDepth 100000 in
set_option maxHeartbeats 8000000 in
theorem DeskKeeps_walk (W : World) (s : ByteArray) (cs : s.size ≤ reachBytes) (l : ByteArray) (cl : l.size ≤ reachBytes) (hw : HStr W) (hk : s.size + 1 + (l.size + 1) ≤ 1048576) :
    Calls Tryz.prog 4 #[.string s, .string l] W fun e w' => e = .returned (.bool true) ∧ Below W.heap.size W w' := by
  have HW := Lib.hid hw
  clear hw cs cl
  obtain ⟨PP, hPP⟩ : ∃ PP : Ending → World → Prop, (fun e w' => e = .returned (.bool true) ∧ Below W.heap.size W w') = PP := ⟨_, rfl⟩
  have HPP := Lib.hid hPP
  rw [hPP]
  clear hPP
  have n1 : ¬ 9223372036854775807 < (s.size : Int) + 11 := by omega
  have n2 : ¬ 9223372036854775807 < (s.size : Int) + 1 := by omega
  have n3 : ¬ 9223372036854775807 < (s.size : Int) + 1 + (l.size : Int) := by omega
  have n4 : ¬ 9223372036854775807 < (s.size : Int) + 1 + (l.size : Int) + 11 := by omega
  go_enter Tryz.func4, Tryz.ntmps4
  go_wp2_with fail
  go_at_call 6
  refine (Run_r (t := put5 ++ 10 :: nList) HW.out ?hsz rfl).mono ?_
  case hsz => decide
  rintro e w1 ⟨A1, c1, m1, rfl, hm1, hc1, HR1, hb1⟩
  rw [fact_keeps] at hm1 HR1
  obtain rfl : m1 = 2 := hm1
  have HB1 := Lib.hid hb1
  clear hb1
  go_wp2_with fail
  go_at_call 5
  have hr2 : RdT (w1.alloc (.cells #[.string ⟨#[111, 107]⟩, .string ⟨#[49, 48, 46, 48, 46, 48, 46, 48, 47, 56]⟩] 9)) (some ⟨w1.heap.size, 0, none⟩) 2 [okT, netB] := rd_two w1 okT netB
  have hr1 := HR1.out.below (below_1 w1 (.cells #[.string ⟨#[111, 107]⟩, .string ⟨#[49, 48, 46, 48, 46, 48, 46, 48, 47, 56]⟩] 9))
  (with_reducible refine (Texts_same hr1 hr2 (by omega)).mono ?_)
  rintro e w2 ⟨rfl, hb2⟩
  have HB2 := Lib.hid ((HB1.out.alloc HB1.out.size _).trans (hb2.mono (by have := HB1.out.size; simp; omega)))
  clear hb2 HR1 hr1 hr2
  go_wp2_with fail
  go_at_call 6
  have eA : (s ++ ⟨#[10, 108, 105, 115, 116, 10, 99, 111, 118, 101, 114]⟩ : ByteArray).data.toList = s.data.toList ++ xLC := by rw [Joins.data_append]; rfl
  refine (Run_r (t := s.data.toList ++ xLC) (HW.out.on HB2.out) ?hsz2 eA).mono ?_
  case hsz2 => rw [← size_data, eA, List.length_append, size_data]; have : xLC.length = 11 := rfl; omega
  rintro e w3 ⟨A, ca, na, rfl, hna, hca, HRA, hb3⟩
  have HB3 := Lib.hid (HB2.out.trans (hb3.mono HB2.out.size))
  have HNA := Lib.hid hna
  have hna1 : na ≤ 100 := by rw [hna]; exact desk_len _
  clear hb3 hna eA
  go_wp2_with fail
  go_at_call 6
  have eB : (s ++ ⟨#[10]⟩ ++ l ++ ⟨#[10, 108, 105, 115, 116, 10, 99, 111, 118, 101, 114]⟩ : ByteArray).data.toList = s.data.toList ++ 10 :: (l.data.toList ++ xLC) := by
    rw [Joins.data_append, Joins.data_append, Joins.data_append]
    show s.data.toList ++ [10] ++ l.data.toList ++ xLC = _
    simp
  refine (Run_r (t := s.data.toList ++ 10 :: (l.data.toList ++ xLC)) (HW.out.on HB3.out) ?hsz3 eB).mono ?_
  case hsz3 => rw [← size_data, eB, List.length_append, List.length_cons, List.length_append, size_data, size_data]; have : xLC.length = 11 := rfl; omega
  rintro e w4 ⟨B, cb, nb, rfl, hnb, hcb, HRB, hb4⟩
  have HRA4 := Lib.hid (HRA.out.below hb4)
  have HB4 := Lib.hid (HB3.out.trans (hb4.mono HB3.out.size))
  have HNB := Lib.hid hnb
  have hnb1 : nb ≤ 100 := by rw [hnb]; exact desk_len _
  clear hb4 hnb eB HRA
  go_wp2_with fail
  go_at_call 7
  (with_reducible refine (RCut_c l 10 10 rfl _ (by omega)).mono ?_)
  rintro e w5 ⟨L, g, cap, hL, rfl, -, -, hb5⟩
  have HRA5 := Lib.hid (HRA4.out.below hb5)
  have HRB5 := Lib.hid (HRB.out.below hb5)
  have HB5 := Lib.hid (HB4.out.trans (hb5.mono HB4.out.size))
  have hLn : L.length = (segs 10 l.data.toList).length := by rw [← hL, List.length_map]
  obtain ⟨N, hN⟩ : ∃ N, L.length = N := ⟨_, rfl⟩
  rw [hN] at hLn ⊢
  have HLN := Lib.hid hLn
  have hN1 : N ≤ 2097153 := by
    rw [hLn, segs_length]
    have h2 := List.count_le_length (a := (10 : UInt8)) (l := l.data.toList)
    rw [size_data] at h2; omega
  clear hb5 hLn hL hN HRA4 HRB
  by_cases h1 : N = 1
  · subst h1
    by_cases h2 : nb = na + 1
    · subst h2
      by_cases h3 : na < 2
      · have h3' : (na : Int) < 2 := by omega
        go_wp2
        rw [← HPP.out]
        exact ⟨rfl, HB5.out⟩
      · have h3' : decide ((na : Int) < 2) = false := decide_eq_false (by omega)
        go_wp2
        obtain ⟨P, x, y, z, y', z', hA, hB, hE⟩ := keeps_plain (s := s.data.toList) (l := l.data.toList) HLN.out.symm (by rw [← HNA.out, ← HNB.out]) (by rw [← HNA.out]; omega)
        obtain ⟨K, hKe⟩ : ∃ K, P.length = K := ⟨_, rfl⟩
        have hnK : na = K + 2 := by rw [HNA.out, hA, List.length_append, hKe]; rfl
        have hrA := HRA5.out
        have hrB := HRB5.out
        rw [hA] at hrA
        rw [hB] at hrB
        subst hnK
        obtain ⟨gA, oA, rfl, hgA, -⟩ := hrA.2 (by omega)
        obtain ⟨gB, oB, rfl, hgB, hcB⟩ := hrB.2 (by omega)
        obtain ⟨X, hX⟩ : ∃ X : ByteArray, X = ⟨x.toArray⟩ := ⟨_, rfl⟩
        have cx : w5.cell? ⟨gB, oB + K, none⟩ = some (.string X) := by rw [hX]; exact hcB K x (by rw [List.getElem?_append_right (by omega), hKe]; simp)
        have RA1 : Hid (RdT w5 (some ⟨gA, oA, none⟩) K P) := Lib.hid (by have h := hrA.pre (k := K) (by omega); rwa [List.take_left' hKe] at h)
        have RB1 : Hid (RdT w5 (some ⟨gB, oB, none⟩) K P) := Lib.hid (by have h := hrB.pre (k := K) (by omega); rwa [List.take_left' hKe] at h)
        have RA2 : Hid (RdT w5 (some ⟨gA, oA + K, none⟩) 2 [y, z]) := Lib.hid (by have h := hrA.from (k := K) (m := 2) (by omega); rwa [List.drop_left' hKe] at h)
        have RB2 : Hid (RdT w5 (some ⟨gB, oB + (K + 1), none⟩) 2 [y', z']) := Lib.hid (by
          have h := hrB.from (k := K + 1) (m := 2) (by omega)
          have e : (P ++ [x, y', z']).drop (K + 1) = [y', z'] := by rw [← List.drop_drop, List.drop_left' hKe]; rfl
          rwa [e] at h)
        have HX := Lib.hid hX
        have HE := Lib.hid hE
        have CX := Lib.hid cx
        clear h3 h3' hA hB hE hKe hrA hrB hcB hX HNA HNB HRA5 HRB5
        refine wp_region_quiet_below (by kernel_rfl) (by kernel_rfl) ?_
        have tc := fun d os => Calls.regrown_of (Texts_same (c := ca) (c' := cb) (RA1.out.below (below_regrown w5 d os)) (RB1.out.below (below_regrown w5 d os)) (by omega))
        repeat (go_big_quiet_step (first | (with_reducible exact (tc _ _)) | fail))
        refine wpQuiet_nil ?_
        intro w6 hw'
        obtain ⟨⟨dq, osq⟩, hw''⟩ := hw'
        have hb6 := below_regrown w5 dq osq
        rw [← hw''] at hb6
        have cx6 : w6.cell? ⟨gB, oB + K, none⟩ = some (.string X) := (hb6.cell (p := ⟨gB, oB + K, none⟩) hgB).trans cx
        have RA6 := Lib.hid (RA2.out.below hb6)
        have RB6 := Lib.hid (RB2.out.below hb6)
        have HB6 := Lib.hid (HB5.out.trans (hb6.mono HB5.out.size))
        clear hw'' hb6 tc cx CX
        have hXL : X.toList = x := by rw [ByteArray.toList_eq, HX.out]
        by_cases x7 : x = nameE 7
        · have t7 : (X.toList == [69, 114, 114, 83, 121, 110, 116, 97, 120]) = true := by rw [hXL, x7]; rfl
          have HX7 := Lib.hid x7
          clear x7 hXL
          obtain ⟨rfl, rfl⟩ := HE.out (.inl HX7.out)
          go_wp2
          refine wp_region_quiet_below (by kernel_rfl) (by kernel_rfl) ?_
          have tc := fun d os => Calls.regrown_of (Texts_same (c := ca - K) (c' := cb - (K + 1)) (RA6.out.below (below_regrown w6 d os)) (RB6.out.below (below_regrown w6 d os)) (by omega))
          repeat (go_big_quiet_step (first | (with_reducible exact (tc _ _)) | fail))
          refine wpQuiet_nil ?_
          intro w7 hw'
          obtain ⟨⟨dr, osr⟩, hw''⟩ := hw'
          have hb7 := below_regrown w6 dr osr
          rw [← hw''] at hb7
          have HB7 := Lib.hid (HB6.out.trans (hb7.mono HB6.out.size))
          clear hw'' hb7 tc
          go_wp2
          rw [← HPP.out]
          exact ⟨rfl, HB7.out⟩
        · have t7 : (X.toList == [69, 114, 114, 83, 121, 110, 116, 97, 120]) = false := by rw [hXL]; exact beq_eq_false_iff_ne.2 x7
          by_cases x2 : x = nameE 2
          · have t2 : (X.toList == [69, 114, 114, 78, 111, 110, 101]) = true := by rw [hXL, x2]; rfl
            have HX2 := Lib.hid x2
            clear x7 x2 hXL
            obtain ⟨rfl, rfl⟩ := HE.out (.inr (.inl HX2.out))
            go_wp2
            refine wp_region_quiet_below (by kernel_rfl) (by kernel_rfl) ?_
            have tc := fun d os => Calls.regrown_of (Texts_same (c := ca - K) (c' := cb - (K + 1)) (RA6.out.below (below_regrown w6 d os)) (RB6.out.below (below_regrown w6 d os)) (by omega))
            repeat (go_big_quiet_step (first | (with_reducible exact (tc _ _)) | fail))
            refine wpQuiet_nil ?_
            intro w7 hw'
            obtain ⟨⟨dr, osr⟩, hw''⟩ := hw'
            have hb7 := below_regrown w6 dr osr
            rw [← hw''] at hb7
            have HB7 := Lib.hid (HB6.out.trans (hb7.mono HB6.out.size))
            clear hw'' hb7 tc
            go_wp2
            rw [← HPP.out]
            exact ⟨rfl, HB7.out⟩
          · have t2 : (X.toList == [69, 114, 114, 78, 111, 110, 101]) = false := by rw [hXL]; exact beq_eq_false_iff_ne.2 x2
            by_cases x4 : x = nameE 4
            · have t4 : (X.toList == [69, 114, 114, 70, 117, 108, 108]) = true := by rw [hXL, x4]; rfl
              have HX4 := Lib.hid x4
              clear x7 x2 x4 hXL
              obtain ⟨rfl, rfl⟩ := HE.out (.inr (.inr HX4.out))
              go_wp2
              refine wp_region_quiet_below (by kernel_rfl) (by kernel_rfl) ?_
              have tc := fun d os => Calls.regrown_of (Texts_same (c := ca - K) (c' := cb - (K + 1)) (RA6.out.below (below_regrown w6 d os)) (RB6.out.below (below_regrown w6 d os)) (by omega))
              repeat (go_big_quiet_step (first | (with_reducible exact (tc _ _)) | fail))
              refine wpQuiet_nil ?_
              intro w7 hw'
              obtain ⟨⟨dr, osr⟩, hw''⟩ := hw'
              have hb7 := below_regrown w6 dr osr
              rw [← hw''] at hb7
              have HB7 := Lib.hid (HB6.out.trans (hb7.mono HB6.out.size))
              clear hw'' hb7 tc
              go_wp2
              rw [← HPP.out]
              exact ⟨rfl, HB7.out⟩
            · have t4 : (X.toList == [69, 114, 114, 70, 117, 108, 108]) = false := by rw [hXL]; exact beq_eq_false_iff_ne.2 x4
              clear x7 x2 x4 hXL
              go_wp2
              rw [← HPP.out]
              exact ⟨rfl, HB6.out⟩
    · have h2' : ((nb : Int) != (na : Int) + 1) = true := by simpa using (by omega : (nb : Int) ≠ (na : Int) + 1)
      go_wp2
      rw [← HPP.out]
      exact ⟨rfl, HB5.out⟩
  · have h1' : ((N : Int) != 1) = true := by simpa using (by omega : (N : Int) ≠ 1)
    go_wp2
    rw [← HPP.out]
    exact ⟨rfl, HB5.out⟩
end Go.Proofs.YtgdlkjahlajcpaaGreatDoor
