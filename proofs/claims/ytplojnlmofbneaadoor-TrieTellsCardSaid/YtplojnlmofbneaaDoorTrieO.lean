/- The reference's nets in order: Ordered. -/
import Derived.Test.YtplojnlmofbneaaDoorTrieX
import Derived.Test.YtplojnlmofbneaaDoorSub
import Derived.Deep.DeepCutAuto
namespace Go.Proofs.YtplojnlmofbneaaDoor
open Go.ChangeShapes Go.WideShapes Go.ChangeAt Go.RowKit
set_option linter.unusedVariables false
set_option linter.unusedSimpArgs false
theorem rless_c {w : World} {a n b m : Int} {r : Bool} (hr : lessB (a, n) (b, m) = r) (d : Nat) (os : Array Obj) :
    Calls Tryd.prog 49 #[.agg #[.int .u32 a, .int .i64 n], .agg #[.int .u32 b, .int .i64 m]] (Sort.grow (redrawn w d) os) fun e w'' => e = .returned (.bool r) ∧ ∃ p : Regrown, w'' = Sort.grow (redrawn w p.d) p.os :=
  Calls.regrown_of ((RLess_any a n b m _).mono fun e w' ⟨he, hb⟩ => ⟨by rw [he, hr], hb⟩)
theorem RdSlice.from2 {α : Type} {rd : Rdr α} {w : World} {ok : Nat → Prop} {b o n c : Nat} {l : List α} (h : RdSlice 2 rd w ok [.slice (some ⟨b, o, none⟩) n c] l) (i : Nat) (hi : i ≤ n) (hb : ok b) :
    RdSlice 2 rd w ok [.slice (some ⟨b, o + i * 2, none⟩) (n - i) (c - i)] (l.drop i) := by
  obtain ⟨e, h1, h2⟩ := h.len
  obtain ⟨A', c', e', _, _, h3⟩ := h
  simp only [List.cons.injEq, Value.slice.injEq, and_true] at e'
  obtain ⟨rfl, _, rfl⟩ := e'
  have hl : (l.drop i).length = n - i := by rw [List.length_drop]; omega
  refine ⟨some ⟨b, o + i * 2, none⟩, c - i, by rw [hl], by rw [hl]; omega, by omega, fun h0 => ⟨b, o + i * 2, rfl, hb, fun j x hj => ?_⟩⟩
  have hj' : l[i + j]? = some x := by rw [List.getElem?_drop] at hj; exact hj
  have hjn : i + j < l.length := (List.getElem?_eq_some_iff.1 hj').1
  obtain ⟨b', o', e2, _, h4⟩ := h3 (by omega)
  simp only [Option.some.injEq, Addr.mk.injEq] at e2
  obtain ⟨rfl, rfl, _⟩ := e2
  obtain ⟨cs', h5, h6, h7⟩ := h4 _ _ hj'
  refine ⟨cs', h5, h6, fun m u hu => ?_⟩
  have := h7 m u hu
  rw [← this]
  congr 2
  omega
theorem RdSlice.fromIf {α : Type} {rd : Rdr α} {w : World} {ok : Nat → Prop} {b n c m : Nat} {l : List α} (h : RdSlice 2 rd w ok [.slice (some ⟨b, 0, none⟩) n c] l) (i : Nat) (hi : i ≤ n) (hm : n - i = m) (hb : ok b) :
    RdSlice 2 rd w ok [.slice (if c = i then some ⟨b, 0, none⟩ else some ⟨b, i * 2, none⟩) m (c - i)] (l.drop i) := by
  subst hm
  have h2 := h.from2 i hi hb
  rw [Nat.zero_add] at h2
  by_cases hc : c = i
  · rw [if_pos hc]
    obtain ⟨e, k1, k2⟩ := h.len
    obtain ⟨A', c', e', q1, q2, h3⟩ := h2
    simp only [List.cons.injEq, Value.slice.injEq, and_true] at e'
    obtain ⟨_, e1, rfl⟩ := e'
    exact ⟨_, _, by rw [e1], q1, q2, fun h0 => absurd h0 (by rw [List.length_drop]; omega)⟩
  · rw [if_neg hc]; exact h2
theorem rd_belowO {w w' : World} {v : Value} {l : List Nt} (h : rdNets w (· < w.heap.size) [v] l) (hb : Below w.heap.size w w') : R1 rdNets w' v l := (show R1 rdNets w v l from h).below hb
theorem OwnN.mono1 {w : World} {base b' : Nat} {v : Value} {xs : List (Int × Int)} (h : OwnN w base v xs) (hb : b' ≤ base) : OwnN w b' v xs := by
  refine ⟨⟨h.1.1, ?_⟩, h.2⟩
  rcases h.1.2 with h2 | ⟨g, cap, cur, e, hg, h3⟩
  · exact .inl h2
  · exact .inr ⟨g, cap, cur, e, Nat.le_trans hb hg, h3⟩
theorem dropO {l : List Nt} {k : Nat} {x : Nt} (h : l[k]? = some x) : l.drop k = x :: l.drop (k + 1) := by
  obtain ⟨hk', e⟩ := List.getElem?_eq_some_iff.1 h
  rw [List.drop_eq_getElem_cons hk', e]
set_option maxRecDepth 100000 in
set_option maxHeartbeats 16000000 in
theorem Ordered_any {w : World} {A : Option Addr} {n c : Nat} {l : List Nt} (hr : R1 rdNets w (.slice A n c) l) (hl : l.length ≤ 1000) :
    Calls Tryd.prog 24 #[.slice A n c] w fun e w' => ∃ v, e = .returned v ∧ OwnN w' w.heap.size v (ordL l) ∧ Below w.heap.size w w' := by
  have hn : l.length = n := sl_form hr
  have hn1000 : n ≤ 1000 := by omega
  have HR := Lib.hid hr
  have HN := Lib.hid hn
  obtain ⟨O, hO⟩ : ∃ O, ordL l = O := ⟨_, rfl⟩
  have HO := Lib.hid hO
  rw [hO]
  clear hr hl hn hO
  go_enter Tryd.func24, Tryd.ntmps24
  go_wp2
  go_loopw [3, 4, 5, 6] (fun ov iv _ _ wr => ∃ (i : Nat) (A3 : Option Addr) (c3 : Nat) (o : List Nt), i ≤ n ∧ iv = .int .i64 i ∧ ov = .slice A3 i c3 ∧ Hid ((l.drop i).foldl (fun o x => insN x o) o = O) ∧ Hid (OwnN wr w.heap.size (.slice A3 i c3) o) ∧ Hid (o.length = i) ∧ Hid (Below w.heap.size w wr) ∧ Hid (i = 0 → A3 = none ∧ c3 = 0)) (fun _ iv _ _ _ => n - (intOf iv).toNat)
  case atStart => exact ⟨0, none, 0, [], Nat.zero_le _, rfl, rfl, HO, Lib.hid (OwnN.nil_ _ _), Lib.hid rfl, Lib.hid (Below.refl _ _), Lib.hid (fun _ => ⟨rfl, rfl⟩)⟩
  case round =>
    clear HO
    obtain ⟨i, A3, c3, o, hi, rfl, rfl, HF, HOW, HLEN, HB, HNIL⟩ := hrel
    by_cases hin : i < n
    · have HRr := Lib.hid (HR.out.below HB.out)
      obtain ⟨b, p, ⟨x, x'⟩, rfl, hb, HX, hwf, c0, c1⟩ := RdSlice.atN HR.out hin
      have d0 := (HB.out.cell (p := ⟨b, p + i * 2, none⟩) hb).trans c0
      have d1 := (HB.out.cell (p := ⟨b, p + i * 2 + 1, none⟩) hb).trans c1
      have D0 := Lib.hid d0
      have D1 := Lib.hid d1
      have hbr : b < wr.heap.size := by have := HB.out.size; omega
      have i0 : (0 : Int) ≤ (i : Int) := by omega
      have i1 : (i : Int) < (n : Int) := by omega
      have HWF := Lib.hid hwf
      have HD := Lib.hid (dropO HX.out)
      have HINS := Lib.hid (ins_at (x, x') o)
      have HF2 : Hid ((l.drop (i + 1)).foldl (fun o x => insN x o) (insN (x, x') o) = O) := Lib.hid (by rw [← HF.out, HD.out]; rfl)
      have HLE := Lib.hid (ahead_le (x, x') o)
      have s1 := HB.out.size
      clear c0 c1 hwf d0 d1
      by_cases hi0 : i = 0
      · subst hi0
        obtain ⟨rfl, rfl⟩ := HNIL.out rfl
        obtain rfl : o = [] := List.length_eq_zero_iff.1 HLEN.out
        go_wp2
        go_loopw [5] (fun kv wx => kv = .int .i64 0 ∧ wx = wr) (fun _ _ => 0)
        case atStart => exact ⟨rfl, rfl⟩
        case round =>
          obtain ⟨rfl, rfl⟩ := hrel
          go_wp2
          refine wp_region_quiet_below (by kernel_rfl) (by kernel_rfl) ?_
          repeat (go_big_quiet_step (fail))
          refine wpQuiet_nil ?_
          intro w6 hw'
          obtain ⟨⟨dq, osq⟩, hw''⟩ := hw'
          have hb6 := (show Below wr.heap.size wr w6 by rw [hw'']; exact below_regrown wr dq osq)
          have HB6 := Lib.hid (HB.out.trans (hb6.mono s1))
          have HZ6 := Lib.hid (HB6.out.size)
          have HOR := Lib.hid (show R1 rdNets w6 (.slice none 0 0) [] from (HOW.out.below hb6).read)
          have HT1 := Lib.hid (show R1 rdNets w6 (.slice none 0 0) (([] : List Nt).take 0) from (OwnN.nil_ w6 0).read)
          have HT2 := Lib.hid (show rdNets w6 (· < w6.heap.size) [.slice none 0 0] (([] : List Nt).drop 0) from (OwnN.nil_ w6 0).read)
          have d0 := (hb6.cell (p := ⟨b, p, none⟩) hbr).trans D0.out
          have d1 := (hb6.cell (p := ⟨b, p + 1, none⟩) hbr).trans D1.out
          have hbr6 := Nat.lt_of_lt_of_le hbr hb6.size
          have D06 := Lib.hid d0
          have D16 := Lib.hid d1
          have HL1 : Hid (([] : List Nt).length + (([] : List Nt).take 0).length ≤ 8796093022000) := Lib.hid (by rw [List.length_take, HLEN.out]; simp <;> omega)
          have HL2 : Hid (([] ++ ([] : List Nt).take 0 : List Nt).length ≤ 8796093022000) := Lib.hid (by rw [List.nil_append, List.length_take, HLEN.out]; omega)
          have HL3 : Hid ((([] ++ ([] : List Nt).take 0 : List Nt) ++ [(x, x')]).length + (([] : List Nt).drop 0).length ≤ 8796093022000) := Lib.hid (by rw [List.nil_append, List.length_append, List.length_take, List.length_drop, HLEN.out]; simp <;> omega)
          have HLL : Hid (((([] ++ ([] : List Nt).take 0 : List Nt) ++ [(x, x')]) ++ ([] : List Nt).drop 0).length = 0 + 1) := Lib.hid (by rw [List.nil_append, List.length_append, List.length_append, List.length_take, List.length_drop, HLEN.out]; simp <;> omega)
          have HEQ : Hid (((([] ++ ([] : List Nt).take 0 : List Nt) ++ [(x, x')]) ++ ([] : List Nt).drop 0) = insN (x, x') []) := Lib.hid (by rw [HINS.out, show aheadN (x, x') [] = 0 from rfl]; simp)
          have HE0 := Lib.hid (OwnN.nil_ w6 w6.heap.size)
          clear hb6 hw''
          go_upto_region 10 with (first
            | (at_builtin; go_loud (refine wpList_append_nets rfl _ _ 22 Tryd.underlying22 rfl w6.heap.size _ _ rfl HE0.out _ _ _ _ rfl HT1.out HL1.out (Nat.le_refl _) ?_); intro v7 w7 hown7 hgrow7; have hb7 := hgrow7.below (Below.refl w6.heap.size w6) HE0.out.1 (Nat.le_refl _) (Nat.le_refl _); have HB7 := Lib.hid hb7; have HO7 := Lib.hid hown7; have d0 := (hb7.cell (p := ⟨b, p, none⟩) hbr6).trans D06.out; have d1 := (hb7.cell (p := ⟨b, p + 1, none⟩) hbr6).trans D16.out; obtain ⟨A7, c7, rfl⟩ := hown7.form; obtain ⟨L7, hL7⟩ : ∃ L7, ([] ++ ([] : List Nt).take 0 : List Nt).length = L7 := ⟨_, rfl⟩; rw [hL7] at HO7 ⊢; have s7 := hb7.size; clear hown7 hgrow7 hb7 hL7)
            | fail)
          go_upto_region 11 with (first
            | (at_builtin; go_loud (refine wpList_append_net rfl _ _ 22 Tryd.underlying22 rfl w6.heap.size _ _ rfl (HO7.out.alloc _) w7.heap.size (x, x') 32 rfl (heap_alloc_new w7 _) HWF.out HL2.out (by simp; omega) ?_); intro v8 w8 hown8 hgrow8; have hb8 := hgrow8.below (HB7.out.trans ((below_1 w7 (.cells #[.int .u32 x, .int .i64 x'] 32)).mono s7)) (HO7.out.alloc (.cells #[.int .u32 x, .int .i64 x'] 32)).1 (Nat.le_refl _) (by simp; omega); have HB8 := Lib.hid hb8; have HO8 := Lib.hid hown8; have HT28 := Lib.hid (rd_belowO HT2.out hb8); have s8 := hb8.size; obtain ⟨A8, c8, rfl⟩ := hown8.form; obtain ⟨L8, hL8⟩ : ∃ L8, (([] ++ ([] : List Nt).take 0 : List Nt) ++ [(x, x')]).length = L8 := ⟨_, rfl⟩; rw [hL8] at HO8 ⊢; clear hown8 hgrow8 hb8 hL8)
            | fail)
          go_wp2_with (first
            | (at_builtin; go_loud (refine wpList_append_nets rfl _ _ 22 Tryd.underlying22 rfl w6.heap.size _ _ rfl HO8.out _ _ _ _ rfl HT28.out HL3.out s8 ?_); intro v9 w9 hown9 hgrow9; have hb9 := hgrow9.below HB8.out HO8.out.1 (Nat.le_refl _) s8; have HB9 := Lib.hid (HB6.out.trans (hb9.mono HB6.out.size)); obtain ⟨A9, c9, rfl⟩ := hown9.form; rw [HLL.out] at hown9 ⊢; have HO9 := Lib.hid hown9; clear hown9 hgrow9 hb9)
            | fail)
          go_roundw
          case rel => exact ⟨0 + 1, A9, c9, insN (x, x') [], by omega, by go_num, rfl, HF2, Lib.hid (by rw [← HEQ.out]; exact HO9.out.mono1 HB6.out.size), Lib.hid (by rw [← HEQ.out]; exact HLL.out), HB9, Lib.hid (fun h => absurd h (by omega))⟩
          case measure => simp [intOf]; try omega
      · have hipos : 0 < i := by omega
        obtain ⟨g3, cap3, e3, hg3, hgl3, hcap3, -⟩ := own_pos HOW.out.1 (by rw [HLEN.out]; exact hipos)
        simp only [Value.slice.injEq] at e3
        obtain ⟨rfl, -, rfl⟩ := e3
        have HC3 : Hid (i ≤ c3) := Lib.hid (by rw [← HLEN.out]; exact hcap3)
        clear hcap3
        go_wp2
        go_loopw [5] (fun kv wx => ∃ k : Nat, k ≤ i ∧ kv = .int .i64 k ∧ Hid (aheadN (x, x') o = k + aheadN (x, x') (o.drop k)) ∧ Hid (Below wr.heap.size wr wx)) (fun kv _ => i - (intOf kv).toNat)
        case atStart => exact ⟨0, Nat.zero_le _, rfl, Lib.hid (by simp), Lib.hid (Below.refl _ _)⟩
        case round =>
          obtain ⟨k, hk, rfl, HKA, HBX⟩ := hrel
          have hbx := HBX.out
          have HBXW := Lib.hid (HB.out.trans (hbx.mono s1))
          have sx := HBXW.out.size
          have hrx := (HOW.out.below hbx).read
          have d0 := (hbx.cell (p := ⟨b, p + i * 2, none⟩) hbr).trans D0.out
          have d1 := (hbx.cell (p := ⟨b, p + i * 2 + 1, none⟩) hbr).trans D1.out
          have j0 := fun d os => cell_regrown d0 d os
          have j1 := fun d os => cell_regrown d1 d os
          clear d0 d1 hbx
          by_cases hki : k < i
          · obtain ⟨b2, p2, ⟨y, y'⟩, e2, hb2, HY, -, f0, f1⟩ := RdSlice.atN hrx hki
            simp only [Option.some.injEq, Addr.mk.injEq, and_true] at e2
            obtain ⟨rfl, rfl⟩ := e2
            have j2 := fun d os => cell_regrown f0 d os
            have j3 := fun d os => cell_regrown f1 d os
            have i2 : (0 : Int) ≤ (k : Int) := by omega
            have i3 : (k : Int) < (i : Int) := by omega
            have i3' : k < i := hki
            have HDO := Lib.hid (dropO HY.out)
            obtain ⟨r, hr⟩ : ∃ r, lessB (y, y') (x, x') = r := ⟨_, rfl⟩
            have HLS := Lib.hid hr
            simp only [Nat.zero_add] at j2 j3
            clear f0 f1 hr hrx
            cases r with
            | true =>
              have HKA2 : Hid (aheadN (x, x') o = k + 1 + aheadN (x, x') (o.drop (k + 1))) := Lib.hid (by
                rw [HKA.out, HDO.out]
                show k + (if lessB (y, y') (x, x') = true then aheadN (x, x') (o.drop (k + 1)) + 1 else 0) = _
                rw [if_pos HLS.out]; omega)
              go_wp2
              refine wp_region_quiet_below (by kernel_rfl) (by kernel_rfl) ?_
              repeat (go_big_quiet_step (first | (with_reducible exact rless_c HLS.out _ _) | fail))
              refine wpQuiet_nil ?_
              intro w6 hw'
              obtain ⟨⟨dq, osq⟩, hw''⟩ := hw'
              have hb6i := (show Below wr.heap.size wr w6 by rw [hw'']; exact below_regrown wr dq osq)
              have HBX6 := Lib.hid (HBX.out.trans (hb6i.mono HBX.out.size))
              clear hw'' hb6i j0 j1 j2 j3
              go_wp2
              go_roundw
              case rel => exact ⟨k + 1, by omega, by go_num, HKA2, HBX6⟩
              case measure => simp [intOf]; try omega
            | false =>
              have HKE : Hid (aheadN (x, x') o = k) := Lib.hid (by
                rw [HKA.out, HDO.out]
                show k + (if lessB (y, y') (x, x') = true then aheadN (x, x') (o.drop (k + 1)) + 1 else 0) = _
                rw [if_neg (by rw [HLS.out]; decide)]; rfl)
              go_wp2
              refine wp_region_quiet_below (by kernel_rfl) (by kernel_rfl) ?_
              repeat (go_big_quiet_step (first | (with_reducible exact rless_c HLS.out _ _) | fail))
              refine wpQuiet_nil ?_
              intro w6 hw'
              obtain ⟨⟨dq, osq⟩, hw''⟩ := hw'
              have hb6i := (show Below wr.heap.size wr w6 by rw [hw'']; exact below_regrown wr dq osq)
              have hb6 := HBX.out.trans (hb6i.mono HBX.out.size)
              have HB6 := Lib.hid (HB.out.trans (hb6.mono s1))
              have hg36 : g3 < w6.heap.size := by have := hb6.size; omega
              have hkc : k ≤ c3 := by have := HC3.out; omega
              clear hb6i j0 j1 j2 j3
              have HZ6 := Lib.hid (HB6.out.size)
              have HOR := Lib.hid (show R1 rdNets w6 (.slice (some ⟨g3, 0, none⟩) i c3) o from (HOW.out.below hb6).read)
              have HT1 := Lib.hid (show R1 rdNets w6 (.slice (some ⟨g3, 0, none⟩) k c3) (o.take k) from RdSlice.pre HOR.out k (by omega))
              have HT2 := Lib.hid (show rdNets w6 (· < w6.heap.size) [.slice (if c3 = k then some ⟨g3, 0, none⟩ else some ⟨g3, k * 2, none⟩) (i - k) (c3 - k)] (o.drop k) from RdSlice.fromIf HOR.out k (by omega) rfl hg36)
              have d0 := (hb6.cell (p := ⟨b, p + i * 2, none⟩) hbr).trans D0.out
              have d1 := (hb6.cell (p := ⟨b, p + i * 2 + 1, none⟩) hbr).trans D1.out
              have hbr6 := Nat.lt_of_lt_of_le hbr hb6.size
              have D06 := Lib.hid d0
              have D16 := Lib.hid d1
              have HL1 : Hid (([] : List Nt).length + (o.take k).length ≤ 8796093022000) := Lib.hid (by rw [List.length_take, HLEN.out]; simp <;> omega)
              have HL2 : Hid (([] ++ o.take k : List Nt).length ≤ 8796093022000) := Lib.hid (by rw [List.nil_append, List.length_take, HLEN.out]; omega)
              have HL3 : Hid ((([] ++ o.take k : List Nt) ++ [(x, x')]).length + (o.drop k).length ≤ 8796093022000) := Lib.hid (by rw [List.nil_append, List.length_append, List.length_take, List.length_drop, HLEN.out]; simp <;> omega)
              have HLL : Hid (((([] ++ o.take k : List Nt) ++ [(x, x')]) ++ o.drop k).length = i + 1) := Lib.hid (by rw [List.nil_append, List.length_append, List.length_append, List.length_take, List.length_drop, HLEN.out]; simp <;> omega)
              have HEQ : Hid (((([] ++ o.take k : List Nt) ++ [(x, x')]) ++ o.drop k) = insN (x, x') o) := Lib.hid (by rw [HINS.out, HKE.out]; simp)
              have HE0 := Lib.hid (OwnN.nil_ w6 w6.heap.size)
              clear hb6 hw''
              go_upto_region 10 with (first
                | (at_builtin; go_loud (refine wpList_append_nets rfl _ _ 22 Tryd.underlying22 rfl w6.heap.size _ _ rfl HE0.out _ _ _ _ rfl HT1.out HL1.out (Nat.le_refl _) ?_); intro v7 w7 hown7 hgrow7; have hb7 := hgrow7.below (Below.refl w6.heap.size w6) HE0.out.1 (Nat.le_refl _) (Nat.le_refl _); have HB7 := Lib.hid hb7; have HO7 := Lib.hid hown7; have d0 := (hb7.cell (p := ⟨b, p + i * 2, none⟩) hbr6).trans D06.out; have d1 := (hb7.cell (p := ⟨b, p + i * 2 + 1, none⟩) hbr6).trans D16.out; obtain ⟨A7, c7, rfl⟩ := hown7.form; obtain ⟨L7, hL7⟩ : ∃ L7, ([] ++ o.take k : List Nt).length = L7 := ⟨_, rfl⟩; rw [hL7] at HO7 ⊢; have s7 := hb7.size; clear hown7 hgrow7 hb7 hL7)
                | fail)
              go_upto_region 11 with (first
                | (at_builtin; go_loud (refine wpList_append_net rfl _ _ 22 Tryd.underlying22 rfl w6.heap.size _ _ rfl (HO7.out.alloc _) w7.heap.size (x, x') 32 rfl (heap_alloc_new w7 _) HWF.out HL2.out (by simp; omega) ?_); intro v8 w8 hown8 hgrow8; have hb8 := hgrow8.below (HB7.out.trans ((below_1 w7 (.cells #[.int .u32 x, .int .i64 x'] 32)).mono s7)) (HO7.out.alloc (.cells #[.int .u32 x, .int .i64 x'] 32)).1 (Nat.le_refl _) (by simp; omega); have HB8 := Lib.hid hb8; have HO8 := Lib.hid hown8; have HT28 := Lib.hid (rd_belowO HT2.out hb8); have s8 := hb8.size; obtain ⟨A8, c8, rfl⟩ := hown8.form; obtain ⟨L8, hL8⟩ : ∃ L8, (([] ++ o.take k : List Nt) ++ [(x, x')]).length = L8 := ⟨_, rfl⟩; rw [hL8] at HO8 ⊢; clear hown8 hgrow8 hb8 hL8)
                | fail)
              go_wp2_with (first
                | (at_builtin; go_loud (refine wpList_append_nets rfl _ _ 22 Tryd.underlying22 rfl w6.heap.size _ _ rfl HO8.out _ _ _ _ rfl HT28.out HL3.out s8 ?_); intro v9 w9 hown9 hgrow9; have hb9 := hgrow9.below HB8.out HO8.out.1 (Nat.le_refl _) s8; have HB9 := Lib.hid (HB6.out.trans (hb9.mono HB6.out.size)); obtain ⟨A9, c9, rfl⟩ := hown9.form; rw [HLL.out] at hown9 ⊢; have HO9 := Lib.hid hown9; clear hown9 hgrow9 hb9)
                | fail)
              go_roundw
              case rel => exact ⟨i + 1, A9, c9, insN (x, x') o, by omega, by go_num, rfl, HF2, Lib.hid (by rw [← HEQ.out]; exact HO9.out.mono1 HB6.out.size), Lib.hid (by rw [← HEQ.out]; exact HLL.out), HB9, Lib.hid (fun h => absurd h (by omega))⟩
              case measure => simp [intOf]; try omega
          · obtain rfl : k = i := by omega
            have HKE : Hid (aheadN (x, x') o = k) := Lib.hid (by
              rw [HKA.out, List.drop_eq_nil_of_le (by rw [HLEN.out]; exact Nat.le_refl _)]; rfl)
            have t0 : decide ((k : Int) < (k : Int)) = false := by simp
            clear hrx hki
            go_wp2
            refine wp_region_quiet_below (by kernel_rfl) (by kernel_rfl) ?_
            repeat (go_big_quiet_step (first | fail))
            refine wpQuiet_nil ?_
            intro w6 hw'
            obtain ⟨⟨dq, osq⟩, hw''⟩ := hw'
            have hb6i := (show Below wr.heap.size wr w6 by rw [hw'']; exact below_regrown wr dq osq)
            have hb6 := HBX.out.trans (hb6i.mono HBX.out.size)
            have HB6 := Lib.hid (HB.out.trans (hb6.mono s1))
            have hg36 : g3 < w6.heap.size := by have := hb6.size; omega
            have hkc : k ≤ c3 := by have := HC3.out; omega
            clear hb6i j0 j1 
            have HZ6 := Lib.hid (HB6.out.size)
            have HOR := Lib.hid (show R1 rdNets w6 (.slice (some ⟨g3, 0, none⟩) k c3) o from (HOW.out.below hb6).read)
            have HT1 := Lib.hid (show R1 rdNets w6 (.slice (some ⟨g3, 0, none⟩) k c3) (o.take k) from RdSlice.pre HOR.out k (by omega))
            have HT2 := Lib.hid (show rdNets w6 (· < w6.heap.size) [.slice (if c3 = k then some ⟨g3, 0, none⟩ else some ⟨g3, k * 2, none⟩) 0 (c3 - k)] (o.drop k) from RdSlice.fromIf HOR.out k (by omega) (Nat.sub_self k) hg36)
            have d0 := (hb6.cell (p := ⟨b, p + k * 2, none⟩) hbr).trans D0.out
            have d1 := (hb6.cell (p := ⟨b, p + k * 2 + 1, none⟩) hbr).trans D1.out
            have hbr6 := Nat.lt_of_lt_of_le hbr hb6.size
            have D06 := Lib.hid d0
            have D16 := Lib.hid d1
            have HL1 : Hid (([] : List Nt).length + (o.take k).length ≤ 8796093022000) := Lib.hid (by rw [List.length_take, HLEN.out]; simp <;> omega)
            have HL2 : Hid (([] ++ o.take k : List Nt).length ≤ 8796093022000) := Lib.hid (by rw [List.nil_append, List.length_take, HLEN.out]; omega)
            have HL3 : Hid ((([] ++ o.take k : List Nt) ++ [(x, x')]).length + (o.drop k).length ≤ 8796093022000) := Lib.hid (by rw [List.nil_append, List.length_append, List.length_take, List.length_drop, HLEN.out]; simp <;> omega)
            have HLL : Hid (((([] ++ o.take k : List Nt) ++ [(x, x')]) ++ o.drop k).length = k + 1) := Lib.hid (by rw [List.nil_append, List.length_append, List.length_append, List.length_take, List.length_drop, HLEN.out]; simp <;> omega)
            have HEQ : Hid (((([] ++ o.take k : List Nt) ++ [(x, x')]) ++ o.drop k) = insN (x, x') o) := Lib.hid (by rw [HINS.out, HKE.out]; simp)
            have HE0 := Lib.hid (OwnN.nil_ w6 w6.heap.size)
            clear hb6 hw''
            go_upto_region 10 with (first
              | (at_builtin; go_loud (refine wpList_append_nets rfl _ _ 22 Tryd.underlying22 rfl w6.heap.size _ _ rfl HE0.out _ _ _ _ rfl HT1.out HL1.out (Nat.le_refl _) ?_); intro v7 w7 hown7 hgrow7; have hb7 := hgrow7.below (Below.refl w6.heap.size w6) HE0.out.1 (Nat.le_refl _) (Nat.le_refl _); have HB7 := Lib.hid hb7; have HO7 := Lib.hid hown7; have d0 := (hb7.cell (p := ⟨b, p + k * 2, none⟩) hbr6).trans D06.out; have d1 := (hb7.cell (p := ⟨b, p + k * 2 + 1, none⟩) hbr6).trans D16.out; obtain ⟨A7, c7, rfl⟩ := hown7.form; obtain ⟨L7, hL7⟩ : ∃ L7, ([] ++ o.take k : List Nt).length = L7 := ⟨_, rfl⟩; rw [hL7] at HO7 ⊢; have s7 := hb7.size; clear hown7 hgrow7 hb7 hL7)
              | fail)
            go_upto_region 11 with (first
              | (at_builtin; go_loud (refine wpList_append_net rfl _ _ 22 Tryd.underlying22 rfl w6.heap.size _ _ rfl (HO7.out.alloc _) w7.heap.size (x, x') 32 rfl (heap_alloc_new w7 _) HWF.out HL2.out (by simp; omega) ?_); intro v8 w8 hown8 hgrow8; have hb8 := hgrow8.below (HB7.out.trans ((below_1 w7 (.cells #[.int .u32 x, .int .i64 x'] 32)).mono s7)) (HO7.out.alloc (.cells #[.int .u32 x, .int .i64 x'] 32)).1 (Nat.le_refl _) (by simp; omega); have HB8 := Lib.hid hb8; have HO8 := Lib.hid hown8; have HT28 := Lib.hid (rd_belowO HT2.out hb8); have s8 := hb8.size; obtain ⟨A8, c8, rfl⟩ := hown8.form; obtain ⟨L8, hL8⟩ : ∃ L8, (([] ++ o.take k : List Nt) ++ [(x, x')]).length = L8 := ⟨_, rfl⟩; rw [hL8] at HO8 ⊢; clear hown8 hgrow8 hb8 hL8)
              | fail)
            go_wp2_with (first
              | (at_builtin; go_loud (refine wpList_append_nets rfl _ _ 22 Tryd.underlying22 rfl w6.heap.size _ _ rfl HO8.out _ _ _ _ rfl HT28.out HL3.out s8 ?_); intro v9 w9 hown9 hgrow9; have hb9 := hgrow9.below HB8.out HO8.out.1 (Nat.le_refl _) s8; have HB9 := Lib.hid (HB6.out.trans (hb9.mono HB6.out.size)); obtain ⟨A9, c9, rfl⟩ := hown9.form; rw [HLL.out] at hown9 ⊢; have HO9 := Lib.hid hown9; clear hown9 hgrow9 hb9)
              | fail)
            go_roundw
            case rel => exact ⟨k + 1, A9, c9, insN (x, x') o, by omega, by go_num, rfl, HF2, Lib.hid (by rw [← HEQ.out]; exact HO9.out.mono1 HB6.out.size), Lib.hid (by rw [← HEQ.out]; exact HLL.out), HB9, Lib.hid (fun h => absurd h (by omega))⟩
            case measure => simp [intOf]; try omega
    · have HE : Hid (O = o) := Lib.hid (by
        rw [← HF.out, List.drop_eq_nil_of_le (by rw [HN.out]; omega)]; rfl)
      go_wp2
      go_ret
      exact ⟨_, rfl, by rw [HE.out]; exact HOW.out, HB.out⟩
end Go.Proofs.YtplojnlmofbneaaDoor
