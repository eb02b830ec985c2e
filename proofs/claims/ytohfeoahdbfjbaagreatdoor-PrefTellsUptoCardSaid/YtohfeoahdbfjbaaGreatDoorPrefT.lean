/- pref.Text and pref.Parse: of a net's text that net, of every other text ErrForm; the constant that is known. -/
import Derived.Test.YtohfeoahdbfjbaaGreatDoorParse
import Derived.Test.YtohfeoahdbfjbaaGreatDoorPrefX
import Derived.Lib.QuietBelow
namespace Go.Proofs.YtohfeoahdbfjbaaGreatDoor
open Go.ChangeShapes Go.WideShapes Go.ChangeAt Go.RowKit
set_option linter.unusedVariables false
set_option linter.unusedSimpArgs false

theorem str_size {l : List UInt8} : (⟨l.toArray⟩ : ByteArray).size = l.length := by simp [ByteArray.size]
theorem netT_str {X Y : ByteArray} {a k : Nat} (hX : X.data.toList = addrT a) (hY : Y.data.toList = dd k) : Value.string (X ++ ⟨#[47]⟩ ++ Y) = strV (netT a k) := by
  have e : (X ++ ⟨#[47]⟩ ++ Y).data.toList = netT a k := by rw [Joins.data_append, Joins.data_append, hX, hY]; unfold netT; simp
  rw [← e]
set_option maxRecDepth 100000 in
set_option maxHeartbeats 400000 in
theorem NText_any (a k : Nat) (w : World) (hw : HStr w) (ha : a < 4294967296) (hk : k ≤ 32) :
    Calls Tryz.prog 16 #[.agg #[.int .u32 a, .int .i64 k]] w fun e w' => e = .returned (strV (netT a k)) ∧ Below w.heap.size w w' := by
  have hw1 : HStr (w.alloc (.cells #[.int .u32 a, .int .i64 k] 24)) := hw.alloc _
  obtain ⟨X, hX⟩ : ∃ X : ByteArray, X = ⟨(addrT a).toArray⟩ := ⟨_, rfl⟩
  obtain ⟨Y, hY⟩ : ∃ Y : ByteArray, Y = ⟨(dd k).toArray⟩ := ⟨_, rfl⟩
  have hXl : X.size ≤ 15 := by rw [hX, str_size]; exact addrT_length a ha
  have hYl : Y.size ≤ 3 := by rw [hY, str_size]; exact dd_length_le (by omega)
  have hR : Value.string (X ++ ⟨#[47]⟩ ++ Y) = strV (netT a k) := netT_str (by rw [hX]) (by rw [hY])
  have cT := fun d os => Calls.regrown_of (Text_any a (Sort.grow (redrawn (w.alloc (.cells #[.int .u32 a, .int .i64 k] 24)) d) os) (hw1.on (below_regrown _ d os)) ha)
  have cI := fun d os => Calls.regrown_of (Itoa_n k (Sort.grow (redrawn (w.alloc (.cells #[.int .u32 a, .int .i64 k] 24)) d) os) (hw1.on (below_regrown _ d os)) (by omega))
  have c0 := fun d os => cell_regrown (w := w.alloc (.cells #[.int .u32 a, .int .i64 k] 24)) (a := ⟨w.heap.size, 0, none⟩) (v := .int .u32 a) (by simp) d os
  have c1 := fun d os => cell_regrown (w := w.alloc (.cells #[.int .u32 a, .int .i64 k] 24)) (a := ⟨w.heap.size, 1, none⟩) (v := .int .i64 k) (by simp) d os
  unfold strV at cT cI
  rw [← hX] at cT
  rw [← hY] at cI
  have CT := Lib.hid cT
  have CI := Lib.hid cI
  have HR := Lib.hid hR
  have n1 : ¬ 9223372036854775807 < X.size + 1 := by omega
  have n2 : ¬ 9223372036854775807 < X.size + 1 + Y.size := by omega
  clear cT cI hw hw1 hX hY hR
  go_enter Tryz.func16, Tryz.ntmps16
  go_wp2
  refine wp_region_quiet_below (by kernel_rfl) (by kernel_rfl) ?_
  repeat (quiet_step (first | exact CT.out _ _ | exact CI.out _ _))
  refine wpQuiet_nil ?_
  intro _ hw'
  obtain ⟨⟨dq, osq⟩, hw''⟩ := hw'
  subst hw''
  go_wp2
  go_ret
  exact ⟨by rw [HR.out]; rfl, ((Below.refl _ _).alloc (Nat.le_refl _) _).trans ((below_regrown _ dq osq).mono (by simp))⟩
theorem cut_len1 (c : UInt8) (s : List UInt8) : (Lib.cut s [c]).1.length ≤ s.length := by
  unfold Lib.cut; split
  · simp only [List.length_take]; omega
  · simp
theorem cut_len2 (c : UInt8) (s : List UInt8) : (Lib.cut s [c]).2.1.length ≤ s.length := by
  unfold Lib.cut; split
  · simp only [List.length_drop]; omega
  · simp
/-- the end of pref.Parse -/
theorem nparse_end {W : World} {R : Nat} {a : Act} {v0 v1 e : Value} {t : TypeId} {K : Ending → World → Prop} (h : W.heap[R]? = some (.cells #[v0, v1] t (0, 0))) (h2 : a.tmps[2]?.getD undef = .pointer (some ⟨R, 0, none⟩)) (h3 : a.tmps[3]?.getD undef = e) (hd : a.defers = [])
    (hK : K (.returned (.tuple #[.agg #[v0, v1], e])) W) : bodyPost Tryz.prog Tryz.f9 K .ret a W := by
  have e0 : W.cell? ⟨R, 0, none⟩ = some v0 := by rw [cell_of_row _ R _ _ _ (0, 0) h]; rfl
  have e1 : W.cell? ⟨R, 1, none⟩ = some v1 := by rw [cell_of_row _ R _ _ _ (0, 0) h]; rfl
  exact bodyPost_ret (by simp [results, Tryz.results9, go_sem, h2, h3, e0, e1]) hd hK
set_option maxRecDepth 100000 in
set_option maxHeartbeats 2000000 in
theorem NParse_ok (a k : Nat) (s : ByteArray) (w : World) (hw : HStr w) (ha : a < 4294967296) (hn : netF ((a : Int), (k : Int)) = 0) (hs : s.data.toList = netT a k) :
    Calls Tryz.prog 9 #[.string s] w fun e w' => e = .returned (.tuple #[.agg #[.int .u32 a, .int .i64 k], .nilIface]) ∧ Below w.heap.size w w' := by
  have hk : k ≤ 32 := by have := (netF_zero.1 hn).2.1; omega
  have hsz : s.size ≤ 19 := by rw [← size_data, hs]; exact netT_length a k ha hk
  have HCUT : Hid (Lib.cut s.data.toList [47] = (addrT a, dd k, true)) := Lib.hid (by rw [hs]; exact cut_net a k)
  have HES : Hid (strV (netT a k) = .string s) := Lib.hid (by rw [← hs])
  have HW := Lib.hid hw
  have HN := Lib.hid hn
  have HAT := Lib.hid (atoi_dd k (by omega))
  have hdl := dd_length_le (n := k) (by omega)
  clear hs hw hn
  go_enter Tryz.func9, Tryz.ntmps9
  go_wp2_with (first
    | (go_at_call 30; (with_reducible refine (Cut_c 47 s _ (HW.out.alloc _) (by omega)).mono ?_); rintro e w1 ⟨rfl, hb1⟩; rw [HCUT.out]; have blk1 := below_block hb1 (by simp) (heap_alloc_new w _); obtain ⟨r0, r1, f0, f1⟩ := row2 blk1; have BLK1 := Lib.hid blk1; have HB1 := Lib.hid (((Below.refl w.heap.size w).alloc (Nat.le_refl _) _).trans (hb1.mono (by simp))); have zw1 := HB1.out.size; clear hb1 blk1 r0 r1 f0 f1)
    | (go_at_call 31; (with_reducible refine (Parse_ok a ⟨(addrT a).toArray⟩ _ (HW.out.on HB1.out) ha rfl).mono ?_); rintro e w2 ⟨rfl, hb2⟩; have blk2 := below_block hb2 (size_of_block BLK1.out) BLK1.out; obtain ⟨r0, r1, f0, f1⟩ := row2 blk2; have BLK2 := Lib.hid blk2; have HB2 := Lib.hid (HB1.out.trans (hb2.mono zw1)); have zw2 := HB2.out.size; clear hb2 blk2; clear r0 r1 f0 f1)
    | (go_at_call 32; (with_reducible refine (Atoi_ok ⟨(dd k).toArray⟩ (k : Int) _ (by rw [str_size]; omega) HAT.out).mono ?_); rintro e w3 ⟨rfl, hb3⟩; have blk3 := below_block hb3 (size_of_block BLK2.out) BLK2.out; obtain ⟨r0, r1, f0, f1⟩ := row2 blk3; have BLK3 := Lib.hid blk3; have HB3 := Lib.hid (HB2.out.trans (hb3.mono zw2)); have zw3 := HB3.out.size; clear hb3 blk3; clear r0 r1 f0 f1)
    | (go_at_call 7; (with_reducible refine (Check_ok _ (by omega) (by omega) HN.out).mono ?_); rintro e w4 ⟨rfl, hb4⟩; have nlk := below_block hb4 (by simp) (heap_alloc_new w3 _); obtain ⟨d0, d1, _, _⟩ := row2 nlk; have NLK := Lib.hid nlk; have hb5 : Below w3.heap.size w3 w4 := ((Below.refl _ _).alloc (Nat.le_refl _) _).trans (hb4.mono (by simp)); have blk4 := below_block hb5 (size_of_block BLK3.out) BLK3.out; obtain ⟨r0, r1, f0, f1⟩ := row2 blk4; have BLK4 := Lib.hid blk4; have HB4 := Lib.hid (HB3.out.trans (hb5.mono zw3)); have zw4 := HB4.out.size; clear hb5 blk4; clear hb4 nlk r0 r1 f0 f1)
    | (go_at_call 16; (with_reducible refine (NText_any a k _ (HW.out.on HB4.out) ha hk).mono ?_); rintro e w5 ⟨rfl, hb5⟩; rw [HES.out]; have nlk := below_block hb5 (size_of_block NLK.out) NLK.out; obtain ⟨d0, d1, _, _⟩ := row2 nlk; clear nlk; have blk5 := below_block hb5 (size_of_block BLK4.out) BLK4.out; obtain ⟨r0, r1, f0, f1⟩ := row2 blk5; have BLK5 := Lib.hid blk5; have HB5 := Lib.hid (HB4.out.trans (hb5.mono zw4)); have zw5 := HB5.out.size; clear hb5 blk5)
    | fail)
  exact nparse_end (e := .nilIface) (set2_block _ _ BLK5.out) rfl rfl rfl ⟨rfl, (HB5.out.setCell (by simp) _).setCell (by simp) _⟩
set_option maxRecDepth 100000 in
set_option maxHeartbeats 4000000 in
theorem NParse_bad (s : ByteArray) (w : World) (hw : HStr w) (hsz : s.size ≤ 1048576) (hs : ∀ a k : Nat, a < 4294967296 → netF ((a : Int), (k : Int)) = 0 → s.data.toList ≠ netT a k) :
    Calls Tryz.prog 9 #[.string s] w fun e w' => e = .returned (.tuple #[.agg #[.int .u32 0, .int .i64 0], .iface 26 (.int .i64 3)]) ∧ Below w.heap.size w w' := by
  have hl1 := cut_len1 47 s.data.toList
  have hl2 := cut_len2 47 s.data.toList
  rw [size_data] at hl1 hl2
  obtain ⟨h, hh⟩ : ∃ h, (Lib.cut s.data.toList [47]).1 = h := ⟨_, rfl⟩
  obtain ⟨t, ht⟩ : ∃ t, (Lib.cut s.data.toList [47]).2.1 = t := ⟨_, rfl⟩
  rw [hh] at hl1
  rw [ht] at hl2
  have HC1 := Lib.hid hh
  have HC2 := Lib.hid ht
  have HW := Lib.hid hw
  have HS := Lib.hid hs
  clear hh ht hw hs
  by_cases hA : ∃ a : Nat, a < 4294967296 ∧ h = addrT a
  · obtain ⟨a, ha, hha⟩ := hA
    have HH : Hid ((⟨h.toArray⟩ : ByteArray).data.toList = addrT a) := Lib.hid hha
    clear hha
    by_cases hv : ∃ v, Lib.atoiAll t = .ok v
    · obtain ⟨v, hv⟩ := hv
      have HV := Lib.hid hv
      clear hv
      by_cases hn : netF ((a : Int), v) = 0
      · obtain ⟨k, hk, ek, _⟩ := net_ok hn
        simp only at ek
        subst ek
        have tne : (netT a k == s.toList) = false := by
          have := HS.out a k ha hn
          rw [← ByteArray.toList_eq] at this
          exact beq_eq_false_iff_ne.2 (fun e => this e.symm)
        have HN := Lib.hid hn
        clear hn
        go_enter Tryz.func9, Tryz.ntmps9
        go_wp2_with (first
          | (go_at_call 30; (with_reducible refine (Cut_c 47 s _ (HW.out.alloc _) (by omega)).mono ?_); rintro e w1 ⟨rfl, hb1⟩; rw [HC1.out, HC2.out]; have blk1 := below_block hb1 (by simp) (heap_alloc_new w _); obtain ⟨r0, r1, f0, f1⟩ := row2 blk1; have BLK1 := Lib.hid blk1; have HB1 := Lib.hid (((Below.refl w.heap.size w).alloc (Nat.le_refl _) _).trans (hb1.mono (by simp))); have zw1 := HB1.out.size; clear hb1 blk1 r0 r1 f0 f1)
          | (go_at_call 31; (with_reducible refine (Parse_ok a ⟨h.toArray⟩ _ (HW.out.on HB1.out) ha HH.out).mono ?_); rintro e w2 ⟨rfl, hb2⟩; have blk2 := below_block hb2 (size_of_block BLK1.out) BLK1.out; obtain ⟨r0, r1, f0, f1⟩ := row2 blk2; have BLK2 := Lib.hid blk2; have HB2 := Lib.hid (HB1.out.trans (hb2.mono zw1)); have zw2 := HB2.out.size; clear hb2 blk2; clear r0 r1 f0 f1)
          | (go_at_call 32; (with_reducible refine (Atoi_ok ⟨t.toArray⟩ (k : Int) _ (by rw [str_size]; omega) HV.out).mono ?_); rintro e w3 ⟨rfl, hb3⟩; have blk3 := below_block hb3 (size_of_block BLK2.out) BLK2.out; obtain ⟨r0, r1, f0, f1⟩ := row2 blk3; have BLK3 := Lib.hid blk3; have HB3 := Lib.hid (HB2.out.trans (hb3.mono zw2)); have zw3 := HB3.out.size; clear hb3 blk3; clear r0 r1 f0 f1)
          | (go_at_call 7; (with_reducible refine (Check_ok _ (by omega) (by omega) HN.out).mono ?_); rintro e w4 ⟨rfl, hb4⟩; have nlk := below_block hb4 (by simp) (heap_alloc_new w3 _); obtain ⟨d0, d1, _, _⟩ := row2 nlk; have NLK := Lib.hid nlk; have hb5 : Below w3.heap.size w3 w4 := ((Below.refl _ _).alloc (Nat.le_refl _) _).trans (hb4.mono (by simp)); have blk4 := below_block hb5 (size_of_block BLK3.out) BLK3.out; obtain ⟨r0, r1, f0, f1⟩ := row2 blk4; have BLK4 := Lib.hid blk4; have HB4 := Lib.hid (HB3.out.trans (hb5.mono zw3)); have zw4 := HB4.out.size; clear hb5 blk4; clear hb4 nlk r0 r1 f0 f1)
          | (go_at_call 16; (with_reducible refine (NText_any a k _ (HW.out.on HB4.out) ha hk).mono ?_); rintro e w5 ⟨rfl, hb5⟩; have blk5 := below_block hb5 (size_of_block BLK4.out) BLK4.out; obtain ⟨r0, r1, f0, f1⟩ := row2 blk5; have BLK5 := Lib.hid blk5; have HB5 := Lib.hid (HB4.out.trans (hb5.mono zw4)); have zw5 := HB5.out.size; clear hb5 blk5)
          | fail)
        exact nparse_end (e := .iface 26 (.int .i64 3)) (set2_block _ _ BLK5.out) rfl rfl rfl ⟨rfl, (HB5.out.setCell (by simp) _).setCell (by simp) _⟩
      · have HN := Lib.hid hn
        clear hn
        go_enter Tryz.func9, Tryz.ntmps9
        go_wp2_with (first
          | (go_at_call 30; (with_reducible refine (Cut_c 47 s _ (HW.out.alloc _) (by omega)).mono ?_); rintro e w1 ⟨rfl, hb1⟩; rw [HC1.out, HC2.out]; have blk1 := below_block hb1 (by simp) (heap_alloc_new w _); obtain ⟨r0, r1, f0, f1⟩ := row2 blk1; have BLK1 := Lib.hid blk1; have HB1 := Lib.hid (((Below.refl w.heap.size w).alloc (Nat.le_refl _) _).trans (hb1.mono (by simp))); have zw1 := HB1.out.size; clear hb1 blk1 r0 r1 f0 f1)
          | (go_at_call 31; (with_reducible refine (Parse_ok a ⟨h.toArray⟩ _ (HW.out.on HB1.out) ha HH.out).mono ?_); rintro e w2 ⟨rfl, hb2⟩; have blk2 := below_block hb2 (size_of_block BLK1.out) BLK1.out; obtain ⟨r0, r1, f0, f1⟩ := row2 blk2; have BLK2 := Lib.hid blk2; have HB2 := Lib.hid (HB1.out.trans (hb2.mono zw1)); have zw2 := HB2.out.size; clear hb2 blk2; clear r0 r1 f0 f1)
          | (go_at_call 32; (with_reducible refine (Atoi_ok ⟨t.toArray⟩ v _ (by rw [str_size]; omega) HV.out).mono ?_); rintro e w3 ⟨rfl, hb3⟩; have blk3 := below_block hb3 (size_of_block BLK2.out) BLK2.out; obtain ⟨r0, r1, f0, f1⟩ := row2 blk3; have BLK3 := Lib.hid blk3; have HB3 := Lib.hid (HB2.out.trans (hb3.mono zw2)); have zw3 := HB3.out.size; clear hb3 blk3; clear r0 r1 f0 f1)
          | (go_at_call 7; (with_reducible refine (Check_bad _ (by omega) (by omega) HN.out).mono ?_); rintro e w4 ⟨rfl, hb4⟩; have hb5 : Below w3.heap.size w3 w4 := ((Below.refl _ _).alloc (Nat.le_refl _) _).trans (hb4.mono (by simp)); have blk4 := below_block hb5 (size_of_block BLK3.out) BLK3.out; obtain ⟨r0, r1, f0, f1⟩ := row2 blk4; have BLK4 := Lib.hid blk4; have HB4 := Lib.hid (HB3.out.trans (hb5.mono zw3)); have zw4 := HB4.out.size; clear hb5 blk4; clear hb4)
          | fail)
        exact nparse_end (e := .iface 26 (.int .i64 3)) (set2_block _ _ BLK4.out) rfl rfl rfl ⟨rfl, (HB4.out.setCell (by simp) _).setCell (by simp) _⟩
    · have HV : Hid (∀ v, Lib.atoiAll t ≠ .ok v) := Lib.hid (fun v e => hv ⟨v, e⟩)
      clear hv
      go_enter Tryz.func9, Tryz.ntmps9
      go_wp2_with (first
        | (go_at_call 30; (with_reducible refine (Cut_c 47 s _ (HW.out.alloc _) (by omega)).mono ?_); rintro e w1 ⟨rfl, hb1⟩; rw [HC1.out, HC2.out]; have blk1 := below_block hb1 (by simp) (heap_alloc_new w _); obtain ⟨r0, r1, f0, f1⟩ := row2 blk1; have BLK1 := Lib.hid blk1; have HB1 := Lib.hid (((Below.refl w.heap.size w).alloc (Nat.le_refl _) _).trans (hb1.mono (by simp))); have zw1 := HB1.out.size; clear hb1 blk1 r0 r1 f0 f1)
        | (go_at_call 31; (with_reducible refine (Parse_ok a ⟨h.toArray⟩ _ (HW.out.on HB1.out) ha HH.out).mono ?_); rintro e w2 ⟨rfl, hb2⟩; have blk2 := below_block hb2 (size_of_block BLK1.out) BLK1.out; obtain ⟨r0, r1, f0, f1⟩ := row2 blk2; have BLK2 := Lib.hid blk2; have HB2 := Lib.hid (HB1.out.trans (hb2.mono zw1)); have zw2 := HB2.out.size; clear hb2 blk2; clear r0 r1 f0 f1)
        | (go_at_call 32; (with_reducible refine (Atoi_bad ⟨t.toArray⟩ _ (HW.out.on HB2.out) (by rw [str_size]; omega) HV.out).mono ?_); rintro e w3 ⟨v, ty, pv, rfl, hb3⟩; have blk3 := below_block hb3 (size_of_block BLK2.out) BLK2.out; obtain ⟨r0, r1, f0, f1⟩ := row2 blk3; have BLK3 := Lib.hid blk3; have HB3 := Lib.hid (HB2.out.trans (hb3.mono zw2)); have zw3 := HB3.out.size; clear hb3 blk3; have hR3 := size_of_block BLK3.out)
        | fail)
      exact nparse_end (e := .iface 26 (.int .i64 3)) (below_block ((Below.refl _ _).alloc (Nat.le_refl _) _) (by simpa using hR3) (set2_block _ _ BLK3.out)) rfl rfl rfl ⟨rfl, ((HB3.out.setCell (by simp) _).setCell (by simp) _).alloc (by simp; omega) _⟩
  · have HNA : Hid (∀ a : Nat, a < 4294967296 → (⟨h.toArray⟩ : ByteArray).data.toList ≠ addrT a) := Lib.hid (fun a ha e => hA ⟨a, ha, e⟩)
    clear hA
    by_cases hv : ∃ v, Lib.atoiAll t = .ok v
    · obtain ⟨v, hv⟩ := hv
      have HV := Lib.hid hv
      clear hv
      go_enter Tryz.func9, Tryz.ntmps9
      go_wp2_with (first
        | (go_at_call 30; (with_reducible refine (Cut_c 47 s _ (HW.out.alloc _) (by omega)).mono ?_); rintro e w1 ⟨rfl, hb1⟩; rw [HC1.out, HC2.out]; have blk1 := below_block hb1 (by simp) (heap_alloc_new w _); obtain ⟨r0, r1, f0, f1⟩ := row2 blk1; have BLK1 := Lib.hid blk1; have HB1 := Lib.hid (((Below.refl w.heap.size w).alloc (Nat.le_refl _) _).trans (hb1.mono (by simp))); have zw1 := HB1.out.size; clear hb1 blk1 r0 r1 f0 f1)
        | (go_at_call 31; (with_reducible refine (Parse_bad ⟨h.toArray⟩ _ (HW.out.on HB1.out) (by rw [str_size]; omega) HNA.out).mono ?_); rintro e w2 ⟨rfl, hb2⟩; have blk2 := below_block hb2 (size_of_block BLK1.out) BLK1.out; obtain ⟨r0, r1, f0, f1⟩ := row2 blk2; have BLK2 := Lib.hid blk2; have HB2 := Lib.hid (HB1.out.trans (hb2.mono zw1)); have zw2 := HB2.out.size; clear hb2 blk2; clear r0 r1 f0 f1)
        | (go_at_call 32; (with_reducible refine (Atoi_ok ⟨t.toArray⟩ v _ (by rw [str_size]; omega) HV.out).mono ?_); rintro e w3 ⟨rfl, hb3⟩; have blk3 := below_block hb3 (size_of_block BLK2.out) BLK2.out; obtain ⟨r0, r1, f0, f1⟩ := row2 blk3; have BLK3 := Lib.hid blk3; have HB3 := Lib.hid (HB2.out.trans (hb3.mono zw2)); have zw3 := HB3.out.size; clear hb3 blk3; have hR3 := size_of_block BLK3.out)
        | fail)
      exact nparse_end (e := .iface 26 (.int .i64 3)) (below_block ((Below.refl _ _).alloc (Nat.le_refl _) _) (by simpa using hR3) (set2_block _ _ BLK3.out)) rfl rfl rfl ⟨rfl, ((HB3.out.setCell (by simp) _).setCell (by simp) _).alloc (by simp; omega) _⟩
    · have HV : Hid (∀ v, Lib.atoiAll t ≠ .ok v) := Lib.hid (fun v e => hv ⟨v, e⟩)
      clear hv
      go_enter Tryz.func9, Tryz.ntmps9
      go_wp2_with (first
        | (go_at_call 30; (with_reducible refine (Cut_c 47 s _ (HW.out.alloc _) (by omega)).mono ?_); rintro e w1 ⟨rfl, hb1⟩; rw [HC1.out, HC2.out]; have blk1 := below_block hb1 (by simp) (heap_alloc_new w _); obtain ⟨r0, r1, f0, f1⟩ := row2 blk1; have BLK1 := Lib.hid blk1; have HB1 := Lib.hid (((Below.refl w.heap.size w).alloc (Nat.le_refl _) _).trans (hb1.mono (by simp))); have zw1 := HB1.out.size; clear hb1 blk1 r0 r1 f0 f1)
        | (go_at_call 31; (with_reducible refine (Parse_bad ⟨h.toArray⟩ _ (HW.out.on HB1.out) (by rw [str_size]; omega) HNA.out).mono ?_); rintro e w2 ⟨rfl, hb2⟩; have blk2 := below_block hb2 (size_of_block BLK1.out) BLK1.out; obtain ⟨r0, r1, f0, f1⟩ := row2 blk2; have BLK2 := Lib.hid blk2; have HB2 := Lib.hid (HB1.out.trans (hb2.mono zw1)); have zw2 := HB2.out.size; clear hb2 blk2; clear r0 r1 f0 f1)
        | (go_at_call 32; (with_reducible refine (Atoi_bad ⟨t.toArray⟩ _ (HW.out.on HB2.out) (by rw [str_size]; omega) HV.out).mono ?_); rintro e w3 ⟨v, ty, pv, rfl, hb3⟩; have blk3 := below_block hb3 (size_of_block BLK2.out) BLK2.out; obtain ⟨r0, r1, f0, f1⟩ := row2 blk3; have BLK3 := Lib.hid blk3; have HB3 := Lib.hid (HB2.out.trans (hb3.mono zw2)); have zw3 := HB3.out.size; clear hb3 blk3; have hR3 := size_of_block BLK3.out)
        | fail)
      exact nparse_end (e := .iface 26 (.int .i64 3)) (below_block ((Below.refl _ _).alloc (Nat.le_refl _) _) (by simpa using hR3) (set2_block _ _ BLK3.out)) rfl rfl rfl ⟨rfl, ((HB3.out.setCell (by simp) _).setCell (by simp) _).alloc (by simp; omega) _⟩
end Go.Proofs.YtohfeoahdbfjbaaGreatDoor
