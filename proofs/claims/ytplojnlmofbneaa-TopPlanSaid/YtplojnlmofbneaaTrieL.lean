/- waywardenlaw1.TrieLongest: its walk. -/
import Derived.Test.YtplojnlmofbneaaTrieG
import Derived.Lib.QuietBelow
namespace Go.Proofs.Ytplojnlmofbneaa
open Go.ChangeShapes Go.WideShapes Go.ChangeAt Go.RowKit
set_option linter.unusedVariables false
set_option linter.unusedSimpArgs false
theorem long_none {m : List (Nt × Int)} {a : Int} (hm : MOk m) (h : fnd m a 33 = none) : ∀ y ∈ allM m, hasB y a = false := by
  intro y hy
  cases hh : hasB y a with
  | false => rfl
  | true =>
    obtain ⟨j, hj, rfl⟩ := has_trim hh
    exact absurd (fnd_none h j (by omega)) ((mem_all hm _).1 hy)
theorem long_some {m : List (Nt × Int)} {a u : Int} {j : Nat} (hm : MOk m) (h : fnd m a 33 = some (j, u)) :
    hasB (trimN (a, 32) j) a = true ∧ getV m (trimN (a, 32) j) = u ∧ getE m (trimN (a, 32) j) = 0 ∧ ∀ y ∈ allM m, hasB y a = true → y.2 ≤ (j : Int) := by
  obtain ⟨h1, h2, h3⟩ := fnd_some h
  have hF := (hm.net (x := trimN (a, 32) j) (by rw [h2]; simp)).1
  refine ⟨trim_has a (by omega), by unfold getV; rw [if_pos hF, h2]; rfl, by unfold getE; rw [if_pos hF, if_neg (by rw [h2]; simp)], fun y hy hh => ?_⟩
  obtain ⟨i, hi, rfl⟩ := has_trim hh
  rcases Nat.lt_or_ge j i with hji | hji
  · exact absurd (h3 i hji (by omega)) ((mem_all hm _).1 hy)
  · show ((i : Nat) : Int) ≤ j
    omega
theorem long_put {m : List (Nt × Int)} {a : Int} (hm : MOk m) (ha : is32 a) : (putE m (a, 32) = 4 ∧ (allM m).length = 64) ∨ (putE m (a, 32) = 0 ∧ fnd (putT m (a, 32) 7) a 33 = some (32, 7)) := by
  have hF : netF (a, 32) = 0 := net_of (k := 32) (by omega) (by have := congrArg Prod.fst (trim_32 ha); simpa [trimN] using this)
  by_cases h : look m (a, 32) = none ∧ m.length = 64
  · left
    exact ⟨by unfold putE; rw [if_pos hF, if_pos h], by rw [all_length hm]; exact h.2⟩
  · right
    have hE : putE m (a, 32) = 0 := by unfold putE; rw [if_pos hF, if_neg h]
    refine ⟨hE, ?_⟩
    have hl : look (putT m (a, 32) 7) (trimN (a, 32) 32) = some 7 := by
      unfold putT; rw [if_pos hE, trim_32 ha, look_put, if_pos rfl]
    simp only [fnd, hl]
theorem drop_of {α : Type} {l : List α} {k : Nat} {x : α} (h : l[k]? = some x) : l.drop k = x :: l.drop (k + 1) := by
  obtain ⟨hk, rfl⟩ := List.getElem?_eq_some_iff.1 h
  exact List.drop_eq_getElem_cons hk
theorem is32_zero : is32 0 := ⟨by omega, by omega⟩
theorem sl_form {w : World} {A : Option Addr} {n c : Nat} {l : List Nt} (h : R1 rdNets w (.slice A n c) l) : l.length = n := (RdSlice.len h).1.symm
theorem boxed {w : World} (o : Obj) : (w.alloc o).heap[w.heap.size]? = some o := heap_alloc_new w o
theorem findV_none (a : Int) : findV a none = .tuple #[.agg #[.int .u32 0, .int .i64 0], .int .i64 0, .iface 54 (.int .i64 2)] := rfl
theorem findV_some (a : Int) (j : Nat) (u : Int) : findV a (some (j, u)) = .tuple #[.agg #[.int .u32 (fl (lowI j) a), .int .i64 j], .int .i64 u, .nilIface] := rfl
theorem findV_32 {a : Int} (h : is32 a) (u : Int) : findV a (some (32, u)) = .tuple #[.agg #[.int .u32 a, .int .i64 32], .int .i64 u, .nilIface] := by
  have := congrArg Prod.fst (trim_32 h)
  rw [findV_some, show fl (lowI 32) a = a from by simpa [trimN] using this]; rfl
theorem has_c {w : World} {a n x : Int} {r : Bool} (ha : is32 a) (hx : is32 x) (hr : hasB (a, n) x = r) (d : Nat) (os : Array Obj) :
    Calls Try.prog 11 #[.agg #[.int .u32 a, .int .i64 n], .int .u32 x] (Sort.grow (redrawn w d) os) fun e w'' => e = .returned (.bool r) ∧ ∃ p : Regrown, w'' = Sort.grow (redrawn w p.d) p.os :=
  Calls.regrown_of ((Has_any a n x _ ha hx).mono fun e w' ⟨he, hb⟩ => ⟨by rw [he, hr], hb⟩)
set_option maxRecDepth 100000 in
set_option maxHeartbeats 8000000 in
theorem TrieLongest_none {W : World} {A : Option Addr} {n c : Nat} {l : List Nt} {a : Int} (hl : R1 rdNets W (.slice A n c) l) (hn : l.length ≤ 8796093022000) (ha : is32 a) (hr : fnd (puts l 0 []) a 33 = none) :
    Calls Try.prog 3 #[.slice A n c, .int .u32 a] W fun e w' => e = .returned (.bool true) ∧ Below W.heap.size W w' := by
  have hln := sl_form hl
  have hnn : n ≤ 8796093022000 := by omega
  have HL := Lib.hid hl
  have HA := Lib.hid ha
  have HR := Lib.hid hr
  have HLN := Lib.hid hln
  have HWF := Lib.hid (nets_wf hl)
  clear hl ha hr hln hn
  go_enter Try.func3, Try.ntmps3
  go_wp2_with fail
  go_at_call 7
  (with_reducible refine (New_t W).mono ?_)
  rintro e w1 ⟨rfl, hT1⟩
  have HT1 := Lib.hid hT1
  clear hT1
  go_wp2
  go_loopw [6] (fun i wr => ∃ (k : Nat) (m : List (Nt × Int)), k ≤ n ∧ i = .int .i64 k ∧ Tk W W.heap.size m NoB wr ∧ Hid (puts (l.drop k) k m = puts l 0 [])) (fun i _ => n - (intOf i).toNat)
  case atStart => exact ⟨0, [], Nat.zero_le _, rfl, HT1.out, Lib.hid rfl⟩
  case round =>
    obtain ⟨k, m, hk, rfl, hT, HP⟩ := hrel
    have HT := Lib.hid hT
    clear hT HT1
    by_cases hlt : k < n
    · obtain ⟨b, o, ⟨x, y⟩, rfl, hb, HX, ⟨wx, wy⟩, e0, e1⟩ := RdSlice.atN HL.out hlt
      have d0 := (HT.out.bel.cell (p := ⟨b, o + k * 2, none⟩) hb).trans e0
      have d1 := (HT.out.bel.cell (p := ⟨b, o + k * 2 + 1, none⟩) hb).trans e1
      have HS : Hid (puts (l.drop (k + 1)) (k + 1) (putT m (x, y) (k : Int)) = puts l 0 []) := Lib.hid (by
        rw [← HP.out, drop_of HX.out]; rfl)
      have HIx : Hid (is32 x) := Lib.hid (bounds_u32 wx)
      clear e0 e1 wx wy
      go_wp2_with fail
      go_at_call 8
      (with_reducible refine (Put_t HT.out HIx.out (WalkArith.wf_i64 (by omega))).mono ?_)
      rintro e w2 ⟨rfl, hT2, -, -⟩
      have HT2 := Lib.hid hT2
      clear hT2 d0 d1
      go_wp2
      go_roundw
      case rel => exact ⟨k + 1, _, by omega, by go_num, HT2.out, HS⟩
      case measure => simp [intOf]; omega
    · have HM : Hid (m = puts l 0 []) := Lib.hid (by
        have h := HP.out
        rw [List.drop_eq_nil_of_le (by rw [HLN.out]; omega)] at h
        exact h)
      obtain rfl := HM.out
      generalize hM : puts l 0 [] = M at *
      clear hM HM HP
      have HLg := Lib.hid (long_none HT.out.ok HR.out)
      go_wp2_with fail
      go_at_call 9
      (with_reducible refine (Find_t HT.out HA.out HR.out).mono ?_)
      rintro e w2 ⟨rfl, hb2⟩
      rw [findV_none]
      have HT2 := Lib.hid (HT.out.below hb2)
      have HX2 := Lib.hid (boxed (w := w2) (.cells #[.int .u32 0, .int .i64 0] 30))
      clear hb2
      go_wp2_with fail
      go_at_call 10
      (with_reducible refine (Get_t (a := 0) (n := 0) (HT2.out.below (below_1 _ _)) is32_zero).mono ?_)
      rintro e w3 ⟨rfl, hb3⟩
      have HX4 := Lib.hid (below_block hb3 (by simp) HX2.out)
      have HT4 := Lib.hid ((HT2.out.below (below_1 _ _)).below hb3)
      generalize errV (getE M (0, 0)) = eg
      generalize getV M (0, 0) = vg
      clear hb3
      go_wp2_with fail
      go_at_call 12
      (with_reducible refine (List_t HT4.out).mono ?_)
      rintro e w5 ⟨v5, rfl, hown5, hb5⟩
      have hx5 := below_block hb5 (size_of_block HX4.out) HX4.out
      have HX5 := Lib.hid hx5
      have HT5 := Lib.hid (HT4.out.below hb5)
      obtain ⟨A5, c5, rfl⟩ := hown5.form
      have HL5 := Lib.hid hown5.read
      obtain ⟨L, hL⟩ : ∃ L, (allM M).length = L := ⟨_, rfl⟩
      rw [hL] at HL5 ⊢
      have HLL := Lib.hid hL
      have hL64 : L ≤ 64 := by rw [← hL, all_length HT5.out.ok]; exact HT5.out.ok.len
      have HPT := Lib.hid (long_put HT5.out.ok HA.out)
      clear hb5 hown5 hL hx5
      go_wp2
      go_loopw [13] (fun i wr => ∃ q : Nat, q ≤ L ∧ i = .int .i64 q ∧ Below w5.heap.size w5 wr) (fun i _ => L - (intOf i).toNat)
      case atStart => exact ⟨0, Nat.zero_le _, rfl, Below.refl _ _⟩
      case round =>
        obtain ⟨q, hq, rfl, hbq⟩ := hrel
        have HBQ := Lib.hid hbq
        have hszq := hbq.size
        clear hbq
        by_cases hlt2 : q < L
        · obtain ⟨b, o, ⟨x, y⟩, rfl, hb, HX, ⟨wx, wy⟩, e0, e1⟩ := RdSlice.atN HL5.out hlt2
          have d0 := (HBQ.out.cell (p := ⟨b, o + q * 2, none⟩) hb).trans e0
          have d1 := (HBQ.out.cell (p := ⟨b, o + q * 2 + 1, none⟩) hb).trans e1
          have hxq := below_block HBQ.out (size_of_block HX5.out) HX5.out
          obtain ⟨n0, n1, _, _⟩ := row2 hxq
          have hwy := bounds_i64 wy
          have HIx : Hid (is32 x) := Lib.hid (bounds_u32 wx)
          have HMem : Hid ((x, y) ∈ allM M) := Lib.hid (List.mem_of_getElem? HX.out)
          have j0 := fun d os => cell_regrown d0 d os
          have j1 := fun d os => cell_regrown d1 d os
          have j2 := fun d os => cell_regrown n0 d os
          have j3 := fun d os => cell_regrown n1 d os
          have i0 : (0 : Int) ≤ (q : Int) := by omega
          have i1 : (q : Int) < (L : Int) := by omega
          clear e0 e1 wx wy d0 d1 n0 n1 hxq
          have HH2 : Hid (hasB (x, y) a = false) := Lib.hid (HLg.out _ HMem.out)
          go_wp2
          refine wp_region_quiet_below (by kernel_rfl) (by kernel_rfl) ?_
          repeat (go_big_quiet_step (first | (with_reducible exact has_c HIx.out HA.out HH2.out _ _) | fail))
          refine wpQuiet_nil ?_
          intro w6 hw'
          obtain ⟨⟨dq, osq⟩, hw''⟩ := hw'
          have HB6 := Lib.hid (HBQ.out.trans (((show Below wr.heap.size wr w6 by rw [hw'']; exact below_regrown wr dq osq)).mono hszq))
          clear j0 j1 j2 j3 hw''
          go_wp2
          go_roundw
          case rel => exact ⟨q + 1, by omega, by go_num, HB6.out⟩
          case measure => simp [intOf]; omega
        · have HT6 := Lib.hid (HT5.out.below HBQ.out)
          rcases HPT.out with ⟨hE, h64⟩ | ⟨hE, hf⟩
          · have HE := Lib.hid hE
            have hL2 : ((L : Int) == 64) = true := by rw [HLL.out] at h64; rw [beq_iff_eq]; omega
            clear hE h64
            go_wp2_with fail
            go_at_call 8
            (with_reducible refine (Put_t (n := 32) (v := 7) HT6.out HA.out (by decide)).mono ?_)
            rintro e w7 ⟨rfl, hT7, -, -⟩
            rw [HE.out, errV_ne (by decide)]
            obtain ⟨rr, hrr⟩ : ∃ rr, fnd (putT M (a, 32) 7) a 33 = rr := ⟨_, rfl⟩
            have HRR := Lib.hid hrr
            have HT7 := Lib.hid hT7
            clear hT7 hrr
            go_wp2_with fail
            go_at_call 9
            (with_reducible refine (Find_t HT7.out HA.out HRR.out).mono ?_)
            rintro e w8 ⟨rfl, hb8⟩
            have HB8 := Lib.hid ((HT7.out.below hb8).bel.alloc (HT7.out.below hb8).bel.size)
            clear hb8 HRR
            cases rr with
            | none =>
              rw [findV_none]
              go_wp2
              go_ret
              exact ⟨rfl, HB8.out _⟩
            | some p =>
              obtain ⟨p1, p2⟩ := p
              rw [findV_some]
              go_wp2
              go_ret
              exact ⟨rfl, HB8.out _⟩
          · have HE := Lib.hid hE
            have HF := Lib.hid hf
            clear hE hf
            go_wp2_with fail
            go_at_call 8
            (with_reducible refine (Put_t (n := 32) (v := 7) HT6.out HA.out (by decide)).mono ?_)
            rintro e w7 ⟨rfl, hT7, -, -⟩
            rw [HE.out, errV_zero]
            have HT7 := Lib.hid hT7
            clear hT7
            go_wp2_with fail
            go_at_call 9
            (with_reducible refine (Find_t HT7.out HA.out HF.out).mono ?_)
            rintro e w8 ⟨rfl, hb8⟩
            rw [findV_32 HA.out]
            have HB8 := Lib.hid ((HT7.out.below hb8).bel.alloc (HT7.out.below hb8).bel.size)
            clear hb8
            go_wp2
            go_ret
            exact ⟨rfl, HB8.out _⟩
set_option maxRecDepth 100000 in
set_option maxHeartbeats 8000000 in
theorem TrieLongest_some {W : World} {A : Option Addr} {n c : Nat} {l : List Nt} {a : Int} (hl : R1 rdNets W (.slice A n c) l) (hn : l.length ≤ 8796093022000) (ha : is32 a) {j : Nat} {u : Int} (hr : fnd (puts l 0 []) a 33 = some (j, u)) :
    Calls Try.prog 3 #[.slice A n c, .int .u32 a] W fun e w' => e = .returned (.bool true) ∧ Below W.heap.size W w' := by
  have hln := sl_form hl
  have hnn : n ≤ 8796093022000 := by omega
  have HL := Lib.hid hl
  have HA := Lib.hid ha
  have HR := Lib.hid hr
  have HLN := Lib.hid hln
  have HWF := Lib.hid (nets_wf hl)
  clear hl ha hr hln hn
  go_enter Try.func3, Try.ntmps3
  go_wp2_with fail
  go_at_call 7
  (with_reducible refine (New_t W).mono ?_)
  rintro e w1 ⟨rfl, hT1⟩
  have HT1 := Lib.hid hT1
  clear hT1
  go_wp2
  go_loopw [6] (fun i wr => ∃ (k : Nat) (m : List (Nt × Int)), k ≤ n ∧ i = .int .i64 k ∧ Tk W W.heap.size m NoB wr ∧ Hid (puts (l.drop k) k m = puts l 0 [])) (fun i _ => n - (intOf i).toNat)
  case atStart => exact ⟨0, [], Nat.zero_le _, rfl, HT1.out, Lib.hid rfl⟩
  case round =>
    obtain ⟨k, m, hk, rfl, hT, HP⟩ := hrel
    have HT := Lib.hid hT
    clear hT HT1
    by_cases hlt : k < n
    · obtain ⟨b, o, ⟨x, y⟩, rfl, hb, HX, ⟨wx, wy⟩, e0, e1⟩ := RdSlice.atN HL.out hlt
      have d0 := (HT.out.bel.cell (p := ⟨b, o + k * 2, none⟩) hb).trans e0
      have d1 := (HT.out.bel.cell (p := ⟨b, o + k * 2 + 1, none⟩) hb).trans e1
      have HS : Hid (puts (l.drop (k + 1)) (k + 1) (putT m (x, y) (k : Int)) = puts l 0 []) := Lib.hid (by
        rw [← HP.out, drop_of HX.out]; rfl)
      have HIx : Hid (is32 x) := Lib.hid (bounds_u32 wx)
      clear e0 e1 wx wy
      go_wp2_with fail
      go_at_call 8
      (with_reducible refine (Put_t HT.out HIx.out (WalkArith.wf_i64 (by omega))).mono ?_)
      rintro e w2 ⟨rfl, hT2, -, -⟩
      have HT2 := Lib.hid hT2
      clear hT2 d0 d1
      go_wp2
      go_roundw
      case rel => exact ⟨k + 1, _, by omega, by go_num, HT2.out, HS⟩
      case measure => simp [intOf]; omega
    · have HM : Hid (m = puts l 0 []) := Lib.hid (by
        have h := HP.out
        rw [List.drop_eq_nil_of_le (by rw [HLN.out]; omega)] at h
        exact h)
      obtain rfl := HM.out
      generalize hM : puts l 0 [] = M at *
      clear hM HM HP
      have HLg := Lib.hid (long_some HT.out.ok HR.out)
      go_wp2_with fail
      go_at_call 9
      (with_reducible refine (Find_t HT.out HA.out HR.out).mono ?_)
      rintro e w2 ⟨rfl, hb2⟩
      rw [findV_some]
      have hFI : is32 (fl (lowI j) a) := fl_32 (lowI_pos j) HA.out
      have HFI := Lib.hid hFI
      have hj : j < 33 := (fnd_some HR.out).1
      generalize hgf : fl (lowI j) a = f at *
      have HTR : Hid (trimN (a, 32) j = (f, (j : Int))) := Lib.hid (by unfold trimN; rw [hgf])
      clear hgf hFI
      have HT2 := Lib.hid (HT.out.below hb2)
      have HX2 := Lib.hid (boxed (w := w2) (.cells #[.int .u32 f, .int .i64 j] 30))
      clear hb2
      go_wp2_with fail
      go_at_call 10
      (with_reducible refine (Get_t (HT2.out.below (below_1 _ _)) HFI.out).mono ?_)
      rintro e w3 ⟨rfl, hb3⟩
      rw [show getV M (f, (j : Int)) = u from by have := HLg.out.2.1; rwa [HTR.out] at this, show getE M (f, (j : Int)) = 0 from by have := HLg.out.2.2.1; rwa [HTR.out] at this, errV_zero]
      have hx3 := below_block hb3 (by simp) HX2.out
      obtain ⟨d0, d1, _, _⟩ := row2 hx3
      have HX3 := Lib.hid hx3
      have HT3 := Lib.hid ((HT2.out.below (below_1 _ _)).below hb3)
      have HH : Hid (hasB (f, (j : Int)) a = true) := Lib.hid (by have := HLg.out.1; rwa [HTR.out] at this)
      have huu : (u != u) = false := by simp
      clear hb3 hx3
      go_wp2_with fail
      go_at_call 11
      (with_reducible refine (Has_any f j a _ HFI.out HA.out).mono ?_)
      rintro e w4 ⟨rfl, hb4⟩
      rw [HH.out]
      have hx4 := below_block hb4 (size_of_block HX3.out) HX3.out
      have HX4 := Lib.hid hx4
      have HT4 := Lib.hid (HT3.out.below hb4)
      clear hb4 hx4 d0 d1
      go_wp2_with fail
      go_at_call 12
      (with_reducible refine (List_t HT4.out).mono ?_)
      rintro e w5 ⟨v5, rfl, hown5, hb5⟩
      have hx5 := below_block hb5 (size_of_block HX4.out) HX4.out
      have HX5 := Lib.hid hx5
      have HT5 := Lib.hid (HT4.out.below hb5)
      obtain ⟨A5, c5, rfl⟩ := hown5.form
      have HL5 := Lib.hid hown5.read
      obtain ⟨L, hL⟩ : ∃ L, (allM M).length = L := ⟨_, rfl⟩
      rw [hL] at HL5 ⊢
      have HLL := Lib.hid hL
      have hL64 : L ≤ 64 := by rw [← hL, all_length HT5.out.ok]; exact HT5.out.ok.len
      have HPT := Lib.hid (long_put HT5.out.ok HA.out)
      clear hb5 hown5 hL hx5
      go_wp2
      go_loopw [13] (fun i wr => ∃ q : Nat, q ≤ L ∧ i = .int .i64 q ∧ Below w5.heap.size w5 wr) (fun i _ => L - (intOf i).toNat)
      case atStart => exact ⟨0, Nat.zero_le _, rfl, Below.refl _ _⟩
      case round =>
        obtain ⟨q, hq, rfl, hbq⟩ := hrel
        have HBQ := Lib.hid hbq
        have hszq := hbq.size
        clear hbq
        by_cases hlt2 : q < L
        · obtain ⟨b, o, ⟨x, y⟩, rfl, hb, HX, ⟨wx, wy⟩, e0, e1⟩ := RdSlice.atN HL5.out hlt2
          have d0 := (HBQ.out.cell (p := ⟨b, o + q * 2, none⟩) hb).trans e0
          have d1 := (HBQ.out.cell (p := ⟨b, o + q * 2 + 1, none⟩) hb).trans e1
          have hxq := below_block HBQ.out (size_of_block HX5.out) HX5.out
          obtain ⟨n0, n1, _, _⟩ := row2 hxq
          have hwy := bounds_i64 wy
          have HIx : Hid (is32 x) := Lib.hid (bounds_u32 wx)
          have HMem : Hid ((x, y) ∈ allM M) := Lib.hid (List.mem_of_getElem? HX.out)
          have j0 := fun d os => cell_regrown d0 d os
          have j1 := fun d os => cell_regrown d1 d os
          have j2 := fun d os => cell_regrown n0 d os
          have j3 := fun d os => cell_regrown n1 d os
          have i0 : (0 : Int) ≤ (q : Int) := by omega
          have i1 : (q : Int) < (L : Int) := by omega
          clear e0 e1 wx wy d0 d1 n0 n1 hxq
          have HLe : Hid (hasB (x, y) a = true → y ≤ (j : Int)) := Lib.hid (HLg.out.2.2.2 _ HMem.out)
          cases hh : hasB (x, y) a with
          | false =>
            have HH2 := Lib.hid hh
            clear hh HLe
            go_wp2
            refine wp_region_quiet_below (by kernel_rfl) (by kernel_rfl) ?_
            repeat (go_big_quiet_step (first | (with_reducible exact has_c HIx.out HA.out HH2.out _ _) | fail))
            refine wpQuiet_nil ?_
            intro w6 hw'
            obtain ⟨⟨dq, osq⟩, hw''⟩ := hw'
            have HB6 := Lib.hid (HBQ.out.trans (((show Below wr.heap.size wr w6 by rw [hw'']; exact below_regrown wr dq osq)).mono hszq))
            clear j0 j1 j2 j3 hw''
            go_wp2
            go_roundw
            case rel => exact ⟨q + 1, by omega, by go_num, HB6.out⟩
            case measure => simp [intOf]; omega
          | true =>
            have hyj : y ≤ (j : Int) := HLe.out hh
            have hnj : decide ((j : Int) < y) = false := by simp; omega
            have HH2 := Lib.hid hh
            clear hh HLe
            go_wp2
            refine wp_region_quiet_below (by kernel_rfl) (by kernel_rfl) ?_
            repeat (go_big_quiet_step (first | (with_reducible exact has_c HIx.out HA.out HH2.out _ _) | fail))
            refine wpQuiet_nil ?_
            intro w6 hw'
            obtain ⟨⟨dq, osq⟩, hw''⟩ := hw'
            have HB6 := Lib.hid (HBQ.out.trans (((show Below wr.heap.size wr w6 by rw [hw'']; exact below_regrown wr dq osq)).mono hszq))
            clear j0 j1 j2 j3 hw''
            go_wp2
            go_roundw
            case rel => exact ⟨q + 1, by omega, by go_num, HB6.out⟩
            case measure => simp [intOf]; omega
        · have HT6 := Lib.hid (HT5.out.below HBQ.out)
          rcases HPT.out with ⟨hE, h64⟩ | ⟨hE, hf⟩
          · have HE := Lib.hid hE
            have hL2 : ((L : Int) == 64) = true := by rw [HLL.out] at h64; rw [beq_iff_eq]; omega
            clear hE h64
            go_wp2_with fail
            go_at_call 8
            (with_reducible refine (Put_t (n := 32) (v := 7) HT6.out HA.out (by decide)).mono ?_)
            rintro e w7 ⟨rfl, hT7, -, -⟩
            rw [HE.out, errV_ne (by decide)]
            obtain ⟨rr, hrr⟩ : ∃ rr, fnd (putT M (a, 32) 7) a 33 = rr := ⟨_, rfl⟩
            have HRR := Lib.hid hrr
            have HT7 := Lib.hid hT7
            clear hT7 hrr
            go_wp2_with fail
            go_at_call 9
            (with_reducible refine (Find_t HT7.out HA.out HRR.out).mono ?_)
            rintro e w8 ⟨rfl, hb8⟩
            have HB8 := Lib.hid ((HT7.out.below hb8).bel.alloc (HT7.out.below hb8).bel.size)
            clear hb8 HRR
            cases rr with
            | none =>
              rw [findV_none]
              go_wp2
              go_ret
              exact ⟨rfl, HB8.out _⟩
            | some p =>
              obtain ⟨p1, p2⟩ := p
              rw [findV_some]
              go_wp2
              go_ret
              exact ⟨rfl, HB8.out _⟩
          · have HE := Lib.hid hE
            have HF := Lib.hid hf
            clear hE hf
            go_wp2_with fail
            go_at_call 8
            (with_reducible refine (Put_t (n := 32) (v := 7) HT6.out HA.out (by decide)).mono ?_)
            rintro e w7 ⟨rfl, hT7, -, -⟩
            rw [HE.out, errV_zero]
            have HT7 := Lib.hid hT7
            clear hT7
            go_wp2_with fail
            go_at_call 9
            (with_reducible refine (Find_t HT7.out HA.out HF.out).mono ?_)
            rintro e w8 ⟨rfl, hb8⟩
            rw [findV_32 HA.out]
            have HB8 := Lib.hid ((HT7.out.below hb8).bel.alloc (HT7.out.below hb8).bel.size)
            clear hb8
            go_wp2
            go_ret
            exact ⟨rfl, HB8.out _⟩
theorem TrieLongest_walk (w : World) (A : Option Addr) (n c : Nat) (l : List Nt) (rr : RV rdNets w (.slice A n c) l) (q : l.length * 16 ≤ reachBytes ∧ ∀ x ∈ l, True ∧ True) (a : Int) (ba : 0 ≤ a ∧ a ≤ 4294967295) :
    Calls Try.prog 3 #[.slice A n c, .int .u32 a] w fun e w' => e = .returned (.bool true) ∧ Below w.heap.size w w' := by
  have hn : l.length ≤ 8796093022000 := by have h := q.1; rw [reach_le] at h; omega
  have hl : R1 rdNets w (.slice A n c) l := rr
  cases hr : fnd (puts l 0 []) a 33 with
  | none => exact TrieLongest_none hl hn ba hr
  | some p => exact TrieLongest_some hl hn ba (j := p.1) (u := p.2) hr
end Go.Proofs.Ytplojnlmofbneaa
