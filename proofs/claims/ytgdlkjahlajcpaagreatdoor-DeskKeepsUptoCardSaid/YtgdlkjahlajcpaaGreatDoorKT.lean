/- cover.joined: both halves of one become one, as long as that goes on. -/
import Derived.Test.YtgdlkjahlajcpaaGreatDoorKR
import Derived.Test.YtgdlkjahlajcpaaGreatDoorKI
import Derived.BigQuiet
import Derived.Deep.RegionHeld3
import Derived.Deep.DeepCutAuto
namespace Go.Proofs.YtgdlkjahlajcpaaGreatDoor
open Go.ChangeShapes Go.WideShapes Go.ChangeAt Go.RowKit
set_option linter.unusedVariables false
set_option linter.unusedSimpArgs false
theorem below_a1 (w : World) (o : Obj) : Below w.heap.size w (w.alloc o) := (Below.refl _ _).alloc (Nat.le_refl _) _
theorem Grow.of_below {w w' : World} (hb : Below w.heap.size w w') (v : Value) : Grow w v w' v := ⟨⟨hb.os, hb.tape, hb.output, hb.size, fun k hk _ => hb.block k hk⟩, .inl rfl⟩
theorem inN_c {w : World} {a n b m : Int} {r : Bool} (ha : is32 a) (hb : is32 b) (hr : inB (a, n) (b, m) = r) (d : Nat) (os : Array Obj) :
    Calls Tryz.prog 91 #[.agg #[.int .u32 a, .int .i64 n], .agg #[.int .u32 b, .int .i64 m]] (Sort.grow (redrawn w d) os) fun e w'' => e = .returned (.bool r) ∧ ∃ p : Regrown, w'' = Sort.grow (redrawn w p.d) p.os :=
  Calls.regrown_of ((In_any a n b m _ ha hb).mono fun e w' ⟨he, hb⟩ => ⟨by rw [he, hr], hb⟩)
theorem OwnN.pre {w : World} {base n c : Nat} {A : Option Addr} {xs ys : List (Int × Int)} (h : OwnN w base (.slice A n c) (xs ++ ys)) (hn : 0 < (xs ++ ys).length) : OwnN w base (.slice A xs.length c) xs := by
  obtain ⟨⟨h1, h2⟩, h3⟩ := h
  refine ⟨⟨nC_len xs, ?_⟩, fun x hx => h3 x (List.mem_append_left _ hx)⟩
  rcases h2 with ⟨_, h2⟩ | ⟨g, cap, cur, e, hg, hb, hc, hm, hz, ht⟩
  · omega
  · simp only [Value.slice.injEq] at e
    obtain ⟨rfl, _, rfl⟩ := e
    have hle : xs.length ≤ (xs ++ ys).length := by rw [List.length_append]; omega
    refine .inr ⟨g, c, cur, rfl, hg, hb, by omega, hm, hz, ?_⟩
    have : cur.toList.take (xs.length * 2) = (cur.toList.take ((xs ++ ys).length * 2)).take (xs.length * 2) := by rw [List.take_take, Nat.min_eq_left (by omega)]
    rw [this, ht, List.flatMap_append, List.take_left' (nC_len xs)]
theorem step_append_net {w : World} {ops : Array Oper} {o : Oper} {a : Act} {K : Act → World → Prop} {Q : Exit → Act → World → Prop} {E : Prop} (hgd : o.guard = none) (s x : Operand) (t : TypeId) (ht : Tryz.prog.underlying t = some (.slice 47))
    (ho : o.op = .call { callee := .builtin .append, args := #[s, x], argTypes := #[t, t] })
    (base : Nat) (v : Value) (xs : List (Int × Int)) (hs : a.eval s = v) (hown : OwnN w base v xs)
    (G : Nat) (y : Int × Int) (t2 : TypeId) (hx : a.eval x = .slice (some ⟨G, 0, none⟩) 1 1) (hG : w.heap[G]? = some (.cells #[.int .u32 y.1, .int .i64 y.2] t2 (0, 0))) (hwf : wfN y)
    (hl : xs.length ≤ 8796093022000) (hbase : base ≤ w.heap.size)
    (h : ∀ v' w', OwnN w' base v' (xs ++ [y]) → Grow w v w' v' → K (a.put o.dst v') w') : if Region.wanted o (yielded ops a.tmps) = true then Oper.wp Tryz.prog o a w K Q else E := by
  obtain ⟨i0, hi, hz0, hz1, hz2⟩ := info_parts net_info
  have hr : Reads w w.heap.size 2 (some ⟨G, 0, none⟩) 1 (nC y) := ⟨rfl, fun _ => ⟨_, rfl, size_of_block hG, fun j u hu => by
    rw [addr_add, cell_of_row _ G _ _ t2 (0, 0) hG]; simpa [nC] using hu⟩⟩
  refine step_append_any w hgd s x t ho base _ i0 _ 2 16 ht hi hz0 hz1 hz2 (by rfl) (by omega) v xs.length _ hs hown.1 w.heap.size _ 1 1 (nC y) hx hr (one_nC y) (by simp only [maxLen]; omega) (by omega) hbase ?_
  intro v' w' h1 h2 h3
  refine h v' w' ⟨by simpa using h1, fun q hq => ?_⟩ ⟨h2, ?_⟩
  · rcases List.mem_append.1 hq with hq | hq
    · exact hown.2 q hq
    · simp only [List.mem_cons, List.not_mem_nil, or_false] at hq; subst hq; exact hwf
  · rcases h3 with h3 | h3
    · exact .inl h3
    · exact .inr ⟨_, h3, Nat.le_refl _⟩
theorem Up_okl {a l : Int} {k : Nat} (w : World) (ha : is32 a) (hk : k < 32) (hl : l = (k : Int) + 1) (h : netF (a, l) = 0) :
    Calls Tryz.prog 82 #[.agg #[.int .u32 a, .int .i64 l]] w fun e w' => e = .returned (.tuple #[.agg #[.int .u32 (fl (lowI k) a), .int .i64 k], .nilIface]) ∧ Below w.heap.size w w' := by
  subst hl; exact Up_ok w ha hk h
theorem joinS_stop {n t : Nn} {r : List Nn} (h : sibB t n = false) : joinS n (t :: r) = n :: t :: r := by rw [joinS, h]; rfl
theorem joinS_go {n t : Nn} {r : List Nn} (h : sibB t n = true) : joinS n (t :: r) = joinS (upN n) r := by rw [joinS, h]; rfl
set_option maxRecDepth 100000 in
set_option maxHeartbeats 4000000 in
theorem Joined_any {w : World} {base : Nat} {v : Value} {n : Nn} {r : List Nn} (ho : OwnN w base v (n :: r).reverse) (hn : netF n = 0) (h32 : ∀ x ∈ n :: r, is32 x.1) (hl : r.length ≤ 100) (hb : base ≤ w.heap.size) :
    Calls Tryz.prog 92 #[v] w fun e w' => ∃ v', e = .returned v' ∧ OwnN w' base v' (joinS n r).reverse ∧ Grow w v w' v' := by
  obtain ⟨A0, c0, rfl⟩ := ho.form
  obtain ⟨N0, hN0⟩ : ∃ N0, (n :: r).reverse.length = N0 := ⟨_, rfl⟩
  rw [hN0] at ho ⊢
  have HN0 : Hid (N0 = r.length + 1) := Lib.hid (by rw [← hN0]; simp)
  obtain ⟨J, hJ⟩ : ∃ J, joinS n r = J := ⟨_, rfl⟩
  rw [hJ]
  have HJ := Lib.hid hJ
  have HO := Lib.hid ho
  have HF := Lib.hid hn
  have H32 := Lib.hid h32
  have HL := Lib.hid hl
  have HB := Lib.hid hb
  obtain ⟨V0, hV0⟩ : ∃ V0 : Value, .slice A0 N0 c0 = V0 := ⟨_, rfl⟩
  have HV0 := Lib.hid hV0
  have HG0 : Hid (Grow w V0 w (.slice A0 N0 c0)) := Lib.hid (by rw [← hV0]; exact Grow.refl _ _)
  have HGOAL : Hid (∀ e w', (∃ v', e = Ending.returned v' ∧ OwnN w' base v' J.reverse ∧ Grow w V0 w' v') → (∃ v', e = Ending.returned v' ∧ OwnN w' base v' J.reverse ∧ Grow w (.slice A0 N0 c0) w' v')) := Lib.hid (fun e w' h => by rw [hV0]; exact h)
  refine Calls.mono (R := fun e w' => ∃ v', e = Ending.returned v' ∧ OwnN w' base v' J.reverse ∧ Grow w V0 w' v') ?_ HGOAL.out
  clear hN0 hJ ho hn h32 hl hb hV0 HGOAL HV0
  go_enter Tryz.func92, Tryz.ntmps92
  go_wp2
  go_loopw [0, 3, 4, 5] (fun lv kv _ _ wr => ∃ (A : Option Addr) (c N : Nat) (n : Nn) (r : List Nn), lv = .slice A N c ∧ kv = .int .i64 N ∧ Hid (joinS n r = J) ∧ Hid (netF n = 0) ∧ Hid (∀ x ∈ n :: r, is32 x.1) ∧ Hid (N = r.length + 1) ∧ Hid (r.length ≤ 100) ∧ Hid (OwnN wr base (.slice A N c) (n :: r).reverse) ∧ Hid (Grow w V0 wr (.slice A N c))) (fun _ kv _ _ _ => (intOf kv).toNat)
  case atStart => exact ⟨A0, c0, N0, n, r, rfl, rfl, HJ, HF, H32, HN0, HL, HO, HG0⟩
  case round =>
    clear HJ HF H32 HN0 HL HO HG0 n r
    obtain ⟨A, c, N, n, r, rfl, rfl, HJ, HF, H32, HN, HL, HO, HG⟩ := hrel
    have HSZ : Hid (w.heap.size ≤ wr.heap.size) := Lib.hid HG.out.size
    cases r with
    | nil =>
      obtain rfl : N = 1 := HN.out
      have HE : Hid (J = [n]) := Lib.hid (by rw [← HJ.out]; rfl)
      go_wp2
      go_ret
      exact ⟨_, rfl, by rw [HE.out]; exact HO.out, HG.out⟩
    | cons t r =>
      obtain ⟨M, hM⟩ : ∃ M, r.length = M := ⟨_, rfl⟩
      obtain ⟨P, hP⟩ : ∃ P, M + 1 = P := ⟨_, rfl⟩
      have HM := Lib.hid hM
      have HP := Lib.hid hP
      have hNM : N = M + 2 := by rw [← hM]; exact HN.out
      have hM100 : M + 1 ≤ 100 := by rw [← hM]; exact HL.out
      obtain ⟨a, l⟩ := n
      obtain ⟨x, x'⟩ := t
      have hrd := HO.out.read
      have e1 : ((a, l) :: (x, x') :: r).reverse[P]? = some (a, l) := by rw [← hP, ← hM]; simp
      have e2 : ((a, l) :: (x, x') :: r).reverse[M]? = some (x, x') := by rw [← hM]; simp
      obtain ⟨b, o, y1, rfl, hb, HX, -, c0, c1⟩ := RdSlice.atN hrd (k := P) (by omega)
      obtain ⟨b2, o2, y2, eb, _, HY, -, d0, d1⟩ := RdSlice.atN hrd (k := M) (by omega)
      simp only [Option.some.injEq, Addr.mk.injEq, and_true] at eb
      obtain ⟨rfl, rfl⟩ := eb
      have ey1 := HX.out
      rw [e1] at ey1
      simp only [Option.some.injEq] at ey1
      subst ey1
      have ey2 := HY.out
      rw [e2] at ey2
      simp only [Option.some.injEq] at ey2
      subst ey2
      have HIa : Hid (is32 a) := Lib.hid (H32.out (a, l) (by simp))
      have HIx : Hid (is32 x) := Lib.hid (H32.out (x, x') (by simp))
      have HIr : Hid (∀ y ∈ r, is32 y.1) := Lib.hid (fun y hy => H32.out y (by simp [hy]))
      have t0 : (1 : Int) < (N : Int) := by omega
      have t0' : 1 < N := by omega
      have q1 : IntKind.i64.wrap ((N : Int) - 1) = (P : Int) := by rw [show (N : Int) - 1 = (P : Int) from by omega]; exact IntWalk.i64_in _ ⟨by omega, by omega⟩
      have q2 : IntKind.i64.wrap ((N : Int) - 2) = (M : Int) := by rw [show (N : Int) - 2 = (M : Int) from by omega]; exact IntWalk.i64_in _ ⟨by omega, by omega⟩
      have i0 : (0 : Int) ≤ (P : Int) := by omega
      have i1 : (P : Int) < (N : Int) := by omega
      have i2 : (0 : Int) ≤ (M : Int) := by omega
      have i3 : (M : Int) < (N : Int) := by omega
      have HNM := Lib.hid hNM
      have HM100 := Lib.hid hM100
      have hcN : N ≤ c := (RdSlice.len hrd).2.1
      have hMc : (M : Int) ≤ (c : Int) := by omega
      clear HX HY e1 e2 hrd hP hM hNM hM100 HN HL
      by_cases hl0 : l = 0
      · subst hl0
        have HE : Hid (J = (a, 0) :: (x, x') :: r) := Lib.hid (by rw [← HJ.out, joinS_stop (by simp [sibB])])
        go_wp2_with fail
        (with_reducible refine (Up_top _ HIa.out HF.out).mono ?_)
        rintro e w1 ⟨rfl, hb1⟩
        have HB1 := Lib.hid (hb1.trans ((below_a1 w1 (.cells #[.int .u32 0, .int .i64 0] 47)).mono hb1.size))
        clear hb1
        go_upto_region 5 with (fail)
        generalize w1.alloc (.cells #[.int .u32 0, .int .i64 0] 47) = w2 at *
        refine wp_region_quiet_below (by kernel_rfl) (by kernel_rfl) ?_
        repeat (go_big_quiet_step (fail))
        refine wpQuiet_nil ?_
        intro w6 hw'
        obtain ⟨⟨dq, osq⟩, hw''⟩ := hw'
        have HB6 := Lib.hid (HB1.out.trans ((show Below w2.heap.size w2 w6 by rw [hw'']; exact below_regrown w2 dq osq).mono HB1.out.size))
        clear hw''
        go_wp2
        go_ret
        exact ⟨_, rfl, by rw [HE.out]; exact HO.out.below HB6.out, HG.out.trans (Grow.of_below HB6.out _)⟩
      · obtain ⟨k, hk, ek, eu, hu, hor, hs, hs2⟩ := up_ok HF.out hl0
        simp only at ek
        have HLK := Lib.hid ek
        have HU := Lib.hid eu
        have HIu : Hid (is32 (fl (lowI k) a)) := Lib.hid (fl_32 (lowI_pos k) HIa.out)
        have HVu : Hid (netF (fl (lowI k) a, (k : Int)) = 0) := Lib.hid (by rw [← eu]; exact hu)
        have HK32 := Lib.hid hk
        clear eu hu hor hs hs2 hl0 ek
        go_wp2_with fail
        (with_reducible refine (Up_okl _ HIa.out HK32.out HLK.out HF.out).mono ?_)
        rintro e w1 ⟨rfl, hb1⟩
        have hx := heap_alloc_new w1 (.cells #[.int .u32 (fl (lowI k) a), .int .i64 (k : Int)] 47)
        have hb2 := hb1.trans ((below_a1 w1 (.cells #[.int .u32 (fl (lowI k) a), .int .i64 (k : Int)] 47)).mono hb1.size)
        obtain ⟨Bx, hBx⟩ : ∃ Bx, w1.heap.size = Bx := ⟨_, rfl⟩
        have HBX : Hid (wr.heap.size ≤ Bx) := Lib.hid (by rw [← hBx]; exact hb1.size)
        have HB1 := Lib.hid hb2
        have f0 := (hb2.cell (p := ⟨b, o + P * 2 + 1, none⟩) hb).trans c1
        have f1 := (hb2.cell (p := ⟨b, o + M * 2, none⟩) hb).trans d0
        have f2 := (hb2.cell (p := ⟨b, o + M * 2 + 1, none⟩) hb).trans d1
        clear hb1 hb2 c0 c1 d0 d1
        go_upto_region 5 with (fail)
        try rw [hBx] at hx
        clear hBx
        generalize w1.alloc (.cells #[.int .u32 (fl (lowI k) a), .int .i64 (k : Int)] 47) = w2 at *
        obtain ⟨u0, u1, _, _⟩ := row2 hx
        have HXB := Lib.hid hx
        have j0 := fun d os => cell_regrown f0 d os
        have j1 := fun d os => cell_regrown f1 d os
        have j2 := fun d os => cell_regrown f2 d os
        have j3 := fun d os => cell_regrown u0 d os
        have j4 := fun d os => cell_regrown u1 d os
        clear hx u0 u1 f0 f1 f2
        obtain ⟨s, hs⟩ : ∃ s, inB (x, x') (fl (lowI k) a, (k : Int)) = s := ⟨_, rfl⟩
        have HR := Lib.hid hs
        clear hs
        by_cases hx1 : x' = l
        · have hx9 := hx1.symm
          subst hx9
          clear hx1
          cases s with
          | false =>
            have HE : Hid (J = (a, l) :: (x, l) :: r) := Lib.hid (by rw [← HJ.out, joinS_stop (by unfold sibB; rw [HU.out, HR.out]; simp)])
            refine wp_region_quiet_below (by kernel_rfl) (by kernel_rfl) ?_
            repeat (go_big_quiet_step (first | (with_reducible exact inN_c HIx.out HIu.out HR.out _ _) | fail))
            refine wpQuiet_nil ?_
            intro w6 hw'
            obtain ⟨⟨dq, osq⟩, hw''⟩ := hw'
            have hb6 := (show Below w2.heap.size w2 w6 by rw [hw'']; exact below_regrown w2 dq osq)
            have HB6 := Lib.hid (HB1.out.trans (hb6.mono HB1.out.size))
            clear hw'' hb6 j0 j1 j2 j3 j4
            go_wp2
            go_ret
            exact ⟨_, rfl, by rw [HE.out]; exact HO.out.below HB6.out, HG.out.trans (Grow.of_below HB6.out _)⟩
          | true =>
            have HE : Hid (joinS (fl (lowI k) a, (k : Int)) r = J) := Lib.hid (by rw [← HU.out, ← HJ.out, joinS_go (by unfold sibB; rw [HU.out, HR.out]; have := HLK.out; simp; omega)])
            refine wp_region_quiet_below (by kernel_rfl) (by kernel_rfl) ?_
            repeat (go_big_quiet_step (first | (with_reducible exact inN_c HIx.out HIu.out HR.out _ _) | fail))
            refine wpQuiet_nil ?_
            intro w6 hw'
            obtain ⟨⟨dq, osq⟩, hw''⟩ := hw'
            have hb6 := (show Below w2.heap.size w2 w6 by rw [hw'']; exact below_regrown w2 dq osq)
            have HB6 := Lib.hid (HB1.out.trans (hb6.mono HB1.out.size))
            have hx6 := below_block hb6 (size_of_block HXB.out) HXB.out
            have HX6 := Lib.hid hx6
            obtain ⟨z0, z1, _, _⟩ := row2 hx6
            have hpre : OwnN w6 base (.slice (some ⟨b, o, none⟩) M c) r.reverse := by
              have h := HO.out.below HB6.out
              have e : ((a, l) :: (x, l) :: r).reverse = r.reverse ++ [(x, l), (a, l)] := by simp
              rw [e] at h
              have := h.pre (by simp)
              rwa [List.length_reverse, HM.out] at this
            have HPRE := Lib.hid hpre
            have HGR : Hid (Grow w V0 w6 (.slice (some ⟨b, o, none⟩) M c)) := Lib.hid (by
              have := HG.out.trans (Grow.of_below HB6.out _)
              exact ⟨this.1, this.2⟩)
            have hBb : ¬ Bx = b := by have := HBX.out; omega
            have hB6z : Bx < w6.heap.size := size_of_block hx6
            have hBb6 : b < w6.heap.size := by have := HB6.out.size; omega
            clear hw'' hb6 j0 j1 j2 j3 j4 hx6 hpre
            go_upto_region 6 with (fail)
            refine wp_region_noPanic ?_
            refine wp_region_held_drew (S := (fun w' => w'.cell? ⟨Bx, 0, none⟩ = some (.int .u32 (fl (lowI k) a)) ∧ w'.cell? ⟨Bx, 1, none⟩ = some (.int .i64 (k : Int)))) (by kernel_rfl) (by go_keep) (fun hHeld => ?_)
            refine' wpAnyH_take (i := 0) ?hia0 ?hsa0 ?hfa0 ?hra0 ?hQa0 ?hya0 ?hSa0 ?ha0
            case hia0 => (simp only [List.getElem?_toArray, List.getElem?_cons_succ, List.getElem?_cons_zero]; exact rfl)
            case hsa0 => kernel_rfl
            case hfa0 => kernel_rfl
            case hra0 => kernel_rfl
            case hQa0 => exact fun _ _ _ h => h
            case hya0 => (first | (refine Or.inr ⟨by rfl, ?_⟩; rfl) | (refine Or.inl ⟨by rfl, ?_⟩; (intro w hSw; (try dsimp only at hSw); go_simp); try with_reducible rfl))
            case hSa0 => assumption
            try simp only [Act.put, List.setIfInBounds_toArray, List.set_cons_zero, List.set_cons_succ]
            refine' wpAnyH_take (i := 1) ?hia1 ?hsa1 ?hfa1 ?hra1 ?hQa1 ?hya1 ?hSa1 ?ha1
            case hia1 => (simp only [List.getElem?_toArray, List.getElem?_cons_succ, List.getElem?_cons_zero]; exact rfl)
            case hsa1 => kernel_rfl
            case hfa1 => kernel_rfl
            case hra1 => kernel_rfl
            case hQa1 => exact fun _ _ _ h => h
            case hya1 => (first | (refine Or.inr ⟨by rfl, ?_⟩; rfl) | (refine Or.inl ⟨by rfl, ?_⟩; (intro w hSw; (try dsimp only at hSw); go_simp); try with_reducible rfl))
            case hSa1 => assumption
            try simp only [Act.put, List.setIfInBounds_toArray, List.set_cons_zero, List.set_cons_succ]
            refine' wpAnyH_take (i := 2) ?hia2 ?hsa2 ?hfa2 ?hra2 ?hQa2 ?hya2 ?hSa2 ?ha2
            case hia2 => (simp only [List.getElem?_toArray, List.getElem?_cons_succ, List.getElem?_cons_zero]; exact rfl)
            case hsa2 => kernel_rfl
            case hfa2 => kernel_rfl
            case hra2 => kernel_rfl
            case hQa2 => exact fun _ _ _ h => h
            case hya2 => (first | (refine Or.inr ⟨by rfl, ?_⟩; rfl) | (refine Or.inl ⟨by rfl, ?_⟩; (intro w hSw; (try dsimp only at hSw); go_simp); try with_reducible rfl))
            case hSa2 => assumption
            try simp only [Act.put, List.setIfInBounds_toArray, List.set_cons_zero, List.set_cons_succ]
            refine' wpAnyH_take (i := 3) ?hia3 ?hsa3 ?hfa3 ?hra3 ?hQa3 ?hya3 ?hSa3 ?ha3
            case hia3 => (simp only [List.getElem?_toArray, List.getElem?_cons_succ, List.getElem?_cons_zero]; exact rfl)
            case hsa3 => kernel_rfl
            case hfa3 => kernel_rfl
            case hra3 => kernel_rfl
            case hQa3 => exact fun _ _ _ h => h
            case hya3 => (first | (refine Or.inr ⟨by rfl, ?_⟩; rfl) | (refine Or.inl ⟨by rfl, ?_⟩; (intro w hSw; (try dsimp only at hSw); go_simp); try with_reducible rfl))
            case hSa3 => assumption
            try simp only [Act.put, List.setIfInBounds_toArray, List.set_cons_zero, List.set_cons_succ]
            refine' wpAnyH_take (i := 4) ?hia4 ?hsa4 ?hfa4 ?hra4 ?hQa4 ?hya4 ?hSa4 ?ha4
            case hia4 => (simp only [List.getElem?_toArray, List.getElem?_cons_succ, List.getElem?_cons_zero]; exact rfl)
            case hsa4 => kernel_rfl
            case hfa4 => kernel_rfl
            case hra4 => kernel_rfl
            case hQa4 => exact fun _ _ _ h => h
            case hya4 => (first | (refine Or.inr ⟨by rfl, ?_⟩; rfl) | (refine Or.inl ⟨by rfl, ?_⟩; (intro w hSw; (try dsimp only at hSw); go_simp); try with_reducible rfl))
            case hSa4 => assumption
            try simp only [Act.put, List.setIfInBounds_toArray, List.set_cons_zero, List.set_cons_succ]
            refine wpAnyH_ready (rs := [5]) (by kernel_rfl) (by simp) ?_
            refine' AllReadyH.cons ?hia5 (fun K hK => ?ha5) AllReadyH.nil
            case hia5 => (simp only [List.getElem?_toArray, List.getElem?_cons_succ, List.getElem?_cons_zero]; exact rfl)
            go_simp
            refine hK.out _ _ (by go_keep) (fun hHeld => ?_)
            clear hK K
            have HPR7 := Lib.hid ((show OwnN w6.drew base (.slice (some ⟨b, o, none⟩) M c) r.reverse from HPRE.out).below (below_a1 w6.drew (.cells #[.int .u32 (fl (lowI k) a), .int .i64 (k : Int)] 47)))
            have hbw7 : Below w6.heap.size w6 (w6.drew.alloc (.cells #[.int .u32 (fl (lowI k) a), .int .i64 (k : Int)] 47)) := (below_drewN (Below.refl w6.heap.size w6) 1).trans (below_a1 w6.drew _)
            have hnew7 := heap_alloc_new w6.drew (.cells #[.int .u32 (fl (lowI k) a), .int .i64 (k : Int)] 47)
            have HWF : Hid (wfN (fl (lowI k) a, (k : Int))) := Lib.hid ⟨WalkArith.wf_u32 HIu.out, WalkArith.wf_i64 (by have := HK32.out; omega)⟩
            refine wpAnyH_ready (rs := [6]) (by kernel_rfl) (by simp) ?_
            refine' AllReadyH.cons ?hia6 (fun K hK => ?ha6) AllReadyH.nil
            case hia6 => (simp only [List.getElem?_toArray, List.getElem?_cons_succ, List.getElem?_cons_zero]; exact rfl)
            (refine step_append_net rfl (.tmp 51) (.tmp 53) 26 Tryz.underlying26 rfl base _ r.reverse rfl HPR7.out w6.heap.size (fl (lowI k) a, (k : Int)) 47 rfl hnew7 HWF.out (by rw [List.length_reverse, HM.out]; have := HM100.out; omega) (by have := HB.out; have := HSZ.out; have := HB6.out.size; simp; omega) ?_)
            intro v8 w8 hown8 hgrow8
            have r0 := (hgrow8.cell (p := ⟨Bx, 0, none⟩) (B := 0) HPR7.out.1 (by simp; omega) (fun g e => by cases e; simp only; omega)).trans hHeld.1
            have r1 := (hgrow8.cell (p := ⟨Bx, 1, none⟩) (B := 0) HPR7.out.1 (by simp; omega) (fun g e => by cases e; simp only; omega)).trans hHeld.2
            have HO8 := Lib.hid hown8
            have HG8 := Lib.hid hgrow8
            clear hown8 hgrow8
            refine hK.out _ _ (by go_keep) (fun hHeld => ?_)
            clear hK K
            refine' wpAnyH_take (i := 7) ?hia7 ?hsa7 ?hfa7 ?hra7 ?hQa7 ?hya7 ?hSa7 ?ha7
            case hia7 => (simp only [List.getElem?_toArray, List.getElem?_cons_succ, List.getElem?_cons_zero]; exact rfl)
            case hsa7 => kernel_rfl
            case hfa7 => kernel_rfl
            case hra7 => kernel_rfl
            case hQa7 => exact fun _ _ _ h => h
            case hya7 => (first | (refine Or.inr ⟨by rfl, ?_⟩; rfl) | (refine Or.inl ⟨by rfl, ?_⟩; (intro w hSw; (try dsimp only at hSw); go_simp); try with_reducible rfl))
            case hSa7 => assumption
            try simp only [Act.put, List.setIfInBounds_toArray, List.set_cons_zero, List.set_cons_succ]
            refine wpAnyH_done (by kernel_rfl) ?_ _
            refine NoPanic.normal ?_
            clear hHeld r0 r1
            have hGR8 : Grow w V0 w8 v8 := HGR.out.trans ((Grow.of_below hbw7 _).trans HG8.out)
            obtain ⟨A8, c8, e8⟩ := HO8.out.form
            have eP : (r.reverse ++ [(fl (lowI k) a, (k : Int))]).length = P := by rw [List.length_append, List.length_reverse, HM.out, ← HP.out]; rfl
            rw [eP] at e8
            subst e8
            have HGR8 := Lib.hid hGR8
            have HO9 : Hid (OwnN w8 base (.slice A8 P c8) ((fl (lowI k) a, (k : Int)) :: r).reverse) := Lib.hid (by rw [List.reverse_cons]; exact HO8.out)
            have HPP : Hid (P = r.length + 1) := Lib.hid (by rw [HM.out, HP.out])
            have HRL : Hid (r.length ≤ 100) := Lib.hid (by rw [HM.out]; have := HM100.out; omega)
            have HI9 : Hid (∀ y ∈ (fl (lowI k) a, (k : Int)) :: r, is32 y.1) := Lib.hid (fun y hy => by
              rcases List.mem_cons.1 hy with rfl | hy
              · exact HIu.out
              · exact HIr.out y hy)
            clear hbw7 hnew7 hGR8 eP z0 z1 hBb hB6z hBb6
            go_wp2
            go_roundw
            case rel => exact ⟨A8, c8, P, _, r, rfl, rfl, HE, HVu, HI9, HPP, HRL, HO9, HGR8⟩
            case measure => simp [intOf]; omega
        · have hx3 : (x' != l) = true := by simpa using hx1
          have HE : Hid (J = (a, l) :: (x, x') :: r) := Lib.hid (by rw [← HJ.out, joinS_stop (by unfold sibB; rw [decide_eq_false (show ¬ ((x, x') : Nn).2 = ((a, l) : Nn).2 from hx1)]; simp)])
          clear hx1
          refine wp_region_quiet_below (by kernel_rfl) (by kernel_rfl) ?_
          repeat (go_big_quiet_step (first | (with_reducible exact inN_c HIx.out HIu.out HR.out _ _) | fail))
          refine wpQuiet_nil ?_
          intro w6 hw'
          obtain ⟨⟨dq, osq⟩, hw''⟩ := hw'
          have hb6 := (show Below w2.heap.size w2 w6 by rw [hw'']; exact below_regrown w2 dq osq)
          have HB6 := Lib.hid (HB1.out.trans (hb6.mono HB1.out.size))
          clear hw'' hb6 j0 j1 j2 j3 j4
          go_wp2
          go_ret
          exact ⟨_, rfl, by rw [HE.out]; exact HO.out.below HB6.out, HG.out.trans (Grow.of_below HB6.out _)⟩
end Go.Proofs.YtgdlkjahlajcpaaGreatDoor
