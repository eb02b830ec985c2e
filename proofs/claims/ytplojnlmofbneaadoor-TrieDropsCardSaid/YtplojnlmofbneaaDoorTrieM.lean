/- waywardenlaw1.TrieDrops: its walk. -/
import Derived.Test.YtplojnlmofbneaaDoorTrieK
namespace Go.Proofs.YtplojnlmofbneaaDoor
open Go.ChangeShapes Go.WideShapes Go.ChangeAt Go.RowKit
set_option linter.unusedVariables false
set_option linter.unusedSimpArgs false
/-- a list of puts is well behaved; what the three ways are -/
theorem drops_ways {m : List (Nt × Int)} (hm : MOk m) (x : Nt) :
    (putE m x ≠ 0 ∧ netF x ≠ 0) ∨ (putE m x = 4 ∧ netF x = 0 ∧ getE m x = 2 ∧ (allM m).length = 64) ∨ (putE m x = 0 ∧ netF x = 0 ∧ getE m x = 0) ∨
    (putE m x = 0 ∧ getE m x = 2 ∧ ∀ v, putT m x v = putM m x v ∧ getE (putM m x v) x = 0 ∧ dropT (putM m x v) x = m) := by
  by_cases hF : netF x = 0
  · by_cases hl : look m x = none
    · by_cases h64 : m.length = 64
      · right; left
        exact ⟨by unfold putE; rw [if_pos hF, if_pos ⟨hl, h64⟩], hF, by unfold getE; rw [if_pos hF, if_pos hl], by rw [all_length hm]; exact h64⟩
      · right; right; right
        have hE : putE m x = 0 := by unfold putE; rw [if_pos hF, if_neg (fun e => h64 e.2)]
        refine ⟨hE, by unfold getE; rw [if_pos hF, if_pos hl], fun v => ?_⟩
        have hg : getE (putM m x v) x = 0 := by unfold getE; rw [if_pos hF, if_neg (by rw [look_put, if_pos rfl]; simp)]
        refine ⟨by unfold putT; rw [if_pos hE], hg, ?_⟩
        unfold dropT; rw [if_pos hg, del_put m x v hl]
    · right; right; left
      exact ⟨by unfold putE; rw [if_pos hF, if_neg (fun e => hl e.1)], hF, by unfold getE; rw [if_pos hF, if_neg hl]⟩
  · left
    exact ⟨by unfold putE; rw [if_neg hF]; exact hF, hF⟩
set_option maxRecDepth 100000 in
set_option maxHeartbeats 16000000 in
theorem TrieDrops_any {W : World} {A : Option Addr} {n c : Nat} {l : List Nt} {a x y : Int} (hl : R1 rdNets W (.slice A n c) l) (hn : l.length ≤ 8796093022000) (ha : is32 a) (hx : is32 x) (hg : HErr W) :
    Calls Tryd.prog 5 #[.slice A n c, .agg #[.int .u32 x, .int .i64 y], .int .u32 a] W fun e w' => e = .returned (.bool true) ∧ Below W.heap.size W w' := by
  have hln := sl_form hl
  have hnn : n ≤ 8796093022000 := by omega
  have HL := Lib.hid hl
  have HA := Lib.hid ha
  have HIX := Lib.hid hx
  have HLN := Lib.hid hln
  have HG := Lib.hid hg
  clear hl ha hln hn hx hg
  go_enter Tryd.func5, Tryd.ntmps5
  go_wp2_with fail
  (with_reducible refine (New_s (W := W) (below_1 W _) (· = W.heap.size) (fun g hg => by subst hg; simp)).mono ?_)
  rintro e w1 ⟨rfl, hT1, hb1⟩
  have HT1 := Lib.hid hT1
  have HX1 := Lib.hid (box1 hb1)
  rw [World.size_alloc] at HT1
  clear hT1 hb1
  go_wp2
  go_loopw [8] (fun i wr => ∃ (k : Nat) (m : List (Nt × Int)), k ≤ n ∧ i = .int .i64 k ∧ Tk W (W.heap.size + 1) m (· = W.heap.size) wr ∧ Hid (puts (l.drop k) k m = puts l 0 []) ∧ wr.heap[W.heap.size]? = some (.cells #[.int .u32 x, .int .i64 y] 32 (0, 0))) (fun i _ => n - (intOf i).toNat)
  case atStart => exact ⟨0, [], Nat.zero_le _, rfl, HT1.out, Lib.hid rfl, HX1.out⟩
  case round =>
    obtain ⟨k, m, hk, rfl, hT, HP, hX⟩ := hrel
    have HT := Lib.hid hT
    have HX := Lib.hid hX
    clear hT HT1 hX HX1
    by_cases hlt : k < n
    · obtain ⟨b, o, ⟨p, q⟩, rfl, hb, HPQ, ⟨wx, wy⟩, e0, e1⟩ := RdSlice.atN HL.out hlt
      have d0 := (HT.out.bel.cell (p := ⟨b, o + k * 2, none⟩) hb).trans e0
      have d1 := (HT.out.bel.cell (p := ⟨b, o + k * 2 + 1, none⟩) hb).trans e1
      have HS : Hid (puts (l.drop (k + 1)) (k + 1) (putT m (p, q) (k : Int)) = puts l 0 []) := Lib.hid (by rw [← HP.out, drop_get HPQ.out]; rfl)
      have HIx : Hid (is32 p) := Lib.hid (bounds_u32 wx)
      clear e0 e1 wx wy
      go_wp2_with fail
      (with_reducible refine (Put_t HT.out HIx.out (WalkArith.wf_i64 (by omega))).mono ?_)
      rintro e w2 ⟨rfl, hT2, hk2, -⟩
      have HT2 := Lib.hid hT2
      have HX2 := Lib.hid (hk2.blk rfl HX.out)
      clear hT2 d0 d1 hk2
      go_wp2
      go_roundw
      case rel => exact ⟨k + 1, _, by omega, by go_num, HT2.out, HS, HX2.out⟩
      case measure => simp [intOf]; omega
    · have HM : Hid (m = puts l 0 []) := Lib.hid (by
        have h := HP.out
        rw [List.drop_eq_nil_of_le (by rw [HLN.out]; omega)] at h
        exact h)
      obtain rfl := HM.out
      generalize hM : puts l 0 [] = M at *
      clear hM HM HP
      have HW := Lib.hid (drops_ways HT.out.ok (x, y))
      obtain ⟨r, hr⟩ : ∃ r, fnd M a 33 = r := ⟨_, rfl⟩
      have HR := Lib.hid hr
      clear hr
      go_wp2_with fail
      (with_reducible refine (List_t HT.out).mono ?_)
      rintro e w2 ⟨v2, rfl, hown2, hb2⟩
      obtain ⟨A2, c2, rfl⟩ := hown2.form
      obtain ⟨L, hL⟩ : ∃ L, (allM M).length = L := ⟨_, rfl⟩
      rw [hL] at hown2 ⊢
      have HLL := Lib.hid hL
      have HO2 := Lib.hid hown2
      have HB2 := Lib.hid hb2
      have s2 := hb2.size
      clear hb2 hown2 hL
      go_wp2_with fail
      (with_reducible refine (Find_t (HT.out.below HB2.out) HA.out HR.out).mono ?_)
      rintro e w3 ⟨rfl, hb3⟩
      rw [findV_u]
      have HB3 := Lib.hid (HB2.out.trans (hb3.mono s2))
      have HO3 := Lib.hid (HO2.out.below hb3)
      have hx3 := below_block HB3.out (size_of_block HX.out) HX.out
      have hx3' := below_block (below_1 w3 (.cells #[.int .u32 (fX a r), .int .i64 (fY r)] 32)) (size_of_block hx3) hx3
      obtain ⟨f0, f1, _, _⟩ := row2 hx3
      have hwl := size_of_block hx3
      have HXa := Lib.hid hx3'
      have HBx := Lib.hid (heap_alloc_new w3 (.cells #[.int .u32 (fX a r), .int .i64 (fY r)] 32))
      have s3 := HB3.out.size
      clear hb3 hx3 hx3'
      go_wp2_with fail
      (with_reducible refine (Get_t ((HT.out.below HB3.out).below (below_1 _ _)) HIX.out).mono ?_)
      rintro e w4 ⟨rfl, hb4⟩
      have HB4 := Lib.hid (HB3.out.trans (((below_1 w3 _).trans (hb4.mono (by simp))).mono s3))
      have HO4 := Lib.hid ((HO3.out.alloc (.cells #[.int .u32 (fX a r), .int .i64 (fY r)] 32)).below hb4)
      have hxa4 := below_block hb4 (size_of_block HXa.out) HXa.out
      have HX4 := Lib.hid hxa4
      have HY4 := Lib.hid (below_block hb4 (by simp) HBx.out)
      have s4 := HB4.out.size
      have s4' : w3.heap.size < w4.heap.size := by have := hb4.size; simp at this; omega
      have HT4 := Lib.hid (HT.out.more HB4.out)
      have HQ4 := Lib.hid (HO4.out.readS (S := fun g => g = W.heap.size ∨ wr.heap.size ≤ g ∧ g < w4.heap.size) (fun g h1 h2 => .inr ⟨by omega, h2⟩))
      obtain ⟨g0, g1, _, _⟩ := row2 hxa4
      clear hb4 hxa4 f0 f1
      go_wp2_with fail
      (with_reducible refine (Put_t (v := 9) HT4.out HIX.out (by decide)).mono ?_)
      rintro e w5 ⟨rfl, hT5, hk5, -⟩
      have hx5 := hk5.blk (.inl rfl) HX4.out
      have HX5 := Lib.hid hx5
      obtain ⟨m0, m1, _, _⟩ := row2 hx5
      have HY5 := Lib.hid (hk5.blk (.inr ⟨s3, s4'⟩) HY4.out)
      have HQ5 := Lib.hid (hk5.rd HQ4.out)
      have HT5 := Lib.hid hT5
      clear hT5 hk5 hx5 g0 g1
      rcases HW.out with ⟨hE, hF⟩ | ⟨hE, hF, hG, h64⟩ | ⟨hE, hF, hG⟩ | ⟨hE, hG, hV⟩
      · rw [errV_ne hE]
        generalize errV (getE M (x, y)) = eg
        have HF := Lib.hid hF
        have hx0 := HIX.out.1
        have hx1 := HIX.out.2
        clear hF hE
        go_wp2_with fail
        (with_reducible refine (Check_bad _ hx0 hx1 HF.out).mono ?_)
        rintro e w6 ⟨rfl, hb6⟩
        have HB6 := Lib.hid (HT5.out.below hb6).bel
        clear hb6
        go_wp2
        go_ret
        exact ⟨rfl, HB6.out⟩
      · rw [hE, hG, errV_ne (k := 4) (by decide), errV_ne (k := 2) (by decide)]
        have HF := Lib.hid hF
        have hx0 := HIX.out.1
        have hx1 := HIX.out.2
        have hL2 : ((L : Int) == 64) = true := by rw [HLL.out] at h64; rw [beq_iff_eq]; omega
        clear hF hE hG h64
        go_wp2_with fail
        (with_reducible refine (Check_ok _ hx0 hx1 HF.out).mono ?_)
        rintro e w6 ⟨rfl, hb6⟩
        have HB6 := Lib.hid (HT5.out.below hb6).bel
        clear hb6
        go_wp2
        go_ret
        exact ⟨rfl, HB6.out⟩
      · rw [hE, hG, errV_zero]
        have HF := Lib.hid hF
        have hx0 := HIX.out.1
        have hx1 := HIX.out.2
        clear hF hE hG
        go_wp2_with fail
        (with_reducible refine (Check_ok _ hx0 hx1 HF.out).mono ?_)
        rintro e w6 ⟨rfl, hb6⟩
        have HB6 := Lib.hid (HT5.out.below hb6).bel
        clear hb6
        go_wp2
        go_ret
        exact ⟨rfl, HB6.out⟩
      · rw [hE, hG, errV_ne (k := 2) (by decide), errV_zero]
        have HT5' : Hid (Tk W (W.heap.size + 1) (putM M (x, y) 9) (fun g => g = W.heap.size ∨ wr.heap.size ≤ g ∧ g < w4.heap.size) w5) := Lib.hid (by have := HT5.out; rwa [(hV 9).1] at this)
        have HG2 := Lib.hid (hV 9).2.1
        have HM2 := Lib.hid (hV 9).2.2
        clear hE hG hV HW HT5
        go_wp2_with fail
        (with_reducible refine (Drop_t HT5'.out HIX.out).mono ?_)
        rintro e w6 ⟨rfl, hT6, hk6, hb6⟩
        rw [HM2.out] at hT6
        rw [HG2.out, errV_zero]
        have HT6 := Lib.hid hT6
        have HY6 := Lib.hid (hk6.blk (.inr ⟨s3, s4'⟩) HY5.out)
        have HQ6 := Lib.hid (hk6.rd HQ5.out)
        clear hT6 hk6 hb6 m0 m1
        go_wp2_with fail
        (with_reducible refine (Find_t HT6.out HA.out HR.out).mono ?_)
        rintro e w7 ⟨rfl, hb7⟩
        rw [findV_u]
        have hb7' := hb7.trans ((below_1 w7 (.cells #[.int .u32 (fX a r), .int .i64 (fY r)] 32)).mono hb7.size)
        have HT7 := Lib.hid (HT6.out.below hb7')
        have HY7 := Lib.hid (below_block hb7' (size_of_block HY6.out) HY6.out)
        have HZ7 := Lib.hid (heap_alloc_new w7 (.cells #[.int .u32 (fX a r), .int .i64 (fY r)] 32))
        have HB7 := Lib.hid hb7'
        have HG7 := Lib.hid (HG.out.below HT7.out.bel)
        clear hb7 hb7'
        go_wp2_with fail
        (with_reducible refine (Told2_any _ _ _ HG7.out).mono ?_)
        rintro e w8 ⟨rfl, hb8⟩
        rw [show (fE r == fE r) = true from by simp]
        have HT8 := Lib.hid (HT7.out.below hb8)
        have HY8 := Lib.hid (below_block hb8 (size_of_block HY7.out) HY7.out)
        have HZ8 := Lib.hid (below_block hb8 (by simp) HZ7.out)
        have HB8 := Lib.hid (HB7.out.trans (hb8.mono HB7.out.size))
        clear hb8
        go_wp2_with fail
        (with_reducible refine (List_t HT8.out).mono ?_)
        rintro e w9 ⟨v9, rfl, hown9, hb9⟩
        obtain ⟨A9, c9, rfl⟩ := hown9.form
        rw [HLL.out] at hown9 ⊢
        have HQ9 := Lib.hid (show rdNets w9 (· < w9.heap.size) [.slice A9 L c9] (allM M) from hown9.read)
        have HB9 := Lib.hid (HB8.out.trans (hb9.mono HB8.out.size))
        have HT9 := Lib.hid (HT8.out.below hb9)
        have hy9 := below_block hb9 (size_of_block HY8.out) HY8.out
        have hz9 := below_block hb9 (size_of_block HZ8.out) HZ8.out
        obtain ⟨p0, p1, _, _⟩ := row2 hy9
        obtain ⟨q0, q1, _, _⟩ := row2 hz9
        have HP9 : Hid (rdNets w9 (fun g => g = W.heap.size ∨ wr.heap.size ≤ g ∧ g < w4.heap.size) [.slice A2 L c2] (allM M)) := Lib.hid (by
          obtain ⟨_, _, hS6⟩ := HT6.out.ex
          exact RdLaw.keep HQ6.out (fun p hp => HB9.out.cell (hS6 _ hp).1))
        clear hown9 hb9 hy9 hz9
        go_wp2_with fail
        (with_reducible refine (Nets_any HQ9.out HP9.out (by simp : decide (allM M = allM M) = true)).mono ?_)
        rintro e w10 ⟨rfl, d, rfl⟩
        go_wp2
        go_ret
        exact ⟨rfl, below_drewN HT9.out.bel d⟩
theorem net_parts {w : World} {A : Array Value} {x : Int × Int} (h : RV rdNet w (.agg A) x) : ∃ a l : Int, x = (a, l) ∧ A = #[.int .u32 a, .int .i64 l] ∧ is32 a ∧ -9223372036854775808 ≤ l ∧ l ≤ 9223372036854775807 := by
  obtain ⟨c0, c1, e, ⟨e0, w0⟩, ⟨e1, w1⟩⟩ := h
  obtain ⟨a, l⟩ := x
  subst e0; subst e1
  have e2 : A.toList = [.int .u32 a, .int .i64 l] := by simpa [Value.cells] using e
  have b1 := bounds_i64 w1
  exact ⟨a, l, rfl, by rw [← Array.toArray_toList (xs := A), e2], bounds_u32 w0, by omega, by omega⟩
theorem TrieDrops_walk (w : World) (A : Option Addr) (n c : Nat) (l : List Nt) (rr : RV rdNets w (.slice A n c) l) (q : l.length * 16 ≤ reachBytes ∧ ∀ x ∈ l, True ∧ True) (A1 : Array Value) (x1 : Int × Int) (h1 : RV rdNet w (.agg A1) x1) (c1 : True ∧ True) (a : Int) (ba : 0 ≤ a ∧ a ≤ 4294967295) (hg : HErr w) :
    Calls Tryd.prog 5 #[.slice A n c, .agg A1, .int .u32 a] w fun e w' => e = .returned (.bool true) ∧ Below w.heap.size w w' := by
  have hn : l.length ≤ 8796093022000 := by have h := q.1; rw [reach_le] at h; omega
  have hl : R1 rdNets w (.slice A n c) l := rr
  obtain ⟨x, y, rfl, rfl, hx, _⟩ := net_parts h1
  exact TrieDrops_any hl hn ba hx hg
end Go.Proofs.YtplojnlmofbneaaDoor
