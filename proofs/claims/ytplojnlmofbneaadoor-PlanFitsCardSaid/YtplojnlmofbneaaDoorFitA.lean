/- plan.Fit's closure, slices.SortStableFunc, plan.Room. -/
import Derived.Test.YtplojnlmofbneaaDoorStabV
import Derived.Test.YtplojnlmofbneaaDoorTrieB
namespace Go.Proofs.YtplojnlmofbneaaDoor
open Go.ChangeShapes Go.WideShapes Go.ChangeAt Go.RowKit
set_option linter.unusedVariables false
set_option linter.unusedSimpArgs false
theorem isNaN_k (a : Int) (w : World) : Calls Tryd.prog 63 #[.int .i64 a] w fun e w' => e = .returned (.bool false) ∧ w' = w := by
  have h : (a != a) = false := by simp
  go_enter Tryd.func63, Tryd.ntmps63
  go_wp2
  go_ret
  first | exact ⟨rfl, rfl⟩ | simp
theorem cmp_k (a b : Int) (w : World) : Calls Tryd.prog 53 #[.int .i64 a, .int .i64 b] w fun e w' => e = .returned (.int .i64 (cmpK a b)) ∧ w' = w := by
  rcases Int.lt_trichotomy a b with h | h | h
  · have hc := Lib.hid (show cmpK a b = -1 by unfold cmpK; rw [if_pos h])
    go_enter Tryd.func53, Tryd.ntmps53
    go_wp2_with (first | (go_at_call 63; refine (isNaN_k _ _).mono ?_; rintro e w1 ⟨rfl, rfl⟩) | fail)
    all_goals (go_ret; exact ⟨by rw [hc.out]; rfl, rfl⟩)
  · have hc := Lib.hid (show cmpK a b = 0 by unfold cmpK; rw [if_neg (by omega), if_neg (by omega)])
    have h1 : ¬ a < b := by omega
    have h2 : ¬ b < a := by omega
    clear h
    go_enter Tryd.func53, Tryd.ntmps53
    go_wp2_with (first | (go_at_call 63; refine (isNaN_k _ _).mono ?_; rintro e w1 ⟨rfl, rfl⟩) | fail)
    all_goals (go_ret; exact ⟨by rw [hc.out]; rfl, rfl⟩)
  · have hc := Lib.hid (show cmpK a b = 1 by unfold cmpK; rw [if_neg (by omega), if_pos h])
    have h1 : ¬ a < b := by omega
    go_enter Tryd.func53, Tryd.ntmps53
    go_wp2_with (first | (go_at_call 63; refine (isNaN_k _ _).mono ?_; rintro e w1 ⟨rfl, rfl⟩) | fail)
    all_goals (go_ret; exact ⟨by rw [hc.out]; rfl, rfl⟩)
def keyL (L : List Int) (x : Int) : Int := L.getD x.toNat 0
theorem keyL_at {L : List Int} {i : Nat} {x : Int} (h : L[i]? = some x) : keyL L (i : Int) = x := by
  unfold keyL; rw [Int.toNat_natCast, List.getD_eq_getElem?_getD, h]; rfl
set_option maxRecDepth 100000 in
theorem cmpC_lens {w0 : World} {g G n c : Nat} {A : Option Addr} {L : List Int} {t : TypeId} (hG : w0.heap[G]? = some (.cells #[.slice A n c] t (0, 0))) (hGg : G < g) (hL : RdSlice 1 (rdInt .i64) w0 (· < g) [.slice A n c] L) : CmpC w0 g G L.length (keyL L) := by
  intro w x y hb hx0 hx hy0 hy
  have hn := hL.len.1
  obtain ⟨i, rfl⟩ := Int.eq_ofNat_of_zero_le hx0
  obtain ⟨j, rfl⟩ := Int.eq_ofNat_of_zero_le hy0
  obtain ⟨b, o, p, rfl, hbb, HP, wp, c0⟩ := hL.atI (i := i) (by omega)
  obtain ⟨b', o', q, e, hbb', HQ, wq, c1⟩ := hL.atI (i := j) (by omega)
  simp only [Option.some.injEq, Addr.mk.injEq, and_true] at e
  obtain ⟨rfl, rfl⟩ := e
  have d0 := (hb.cell (p := ⟨b, o + i, none⟩) hbb).trans c0
  have d1 := (hb.cell (p := ⟨b, o + j, none⟩) hbb).trans c1
  have d2 : w.cell? ⟨G, 0, none⟩ = some (.slice (some ⟨b, o, none⟩) n c) := (hb.cell (p := ⟨G, 0, none⟩) hGg).trans (by rw [cell_of_row _ _ _ _ _ (0, 0) hG]; rfl)
  have HK : Hid (keyL L (i : Int) = p ∧ keyL L (j : Int) = q) := Lib.hid ⟨keyL_at HP.out, keyL_at HQ.out⟩
  rw [HK.out.1, HK.out.2]
  have i0 : (0 : Int) ≤ (i : Int) := by omega
  have i1 : (i : Int) < (n : Int) := by omega
  have i2 : (j : Int) < (n : Int) := by omega
  clear hb hx0 hx hy0 hy hn c0 c1 hL hG
  go_enter Tryd.func52, Tryd.ntmps52
  go_wp2
  go_quiet ((go_at_call 53; exact Calls.quiet_of_same (cmp_k _ _ _)))
  go_wp2
  go_ret
  exact ⟨rfl, _, rfl⟩
set_option maxRecDepth 100000 in
theorem SortStable_any {w0 w : World} {g G n c N : Nat} {K : Int → Int} {U : List Int} (h : St w0 g U w) (hC : CmpC w0 g G N K) (hN : InN N U) (hA : U.Pairwise (· < ·)) (hn : n = U.length) (h63 : n ≤ 1000) :
    Calls Tryd.prog 51 #[.slice (some ⟨g, 0, none⟩) n c, cmpV G] w fun e w' => e = .returned (.tuple #[]) ∧ ∃ W, (W.Perm U ∧ Srtd K W) ∧ St w0 g W w' := by
  have HS := Lib.hid (stable_any (c := c) h hC hN hA hn h63)
  clear h hC hN hA hn
  go_enter Tryd.func51, Tryd.ntmps51
  go_wp2_with fail
  (with_reducible refine HS.out.mono ?_)
  rintro e w1 ⟨rfl, W, hW, hS⟩
  have HW := Lib.hid (And.intro hW hS)
  clear hW hS
  go_wp2
  go_end0
  exact ⟨rfl, W, HW.out⟩
/-- of no elements -/
theorem insertion_nil (w : World) (f : Value) :
    Calls Tryd.prog 72 #[.slice none 0 0, .int .i64 0, .int .i64 0, f] w fun e w' => e = .returned (.tuple #[]) ∧ w' = w := by
  go_enter Tryd.func72, Tryd.ntmps72
  go_wp2
  go_loop [8] (fun i => i = .int .i64 1) (fun _ => 0)
  case atStart => rfl
  case round =>
    subst hrel
    go_wp2
    go_end0
    exact ⟨rfl, rfl⟩
set_option maxRecDepth 100000 in
theorem stable_nil (w : World) (f : Value) :
    Calls Tryd.prog 62 #[.slice none 0 0, .int .i64 0, f] w fun e w' => e = .returned (.tuple #[]) ∧ w' = w := by
  go_enter Tryd.func62, Tryd.ntmps62
  go_wp2
  go_loop [7, 8] (fun a b => a = .int .i64 0 ∧ b = .int .i64 20) (fun _ _ => 0)
  case atStart => exact ⟨rfl, rfl⟩
  case round =>
    obtain ⟨rfl, rfl⟩ := hrel
    go_wp2_with fail
    (with_reducible refine (insertion_nil _ _).mono ?_)
    rintro e w1 ⟨rfl, rfl⟩
    go_wp2
    go_loop [6] (fun a => a = .int .i64 20) (fun _ => 0)
    case atStart => rfl
    case round =>
      subst hrel
      go_wp2
      go_end0
      exact ⟨rfl, rfl⟩
theorem SortStable_nil (w : World) (f : Value) :
    Calls Tryd.prog 51 #[.slice none 0 0, f] w fun e w' => e = .returned (.tuple #[]) ∧ w' = w := by
  go_enter Tryd.func51, Tryd.ntmps51
  go_wp2_with fail
  (with_reducible refine (stable_nil _ _).mono ?_)
  rintro e w1 ⟨rfl, rfl⟩
  go_wp2
  go_end0
  exact ⟨rfl, rfl⟩
/-! ### Room -/
def badL (L : List Int) : Bool := L.any fun k => decide (k < 0 ∨ 32 < k)
def sumL (L : List Int) : Int := (L.map fun k => lowI k.toNat).foldl (· + ·) 0
theorem sumL_snoc (L : List Int) (k : Int) : sumL (L ++ [k]) = sumL L + lowI k.toNat := by unfold sumL; rw [List.map_append, List.foldl_append]; rfl
theorem lowI_le (k : Nat) : lowI k ≤ 4294967296 := by
  rw [lowI_nat]
  have : 2 ^ (32 - k) ≤ 2 ^ 32 := Nat.pow_le_pow_right (by omega) (by omega)
  omega
theorem sumL_bound (L : List Int) : 0 ≤ sumL L ∧ sumL L ≤ (L.length : Int) * 4294967296 := by
  have key : ∀ (l : List Int) (s : Int), s ≤ (l.map fun k => lowI k.toNat).foldl (· + ·) s ∧ (l.map fun k => lowI k.toNat).foldl (· + ·) s ≤ s + (l.length : Int) * 4294967296 := by
    intro l
    induction l with
    | nil => intro s; simp
    | cons k r ih =>
      intro s
      have := ih (s + lowI k.toNat)
      have h1 := lowI_le k.toNat
      have h2 := lowI_pos k.toNat
      simp only [List.map_cons, List.foldl_cons, List.length_cons]
      omega
  have := key L 0
  unfold sumL; omega
theorem badL_snoc (L : List Int) (k : Int) : badL (L ++ [k]) = (badL L || decide (k < 0 ∨ 32 < k)) := by unfold badL; simp
def roomF (x : Nt) (L : List Int) : Int := if netF x ≠ 0 then netF x else if 64 < L.length then 4 else if badL L = true then 1 else 0
def roomV (x : Nt) (L : List Int) : Int := lowI x.2.toNat - sumL L
theorem wrap64_id {x : Int} (h1 : -9223372036854775808 ≤ x) (h2 : x ≤ 9223372036854775807) : wrap64 x = x := by
  exact IntWalk.wrap64_in x ⟨h1, h2⟩
theorem wrap_low (n : Nat) : wrap64 ((2 : Int) ^ (32 - n)) = lowI n := by
  have h1 := lowI_le n
  have h2 := lowI_pos n
  unfold lowI at *
  exact wrap64_id (by omega) (by omega)
set_option maxHeartbeats 1000000 in
theorem Room_bad {a n : Int} {A : Option Addr} {m c : Nat} (w : World) (ha : is32 a) (h : netF (a, n) ≠ 0) :
    Calls Tryd.prog 28 #[.agg #[.int .u32 a, .int .i64 n], .slice A m c] w fun e w' => e = .returned (.tuple #[.int .i64 0, .iface 41 (.int .i64 (netF (a, n)))]) ∧ Below w.heap.size w w' := by
  have HZ := Lib.hid h
  obtain ⟨h0, h1⟩ := ha
  clear h
  go_enter Tryd.func28, Tryd.ntmps28
  go_wp2_with fail
  (with_reducible refine (Check_bad _ h0 h1 HZ.out).mono ?_)
  rintro e w1 ⟨rfl, hb1⟩
  have HB1 := Lib.hid ((below_1 w _).trans (hb1.mono (by simp)))
  clear hb1
  go_wp2
  go_ret2
  exact ⟨rfl, HB1.out⟩
def RoomPost (w : World) (x : Nt) (L : List Int) (e : Ending) (w' : World) : Prop := e = .returned (.tuple #[.int .i64 (if roomF x L = 0 then roomV x L else 0), errV (roomF x L)]) ∧ Below w.heap.size w w'
theorem RoomPost.mk {w w' : World} {x : Nt} {L : List Int} {q f : Int} {u v : Value} (hf : roomF x L = f) (hq : (if f = 0 then roomV x L else 0) = q) (hu : u = .int .i64 q) (hv : v = errV f) (hb : Below w.heap.size w w') : RoomPost w x L (.returned (.tuple #[u, v])) w' := by
  subst hf; subst hq; subst hu; subst hv; exact ⟨rfl, hb⟩
set_option maxHeartbeats 2000000 in
theorem Room_in {a : Int} {n : Nat} {A : Option Addr} {m c : Nat} {L : List Int} {w : World} (ha : is32 a) (h : netF (a, (n : Int)) = 0) (hL : R1 (RdSlice 1 (rdInt .i64)) w (.slice A m c) L) :
    Calls Tryd.prog 28 #[.agg #[.int .u32 a, .int .i64 n], .slice A m c] w (RoomPost w (a, (n : Int)) L) := by
  have HZ := Lib.hid h
  have hn : n ≤ 32 := by have := (netF_zero.1 h).2.1; omega
  obtain ⟨h0, h1⟩ := ha
  have HL := Lib.hid hL
  have hm := (RdSlice.len hL).1
  have hcm := (RdSlice.len hL).2.2
  have hmc := (RdSlice.len hL).2.1
  have hm63 : m ≤ 9223372036854775807 := by unfold maxLen at hcm; omega
  have HM := Lib.hid hm
  clear h hL hm hcm hmc
  by_cases h64 : 64 < m
  · have HF : Hid (roomF (a, (n : Int)) L = 4) := Lib.hid (by unfold roomF; rw [if_neg (by rw [HZ.out]; decide), if_pos (by rw [← HM.out]; exact h64)])
    have hd : decide ((64 : Int) < (m : Int)) = true := by simp; omega
    go_enter Tryd.func28, Tryd.ntmps28
    go_wp2_with fail
    (with_reducible refine (Check_ok _ h0 h1 HZ.out).mono ?_)
    rintro e w1 ⟨rfl, hb1⟩
    have HB1 := Lib.hid ((below_1 w _).trans (hb1.mono (by simp)))
    clear hb1
    go_wp2
    go_ret2
    exact RoomPost.mk HF.out (if_neg (by decide)) rfl (errV_ne (by decide)).symm HB1.out
  · have hd : decide ((64 : Int) < (m : Int)) = false := by simp; omega
    go_enter Tryd.func28, Tryd.ntmps28
    go_wp2_with fail
    (with_reducible refine (Check_ok _ h0 h1 HZ.out).mono ?_)
    rintro e w1 ⟨rfl, hb1⟩
    obtain ⟨d0, d1, _, _⟩ := row2 (box1 hb1)
    have HB1 := Lib.hid ((below_1 w _).trans (hb1.mono (by simp)))
    clear hb1
    have hlow := lowI_le n
    have hlow0 := lowI_pos n
    have hw : wrap64 ((2 : Int) ^ (32 - n)) = lowI n := wrap_low n
    have HV : Hid (∀ k, k ≤ m → 0 ≤ sumL (L.take k) ∧ sumL (L.take k) ≤ 274877906944) := Lib.hid (fun k hk => by
      have := sumL_bound (L.take k)
      have hl : (L.take k).length ≤ 64 := by rw [List.length_take, ← HM.out]; omega
      omega)
    obtain ⟨R0, hR0⟩ : ∃ R0, lowI n = R0 := ⟨_, rfl⟩
    rw [hR0] at hlow hlow0 hw
    have HR0 := Lib.hid hR0
    have HW := Lib.hid hw
    clear hR0 hw
    go_wp2
    rw [HW.out]
    go_loopw [7, 25] (fun r i wr => ∃ (k : Nat) (q : Int), k ≤ m ∧ i = .int .i64 (k : Int) ∧ r = .int .i64 q ∧ -274877906944 ≤ q ∧ q ≤ 4294967296 ∧ Hid (q = R0 - sumL (L.take k) ∧ badL (L.take k) = false) ∧ wr = w1) (fun _ i _ => m - (intOf i).toNat)
    case atStart => exact ⟨0, R0, Nat.zero_le _, rfl, rfl, by omega, by omega, Lib.hid ⟨by simp [sumL], by simp [badL]⟩, rfl⟩
    case round =>
      obtain ⟨k, q, hk, rfl, rfl, hq1, hq2, HQ, rfl⟩ := hrel
      by_cases hlt : k < m
      · obtain ⟨b, o, x, rfl, hbb, HX, wx, c0⟩ := HL.out.atI hlt
        have d2 := (HB1.out.cell (p := ⟨b, o + k, none⟩) hbb).trans c0
        have hx64 := bounds_i64 wx
        by_cases hbad : x < 0 ∨ 32 < x
        · have HF : Hid (roomF (a, (n : Int)) L = 1) := Lib.hid (by
            unfold roomF
            rw [if_neg (by rw [HZ.out]; decide), if_neg (by rw [← HM.out]; exact h64), if_pos]
            unfold badL
            rw [List.any_eq_true]
            exact ⟨x, List.mem_of_getElem? HX.out, by simpa using hbad⟩)
          rcases hbad with hbad | hbad
          · go_wp2
            go_ret2
            exact RoomPost.mk HF.out (if_neg (by decide)) rfl (errV_ne (by decide)).symm HB1.out
          · have hnb : ¬ x < 0 := by omega
            go_wp2
            go_ret2
            exact RoomPost.mk HF.out (if_neg (by decide)) rfl (errV_ne (by decide)).symm HB1.out
        · obtain ⟨y, rfl⟩ := Int.eq_ofNat_of_zero_le (show 0 ≤ x by omega)
          have hy : y ≤ 32 := by omega
          have HWK0 := Lib.hid (wrap_low y)
          have hl1 := lowI_le y
          have hl2 := lowI_pos y
          obtain ⟨S, hS⟩ : ∃ S, lowI y = S := ⟨_, rfl⟩
          rw [hS] at hl1 hl2
          have HN : Hid (q - S = R0 - sumL (L.take (k + 1)) ∧ badL (L.take (k + 1)) = false) := Lib.hid (by
            obtain ⟨h1, h2⟩ := HQ.out
            rw [take_at HX.out, sumL_snoc, badL_snoc, h2]
            refine ⟨by rw [← hS]; simp only [Int.toNat_natCast]; omega, by simp; omega⟩)
          have hq3 : -274877906944 ≤ q - S := by have := (HV.out (k + 1) (by omega)).2; have := HN.out.1; omega
          have t1 : decide ((y : Int) < 0) = false := by simp
          have t2 : decide ((32 : Int) < (y : Int)) = false := by simp; omega
          have HWK : Hid (wrap64 ((2 : Int) ^ (32 - y)) = S) := Lib.hid (by rw [← hS]; exact HWK0.out)
          have HWS : Hid (wrap64 (q - S) = q - S) := Lib.hid (wrap64_id (by omega) (by omega))
          clear hbad hS HWK0
          go_wp2
          go_roundw
          case rel => exact ⟨k + 1, q - S, by omega, by go_num, by rw [HWK.out, HWS.out], hq3, by omega, HN, trivial⟩
          case measure => simp [intOf]; try omega
      · have HF : Hid (roomF (a, (n : Int)) L = 0 ∧ roomV (a, (n : Int)) L = q) := Lib.hid (by
          obtain ⟨h1, h2⟩ := HQ.out
          rw [List.take_of_length_le (by rw [← HM.out]; omega)] at h1 h2
          refine ⟨?_, ?_⟩
          · unfold roomF
            rw [if_neg (by rw [HZ.out]; decide), if_neg (by rw [← HM.out]; exact h64), if_neg (by rw [h2]; decide)]
          · unfold roomV; rw [h1, ← HR0.out]; rfl)
        go_wp2
        go_ret2
        exact RoomPost.mk HF.out.1 (by rw [if_pos rfl, HF.out.2]) rfl errV_zero.symm HB1.out
end Go.Proofs.YtplojnlmofbneaaDoor
