/- waywardenref2.RoomOf: what it answers is what plan.Room answers. -/
import Derived.Test.YtplojnlmofbneaaDoorFitA
import Derived.Test.YtplojnlmofbneaaDoorNetR
namespace Go.Proofs.YtplojnlmofbneaaDoor
open Go.ChangeShapes Go.WideShapes Go.ChangeAt Go.RowKit
set_option linter.unusedVariables false
set_option linter.unusedSimpArgs false
def RoomOfPost (w : World) (x : Nt) (L : List Int) (e : Ending) (w' : World) : Prop := e = .returned (.tuple #[.int .i64 (if roomF x L = 0 then roomV x L else 0), .int .i64 (roomF x L)]) ∧ Below w.heap.size w w'
theorem RoomOfPost.mk {w w' : World} {x : Nt} {L : List Int} {q f : Int} {u v : Value} (hf : roomF x L = f) (hq : (if f = 0 then roomV x L else 0) = q) (hu : u = .int .i64 q) (hv : v = .int .i64 f) (hb : Below w.heap.size w w') : RoomOfPost w x L (.returned (.tuple #[u, v])) w' := by
  subst hf; subst hq; subst hu; subst hv; exact ⟨rfl, hb⟩
set_option maxRecDepth 100000 in
set_option maxHeartbeats 2000000 in
theorem RoomOf_in {a : Int} {n : Nat} {A : Option Addr} {m c : Nat} {L : List Int} {w : World} (ha : is32 a) (h : netF (a, (n : Int)) = 0) (hL : R1 (RdSlice 1 (rdInt .i64)) w (.slice A m c) L) :
    Calls Tryd.prog 27 #[.agg #[.int .u32 a, .int .i64 n], .slice A m c] w (RoomOfPost w (a, (n : Int)) L) := by
  have HZ := Lib.hid h
  have hn : n ≤ 32 := by have := (netF_zero.1 h).2.1; omega
  obtain ⟨h0, h1⟩ := ha
  have HL := Lib.hid hL
  have hm := (RdSlice.len hL).1
  have hcm := (RdSlice.len hL).2.2
  have hmc := (RdSlice.len hL).2.1
  have hm63 : m ≤ 9223372036854775807 := by unfold maxLen at hcm; omega
  have HM := Lib.hid hm
  clear h hL hm hcm hmc
  by_cases h64 : 64 < m
  · have HF : Hid (roomF (a, (n : Int)) L = 4) := Lib.hid (by unfold roomF; rw [if_neg (by rw [HZ.out]; decide), if_pos (by rw [← HM.out]; exact h64)])
    have hd : decide ((64 : Int) < (m : Int)) = true := by simp; omega
    go_enter Tryd.func27, Tryd.ntmps27
    go_wp2_with fail
    (with_reducible refine (NetFault_n _ _ _ h0 h1).mono ?_)
    rintro e w1 ⟨rfl, hb1⟩
    rw [HZ.out]
    have HB1 := Lib.hid ((below_1 w _).trans (hb1.mono (by simp)))
    clear hb1
    go_wp2
    go_ret2
    exact RoomOfPost.mk HF.out (if_neg (by decide)) rfl rfl HB1.out
  · have hd : decide ((64 : Int) < (m : Int)) = false := by simp; omega
    go_enter Tryd.func27, Tryd.ntmps27
    go_wp2_with fail
    (with_reducible refine (NetFault_n _ _ _ h0 h1).mono ?_)
    rintro e w1 ⟨rfl, hb1⟩
    rw [HZ.out]
    obtain ⟨d0, d1, _, _⟩ := row2 (box1 hb1)
    have HB1 := Lib.hid ((below_1 w _).trans (hb1.mono (by simp)))
    clear hb1
    have hlow := lowI_le n
    have hlow0 := lowI_pos n
    have hw : wrap64 ((2 : Int) ^ (32 - n)) = lowI n := wrap_low n
    have HV : Hid (∀ k, k ≤ m → 0 ≤ sumL (L.take k) ∧ sumL (L.take k) ≤ 274877906944) := Lib.hid (fun k hk => by
      have := sumL_bound (L.take k)
      have hl : (L.take k).length ≤ 64 := by rw [List.length_take, ← HM.out]; omega
      omega)
    obtain ⟨R0, hR0⟩ : ∃ R0, lowI n = R0 := ⟨_, rfl⟩
    rw [hR0] at hlow hlow0 hw
    have HR0 := Lib.hid hR0
    have HW := Lib.hid hw
    clear hR0 hw
    go_wp2
    rw [HW.out]
    go_loopw [6, 7] (fun r i wr => ∃ (k : Nat) (q : Int), k ≤ m ∧ i = .int .i64 (k : Int) ∧ r = .int .i64 q ∧ -274877906944 ≤ q ∧ q ≤ 4294967296 ∧ Hid (q = R0 - sumL (L.take k) ∧ badL (L.take k) = false) ∧ wr = w1) (fun _ i _ => m - (intOf i).toNat)
    case atStart => exact ⟨0, R0, Nat.zero_le _, rfl, rfl, by omega, by omega, Lib.hid ⟨by simp [sumL], by simp [badL]⟩, rfl⟩
    case round =>
      obtain ⟨k, q, hk, rfl, rfl, hq1, hq2, HQ, rfl⟩ := hrel
      by_cases hlt : k < m
      · obtain ⟨b, o, x, rfl, hbb, HX, wx, c0⟩ := HL.out.atI hlt
        have d2 := (HB1.out.cell (p := ⟨b, o + k, none⟩) hbb).trans c0
        have hx64 := bounds_i64 wx
        by_cases hbad : x < 0 ∨ 32 < x
        · have HF : Hid (roomF (a, (n : Int)) L = 1) := Lib.hid (by
            unfold roomF
            rw [if_neg (by rw [HZ.out]; decide), if_neg (by rw [← HM.out]; exact h64), if_pos]
            unfold badL
            rw [List.any_eq_true]
            exact ⟨x, List.mem_of_getElem? HX.out, by simpa using hbad⟩)
          rcases hbad with hbad | hbad
          · go_wp2
            go_ret2
            exact RoomOfPost.mk HF.out (if_neg (by decide)) rfl rfl HB1.out
          · have hnb : ¬ x < 0 := by omega
            go_wp2
            go_ret2
            exact RoomOfPost.mk HF.out (if_neg (by decide)) rfl rfl HB1.out
        · obtain ⟨y, rfl⟩ := Int.eq_ofNat_of_zero_le (show 0 ≤ x by omega)
          have hy : y ≤ 32 := by omega
          have HWK0 := Lib.hid (wrap_low y)
          have hl1 := lowI_le y
          have hl2 := lowI_pos y
          obtain ⟨S, hS⟩ : ∃ S, lowI y = S := ⟨_, rfl⟩
          rw [hS] at hl1 hl2
          have HN : Hid (q - S = R0 - sumL (L.take (k + 1)) ∧ badL (L.take (k + 1)) = false) := Lib.hid (by
            obtain ⟨h1, h2⟩ := HQ.out
            rw [take_at HX.out, sumL_snoc, badL_snoc, h2]
            refine ⟨by rw [← hS]; simp only [Int.toNat_natCast]; omega, by simp; omega⟩)
          have hq3 : -274877906944 ≤ q - S := by have := (HV.out (k + 1) (by omega)).2; have := HN.out.1; omega
          have t1 : decide ((y : Int) < 0) = false := by simp
          have t2 : decide ((32 : Int) < (y : Int)) = false := by simp; omega
          have HWK : Hid (wrap64 ((2 : Int) ^ (32 - y)) = S) := Lib.hid (by rw [← hS]; exact HWK0.out)
          have HWS : Hid (wrap64 (q - S) = q - S) := Lib.hid (wrap64_id (by omega) (by omega))
          clear hbad hS HWK0
          go_wp2
          go_roundw
          case rel => exact ⟨k + 1, q - S, by omega, by go_num, by rw [HWK.out, HWS.out], hq3, by omega, HN, trivial⟩
          case measure => simp [intOf]; try omega
      · have HF : Hid (roomF (a, (n : Int)) L = 0 ∧ roomV (a, (n : Int)) L = q) := Lib.hid (by
          obtain ⟨h1, h2⟩ := HQ.out
          rw [List.take_of_length_le (by rw [← HM.out]; omega)] at h1 h2
          refine ⟨?_, ?_⟩
          · unfold roomF
            rw [if_neg (by rw [HZ.out]; decide), if_neg (by rw [← HM.out]; exact h64), if_neg (by rw [h2]; decide)]
          · unfold roomV; rw [h1, ← HR0.out]; rfl)
        go_wp2
        go_ret2
        exact RoomOfPost.mk HF.out.1 (by rw [if_pos rfl, HF.out.2]) rfl rfl HB1.out

set_option maxRecDepth 100000 in
set_option maxHeartbeats 1000000 in
theorem RoomOf_bad {a n : Int} {A : Option Addr} {m c : Nat} {L : List Int} {w : World} (ha : is32 a) (h : netF (a, n) ≠ 0) :
    Calls Tryd.prog 27 #[.agg #[.int .u32 a, .int .i64 n], .slice A m c] w (RoomOfPost w (a, n) L) := by
  have HF : Hid (roomF (a, n) L = netF (a, n)) := Lib.hid (by unfold roomF; rw [if_pos h])
  obtain ⟨h0, h1⟩ := ha
  obtain ⟨f, hf⟩ : ∃ f, netF (a, n) = f := ⟨_, rfl⟩
  rw [hf] at h HF
  have HN := Lib.hid hf
  have HZ := Lib.hid h
  have hne : (f != 0) = true := by simpa using h
  have hne2 : (f == 0) = false := by simpa using h
  clear h hf
  go_enter Tryd.func27, Tryd.ntmps27
  go_wp2_with fail
  (with_reducible refine (NetFault_n _ _ _ h0 h1).mono ?_)
  rintro e w1 ⟨rfl, hb1⟩
  rw [HN.out]
  obtain ⟨d0, d1, _, _⟩ := row2 (box1 hb1)
  have HB1 := Lib.hid ((below_1 w _).trans (hb1.mono (by simp)))
  have hz1 := HB1.out.size
  clear hb1
  go_wp2_with fail
  (with_reducible refine (NetFault_n _ _ _ h0 h1).mono ?_)
  rintro e w2 ⟨rfl, hb2⟩
  rw [HN.out]
  have HB2 := Lib.hid (HB1.out.trans (hb2.mono hz1))
  clear hb2
  go_wp2
  go_ret2
  exact RoomOfPost.mk HF.out (if_neg HZ.out) rfl rfl HB2.out
theorem RoomOf_any {a n : Int} {A : Option Addr} {m c : Nat} {L : List Int} {w : World} (ha : is32 a) (hL : R1 (RdSlice 1 (rdInt .i64)) w (.slice A m c) L) :
    Calls Tryd.prog 27 #[.agg #[.int .u32 a, .int .i64 n], .slice A m c] w (RoomOfPost w (a, n) L) := by
  by_cases h : netF (a, n) = 0
  · obtain ⟨k, hk, e, _⟩ := net_ok h
    simp only at e
    subst e
    exact RoomOf_in ha h hL
  · exact RoomOf_bad ha h
end Go.Proofs.YtplojnlmofbneaaDoor
