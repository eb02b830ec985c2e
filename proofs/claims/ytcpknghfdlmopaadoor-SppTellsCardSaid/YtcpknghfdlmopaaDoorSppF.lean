/- spp.Stable and spp.Best. -/
import Derived.Test.YtcpknghfdlmopaaDoorSppE
namespace Go.Proofs.YtcpknghfdlmopaaDoor
open Go.ChangeShapes Go.WideShapes Go.ChangeAt Go.RowKit
set_option linter.unusedVariables false

def stTo (likes : List (List (List Int))) (ways : List (List Int)) (k : Nat) : Bool := (List.range k).all fun i => ways[i]?.getD [] == bestP likes ways i
theorem stTo_succ (likes : List (List (List Int))) (ways : List (List Int)) (k : Nat) {x : List Int} (h : ways[k]? = some x) : stTo likes ways (k + 1) = (stTo likes ways k && (x == bestP likes ways k)) := by
  unfold stTo; rw [List.range_succ, List.all_append]; simp [h]
theorem stTo_false {likes : List (List (List Int))} {ways : List (List Int)} {k m : Nat} (hk : k < m) {x : List Int} (h : ways[k]? = some x) (hx : (x == bestP likes ways k) = false) : stTo likes ways m = false := by
  unfold stTo; rw [List.all_eq_false]; exact ⟨k, List.mem_range.2 hk, by rw [h]; simp [hx]⟩
/-- what is wrong with likes and ways: 0 nothing -/
def stF (likes : List (List (List Int))) (ways : List (List Int)) : Int := if sppF likes ≠ 0 then sppF likes else if ways.length ≠ likes.length then 3 else 0
def stP (likes : List (List (List Int))) (ways : List (List Int)) : Bool := decide (stF likes ways = 0) && stTo likes ways ways.length

set_option maxHeartbeats 1000000 in
theorem Stable_any {w : World} {v u : Value} {likes : List (List (List Int))} {ways : List (List Int)} (hlk : R1 rdInts3 w v likes) (hw : R1 rdInts2 w u ways) :
    Calls Tryd.prog 10 #[v, u] w fun e w' => e = .returned (.tuple #[.bool (stP likes ways), errV (stF likes ways)]) ∧ Below w.heap.size w w' := by
  by_cases hF : sppF likes = 0
  · obtain ⟨A, c, rfl⟩ := hlk.form
    obtain ⟨A2, c2, rfl⟩ := hw.form
    obtain ⟨hl8, hl1, hsm⟩ := sppF_small hF
    have hsm' : Hid (∀ r ∈ likes, ∀ x ∈ r, x.length ≤ 1048576) := Lib.hid fun r hr x hx => by have := hsm r hr x hx; omega
    clear hsm
    by_cases hL : ways.length = likes.length
    · have hst : stF likes ways = 0 := by unfold stF; rw [if_neg (by simp [hF]), if_neg (by simp [hL])]
      have hsp : stP likes ways = stTo likes ways ways.length := by unfold stP; rw [hst]; simp
      rw [hst, hsp]
      have HF := Lib.hid hF
      obtain ⟨n, hn⟩ : ∃ n, n = likes.length := ⟨_, rfl⟩
      rw [← hn] at hlk hl8 hl1 hL ⊢
      rw [hL] at hw ⊢
      have HN := Lib.hid hn; have HL := Lib.hid hL
      clear hF hst hsp hn hL
      go_enter Tryd.func10, Tryd.ntmps10
      go_wp2_with (go_at_call 7; with_reducible refine (Check_any hlk).mono ?_; rintro e w' ⟨rfl, rfl⟩; rw [HF.out, errV_zero])
      go_loopw [22] (fun t wr => ∃ k : Nat, k ≤ n ∧ t = .int .i64 k ∧ stTo likes ways k = true ∧ Below w.heap.size w wr) (fun t _ => n - (intOf t).toNat)
      case atStart => exact ⟨0, Nat.zero_le _, rfl, rfl, Below.refl _ _⟩
      case round =>
        obtain ⟨k, hk, rfl, hall, hbel⟩ := hrel
        have HALL := Lib.hid hall; clear hall
        by_cases hlt : k < n
        · have hww : rdInts2 wr (· < w.heap.size) [.slice A2 n c2] ways := RdLaw.keep hw (fun _ hp => hbel.cell hp)
          obtain ⟨b, o, x, A3, c3, rfl, hb, HX, hrx, hc⟩ := hww.atS hlt
          have hz := hbel.size
          have hbr : b < wr.heap.size := Nat.lt_of_lt_of_le hb hz
          have hlk2 : R1 rdInts3 (wr.alloc (.cells #[.slice (some ⟨b, o, none⟩) n c2] 23)) (.slice A n c) likes := R1.alloc (R1.below hlk hbel) _
          have hw2 : R1 rdInts2 (wr.alloc (.cells #[.slice (some ⟨b, o, none⟩) n c2] 23)) (.slice (some ⟨b, o, none⟩) n c2) ways := R1.alloc (R1.below hw hbel) _
          have hx2 : R1 rdInts (wr.alloc (.cells #[.slice (some ⟨b, o, none⟩) n c2] 23)) (.slice A3 x.length c3) x := R1.alloc (RdLaw.mono hrx (fun b hb' => Nat.lt_of_lt_of_le hb' hz)) _
          have hb2 : Below w.heap.size w (wr.alloc (.cells #[.slice (some ⟨b, o, none⟩) n c2] 23)) := hbel.alloc hz _
          have hkl : Hid (k < likes.length) := Lib.hid (by have := HN.out; omega)
          cases hxb : (x == bestP likes ways k)
          · have HB := Lib.hid (stTo_false (likes := likes) hlt HX.out hxb)
            have HXB := Lib.hid hxb; clear hxb
            go_wp2_with (first
              | (go_at_call 19; refine (best_any (gw := wr.heap.size) hlk2 hw2 (by simp) hkl.out hsm'.out).mono ?_; rintro e w3 ⟨r, rfl, hr3, hb3⟩)
              | (go_at_call 18; refine (Equal_v (hx2.below hb3) hr3).mono ?_; rintro e w4 ⟨rfl, k4, rfl⟩; rw [HXB.out]))
            go_ret2
            exact ⟨by rw [HB.out]; rfl, below_drewN (hb2.trans (hb3.mono (by have := hb2.size; omega))) _⟩
          · have HS : Hid (stTo likes ways (k + 1) = true) := Lib.hid (by rw [stTo_succ likes ways k HX.out, HALL.out, hxb]; rfl)
            have HXB := Lib.hid hxb; clear hxb
            go_wp2_with (first
              | (go_at_call 19; refine (best_any (gw := wr.heap.size) hlk2 hw2 (by simp) hkl.out hsm'.out).mono ?_; rintro e w3 ⟨r, rfl, hr3, hb3⟩)
              | (go_at_call 18; refine (Equal_v (hx2.below hb3) hr3).mono ?_; rintro e w4 ⟨rfl, k4, rfl⟩; rw [HXB.out]))
            exact ⟨⟨k + 1, by omega, by go_num, HS.out, below_drewN (hb2.trans (hb3.mono (by have := hb2.size; omega))) _⟩, by simp [intOf]; omega⟩
        · have e : k = n := by omega
          subst e
          go_wp2
          go_ret2
          exact ⟨by rw [HALL.out]; rfl, hbel⟩
    · have hst : stF likes ways = 3 := by unfold stF; rw [if_neg (by simp [hF]), if_pos hL]
      have hsp : stP likes ways = false := by unfold stP; rw [hst]; rfl
      rw [hst, hsp]
      have HF := Lib.hid hF
      have tn : ((ways.length : Int) != (likes.length : Int)) = true := by simp; omega
      clear hF hst hsp hL
      go_enter Tryd.func10, Tryd.ntmps10
      go_wp2_with (go_at_call 7; with_reducible refine (Check_any hlk).mono ?_; rintro e w' ⟨rfl, rfl⟩; rw [HF.out, errV_zero])
      go_ret2
      exact ⟨rfl, Below.refl _ _⟩
  · have hst : stF likes ways = sppF likes := by unfold stF; rw [if_pos hF]
    have hsp : stP likes ways = false := by unfold stP; rw [hst]; simp [hF]
    rw [hst, hsp, errV_ne hF]
    have HE := Lib.hid (errV_ne hF)
    clear hst hsp hF
    go_enter Tryd.func10, Tryd.ntmps10
    go_wp2_with (go_at_call 7; with_reducible refine (Check_any hlk).mono ?_; rintro e w' ⟨rfl, rfl⟩; rw [HE.out])
    go_ret2
    exact ⟨rfl, Below.refl _ _⟩
end Go.Proofs.YtcpknghfdlmopaaDoor
