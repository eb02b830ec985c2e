/- The walk of the law SppTells. -/
import Derived.Test.YtcpknghfdlmopaaDoorSppP
import Derived.Deep.DeepCutAuto
import Derived.Deep.CutBlock
import Derived.Deep.RegionWith
namespace Go.Proofs.YtcpknghfdlmopaaDoor
open Go.ChangeShapes Go.WideShapes Go.ChangeAt Go.RowKit
set_option linter.unusedVariables false

set_option maxHeartbeats 4000000 in
set_option maxRecDepth 100000 in
theorem SppTells_walk (w : World) (A : Option Addr) (n c : Nat) (likes : List (List (List Int))) (rr1 : RV rdInts3 w (.slice A n c) likes) (q1 : likes.length * 24 ≤ reachBytes ∧ ∀ x ∈ likes, x.length * 24 ≤ reachBytes ∧ ∀ y ∈ x, y.length * 8 ≤ reachBytes ∧ ∀ z ∈ y, True)
    (A1 : Option Addr) (n1 c1 : Nat) (ways : List (List Int)) (rr2 : RV rdInts2 w (.slice A1 n1 c1) ways) (q2 : ways.length * 24 ≤ reachBytes ∧ ∀ x ∈ ways, x.length * 8 ≤ reachBytes ∧ ∀ y ∈ x, True)
    (i : Int) (bi : -9223372036854775808 ≤ i ∧ i ≤ 9223372036854775807)
    (A2 : Option Addr) (n2 c2 : Nat) (order : List Int) (rr3 : RV rdInts w (.slice A2 n2 c2) order) (q3 : order.length * 8 ≤ reachBytes ∧ ∀ x ∈ order, True) (hg : HErr w) :
    Calls Tryd.prog 3 #[.slice A n c, .slice A1 n1 c1, .int .i64 i, .slice A2 n2 c2] w fun e w' => e = .returned (.bool true) ∧ Below w.heap.size w w' := by
  have hlk : R1 rdInts3 w (.slice A n c) likes := rr1
  have hw : R1 rdInts2 w (.slice A1 n1 c1) ways := rr2
  have ho : R1 rdInts w (.slice A2 n2 c2) order := rr3
  obtain ⟨hn, _, hcm⟩ := RdSlice.len hlk
  obtain ⟨hn1, _, hcm1⟩ := RdSlice.len hw
  obtain ⟨hn2, _, hcm2⟩ := RdSlice.len ho
  have hnm : n ≤ 9223372036854775807 := by unfold maxLen at hcm; omega
  have hnm1 : n1 ≤ 9223372036854775807 := by unfold maxLen at hcm1; omega
  have hnm2 : n2 ≤ 9223372036854775807 := by unfold maxLen at hcm2; omega
  have HN := Lib.hid hn; have HN1 := Lib.hid hn1; have HN2 := Lib.hid hn2
  clear rr1 rr2 rr3 q1 q2 q3 hn hn1 hn2 hcm hcm1 hcm2
  obtain ⟨E, hE⟩ : ∃ E, E = sppF likes := ⟨_, rfl⟩
  have HE := Lib.hid hE; clear hE
  have hEE : (E == E) = true := by simp
  go_enter Tryd.func3, Tryd.ntmps3
  go_upto_region 4 with (first
    | (go_at_call 4; refine (liked_any _).mono ?_; rintro e w1 ⟨rfl, hb1⟩; have hlk1 := hlk.below hb1; have hg1 := hg.below hb1)
    | (go_at_call 5; refine (LikeFault_any hlk1).mono ?_; rintro e w2 ⟨rfl, k2, rfl⟩; rw [← HE.out]; have hb2 := below_drewN hb1 k2; have hlk2 := hlk.below hb2; have hg2 := hg.below hb2)
    | (go_at_call 7; refine (Check_any hlk2).mono ?_; rintro e w' ⟨rfl, rfl⟩; rw [← HE.out])
    | (go_at_call 6; refine (Error_any E E _ hg2).mono ?_; rintro e w3 ⟨rfl, hb3⟩; rw [hEE]; have hbw3 := hb2.trans (hb3.mono hb2.size)))
  have hlk3 := hlk.below hbw3; have hw3 := hw.below hbw3; have ho3 := ho.below hbw3; have hg3 := hg.below hbw3
  have hz3 := hbw3.size
  clear hb1 hb2 hb3 hlk1 hlk2 hg1 hg2 hlk hw ho hg hEE
  obtain ⟨F, hF⟩ : ∃ F, F = stF likes ways := ⟨_, rfl⟩
  have HF := Lib.hid hF; clear hF
  go_upto_region 5 with fail
  go_cut [43] (fun t wx => ∃ b : Bool, t = .bool b ∧ Hid (F = if b = true then 3 else E) ∧ wx = w3)
  case first =>
    by_cases hE : E = 0
    · have hEs : sppF likes = 0 := by rw [← HE.out]; exact hE
      have ht : (E == 0) = true := by simp [hE]
      have HE0 := Lib.hid hE
      by_cases hL : ways.length = likes.length
      · have h : Hid (F = 0) := Lib.hid (by rw [HF.out]; unfold stF; rw [if_neg (by simp [hEs]), if_neg (by simp [hL])])
        have tn : ((n1 : Int) != (n : Int)) = false := by have := HN.out; have := HN1.out; simp; omega
        clear hE hEs hL
        go_wp2
        go_meet
        exact ⟨false, rfl, Lib.hid (by rw [h.out, HE0.out]; rfl), rfl⟩
      · have h : Hid (F = 3) := Lib.hid (by rw [HF.out]; unfold stF; rw [if_neg (by simp [hEs]), if_pos hL])
        have tn : ((n1 : Int) != (n : Int)) = true := by have := HN.out; have := HN1.out; simp; omega
        clear hE hEs hL
        go_wp2
        go_meet
        exact ⟨true, rfl, Lib.hid (by rw [h.out]; rfl), rfl⟩
    · have ht : (E == 0) = false := by simp [hE]
      have h : Hid (E = F) := Lib.hid (by rw [HF.out]; unfold stF; rw [if_pos (by rw [← HE.out]; exact hE), HE.out])
      clear hE
      go_wp2
      go_meet
      exact ⟨false, rfl, Lib.hid (by rw [h.out]; rfl), rfl⟩
  case rest =>
    obtain ⟨b5, rfl, HB5, rfl⟩ := hcut
    go_upto_if 43 with fail
    go_cut [12] (fun f wx => f = .int .i64 F ∧ wx = wc)
    case first =>
      cases b5
      · go_wp2
        go_meet
        exact ⟨by rw [HB5.out]; rfl, rfl⟩
      · go_wp2
        go_meet
        exact ⟨by rw [HB5.out]; rfl, rfl⟩
    case rest =>
      obtain ⟨rfl, hw0⟩ := hcut
      subst hw0
      clear HB5
      go_upto_block 0 with fail
      go_cut [13, 14] (fun s13 s14 wx => s13 = .bool (stP likes ways) ∧ Below wc.heap.size wc wx)
      case first =>
        have h0 : Hid (((F == 0) = true ∧ F = 0 ∧ stTo likes ways 0 = true) ∨ ((F == 0) = false ∧ stP likes ways = false)) := Lib.hid (by
          by_cases h : F = 0
          · exact .inl ⟨by simp [h], h, rfl⟩
          · refine .inr ⟨by simp [h], ?_⟩
            unfold stP; rw [← HF.out]; simp [h])
        go_wp2
        go_loopw [13, 14] (fun s t wr => ∃ k : Nat, ∃ b : Bool, k ≤ n1 ∧ t = .int .i64 k ∧ s = .bool b ∧ Hid ((b = true ∧ F = 0 ∧ stTo likes ways k = true) ∨ (b = false ∧ stP likes ways = false)) ∧ Below wc.heap.size wc wr) (fun _ t _ => n1 - (intOf t).toNat)
        case atStart => exact ⟨0, (F == 0), Nat.zero_le _, rfl, rfl, h0, Below.refl _ _⟩
        case round =>
          clear h0
          obtain ⟨k, b, hk, rfl, rfl, HBB, hbel⟩ := hrel
          cases b
          · have h : Hid (stP likes ways = false) := Lib.hid (by rcases HBB.out with h | h; exact absurd h.1 (by decide); exact h.2)
            go_wp2
            go_meet
            exact ⟨by rw [h.out], hbel⟩
          · by_cases hlt : k < n1
            · have hlt' : (k : Int) < (n1 : Int) := by omega
              have hww := R1.below hw3 hbel
              obtain ⟨bb, o, x, A3, c3, rfl, hbb, HX, hrx, hc⟩ := RdSlice.atS hww hlt
              have i0 : (0 : Int) ≤ (k : Int) := by omega
              have hlkw := R1.below hlk3 hbel
              go_wp2
              have hxw : R1 rdInts wr (.slice A3 x.length c3) x := hrx
              have hwb : Below wc.heap.size wc wr := hbel
              have hzz := hbel.size
              have hkl : Hid (k < likes.length) := Lib.hid (by
                rcases HBB.out with h | h
                · have hF : stF likes ways = 0 := by rw [← HF.out]; exact h.2.1
                  have hS : sppF likes = 0 := by unfold stF at hF; split at hF <;> simp_all
                  have hL : ways.length = likes.length := by unfold stF at hF; rw [if_neg (by simp [hS])] at hF; split at hF <;> simp_all
                  have := HN1.out; omega
                · exact absurd h.1 (by decide))
              have hnext : ∀ b : Bool, (x == bestP likes ways k) = b → Hid ((b = true ∧ F = 0 ∧ stTo likes ways (k + 1) = true) ∨ (b = false ∧ stP likes ways = false)) := fun b hb => Lib.hid (by
                rcases HBB.out with h | h
                · cases b
                  · refine .inr ⟨rfl, ?_⟩
                    unfold stP
                    rw [stTo_false (m := ways.length) (by have := HN1.out; omega) HX.out hb]; simp
                  · refine .inl ⟨rfl, h.2.1, ?_⟩
                    rw [stTo_succ likes ways k HX.out, h.2.2, hb]; rfl
                · exact absurd h.1 (by decide))
              go_region_with (first
                | (go_at_call 9; refine (LikedBest_all (by first | exact hlkw | exact R1.drewN hlkw 1) (by first | exact hww | exact R1.drewN hww 1) hkl.out).mono ?_; rintro e w5 ⟨r5, rfl, hr5, hb5⟩; have hc5 := hb5.cell (p := ⟨bb, o + k, none⟩) hbb)
                | (go_at_call 8; refine (Ints_v (by first | exact R1.below hxw hb5 | exact R1.below (R1.drewN hxw 1) hb5) hr5).mono ?_; rintro e w6 ⟨rfl, k6, rfl⟩))
              all_goals (go_wp2)
              all_goals (exact ⟨⟨k + 1, _, by omega, by go_num, rfl, hnext _ rfl, below_drewN (hbel.drew.trans (hb5.mono hzz)) _⟩, by simp [intOf]; omega⟩)
            · have e : k = n1 := by omega
              subst e
              have h : Hid (stP likes ways = true) := Lib.hid (by
                rcases HBB.out with h | h
                · have hF : stF likes ways = 0 := by rw [← HF.out]; exact h.2.1
                  unfold stP; rw [hF, ← HN1.out, h.2.2]; rfl
                · exact absurd h.1 (by decide))
              go_wp2
              go_meet
              exact ⟨by rw [h.out], hbel⟩
      case rest =>
        obtain ⟨rfl, hbc⟩ := hcut
        have hlk4 := hlk3.below hbc; have hw4 := hw3.below hbc; have ho4 := ho3.below hbc; have hg4 := hg3.below hbc
        have hbw4 := hbw3.trans (hbc.mono hz3)
        have hz4 := hbw4.size
        clear hlk3 hw3 ho3 hg3 hbc hbw3 hz3
        have hFF : (F == F) = true := by simp
        go_upto_region 14 with (first
          | (go_at_call 10; refine (Stable_any hlk4 hw4).mono ?_; rintro e w5 ⟨rfl, hb5⟩; rw [← HF.out]; have hg5 := hg4.below hb5)
          | (go_at_call 6; refine (Error_any F F _ hg5).mono ?_; rintro e w6 ⟨rfl, hb6⟩; rw [hFF]))
        have hb56 := hb5.trans (hb6.mono hb5.size)
        have hlk6 := hlk4.below hb56; have hw6 := hw4.below hb56; have ho6 := ho4.below hb56; have hg6 := hg4.below hb56
        have hbw6 := hbw4.trans (hb56.mono hz4)
        have hz6 := hbw6.size
        clear hlk4 hw4 ho4 hg4 hbw4 hz4 hb56 hb5 hb6 hg5
        obtain ⟨B, hB⟩ : ∃ B, B = bestF likes ways i := ⟨_, rfl⟩
        have HB := Lib.hid hB; clear hB
        go_cut [84] (fun t wx => ∃ b : Bool, t = .bool b ∧ Hid (B = if b = true then 1 else F) ∧ wx = w6)
        case first =>
          by_cases hE : F = 0
          · have ht : (F == 0) = true := by simp [hE]
            have hE' : stF likes ways = 0 := by rw [← HF.out]; exact hE
            have HE0 := Lib.hid hE
            by_cases hi0 : i < 0
            · have h : Hid (B = 1) := Lib.hid (by rw [HB.out]; unfold bestF; rw [if_neg (by simp [hE']), if_pos (.inl hi0)])
              clear hE hE'
              go_wp2
              go_meet
              exact ⟨true, rfl, Lib.hid (by rw [h.out]; rfl), rfl⟩
            · by_cases hi1 : (n : Int) ≤ i
              · have h : Hid (B = 1) := Lib.hid (by rw [HB.out]; unfold bestF; rw [if_neg (by simp [hE']), if_pos (.inr (by have := HN.out; omega))])
                clear hE hE'
                go_wp2
                go_meet
                exact ⟨true, rfl, Lib.hid (by rw [h.out]; rfl), rfl⟩
              · have h : Hid (B = 0) := Lib.hid (by rw [HB.out]; unfold bestF; rw [if_neg (by simp [hE']), if_neg (by have := HN.out; omega)])
                clear hE hE'
                go_wp2
                go_meet
                exact ⟨false, rfl, Lib.hid (by rw [h.out, HE0.out]; rfl), rfl⟩
          · have ht : (F == 0) = false := by simp [hE]
            have h : Hid (F = B) := Lib.hid (by rw [HB.out]; unfold bestF; rw [if_pos (by rw [← HF.out]; exact hE), HF.out])
            clear hE
            go_wp2
            go_meet
            exact ⟨false, rfl, Lib.hid (by rw [h.out]; rfl), rfl⟩
        case rest =>
          obtain ⟨b6, rfl, HB6, hw66⟩ := hcut
          subst hw66
          go_upto_if 84 with fail
          go_cut [12] (fun f wx => f = .int .i64 B ∧ wx = wc)
          case first =>
            cases b6
            · go_wp2
              go_meet
              exact ⟨by rw [HB6.out]; rfl, rfl⟩
            · go_wp2
              go_meet
              exact ⟨by rw [HB6.out]; rfl, rfl⟩
          case rest =>
            obtain ⟨rfl, hw0⟩ := hcut
            subst hw0
            clear HB6
            go_upto_if 86 with fail
            go_cut [18] (fun f wx => R1 rdInts wx f (bestR likes ways i) ∧ Below wc.heap.size wc wx)
            case first =>
              by_cases h0 : B = 0
              · have ht : (B == 0) = true := by simp [h0]
                have hb0 : bestF likes ways i = 0 := by rw [← HB.out]; exact h0
                have hi0 : 0 ≤ i ∧ i < likes.length := by
                  unfold bestF at hb0
                  split at hb0
                  · rename_i h; exact absurd hb0 h
                  · split at hb0
                    · cases hb0
                    · omega
                obtain ⟨j, rfl⟩ := Int.eq_ofNat_of_zero_le hi0.1
                have HJ : Hid (j < likes.length) := Lib.hid (by omega)
                have HR : Hid (bestR likes ways j = bestP likes ways j) := Lib.hid (by unfold bestR; rw [if_pos hb0]; rfl)
                clear h0 hb0 hi0
                go_wp2_with (go_at_call 9; refine (LikedBest_all hlk6 hw6 HJ.out).mono ?_; rintro e w5 ⟨r5, rfl, hr5, hb5⟩)
                go_meet
                exact ⟨by rw [HR.out]; exact hr5, hb5⟩
              · have ht : (B == 0) = false := by simp [h0]
                have HR : Hid (bestR likes ways i = []) := Lib.hid (by unfold bestR; rw [if_neg (by rw [← HB.out]; exact h0)])
                clear h0
                go_wp2
                go_meet
                exact ⟨by rw [HR.out]; exact RdSlice.nil_, Below.refl _ _⟩
            case rest =>
              obtain ⟨hwant, hb7⟩ := hcut
              rename_i a
              have h := SppTells_end (w := w) (F := F) (u14 := u14) (u18 := u18) (u27 := u27) (u28 := u28) (u29 := u29) (u30 := u30) (u31 := u31) (u32 := u32) (u33 := u33) (u34 := u34) (u35 := u35) (u36 := u36) (u37 := u37) (u38 := u38) (u39 := u39) (u40 := u40) (u41 := u41) (u42 := u42) (u43 := u43) (u44 := u44) (u45 := u45) (u46 := u46) (u47 := u47) (u48 := u48) (u49 := u49) (u50 := u50) (u51 := u51) (u52 := u52) (u53 := u53) (u54 := u54) (u55 := u55) (u56 := u56) (u57 := u57) (u58 := u58) (u59 := u59) (u60 := u60) (u61 := u61) (u62 := u62) (u63 := u63) (u64 := u64) (u65 := u65) (u66 := u66) (u67 := u67) (u68 := u68) (u69 := u69) (u70 := u70) (u71 := u71) (u72 := u72) (u73 := u73) (u74 := u74) (u75 := u75) (u76 := u76) (u77 := u77) (u78 := u78) (u79 := u79) (u80 := u80) (u81 := u81) (u82 := u82) (u83 := u83) (u84 := u84) (u85 := u85) (u86 := u86) (u87 := u87) (u88 := u88) (u89 := u89) (u90 := u90) (u91 := u91) (u92 := u92) (u93 := u93) (u94 := u94) (u95 := u95) (u96 := u96) (u97 := u97) (u98 := u98) (u99 := u99) (u100 := u100) (u101 := u101) (u102 := u102) (u103 := u103) (u104 := u104) (u105 := u105) (u106 := u106) (u107 := u107) (u108 := u108) (u109 := u109) (u110 := u110) (u111 := u111) (u112 := u112) (u113 := u113) (u114 := u114) (u115 := u115) (u116 := u116) (u117 := u117) (u118 := u118) (u119 := u119) (u120 := u120) (u121 := u121) (u122 := u122) (u123 := u123) (u124 := u124) (u125 := u125) (u126 := u126) (u127 := u127) (u128 := u128) (u129 := u129) (u130 := u130) (u131 := u131) (u132 := u132) (u133 := u133) (u134 := u134) (u135 := u135) (u136 := u136) (u137 := u137) (u138 := u138) (u139 := u139) (u140 := u140) (u141 := u141) (u142 := u142) (u143 := u143) (u144 := u144) (u145 := u145) (u146 := u146) (u147 := u147) (u148 := u148) (u149 := u149) (u150 := u150) (u151 := u151) (u152 := u152) (u153 := u153) (u154 := u154) (u155 := u155) (u156 := u156) (u157 := u157) (u158 := u158) (u159 := u159) (u160 := u160) (u161 := u161) (u162 := u162) (u163 := u163) (u164 := u164) (u165 := u165) (u166 := u166) (u167 := u167) (u168 := u168) (u169 := u169) (u170 := u170) (u171 := u171) (u172 := u172) (u173 := u173) (u174 := u174) (u175 := u175) (u176 := u176) (u177 := u177) (u178 := u178) (u179 := u179) (u180 := u180) (u181 := u181) (u182 := u182) (u183 := u183) (u184 := u184) bi hnm hnm1 hnm2 HN HN1 HN2 HE HB (hlk6.below hb7) (hw6.below hb7) (ho6.below hb7) (hg6.below hb7) (hbw6.trans (hb7.mono hz6)) hwant
              conv at h => arg 2; whnf
              exact a _ _ h
end Go.Proofs.YtcpknghfdlmopaaDoor
