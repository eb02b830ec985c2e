/- The last part of the walk of the law SppTells. -/
import Derived.Test.YtcpknghfdlmopaaDoorSppN
import Derived.Test.YtcpknghfdlmopaaDoorErr
import Derived.Deep.DeepCutAuto
import Derived.Deep.CutBlock
import Derived.Deep.RegionWith
namespace Go.Proofs.YtcpknghfdlmopaaDoor
open Go.ChangeShapes Go.WideShapes Go.ChangeAt Go.RowKit
set_option linter.unusedVariables false

/-- the code from a region on -/
def fromR (n : Nat) : Code → Code
  | .seq (.region m x y) b => if m == n then .seq (.region m x y) b else fromR n b
  | .seq _ b => fromR n b
  | c => c

set_option maxHeartbeats 4000000 in
set_option maxRecDepth 100000 in
theorem SppTells_end {w wc : World} {A A1 A2 : Option Addr} {n c n1 c1 n2 c2 : Nat} {likes : List (List (List Int))} {ways : List (List Int)} {i : Int} {order : List Int} (bi : -9223372036854775808 ≤ i ∧ i ≤ 9223372036854775807)
    {E F B : Int} (hnm : n ≤ 9223372036854775807) (hnm1 : n1 ≤ 9223372036854775807) (hnm2 : n2 ≤ 9223372036854775807) (HN : Hid (n = likes.length)) (HN1 : Hid (n1 = ways.length)) (HN2 : Hid (n2 = order.length))
    (HE : Hid (E = sppF likes)) (HB : Hid (B = bestF likes ways i)) {u14 u18 u27 u28 u29 u30 u31 u32 u33 u34 u35 u36 u37 u38 u39 u40 u41 u42 u43 u44 u45 u46 u47 u48 u49 u50 u51 u52 u53 u54 u55 u56 u57 u58 u59 u60 u61 u62 u63 u64 u65 u66 u67 u68 u69 u70 u71 u72 u73 u74 u75 u76 u77 u78 u79 u80 u81 u82 u83 u84 u85 u86 u87 u88 u89 u90 u91 u92 u93 u94 u95 u96 u97 u98 u99 u100 u101 u102 u103 u104 u105 u106 u107 u108 u109 u110 u111 u112 u113 u114 u115 u116 u117 u118 u119 u120 u121 u122 u123 u124 u125 u126 u127 u128 u129 u130 u131 u132 u133 u134 u135 u136 u137 u138 u139 u140 u141 u142 u143 u144 u145 u146 u147 u148 u149 u150 u151 u152 u153 u154 u155 u156 u157 u158 u159 u160 u161 u162 u163 u164 u165 u166 u167 u168 u169 u170 u171 u172 u173 u174 u175 u176 u177 u178 u179 u180 u181 u182 u183 u184 : Value}
    (hlk7 : R1 rdInts3 wc (.slice A n c) likes) (hw7 : R1 rdInts2 wc (.slice A1 n1 c1) ways) (ho7 : R1 rdInts wc (.slice A2 n2 c2) order) (hg7 : HErr wc) (hbw7 : Below w.heap.size w wc) (hwant : R1 rdInts wc u18 (bestR likes ways i)) :
    Code.wp Tryd.prog (fromR 19 (Tryd.f3.body.getD .skip)) (bodyPost Tryd.prog Tryd.f3 fun e w' => e = Ending.returned (Value.bool true) ∧ Below w.heap.size w w')
      ⟨#[.slice A n c, .slice A1 n1 c1, .int .i64 i, .slice A2 n2 c2, undef, undef, undef, undef, .bool false, .bool true, .int .i64 E, .bool true, .int .i64 B, .bool (stP likes ways), u14, .bool (stP likes ways), errV F, .bool true, u18, undef, undef, undef, undef, undef, undef, undef, undef, u27, u28, u29, u30, u31, u32, u33, u34, u35, u36, u37, u38, u39, u40, u41, u42, u43, u44, u45, u46, u47, u48, u49, u50, u51, u52, u53, u54, u55, u56, u57, u58, u59, u60, u61, u62, u63, u64, u65, u66, u67, u68, u69, u70, u71, u72, u73, u74, u75, u76, u77, u78, u79, u80, u81, u82, u83, u84, u85, u86, u87, u88, u89, u90, u91, u92, u93, u94, u95, u96, u97, u98, u99, u100, u101, u102, u103, u104, u105, u106, u107, u108, u109, u110, u111, u112, u113, u114, u115, u116, u117, u118, u119, u120, u121, u122, u123, u124, u125, u126, u127, u128, u129, u130, u131, u132, u133, u134, u135, u136, u137, u138, u139, u140, u141, u142, u143, u144, u145, u146, u147, u148, u149, u150, u151, u152, u153, u154, u155, u156, u157, u158, u159, u160, u161, u162, u163, u164, u165, u166, u167, u168, u169, u170, u171, u172, u173, u174, u175, u176, u177, u178, u179, u180, u181, u182, u183, u184], []⟩ wc := by
  conv => arg 2; whnf
  have hz7 := hbw7.size
  have hBB : (B == B) = true := by simp
  have hbr : (bestR likes ways i == bestR likes ways i) = true := by simp
  go_upto_if 105 with (first
    | (go_at_call 11; refine (Best_all hlk7 hw7 bi).mono ?_; rintro e w8 ⟨r8, rfl, hr8, hb8⟩; rw [← HB.out]; have hg8 := hg7.below hb8; have hwant8 := hwant.below hb8)
    | (go_at_call 6; refine (Error_any B B _ hg8).mono ?_; rintro e w9 ⟨rfl, hb9⟩; rw [hBB]; have hr9 := hr8.below hb9; have hwant9 := hwant8.below hb9)
    | (go_at_call 8; refine (Ints_v hr9 hwant9).mono ?_; rintro e w10 ⟨rfl, k10, rfl⟩; rw [hbr]))
  have hb10 : Below wc.heap.size wc (w9.drewN k10) := below_drewN (hb8.trans (hb9.mono hb8.size)) _
  have hlk9 := hlk7.below hb10; have ho9 := ho7.below hb10; have hg9 := hg7.below hb10
  have hbw9 := hbw7.trans (hb10.mono hz7)
  have hz9 := hbw9.size
  clear hlk7 hw7 ho7 hg7 hbw7 hz7 hb8 hb9 hb10 hg8 hwant hwant8 hwant9 hr8 hr9
  generalize w9.drewN k10 = W at *
  have hE8 : E = 0 → Hid (n ≤ 8 ∧ 1 ≤ n) := fun h => Lib.hid (by obtain ⟨h1, h2, _⟩ := sppF_small (likes := likes) (by rw [← HE.out]; exact h); have := HN.out; omega)
  go_cut [22] (fun v wx => ((E = 0 ∧ ∃ g, v = .slice (some ⟨g, 0, none⟩) n n ∧ Kept wx g n (rows0 likes) ∧ W.heap.size ≤ g) ∨ (E ≠ 0 ∧ v = .slice none 0 0)) ∧ Below W.heap.size W wx)
  case first =>
    by_cases h0 : E = 0
    · have ht : (E == 0) = true := by simp [h0]
      obtain ⟨h8, h1⟩ := (hE8 h0).out
      have hr0 : Hid ((List.replicate n ([] : List Int)).set 0 [0] = rows0 likes) := Lib.hid (by
        unfold rows0; rw [← HN.out]
        obtain ⟨k, rfl⟩ := Nat.exists_eq_add_of_le h1
        rw [show 1 + k = k + 1 from by omega]
        simp [List.replicate_succ])
      obtain ⟨i0, hi0, hz0, hz1, hz2⟩ := info_parts info_ints
      have hmk : ∀ W : World, (Instr.makeSlice 23 (.int .i64 (n : Int)) (.int .i64 (n : Int))).run Tryd.prog W = .ok (.slice (some ⟨W.heap.size, 0, none⟩) n n) (W.alloc (.cells (madeCells #[.slice none 0 0] n) 24)) := fun W => by
        have h := run_make_rowN (P := Tryd.prog) 23 24 i0 _ Tryd.underlying23 hi0 hz0 .i64 .i64 n n (Nat.le_refl _) (by rw [hz2]; omega) (by omega) W
        rw [hz1, Nat.mul_one] at h
        exact h
      have hm0 := made0 n h1
      have HE0 := Lib.hid h0
      clear hi0 hz0 hz1 hz2 h0
      go_wp2
      go_meet
      have hK := Kept.start W n h1
      rw [hr0.out] at hK
      exact ⟨.inl ⟨HE0.out, W.heap.size, rfl, hK, Nat.le_refl _⟩, ((Below.refl _ _).alloc (Nat.le_refl _) _).alloc (by simp) _⟩
    · have ht : (E == 0) = false := by simp [h0]
      have HE0 := Lib.hid h0
      clear h0
      go_wp2
      go_meet
      exact ⟨.inr ⟨HE0.out, rfl⟩, Below.refl _ _⟩
  case rest =>
    obtain ⟨hrows, hb11⟩ := hcut
    have HROWS := Lib.hid hrows; clear hrows
    have hgw : w.heap.size ≤ W.heap.size := hz9
    go_upto_block 2 with fail
    go_cut [10, 22, 23] (fun s v t wx => s = .int .i64 (runF likes order) ∧ R1 rdInts2 wx v (runV likes order) ∧ Below W.heap.size W wx)
    case first =>
      go_wp2
      go_loopw [10, 22, 23] (fun s v t wr => ∃ k : Nat, k ≤ n2 ∧ t = .int .i64 k ∧ Below W.heap.size W wr ∧
        ((∃ rows g, s = .int .i64 0 ∧ Hid (sppF likes = 0) ∧ Hid (runP likes (order.take k) (rows0 likes) = some rows) ∧ v = .slice (some ⟨g, 0, none⟩) n n ∧ Kept wr g n rows ∧ W.heap.size ≤ g) ∨
         (∃ e : Int, s = .int .i64 e ∧ Hid (e = runF likes order ∧ runV likes order = []) ∧ (e == 0) = false ∧ v = .slice none 0 0))) (fun _ _ t _ => n2 - (intOf t).toNat)
      case atStart =>
        refine ⟨0, Nat.zero_le _, rfl, hb11, ?_⟩
        rcases HROWS.out with ⟨h0, g, rfl, hK, hgg⟩ | ⟨h0, rfl⟩
        · exact .inl ⟨_, g, by rw [h0], Lib.hid (by rw [← HE.out]; exact h0), Lib.hid rfl, rfl, hK, hgg⟩
        · refine .inr ⟨E, rfl, Lib.hid ?_, by simp [h0], rfl⟩
          have hs : sppF likes ≠ 0 := by rw [← HE.out]; exact h0
          exact ⟨by unfold runF; rw [if_pos hs]; exact HE.out, by unfold runV; rw [if_pos hs]⟩
      case round =>
        clear HROWS
        obtain ⟨k, hk, rfl, hbel, hA | hB⟩ := hrel
        · obtain ⟨rows, g, rfl, HS, HRUN, rfl, hKr, hgg⟩ := hA
          have h8 : Hid (n ≤ 8 ∧ 1 ≤ n) := Lib.hid (by obtain ⟨h1, h2, _⟩ := sppF_small HS.out; have := HN.out; omega)
          have hnx : n ≤ maxLen := by have := h8.out; unfold maxLen; omega
          by_cases hlt : k < n2
          · have how := R1.below ho9 hbel
            have hlkw := R1.below hlk9 hbel
            obtain ⟨b, o, i2, rfl, hb, HI, hwi, hc⟩ := RdSlice.atI how hlt
            have hi64 := bounds_i64 hwi
            have hlt' : (k : Int) < (n2 : Int) := by omega
            have hk0 : (0 : Int) ≤ (k : Int) := by omega
            have hbad : (i2 < 0 ∨ (n : Int) ≤ i2) → Hid (1 = runF likes order ∧ runV likes order = []) := fun hr => Lib.hid (by
              have hnone : runP likes order (rows0 likes) = none := by
                have e : order = order.take (k + 1) ++ order.drop (k + 1) := (List.take_append_drop _ _).symm
                rw [e]
                refine runP_none ?_
                rw [take_succ_of HI.out, runP_snoc, HRUN.out]
                have : i2 < 0 ∨ (likes.length : Int) ≤ i2 := by have := HN.out; omega
                simp [this]
              exact ⟨by unfold runF; rw [if_neg (by simp [HS.out]), hnone]; rfl, by unfold runV; rw [if_neg (by simp [HS.out]), hnone]; rfl⟩)
            by_cases hr0 : i2 < 0
            · have HE := hbad (.inl hr0)
              clear hbad
              go_wp2
              exact ⟨⟨k + 1, by omega, by go_num, hbel, .inr ⟨1, rfl, HE, by decide, rfl⟩⟩, by simp [intOf]; omega⟩
            · by_cases hr1 : (n : Int) ≤ i2
              · have HE := hbad (.inr hr1)
                clear hbad
                go_wp2
                exact ⟨⟨k + 1, by omega, by go_num, hbel, .inr ⟨1, rfl, HE, by decide, rfl⟩⟩, by simp [intOf]; omega⟩
              · obtain ⟨j, rfl⟩ := Int.eq_ofNat_of_zero_le (show 0 ≤ i2 by omega)
                have hj : j < n := by omega
                have hstep : Hid (runP likes (order.take (k + 1)) (rows0 likes) = some (rows.set j (bestP likes rows j))) := Lib.hid (by
                  rw [take_succ_of HI.out, runP_snoc, HRUN.out]
                  have h'' : ¬ ((j : Int) < 0 ∨ (likes.length : Int) ≤ (j : Int)) := by have := HN.out; omega
                  simp only [Option.bind_some, if_neg h'']
                  rfl)
                have t0 : (0 : Int) ≤ (j : Int) := by omega
                have t1 : (j : Int) < (n : Int) := by omega
                have hww : R1 rdInts2 wr (.slice (some ⟨g, 0, none⟩) n n) rows := hKr.rd hnx
                have hKd : Kept wr.drew g n rows := hKr.below ((Below.refl _ _).drew)
                have hjl : Hid (j < likes.length) := Lib.hid (by have := HN.out; omega)
                have hgk : W.heap.size ≤ g := hgg
                clear hbad hi64
                go_wp2
                go_region_with (first
                  | (go_at_call 9
                     refine (LikedBest_all (by first | exact hlkw | exact R1.drewN hlkw 1) (by first | exact hww | exact R1.drewN hww 1) hjl.out).mono ?_
                     rintro e w5 ⟨r5, rfl, hr5, hb5⟩
                     have hc5 := (hb5.cell (p := ⟨b, o + k, none⟩) hb).trans hc
                     have hK5 := hKd.below hb5
                     obtain ⟨hcell, hfr, hK4⟩ := hK5.set hr5 hj
                     obtain ⟨cv, hcv⟩ := Option.ne_none_iff_exists'.1 hcell
                     obtain ⟨Ar, cr, hrf⟩ := hr5.form
                     clear hcell hK5
                     rw [hrf] at hK4 ⊢
                     clear hrf hr5))
                all_goals go_wp2
                all_goals (exact ⟨⟨k + 1, by omega, by go_num, (hbel.drew.trans (hb5.mono hbel.size)).setCell hgk _, .inl ⟨_, g, rfl, HS, hstep, rfl, hK4, hgk⟩⟩, by simp [intOf]; omega⟩)
          · have e : order.take k = order := List.take_of_length_le (by have := HN2.out; omega)
            have HR : Hid (runF likes order = 0 ∧ runV likes order = rows) := Lib.hid (by
              have h := HRUN.out; rw [e] at h
              exact ⟨by unfold runF; rw [if_neg (by simp [HS.out]), h]; rfl, by unfold runV; rw [if_neg (by simp [HS.out]), h]; rfl⟩)
            clear e
            have hlt' : ¬ (k : Int) < (n2 : Int) := by omega
            go_wp2
            go_meet
            exact ⟨by rw [HR.out.1], by rw [HR.out.2]; exact hKr.rd hnx, hbel⟩
        · obtain ⟨e, rfl, HR, ht, rfl⟩ := hB
          go_wp2
          go_meet
          exact ⟨by rw [HR.out.1], by rw [HR.out.2]; exact RdSlice.nil_, hbel⟩
    case rest =>
      obtain ⟨rfl, hv, hbc⟩ := hcut
      have hlk12 := hlk9.below hbc; have ho12 := ho9.below hbc; have hg12 := hg9.below hbc
      have hbw12 := hbw9.trans (hbc.mono hz9)
      have hz12 := hbw12.size
      clear hlk9 ho9 hg9 hbw9 hb11 hbc HROWS
      have hRR : (runF likes order == runF likes order) = true := by simp
      have hVV : (runV likes order == runV likes order) = true := by simp
      have hPP : (stP likes ways == stP likes ways) = true := by simp
      go_wp2_with (first
        | (go_at_call 12; refine (Run_any hlk12 ho12).mono ?_; rintro e w13 ⟨r13, rfl, hr13, hb13⟩; have hg13 := hg12.below hb13; have hv13 := hv.below hb13)
        | (go_at_call 6; refine (Error_any _ _ _ hg13).mono ?_; rintro e w14 ⟨rfl, hb14⟩; rw [hRR]; have hr14 := hr13.below hb14; have hv14 := hv13.below hb14)
        | (go_at_call 13; refine (Rows_v hr14 hv14).mono ?_; rintro e w15 ⟨rfl, k15, rfl⟩; rw [hVV]))
      go_ret
      exact ⟨rfl, below_drewN (hbw12.trans ((hb13.trans (hb14.mono hb13.size)).mono hz12)) _⟩
end Go.Proofs.YtcpknghfdlmopaaDoor
