/- slices.symMergeCmpFunc where the second piece is one element. -/
import Derived.Test.YtplojnlmofbneaaDoorStabS
namespace Go.Proofs.YtplojnlmofbneaaDoor
open Go.ChangeShapes Go.WideShapes Go.ChangeAt Go.RowKit
set_option linter.unusedVariables false
set_option linter.unusedSimpArgs false
set_option maxRecDepth 100000 in
set_option maxHeartbeats 4000000 in
theorem sym_right {w0 w : World} {g G n c N : Nat} {K : Int → Int} {P U Q : List Int} {v : Int} {x m y : Int} (h : St w0 g (P ++ (U ++ v :: Q)) w) (hC : CmpC w0 g G N K) (hv : 0 ≤ v ∧ v < N) (hU : InN N U) (hs : Srtd K U) (hF : ∀ z ∈ U, z < v) (h2 : 2 ≤ U.length) (hn : n = (P ++ (U ++ v :: Q)).length) (h63 : n ≤ 1000)
    (hx : x = (P.length : Int)) (hm : m = (P.length : Int) + U.length) (hy : y = (P.length : Int) + U.length + 1) :
    Calls Tryd.prog 73 #[.slice (some ⟨g, 0, none⟩) n c, .int .i64 x, .int .i64 m, .int .i64 y, cmpV G] w (SymPost w0 g K P U [v] Q) := by
  obtain ⟨a, ha⟩ : ∃ a, P.length = a := ⟨_, rfl⟩
  obtain ⟨u, hu⟩ : ∃ i, U.length = i := ⟨_, rfl⟩
  obtain ⟨q0, hq0⟩ : ∃ j, Q.length = j := ⟨_, rfl⟩
  have hnn : n = a + u + 1 + q0 := by rw [hn]; simp; omega
  have HL := Lib.hid (And.intro ha (And.intro hu (And.intro hq0 hnn)))
  rw [hu] at h2
  rw [ha] at hx; rw [ha, hu] at hm hy
  have hau : a + u + 1 ≤ n := by omega
  have HS := Lib.hid h
  have HC := Lib.hid hC
  have HU := Lib.hid hU
  have HSr := Lib.hid hs
  have HF := Lib.hid hF
  subst hx
  have m1 : m ≤ ((a + u : Nat) : Int) := by omega
  have m2 : ((a + u : Nat) : Int) ≤ m := by omega
  have m3 : m.toNat = a + u := by omega
  have HM3 := Lib.hid m3
  have t0 : (m - (a : Int) == 1) = false := by rw [beq_eq_false_iff_ne]; omega
  have t1 : (y - m == 1) = true := by rw [beq_iff_eq]; omega
  have y1 : y ≤ ((a + u + 1 : Nat) : Int) := by omega
  have y2 : ((a + u + 1 : Nat) : Int) ≤ y := by omega
  clear h hn hy hm ha hu hq0 hnn hC hU hs hF m3
  go_enter Tryd.func73, Tryd.ntmps73
  go_wp2
  go_loopw [14, 15] (fun i j wr => ∃ p r : Nat, p ≤ r ∧ r ≤ u ∧ i = .int .i64 ((a + p : Nat) : Int) ∧ j = .int .i64 ((a + r : Nat) : Int) ∧ Hid ((∀ z ∈ U.take p, Rl K z v) ∧ ∀ z ∈ U.drop r, Rl K v z) ∧ ∃ d, wr = w.drewN d) (fun i j _ => (intOf j).toNat - (intOf i).toNat)
  case atStart => exact ⟨0, u, by omega, Nat.le_refl _, by simp, by congr 1; omega, Lib.hid ⟨by simp, by rw [drop_all U (by rw [HL.out.2.1]; exact Nat.le_refl _)]; simp⟩, 0, rfl⟩
  case round =>
    obtain ⟨p, r, hpr, hru, rfl, rfl, HPR, d, rfl⟩ := hrel
    by_cases hlt : p < r
    · obtain ⟨q, hq⟩ : ∃ q, (p + r) / 2 = q := ⟨_, rfl⟩
      have hq1 : p ≤ q := by omega
      have hq2 : q < r := by omega
      obtain ⟨z, hz⟩ : ∃ z, U[q]? = some z := ⟨_, List.getElem?_eq_getElem (by rw [HL.out.2.1]; omega)⟩
      have hzN := HU.out z (List.mem_of_getElem? hz)
      have hzF := HF.out z (List.mem_of_getElem? hz)
      have HZ := Lib.hid hz
      have cz : w.cell? ⟨g, a + q, none⟩ = some (.int .i64 z) := HS.out.row.get (by
        have e : P ++ (U ++ v :: Q) = (P ++ U.take q) ++ z :: (U.drop (q + 1) ++ v :: Q) := by
          have hV : U = U.take q ++ z :: U.drop (q + 1) := by rw [← drop_at HZ.out, List.take_append_drop]
          conv => lhs; rw [hV]
          simp
        rw [e]; exact get_mid (by have := HL.out; simp; omega))
      have ca : w.cell? ⟨g, m.toNat, none⟩ = some (.int .i64 v) := by
        rw [HM3.out]
        exact HS.out.row.get (by rw [← List.append_assoc]; exact get_mid (by have := HL.out; simp; omega))
      have HB := Lib.hid HS.out.bel
      have hmid : ((a : Int) + p + ((a : Int) + r)) / 2 = ((a + q : Nat) : Int) := by omega
      have HM := Lib.hid hmid
      have hqv : a + q < n := by omega
      have hm0 : 0 ≤ m := by omega
      have hmn : m < (n : Int) := by omega
      have HQ := Lib.hid hq
      obtain ⟨cv, hcv⟩ : ∃ cv, cmpK (K v) (K z) = cv := ⟨_, rfl⟩
      have HCV := Lib.hid hcv
      by_cases hlt2 : K v < K z
      · have hneg : cv < 0 := by rw [← hcv]; exact cmpK_neg hlt2
        have hneg2 : (!decide (cv < 0)) = false := by simp; omega
        have HN : Hid ((∀ y ∈ U.take p, Rl K y v) ∧ ∀ y ∈ U.drop q, Rl K v y) := Lib.hid ⟨HPR.out.1, drop_rl HSr.out hz (Rl.of_lt hlt2)⟩
        clear hmid hq hz hcv hlt2
        go_wp2
        rw [HM.out]
        obtain ⟨hh, hhe⟩ : ∃ hh, a + q = hh := ⟨_, rfl⟩
        rw [hhe] at cz hqv ⊢
        have HHE := Lib.hid hhe
        clear hhe
        go_quiet ((go_at_call 52; exact cmp_qd HC.out HB.out hv hzN HCV.out _ _))
        go_wp2
        go_roundw
        case rel => exact ⟨p, q, by omega, by omega, by simp, by have := HHE.out; congr 1; omega, HN, _, (by first | rfl | exact World.drewN_drewN _ _ _)⟩
        case measure => have := HHE.out; simp [intOf]; try omega
      · have hneg : ¬ cv < 0 := by rw [← hcv]; exact cmpK_not hlt2
        have hneg2 : (!decide (cv < 0)) = true := by simp; omega
        have HN : Hid ((∀ y ∈ U.take (q + 1), Rl K y v) ∧ ∀ y ∈ U.drop r, Rl K v y) := Lib.hid ⟨take_rl HSr.out hz (Rl.of_not hlt2 hzF), HPR.out.2⟩
        clear hmid hq hz hcv hlt2
        go_wp2
        rw [HM.out]
        obtain ⟨hh, hhe⟩ : ∃ hh, a + q = hh := ⟨_, rfl⟩
        rw [hhe] at cz hqv ⊢
        have HHE := Lib.hid hhe
        clear hhe
        go_quiet ((go_at_call 52; exact cmp_qd HC.out HB.out hv hzN HCV.out _ _))
        go_wp2
        go_roundw
        case rel => exact ⟨q + 1, r, by omega, by omega, by have := HHE.out; congr 1; omega, by simp, HN, _, (by first | rfl | exact World.drewN_drewN _ _ _)⟩
        case measure => have := HHE.out; simp [intOf]; try omega
    · have HE : Hid (p = r) := Lib.hid (by omega)
      have hd : decide (((a + p : Nat) : Int) < ((a + r : Nat) : Int)) = false := by simp; omega
      have hpu : p ≤ u := by omega
      have HW : Hid (St w0 g (P ++ (U.take u ++ v :: (U.drop u ++ Q))) (w.drewN d)) := Lib.hid (by
        rw [List.take_of_length_le (by rw [HL.out.2.1]; exact Nat.le_refl _), drop_all U (by rw [HL.out.2.1]; exact Nat.le_refl _)]
        simpa using HS.out.drewN d)
      have HFin : Hid ((U.take p ++ v :: U.drop p).Perm (U ++ [v]) ∧ Srtd K (U.take p ++ v :: U.drop p)) := Lib.hid (by
        obtain ⟨h1, h2⟩ := HPR.out
        rw [← HE.out] at h2
        exact ⟨by have := (List.perm_middle (a := v) (l₁ := U.take p) (l₂ := U.drop p)); rw [List.take_append_drop] at this; exact this.trans (List.perm_append_comm (l₁ := [v])), srtd_insert (by rw [List.take_append_drop]; exact HSr.out) h1 h2⟩)
      generalize w.drewN d = w5 at *
      go_wp2
      go_loopw [17] (fun k wr => ∃ t : Nat, p ≤ t ∧ t ≤ u ∧ k = .int .i64 ((a + t : Nat) : Int) ∧ St w0 g (P ++ (U.take t ++ v :: (U.drop t ++ Q))) wr) (fun k _ => (intOf k).toNat)
      case atStart => exact ⟨u, hpu, Nat.le_refl _, by congr 1; omega, HW.out⟩
      case round =>
        obtain ⟨t, ht, htu, rfl, hS⟩ := hrel
        by_cases hlt3 : p < t
        · obtain ⟨s, hs⟩ : ∃ s, t = s + 1 := ⟨t - 1, by omega⟩
          obtain ⟨z, hz⟩ : ∃ z, U[s]? = some z := ⟨_, List.getElem?_eq_getElem (by rw [HL.out.2.1]; omega)⟩
          obtain ⟨i, hi⟩ : ∃ i, a + s = i := ⟨_, rfl⟩
          have hA : i = (P ++ U.take s).length := by have := HL.out; simp; omega
          have hX : P ++ (U.take t ++ v :: (U.drop t ++ Q)) = (P ++ U.take s) ++ z :: v :: (U.drop t ++ Q) := by rw [hs, take_at hz]; simp
          rw [hX] at hS
          have c1 : wr.cell? ⟨g, i, none⟩ = some (.int .i64 z) := hS.row.get (get_mid hA)
          have c0 : wr.cell? ⟨g, i + 1, none⟩ = some (.int .i64 v) := hS.row.get (by
            rw [show (P ++ U.take s) ++ z :: v :: (U.drop t ++ Q) = ((P ++ U.take s) ++ [z]) ++ v :: (U.drop t ++ Q) from by simp]
            exact get_mid (by rw [hA]; simp; omega))
          have f1 := hS.row.free i
          have f0 := hS.row.free (i + 1)
          have HN : Hid (St w0 g (P ++ (U.take s ++ v :: (U.drop s ++ Q))) ((wr.setCell ⟨g, i + 1, none⟩ (.int .i64 z)).setCell ⟨g, i, none⟩ (.int .i64 v))) := Lib.hid (by
            have h := (hS.set (i + 1) z).set i v
            rw [swap_adj hA] at h
            rw [drop_at hz, ← hs]
            simpa using h)
          have hsp : ((a + t : Nat) : Int) = (i : Int) + 1 := by omega
          rw [hsp]
          have hin : i + 1 < n := by omega
          have hd2 : (a : Int) + (p : Int) < (i : Int) + 1 := by omega
          have i0 : 0 ≤ (i : Int) + 1 := by omega
          have i1 : (i : Int) + 1 < (n : Int) := by omega
          have i2 : (i : Int) < (n : Int) := by omega
          have i3 : ((i : Int) + 1).toNat = i + 1 := by omega
          have w1 : IntKind.i64.wrap ((i : Int) + 1 - 1) = i := by rw [show (i : Int) + 1 - 1 = i from by omega]; exact IntWalk.i64_in _ ⟨by omega, by omega⟩
          have w2 : (i : Int) + 1 - 1 = i := by omega
          have HI := Lib.hid (And.intro hi hs)
          clear hA hX hS hz hi hs hsp
          go_wp2
          go_region
          all_goals
            go_wp2
            go_roundw
            case rel => exact ⟨s, by have := HI.out; omega, by have := HI.out; omega, by have := HI.out; congr 1; omega, HN.out.drewN 1⟩
            case measure => simp [intOf]; try omega
        · have hd2 : ¬ (a : Int) + (p : Int) < (a : Int) + (t : Int) := by omega
          have HT : Hid (t = p) := Lib.hid (by omega)
          have HSt := Lib.hid hS
          clear hS
          go_wp2
          refine bodyPost_ret (results_none rfl _ _ _) rfl ⟨rfl, _, HFin.out, ?_⟩
          have h := HSt.out
          rw [HT.out] at h
          simpa using h
end Go.Proofs.YtplojnlmofbneaaDoor
