/- slices.symMergeCmpFunc where one of the two pieces is one element. -/
import Derived.Test.YtplojnlmofbneaaDoorStabI
namespace Go.Proofs.YtplojnlmofbneaaDoor
open Go.ChangeShapes Go.WideShapes Go.ChangeAt Go.RowKit
set_option linter.unusedVariables false
set_option linter.unusedSimpArgs false
theorem cmp_qd {w0 w : World} {g G N : Nat} {K : Int → Int} (h : CmpC w0 g G N K) (hb : Below g w0 w) {x y c : Int} (hx : 0 ≤ x ∧ x < N) (hy : 0 ≤ y ∧ y < N) (hc : cmpK (K x) (K y) = c) (d n : Nat) :
    Calls Tryd.prog 52 #[.int .i64 x, .int .i64 y, .pointer (some ⟨G, 0, none⟩)] (w.drewN (d + n)) fun e w' => e = .returned (.int .i64 c) ∧ ∃ m, w' = w.drewN (d + m) :=
  (h (w.drewN (d + n)) x y (below_drewN hb _) hx.1 hx.2 hy.1 hy.2).mono fun e w' ⟨he, k, hw⟩ => ⟨by rw [he, hc], n + k, by rw [hw, World.drewN_drewN, Nat.add_assoc]⟩
def SymPost (w0 : World) (g : Nat) (K : Int → Int) (P U V Q : List Int) (e : Ending) (w' : World) : Prop := e = .returned (.tuple #[]) ∧ ∃ W, (W.Perm (U ++ V) ∧ Srtd K W) ∧ St w0 g (P ++ (W ++ Q)) w'
theorem take_rl {K : Int → Int} {V : List Int} {q : Nat} {z x : Int} (hs : Srtd K V) (hz : V[q]? = some z) (h : Rl K z x) : ∀ y ∈ V.take (q + 1), Rl K y x := by
  rw [take_at hz]
  refine last_all (l := V.take q) ?_ h
  have : V = V.take q ++ [z] ++ V.drop (q + 1) := by rw [List.append_assoc]; simp only [List.singleton_append]; rw [← drop_at hz, List.take_append_drop]
  rw [this] at hs
  exact (srtd_append.1 hs).1
theorem drop_rl {K : Int → Int} {V : List Int} {q : Nat} {z x : Int} (hs : Srtd K V) (hz : V[q]? = some z) (h : Rl K x z) : ∀ y ∈ V.drop q, Rl K x y := by
  have hd := drop_at hz
  rw [hd]
  refine first_all (l := V.drop (q + 1)) ?_ h
  rw [← hd]
  have : V = V.take q ++ V.drop q := (List.take_append_drop q V).symm
  rw [this] at hs
  exact (srtd_append.1 hs).2.1
set_option maxRecDepth 100000 in
set_option maxHeartbeats 4000000 in
theorem sym_left {w0 w : World} {g G n c N : Nat} {K : Int → Int} {P V Q : List Int} {u : Int} {x m y : Int} (h : St w0 g (P ++ (u :: (V ++ Q))) w) (hC : CmpC w0 g G N K) (hu : 0 ≤ u ∧ u < N) (hV : InN N V) (hs : Srtd K V) (hF : ∀ z ∈ V, u < z) (hn : n = (P ++ (u :: (V ++ Q))).length) (h63 : n ≤ 1000)
    (hx : x = (P.length : Int)) (hm : m = (P.length : Int) + 1) (hy : y = (P.length : Int) + 1 + V.length) :
    Calls Tryd.prog 73 #[.slice (some ⟨g, 0, none⟩) n c, .int .i64 x, .int .i64 m, .int .i64 y, cmpV G] w (SymPost w0 g K P [u] V Q) := by
  obtain ⟨a, ha⟩ : ∃ a, P.length = a := ⟨_, rfl⟩
  obtain ⟨v, hv⟩ : ∃ i, V.length = i := ⟨_, rfl⟩
  obtain ⟨q0, hq0⟩ : ∃ j, Q.length = j := ⟨_, rfl⟩
  have hnn : n = a + 1 + v + q0 := by rw [hn]; simp; omega
  have HL := Lib.hid (And.intro ha (And.intro hv (And.intro hq0 hnn)))
  rw [ha] at hx hm; rw [ha, hv] at hy
  have hau : a + 1 + v ≤ n := by omega
  have HS := Lib.hid h
  have HC := Lib.hid hC
  have HV := Lib.hid hV
  have HSr := Lib.hid hs
  have HF := Lib.hid hF
  subst hx
  have m1 : m ≤ ((a + 1 : Nat) : Int) := by omega
  have m2 : ((a + 1 : Nat) : Int) ≤ m := by omega
  have y1 : y ≤ ((a + 1 + v : Nat) : Int) := by omega
  have y2 : ((a + 1 + v : Nat) : Int) ≤ y := by omega
  have t0 : (m - (a : Int) == 1) = true := by rw [beq_iff_eq]; omega
  clear h hn hy hm ha hv hq0 hnn hC hV hs hF
  go_enter Tryd.func73, Tryd.ntmps73
  go_wp2
  go_loopw [10, 11] (fun i j wr => ∃ p r : Nat, p ≤ r ∧ r ≤ v ∧ i = .int .i64 ((a + 1 + p : Nat) : Int) ∧ j = .int .i64 ((a + 1 + r : Nat) : Int) ∧ Hid ((∀ z ∈ V.take p, Rl K z u) ∧ ∀ z ∈ V.drop r, Rl K u z) ∧ ∃ d, wr = w.drewN d) (fun i j _ => (intOf j).toNat - (intOf i).toNat)
  case atStart => exact ⟨0, v, by omega, Nat.le_refl _, by congr 1; omega, by congr 1; omega, Lib.hid ⟨by simp, by rw [drop_all V (by rw [HL.out.2.1]; exact Nat.le_refl _)]; simp⟩, 0, rfl⟩
  case round =>
    obtain ⟨p, r, hpr, hrv, rfl, rfl, HPR, d, rfl⟩ := hrel
    by_cases hlt : p < r
    · obtain ⟨q, hq⟩ : ∃ q, (p + r) / 2 = q := ⟨_, rfl⟩
      have hq1 : p ≤ q := by omega
      have hq2 : q < r := by omega
      obtain ⟨z, hz⟩ : ∃ z, V[q]? = some z := ⟨_, List.getElem?_eq_getElem (by rw [HL.out.2.1]; omega)⟩
      have hzN := HV.out z (List.mem_of_getElem? hz)
      have hzF := HF.out z (List.mem_of_getElem? hz)
      have HZ := Lib.hid hz
      have cz : w.cell? ⟨g, a + 1 + q, none⟩ = some (.int .i64 z) := HS.out.row.get (by
        have e : P ++ (u :: (V ++ Q)) = (P ++ u :: V.take q) ++ z :: (V.drop (q + 1) ++ Q) := by
          have hV : V = V.take q ++ z :: V.drop (q + 1) := by rw [← drop_at HZ.out, List.take_append_drop]
          conv => lhs; rw [hV]
          simp
        rw [e]; exact get_mid (by have := HL.out; simp; omega))
      have ca : w.cell? ⟨g, a, none⟩ = some (.int .i64 u) := HS.out.row.get (get_mid HL.out.1.symm)
      have HB := Lib.hid HS.out.bel
      have hmid : ((a : Int) + 1 + p + ((a : Int) + 1 + r)) / 2 = ((a + 1 + q : Nat) : Int) := by omega
      have HM := Lib.hid hmid
      have hqv : a + 1 + q < n := by omega
      have HQ := Lib.hid hq
      obtain ⟨cv, hcv⟩ : ∃ cv, cmpK (K z) (K u) = cv := ⟨_, rfl⟩
      have HCV := Lib.hid hcv
      by_cases hlt2 : K z < K u
      · have hneg : cv < 0 := by rw [← hcv]; exact cmpK_neg hlt2
        have HN : Hid ((∀ y ∈ V.take (q + 1), Rl K y u) ∧ ∀ y ∈ V.drop r, Rl K u y) := Lib.hid ⟨take_rl HSr.out hz (Rl.of_lt hlt2), HPR.out.2⟩
        clear hmid hq hz hcv hlt2
        go_wp2
        rw [HM.out]
        obtain ⟨hh, hhe⟩ : ∃ hh, a + 1 + q = hh := ⟨_, rfl⟩
        rw [hhe] at cz hqv ⊢
        have HHE := Lib.hid hhe
        clear hhe
        go_quiet ((go_at_call 52; exact cmp_qd HC.out HB.out hzN hu HCV.out _ _))
        go_wp2
        go_roundw
        case rel => exact ⟨q + 1, r, by omega, by omega, by have := HHE.out; congr 1; omega, by simp, HN, _, (by first | rfl | exact World.drewN_drewN _ _ _)⟩
        case measure => have := HHE.out; simp [intOf]; try omega
      · have hneg : ¬ cv < 0 := by rw [← hcv]; exact cmpK_not hlt2
        have HN : Hid ((∀ y ∈ V.take p, Rl K y u) ∧ ∀ y ∈ V.drop q, Rl K u y) := Lib.hid ⟨HPR.out.1, drop_rl HSr.out hz (Rl.of_not hlt2 hzF)⟩
        clear hmid hq hz hcv hlt2
        go_wp2
        rw [HM.out]
        obtain ⟨hh, hhe⟩ : ∃ hh, a + 1 + q = hh := ⟨_, rfl⟩
        rw [hhe] at cz hqv ⊢
        have HHE := Lib.hid hhe
        clear hhe
        go_quiet ((go_at_call 52; exact cmp_qd HC.out HB.out hzN hu HCV.out _ _))
        go_wp2
        go_roundw
        case rel => exact ⟨p, q, by omega, by omega, by simp, by have := HHE.out; congr 1; omega, HN, _, (by first | rfl | exact World.drewN_drewN _ _ _)⟩
        case measure => have := HHE.out; simp [intOf]; try omega
    · have HE : Hid (p = r) := Lib.hid (by omega)
      have hd : decide (((a + 1 + p : Nat) : Int) < ((a + 1 + r : Nat) : Int)) = false := by simp; omega
      have hpv : p ≤ v := by omega
      have HW : Hid (St w0 g (P ++ (V.take 0 ++ u :: (V.drop 0 ++ Q))) (w.drewN d)) := Lib.hid (by simpa using HS.out.drewN d)
      have HFin : Hid ((V.take p ++ u :: V.drop p).Perm ([u] ++ V) ∧ Srtd K (V.take p ++ u :: V.drop p)) := Lib.hid (by
        obtain ⟨h1, h2⟩ := HPR.out
        rw [← HE.out] at h2
        exact ⟨by have := List.perm_middle (a := u) (l₁ := V.take p) (l₂ := V.drop p); rw [List.take_append_drop] at this; exact this, srtd_insert (by rw [List.take_append_drop]; exact HSr.out) h1 h2⟩)
      generalize w.drewN d = w5 at *
      go_wp2
      go_loopw [13] (fun k wr => ∃ t : Nat, t ≤ p ∧ k = .int .i64 ((a + t : Nat) : Int) ∧ St w0 g (P ++ (V.take t ++ u :: (V.drop t ++ Q))) wr) (fun k _ => a + p - (intOf k).toNat)
      case atStart => exact ⟨0, Nat.zero_le _, by simp, HW.out⟩
      case round =>
        obtain ⟨t, ht, rfl, hS⟩ := hrel
        by_cases hlt3 : t < p
        · obtain ⟨z, hz⟩ : ∃ z, V[t]? = some z := ⟨_, List.getElem?_eq_getElem (by rw [HL.out.2.1]; omega)⟩
          have hA : a + t = (P ++ V.take t).length := by have := HL.out; simp; omega
          have hX : P ++ (V.take t ++ u :: (V.drop t ++ Q)) = (P ++ V.take t) ++ u :: ([] ++ z :: (V.drop (t + 1) ++ Q)) := by rw [drop_at hz]; simp
          rw [hX] at hS
          have c0 := hS.row.get (get_mid (B := [] ++ z :: (V.drop (t + 1) ++ Q)) (x := u) hA)
          have c1 : wr.cell? ⟨g, a + t + 1, none⟩ = some (.int .i64 z) := hS.row.get (by
            rw [show (P ++ V.take t) ++ u :: ([] ++ z :: (V.drop (t + 1) ++ Q)) = ((P ++ V.take t) ++ [u]) ++ z :: (V.drop (t + 1) ++ Q) from by simp]
            exact get_mid (by rw [hA]; simp; omega))
          have f0 := hS.row.free (a + t)
          have f1 := hS.row.free (a + t + 1)
          have HN : Hid (St w0 g (P ++ (V.take (t + 1) ++ u :: (V.drop (t + 1) ++ Q))) ((wr.setCell ⟨g, a + t, none⟩ (.int .i64 z)).setCell ⟨g, a + t + 1, none⟩ (.int .i64 u))) := Lib.hid (by
            have h := (hS.set (a + t) z).set (a + t + 1) u
            rw [swap_mid hA (by rw [hA]; simp)] at h
            rw [take_at hz]
            simpa using h)
          have hat : a + t + 1 < n := by omega
          have hd2 : (a : Int) + (t : Int) < (a : Int) + 1 + (p : Int) - 1 := by omega
          clear hA hX hS hz
          go_wp2
          go_region
          all_goals
            go_wp2
            go_roundw
            case rel => exact ⟨t + 1, by omega, by first | rfl | (congr 1; omega), HN.out.drewN 1⟩
            case measure => simp [intOf]; try omega
        · have hd2 : ¬ (a : Int) + (t : Int) < (a : Int) + 1 + (p : Int) - 1 := by omega
          have HT : Hid (t = p) := Lib.hid (by omega)
          have HSt := Lib.hid hS
          clear hS
          go_wp2
          refine bodyPost_ret (results_none rfl _ _ _) rfl ⟨rfl, _, HFin.out, ?_⟩
          have h := HSt.out
          rw [HT.out] at h
          simpa using h
end Go.Proofs.YtplojnlmofbneaaDoor
