/- slices.symMergeCmpFunc. -/
import Derived.Test.YtplojnlmofbneaaDoorStabT
namespace Go.Proofs.YtplojnlmofbneaaDoor
open Go.ChangeShapes Go.WideShapes Go.ChangeAt Go.RowKit
set_option linter.unusedVariables false
set_option linter.unusedSimpArgs false
theorem sym_cross {K : Int → Int} {U V : List Int} {s T : Nat} (hU : Srtd K U) (hV : Srtd K V) (h1 : T - V.length < s → ∀ x y, U[s - 1]? = some x → V[T - s]? = some y → Rl K x y)
    (h2 : s < min U.length T → ∀ x y, U[s]? = some x → V[T - 1 - s]? = some y → Rl K y x) (hs : T - V.length ≤ s) (hs2 : s ≤ U.length) (hs3 : s ≤ T) (hT : T ≤ U.length + V.length) : ∀ x ∈ U.take s ++ V.take (T - s), ∀ y ∈ U.drop s ++ V.drop (T - s), Rl K x y := by
  intro x hx y hy
  have eU : U = U.take s ++ U.drop s := (List.take_append_drop s U).symm
  have eV : V = V.take (T - s) ++ V.drop (T - s) := (List.take_append_drop _ V).symm
  rcases List.mem_append.1 hx with hx | hx <;> rcases List.mem_append.1 hy with hy | hy
  · rw [eU] at hU; exact (srtd_append.1 hU).2.2 x hx y hy
  · have l1 := List.length_pos_of_mem hx
    have l2 := List.length_pos_of_mem hy
    rw [List.length_take] at l1
    rw [List.length_drop] at l2
    have hu : s - 1 < U.length := by omega
    have e1 : U[s - 1]? = some U[s - 1] := List.getElem?_eq_getElem hu
    have e2 : V[T - s]? = some (V[T - s]'(by omega)) := List.getElem?_eq_getElem (by omega)
    have h := h1 (by omega) _ _ e1 e2
    have hx' := take_rl hU e1 h x (by rwa [show s - 1 + 1 = s from by omega])
    exact drop_rl hV e2 hx' y hy
  · have l1 := List.length_pos_of_mem hx
    have l2 := List.length_pos_of_mem hy
    rw [List.length_take] at l1
    rw [List.length_drop] at l2
    have e1 : U[s]? = some (U[s]'(by omega)) := List.getElem?_eq_getElem (by omega)
    have e2 : V[T - 1 - s]? = some (V[T - 1 - s]'(by omega)) := List.getElem?_eq_getElem (by omega)
    have h := h2 (by omega) _ _ e1 e2
    have hx' := take_rl hV e2 h x (by rwa [show T - 1 - s + 1 = T - s from by omega])
    exact drop_rl hU e1 hx' y hy
  · rw [eV] at hV; exact (srtd_append.1 hV).2.2 x hx y hy
/-- the contract of the merge of pieces that together are no longer -/
def SymC (w0 : World) (g G n c N : Nat) (K : Int → Int) (sz : Nat) : Prop := ∀ {w : World} {P U V Q : List Int} {x m y : Int}, U.length + V.length ≤ sz → 0 < U.length → 0 < V.length → St w0 g (P ++ (U ++ (V ++ Q))) w → InN N U → InN N V → Srtd K U → Srtd K V → FB U V → n = (P ++ (U ++ (V ++ Q))).length →
    x = (P.length : Int) → m = (P.length : Int) + U.length → y = (P.length : Int) + U.length + V.length →
    Calls Tryd.prog 73 #[.slice (some ⟨g, 0, none⟩) n c, .int .i64 x, .int .i64 m, .int .i64 y, cmpV G] w (SymPost w0 g K P U V Q)
set_option maxRecDepth 100000 in
set_option maxHeartbeats 16000000 in
theorem sym_step {w0 w : World} {g G n c N sz : Nat} {K : Int → Int} (ih : SymC w0 g G n c N K sz) {P U V Q : List Int} {x m y : Int} (h : St w0 g (P ++ (U ++ (V ++ Q))) w) (hC : CmpC w0 g G N K) (hU : InN N U) (hV : InN N V) (hsU : Srtd K U) (hsV : Srtd K V) (hF : FB U V) (hu2 : 2 ≤ U.length) (hv2 : 2 ≤ V.length) (hsz : U.length + V.length ≤ sz + 1) (hn : n = (P ++ (U ++ (V ++ Q))).length) (h63 : n ≤ 1000)
    (hx : x = (P.length : Int)) (hm : m = (P.length : Int) + U.length) (hy : y = (P.length : Int) + U.length + V.length) :
    Calls Tryd.prog 73 #[.slice (some ⟨g, 0, none⟩) n c, .int .i64 x, .int .i64 m, .int .i64 y, cmpV G] w (SymPost w0 g K P U V Q) := by
  obtain ⟨a, ha⟩ : ∃ a, P.length = a := ⟨_, rfl⟩
  obtain ⟨u, hu⟩ : ∃ i, U.length = i := ⟨_, rfl⟩
  obtain ⟨v, hv⟩ : ∃ i, V.length = i := ⟨_, rfl⟩
  obtain ⟨q0, hq0⟩ : ∃ j, Q.length = j := ⟨_, rfl⟩
  have hnn : n = a + u + v + q0 := by rw [hn]; simp; omega
  have HL := Lib.hid (And.intro ha (And.intro hu (And.intro hv (And.intro hq0 hnn))))
  rw [hu] at hu2 hsz; rw [hv] at hv2 hsz
  rw [ha] at hx; rw [ha, hu] at hm; rw [ha, hu, hv] at hy
  have hau : a + u + v ≤ n := by omega
  have HS := Lib.hid h
  have HC := Lib.hid hC
  have HU := Lib.hid hU
  have HV := Lib.hid hV
  have HSU := Lib.hid hsU
  have HSV := Lib.hid hsV
  have HF := Lib.hid hF
  have HIH : Hid (SymC w0 g G n c N K sz) := Lib.hid (p := SymC w0 g G n c N K sz) @ih
  have hx' : x = (a : Int) := hx
  have hm' : m = ((a + u : Nat) : Int) := by omega
  have hy' : y = ((a + u + v : Nat) : Int) := by omega
  subst hx'
  rw [hm', hy']
  obtain ⟨M, hM⟩ : ∃ M, a + u = M := ⟨_, rfl⟩
  obtain ⟨Y, hY⟩ : ∃ Y, a + u + v = Y := ⟨_, rfl⟩
  obtain ⟨T, hT⟩ : ∃ T, (u + v) / 2 = T := ⟨_, rfl⟩
  rw [hY, hM]
  have HMY := Lib.hid (And.intro hM (And.intro hY hT))
  have t0 : ((M : Int) - (a : Int) == 1) = false := by rw [beq_eq_false_iff_ne]; omega
  have t1 : ((Y : Int) - (M : Int) == 1) = false := by rw [beq_eq_false_iff_ne]; omega
  have b1 : a + 2 ≤ M := by omega
  have b2 : M + 2 ≤ Y := by omega
  have b3 : Y ≤ n := by omega
  have hmid : ((a : Int) + (Y : Int)) / 2 = ((a + T : Nat) : Int) := by omega
  have HMid := Lib.hid hmid
  clear h hn hy hm ha hu hv hq0 hnn hC hU hV hsU hsV hF ih hx hm' hy' hM hY hT hmid
  go_enter Tryd.func73, Tryd.ntmps73
  go_upto_if 140 with (fail)
  rw [HMid.out]
  obtain ⟨D, hD⟩ : ∃ D, a + T = D := ⟨_, rfl⟩
  rw [hD]
  have HD := Lib.hid hD
  clear hD HMid
  have bT : a ≤ D ∧ D ≤ Y := by have := HMY.out; have := HD.out; omega
  obtain ⟨bT1, bT2⟩ := bT
  obtain ⟨lo, hlo⟩ : ∃ lo, a + (T - v) = lo := ⟨_, rfl⟩
  obtain ⟨hi, hhi⟩ : ∃ hi, a + min u T = hi := ⟨_, rfl⟩
  have HLH := Lib.hid (And.intro hlo hhi)
  go_cut [20, 21] (fun s r wx => s = .int .i64 (lo : Int) ∧ r = .int .i64 (hi : Int) ∧ wx = w)
  case first =>
    by_cases hc : D < M
    · have e1 : (D : Int) + (M : Int) - (Y : Int) = (lo : Int) := by have := HMY.out; have := HD.out; omega
      have e2 : D = hi := by have := HMY.out; have := HD.out; omega
      have E1 := Lib.hid e1
      have E2 := Lib.hid e2
      clear e1 e2 hlo hhi
      go_wp2
      go_meet
      exact ⟨by rw [← E1.out], by rw [← E2.out], rfl⟩
    · have e1 : a = lo := by have := HMY.out; have := HD.out; omega
      have e2 : M = hi := by have := HMY.out; have := HD.out; omega
      have E1 := Lib.hid e1
      have E2 := Lib.hid e2
      clear e1 e2 hlo hhi
      go_wp2
      go_meet
      exact ⟨by rw [← E1.out], by rw [← E2.out], rfl⟩
  case rest =>
    obtain ⟨rfl, rfl, rfl⟩ := hcut
    have l1 : lo ≤ hi := by have := HMY.out; omega
    have l2 : a ≤ lo := by omega
    have l3 : hi ≤ M := by have := HMY.out; omega
    have l4 : hi ≤ D := by have := HMY.out; have := HD.out; omega
    have l5 : M + D ≤ Y + lo := by have := HMY.out; have := HD.out; omega
    clear hlo hhi
    go_wp2
    go_loopw [20, 21] (fun s r wr => ∃ i j : Nat, lo ≤ i ∧ i ≤ j ∧ j ≤ hi ∧ s = .int .i64 (i : Int) ∧ r = .int .i64 (j : Int) ∧ Hid ((lo < i → ∀ x y, U[i - 1 - a]? = some x → V[D - i]? = some y → Rl K x y) ∧ (j < hi → ∀ x y, U[j - a]? = some x → V[D - 1 - j]? = some y → Rl K y x)) ∧ ∃ d, wr = wc.drewN d) (fun s r _ => (intOf r).toNat - (intOf s).toNat)
    case atStart => exact ⟨lo, hi, Nat.le_refl _, l1, Nat.le_refl _, rfl, rfl, Lib.hid ⟨fun h => absurd h (Nat.lt_irrefl _), fun h => absurd h (Nat.lt_irrefl _)⟩, 0, rfl⟩
    case round =>
      obtain ⟨i, j, hli, hij, hjh, rfl, rfl, HIJ, d, rfl⟩ := hrel
      by_cases hlt : i < j
      · obtain ⟨q, hq⟩ : ∃ q, (i + j) / 2 = q := ⟨_, rfl⟩
        have hq1 : i ≤ q := by omega
        have hq2 : q < j := by omega
        have hqm : ((i : Int) + (j : Int)) / 2 = (q : Int) := by omega
        obtain ⟨e, he⟩ : ∃ e, M + (D - 1 - q) = e := ⟨_, rfl⟩
        have hev : D - 1 - q < v := by have := HMY.out; omega
        obtain ⟨z, hz⟩ : ∃ z, U[q - a]? = some z := ⟨_, List.getElem?_eq_getElem (by rw [HL.out.2.1]; have := HMY.out; omega)⟩
        obtain ⟨z', hz'⟩ : ∃ z, V[D - 1 - q]? = some z := ⟨_, List.getElem?_eq_getElem (by rw [HL.out.2.2.1]; exact hev)⟩
        have hzN := HU.out z (List.mem_of_getElem? hz)
        have hzN' := HV.out z' (List.mem_of_getElem? hz')
        have hzF := HF.out z (List.mem_of_getElem? hz) z' (List.mem_of_getElem? hz')
        have HZ := Lib.hid (And.intro hz hz')
        have cz : wc.cell? ⟨g, q, none⟩ = some (.int .i64 z) := HS.out.row.get (by
          have hV : U = U.take (q - a) ++ z :: U.drop (q - a + 1) := by rw [← drop_at HZ.out.1, List.take_append_drop]
          have e : P ++ (U ++ (V ++ Q)) = (P ++ U.take (q - a)) ++ z :: (U.drop (q - a + 1) ++ (V ++ Q)) := by
            conv => lhs; rw [hV]
            simp
          rw [e]; exact get_mid (by have := HL.out; have := HMY.out; simp; omega))
        have cz' : wc.cell? ⟨g, e, none⟩ = some (.int .i64 z') := HS.out.row.get (by
          have hV : V = V.take (D - 1 - q) ++ z' :: V.drop (D - 1 - q + 1) := by rw [← drop_at HZ.out.2, List.take_append_drop]
          have e : P ++ (U ++ (V ++ Q)) = (P ++ U ++ V.take (D - 1 - q)) ++ z' :: (V.drop (D - 1 - q + 1) ++ Q) := by
            conv => lhs; rw [hV]
            simp
          rw [e]; exact get_mid (by have := HL.out; have := HMY.out; simp; omega))
        have hen : e < n := by have := HMY.out; omega
        have hqn : q < n := by omega
        have w1 : IntKind.i64.wrap ((D : Int) + (M : Int) - 1 - (q : Int)) = (e : Int) := by rw [show (D : Int) + (M : Int) - 1 - (q : Int) = (e : Int) from by omega]; exact IntWalk.i64_in _ ⟨by omega, by omega⟩
        have w2 : (D : Int) + (M : Int) - 1 - (q : Int) = (e : Int) := by omega
        have W2 := Lib.hid w2
        have HB := Lib.hid HS.out.bel
        have HQM := Lib.hid hqm
        obtain ⟨cv, hcv⟩ : ∃ cv, cmpK (K z') (K z) = cv := ⟨_, rfl⟩
        have HCV := Lib.hid hcv
        have i0 : (0 : Int) ≤ (e : Int) := by omega
        have i1 : (e : Int) < (n : Int) := by omega
        have i2 : (q : Int) < (n : Int) := by omega
        by_cases hlt2 : K z' < K z
        · have hneg2 : (!decide (cv < 0)) = false := by have := cmpK_neg hlt2; simp; omega
          have HN : Hid ((lo < i → ∀ x y, U[i - 1 - a]? = some x → V[D - i]? = some y → Rl K x y) ∧ (q < hi → ∀ x y, U[q - a]? = some x → V[D - 1 - q]? = some y → Rl K y x)) := Lib.hid ⟨HIJ.out.1, fun _ x y hx hy => by
            rw [HZ.out.1] at hx; rw [HZ.out.2] at hy
            simp only [Option.some.injEq] at hx hy
            subst hx; subst hy; exact Rl.of_lt hlt2⟩
          clear hq hqm he hz hz' hcv hlt2 w2
          go_wp2
          rw [HQM.out]
          go_quiet ((go_at_call 52; exact cmp_qd HC.out HB.out hzN' hzN HCV.out _ _))
          go_wp2
          go_roundw
          case rel => exact ⟨i, q, by omega, by omega, by omega, rfl, rfl, HN, _, (by first | rfl | exact World.drewN_drewN _ _ _)⟩
          case measure => simp [intOf]; try omega
        · have hneg2 : (!decide (cv < 0)) = true := by have := cmpK_not hlt2; simp; omega
          have HN : Hid ((lo < q + 1 → ∀ x y, U[q + 1 - 1 - a]? = some x → V[D - (q + 1)]? = some y → Rl K x y) ∧ (j < hi → ∀ x y, U[j - a]? = some x → V[D - 1 - j]? = some y → Rl K y x)) := Lib.hid ⟨fun _ x y hx hy => by
            rw [Nat.add_sub_cancel, HZ.out.1] at hx
            rw [show D - (q + 1) = D - 1 - q from by omega, HZ.out.2] at hy
            simp only [Option.some.injEq] at hx hy
            subst hx; subst hy; exact Rl.of_not hlt2 hzF, HIJ.out.2⟩
          clear hq hqm he hz hz' hcv hlt2 w2
          go_wp2
          rw [HQM.out]
          go_quiet ((go_at_call 52; exact cmp_qd HC.out HB.out hzN' hzN HCV.out _ _))
          go_wp2
          go_roundw
          case rel => exact ⟨q + 1, j, by omega, by omega, by omega, by go_num, rfl, HN, _, (by first | rfl | exact World.drewN_drewN _ _ _)⟩
          case measure => simp [intOf]; try omega
      · have HE : Hid (i = j) := Lib.hid (by omega)
        have hd : decide ((i : Int) < (j : Int)) = false := by simp; omega
        have hMD : M + (D - i) ≤ Y := by have := HMY.out; omega
        obtain ⟨U1, hU1⟩ : ∃ X, U.take (i - a) = X := ⟨_, rfl⟩
        obtain ⟨U2, hU2⟩ : ∃ X, U.drop (i - a) = X := ⟨_, rfl⟩
        obtain ⟨V1, hV1⟩ : ∃ X, V.take (D - i) = X := ⟨_, rfl⟩
        obtain ⟨V2, hV2⟩ : ∃ X, V.drop (D - i) = X := ⟨_, rfl⟩
        have HUV : Hid (U = U1 ++ U2 ∧ V = V1 ++ V2) := Lib.hid ⟨by rw [← hU1, ← hU2, List.take_append_drop], by rw [← hV1, ← hV2, List.take_append_drop]⟩
        have HLen : Hid (U1.length = i - a ∧ U2.length = M - i ∧ V1.length = D - i ∧ V2.length = Y - M - (D - i)) := Lib.hid (by
          obtain ⟨h1, h2, h3, h4, h5⟩ := HL.out
          obtain ⟨k1, k2, k3⟩ := HMY.out
          refine ⟨?_, ?_, ?_, ?_⟩
          · rw [← hU1, List.length_take]; omega
          · rw [← hU2, List.length_drop]; omega
          · rw [← hV1, List.length_take]; omega
          · rw [← hV2, List.length_drop]; omega)
        have HCr : Hid (∀ x ∈ U1 ++ V1, ∀ y ∈ U2 ++ V2, Rl K x y) := Lib.hid (by
          obtain ⟨h1, h2, h3, h4, h5⟩ := HL.out
          obtain ⟨k1, k2, k3⟩ := HMY.out
          have k4 := HD.out
          obtain ⟨k5, k6⟩ := HLH.out
          obtain ⟨p1, p2⟩ := HIJ.out
          have he := HE.out
          rw [← hU1, ← hU2, ← hV1, ← hV2]
          have hc := sym_cross (s := i - a) (T := T) HSU.out HSV.out (fun hh x y hx hy => p1 (by omega) x y (by rw [show i - 1 - a = i - a - 1 from by omega]; exact hx) (by rw [show D - i = T - (i - a) from by omega]; exact hy))
            (fun hh x y hx hy => p2 (by omega) x y (by rw [← he]; exact hx) (by rw [← he, show D - 1 - i = T - 1 - (i - a) from by omega]; exact hy)) (by omega) (by omega) (by omega) (by omega)
          rwa [show T - (i - a) = D - i from by omega] at hc)
        have HS0 : Hid (St w0 g (P ++ (U1 ++ (U2 ++ (V1 ++ (V2 ++ Q))))) (wc.drewN d)) := Lib.hid (by
          have h := HS.out.drewN d
          rw [HUV.out.1, HUV.out.2] at h
          simpa using h)
        have HLn : Hid (∀ X : List Int, X.length = u + v → n = (P ++ (X ++ Q)).length) := Lib.hid (fun X hX => by
          obtain ⟨h1, h2, h3, h4, h5⟩ := HL.out
          simp [hX]; omega)
        have HROT : Hid (∀ (w : World) (x y z : Int), St w0 g (P ++ (U1 ++ (U2 ++ (V1 ++ (V2 ++ Q))))) w → i < M → i < D → x = (i : Int) → y = (M : Int) → z = (D : Int) + M - i → Calls Tryd.prog 86 #[.slice (some ⟨g, 0, none⟩) n c, .int .i64 x, .int .i64 y, .int .i64 z, cmpV G] w fun e w' => e = .returned (.tuple #[]) ∧ St w0 g (P ++ (U1 ++ (V1 ++ (U2 ++ (V2 ++ Q))))) w') := Lib.hid (fun w x y z hS h1 h2 hx hy hz => by
          obtain ⟨q1, q2, q3, q4⟩ := HLen.out
          have hp := HL.out.1
          have hh := (rotate_any (P := P ++ U1) (U := U2) (V := V1) (Q := V2 ++ Q) (n := n) (c := c) (cv := cmpV G) (x := x) (y := y) (z := z) (by simpa using hS) (by omega) (by omega) (by have := HLn.out (U1 ++ (U2 ++ (V1 ++ V2))) (by simp; have := HMY.out; omega); simpa using this) h63 (by rw [hx]; simp; omega) (by rw [hy]; simp; omega) (by rw [hz]; simp; omega))
          exact hh.mono fun e w' hh => ⟨hh.1, by simpa using hh.2⟩)
        have HM1 : Hid (∀ (w : World) (x m y : Int), St w0 g (P ++ (U1 ++ (V1 ++ (U2 ++ (V2 ++ Q))))) w → a < i → i < D → x = (a : Int) → m = (i : Int) → y = (D : Int) → Calls Tryd.prog 73 #[.slice (some ⟨g, 0, none⟩) n c, .int .i64 x, .int .i64 m, .int .i64 y, cmpV G] w fun e w' => e = .returned (.tuple #[]) ∧ ∃ W, (W.Perm (U1 ++ V1) ∧ Srtd K W) ∧ St w0 g (P ++ (W ++ (U2 ++ (V2 ++ Q)))) w') := Lib.hid (fun w x m y hS h1 h2 hx hm hy => by
          obtain ⟨q1, q2, q3, q4⟩ := HLen.out
          have hp := HL.out.1
          obtain ⟨k1, k2, k3⟩ := HMY.out
          have k4 := HD.out
          have sU := HSU.out; have sV := HSV.out; have nU := HU.out; have nV := HV.out; have fb := HF.out
          rw [HUV.out.1] at sU nU fb
          rw [HUV.out.2] at sV nV fb
          exact HIH.out (P := P) (U := U1) (V := V1) (Q := U2 ++ (V2 ++ Q)) (by omega) (by omega) (by omega) hS (fun z hz => nU z (by simp [hz])) (fun z hz => nV z (by simp [hz])) (srtd_append.1 sU).1 (srtd_append.1 sV).1 (fb.sub (fun z hz => by simp [hz]) (fun z hz => by simp [hz]))
            (by have := HLn.out (U1 ++ (V1 ++ (U2 ++ V2))) (by simp; omega); simpa using this) (by rw [hx, hp]) (by rw [hm, hp]; omega) (by rw [hy, hp]; omega))
        have HM2 : Hid (∀ (W1 : List Int) (w : World) (x m y : Int), W1.length = D - a → St w0 g (P ++ (W1 ++ (U2 ++ (V2 ++ Q)))) w → i < M → M + (D - i) < Y → x = (D : Int) → m = (D : Int) + M - i → y = (Y : Int) → Calls Tryd.prog 73 #[.slice (some ⟨g, 0, none⟩) n c, .int .i64 x, .int .i64 m, .int .i64 y, cmpV G] w fun e w' => e = .returned (.tuple #[]) ∧ ∃ W, (W.Perm (U2 ++ V2) ∧ Srtd K W) ∧ St w0 g (P ++ (W1 ++ (W ++ Q))) w') := Lib.hid (fun W1 w x m y hW hS h1 h2 hx hm hy => by
          obtain ⟨q1, q2, q3, q4⟩ := HLen.out
          have hp := HL.out.1
          obtain ⟨k1, k2, k3⟩ := HMY.out
          have k4 := HD.out
          have sU := HSU.out; have sV := HSV.out; have nU := HU.out; have nV := HV.out; have fb := HF.out
          rw [HUV.out.1] at sU nU fb
          rw [HUV.out.2] at sV nV fb
          have hh := HIH.out (P := P ++ W1) (U := U2) (V := V2) (Q := Q) (w := w) (x := x) (m := m) (y := y) (by omega) (by omega) (by omega) (by simpa using hS) (fun z hz => nU z (by simp [hz])) (fun z hz => nV z (by simp [hz])) (srtd_append.1 sU).2.1 (srtd_append.1 sV).2.1 (fb.sub (fun z hz => by simp [hz]) (fun z hz => by simp [hz]))
            (by have := HLn.out (W1 ++ (U2 ++ V2)) (by simp; omega); simpa using this) (by rw [hx]; simp; omega) (by rw [hm]; simp; omega) (by rw [hy]; simp; omega)
          exact hh.mono fun e w' hh => ⟨hh.1, by obtain ⟨W, h1, h2⟩ := hh.2; exact ⟨W, h1, by simpa using h2⟩⟩)
        -- the pieces where nothing is merged
        have HN1 : Hid (¬ (a < i ∧ i < D) → Srtd K (U1 ++ V1)) := Lib.hid (fun hno => by
          obtain ⟨q1, q2, q3, q4⟩ := HLen.out
          have sU := HSU.out; have sV := HSV.out
          rw [HUV.out.1] at sU; rw [HUV.out.2] at sV
          rcases Nat.lt_or_ge a i with h1 | h1
          · have e : V1 = [] := List.eq_nil_of_length_eq_zero (by omega)
            rw [e, List.append_nil]; exact (srtd_append.1 sU).1
          · have e : U1 = [] := List.eq_nil_of_length_eq_zero (by omega)
            rw [e, List.nil_append]; exact (srtd_append.1 sV).1)
        have HN2 : Hid (¬ (i < M ∧ M + (D - i) < Y) → Srtd K (U2 ++ V2)) := Lib.hid (fun hno => by
          obtain ⟨q1, q2, q3, q4⟩ := HLen.out
          have sU := HSU.out; have sV := HSV.out
          rw [HUV.out.1] at sU; rw [HUV.out.2] at sV
          rcases Nat.lt_or_ge i M with h1 | h1
          · have e : V2 = [] := List.eq_nil_of_length_eq_zero (by omega)
            rw [e, List.append_nil]; exact (srtd_append.1 sU).2.1
          · have e : U2 = [] := List.eq_nil_of_length_eq_zero (by omega)
            rw [e, List.nil_append]; exact (srtd_append.1 sV).2.1)
        have HN0 : Hid (¬ (i < M ∧ i < D) → St w0 g (P ++ (U1 ++ (V1 ++ (U2 ++ (V2 ++ Q))))) (wc.drewN d)) := Lib.hid (fun hno => by
          obtain ⟨q1, q2, q3, q4⟩ := HLen.out
          have h := HS0.out
          rcases Nat.lt_or_ge i M with h1 | h1
          · have e : V1 = [] := List.eq_nil_of_length_eq_zero (by omega)
            rw [e] at h ⊢; simpa using h
          · have e : U2 = [] := List.eq_nil_of_length_eq_zero (by omega)
            rw [e] at h ⊢; simpa using h)
        have HFin : Hid (∀ (W1 W2 : List Int) (w : World), (W1.Perm (U1 ++ V1) ∧ Srtd K W1) → (W2.Perm (U2 ++ V2) ∧ Srtd K W2) → St w0 g (P ++ (W1 ++ (W2 ++ Q))) w → ∃ W, (W.Perm (U ++ V) ∧ Srtd K W) ∧ St w0 g (P ++ (W ++ Q)) w) := Lib.hid (fun W1 W2 w h1 h2 hS => by
          refine ⟨W1 ++ W2, ⟨?_, srtd_append.2 ⟨h1.2, h2.2, fun x hx y hy => HCr.out x (h1.1.mem_iff.1 hx) y (h2.1.mem_iff.1 hy)⟩⟩, by simpa using hS⟩
          rw [HUV.out.1, HUV.out.2]
          refine (h1.1.append h2.1).trans ?_
          have : ((U1 ++ V1) ++ (U2 ++ V2)).Perm ((U1 ++ U2) ++ (V1 ++ V2)) := by
            rw [List.append_assoc, List.append_assoc]
            refine List.Perm.append_left _ ?_
            rw [← List.append_assoc, ← List.append_assoc]
            exact List.Perm.append_right _ List.perm_append_comm
          exact this)
        have HWL : Hid (∀ W : List Int, W.Perm (U1 ++ V1) → W.length = D - a) := Lib.hid (fun W hW => by
          obtain ⟨q1, q2, q3, q4⟩ := HLen.out
          have := hW.length_eq
          simp at this; omega)
        generalize wc.drewN d = w5 at *
        clear hU1 hU2 hV1 hV2 hMD HIJ HE
        by_cases c1 : a < i
        · by_cases c2 : i < D
          · by_cases c3 : i < M
            · by_cases c4 : M + (D - i) < Y
              · go_wp2_with fail
                (with_reducible refine (HROT.out _ _ _ _ HS0.out (by omega) (by omega) (by omega) (by omega) (by omega)).mono ?_)
                rintro e w6 ⟨rfl, hS1⟩
                have HS1 := Lib.hid hS1
                clear hS1
                go_wp2_with fail
                (with_reducible refine (HM1.out _ _ _ _ HS1.out (by omega) (by omega) (by omega) (by omega) (by omega)).mono ?_)
                rintro e w7 ⟨rfl, W1, hW1, hS2⟩
                have HS2 := Lib.hid hS2
                have HW1 := Lib.hid hW1
                clear hS2 hW1
                go_wp2_with fail
                (with_reducible refine (HM2.out W1 _ _ _ _ (HWL.out _ HW1.out.1) HS2.out (by omega) (by omega) (by omega) (by omega) (by omega)).mono ?_)
                rintro e w8 ⟨rfl, W2, hW2, hS3⟩
                have HS3 := Lib.hid (HFin.out W1 W2 _ HW1.out hW2 hS3)
                clear hS3 hW2
                go_wp2_with fail
                all_goals (go_end0; exact ⟨rfl, HS3.out⟩)
              · go_wp2_with fail
                (with_reducible refine (HROT.out _ _ _ _ HS0.out (by omega) (by omega) (by omega) (by omega) (by omega)).mono ?_)
                rintro e w6 ⟨rfl, hS1⟩
                have HS1 := Lib.hid hS1
                clear hS1
                go_wp2_with fail
                (with_reducible refine (HM1.out _ _ _ _ HS1.out (by omega) (by omega) (by omega) (by omega) (by omega)).mono ?_)
                rintro e w7 ⟨rfl, W1, hW1, hS2⟩
                have HS2 := Lib.hid hS2
                have HW1 := Lib.hid hW1
                clear hS2 hW1
                have HS3 := Lib.hid (HFin.out W1 (U2 ++ V2) _ HW1.out ⟨List.Perm.refl _, HN2.out (by omega)⟩ (by simpa using HS2.out))
                go_wp2_with fail
                all_goals (go_end0; exact ⟨rfl, HS3.out⟩)
            · by_cases c4 : M + (D - i) < Y
              · have HS1 := Lib.hid (HN0.out (by omega))
                go_wp2_with fail
                (with_reducible refine (HM1.out _ _ _ _ HS1.out (by omega) (by omega) (by omega) (by omega) (by omega)).mono ?_)
                rintro e w7 ⟨rfl, W1, hW1, hS2⟩
                have HS2 := Lib.hid hS2
                have HW1 := Lib.hid hW1
                clear hS2 hW1
                have HS3 := Lib.hid (HFin.out W1 (U2 ++ V2) _ HW1.out ⟨List.Perm.refl _, HN2.out (by omega)⟩ (by simpa using HS2.out))
                go_wp2_with fail
                all_goals (go_end0; exact ⟨rfl, HS3.out⟩)
              · have HS1 := Lib.hid (HN0.out (by omega))
                go_wp2_with fail
                (with_reducible refine (HM1.out _ _ _ _ HS1.out (by omega) (by omega) (by omega) (by omega) (by omega)).mono ?_)
                rintro e w7 ⟨rfl, W1, hW1, hS2⟩
                have HS2 := Lib.hid hS2
                have HW1 := Lib.hid hW1
                clear hS2 hW1
                have HS3 := Lib.hid (HFin.out W1 (U2 ++ V2) _ HW1.out ⟨List.Perm.refl _, HN2.out (by omega)⟩ (by simpa using HS2.out))
                go_wp2_with fail
                all_goals (go_end0; exact ⟨rfl, HS3.out⟩)
          · by_cases c3 : i < M
            · by_cases c4 : M + (D - i) < Y
              · have HS1 := Lib.hid (HN0.out (by omega))
                obtain ⟨W1, hW1⟩ : ∃ W, W = U1 ++ V1 := ⟨_, rfl⟩
                have HW1 : Hid (W1.Perm (U1 ++ V1) ∧ Srtd K W1) := Lib.hid ⟨by rw [hW1], by rw [hW1]; exact HN1.out (by omega)⟩
                have HS2 : Hid (St w0 g (P ++ (W1 ++ (U2 ++ (V2 ++ Q)))) _) := Lib.hid (by rw [hW1]; simpa using HS1.out)
                clear hW1
                go_wp2_with fail
                (with_reducible refine (HM2.out W1 _ _ _ _ (HWL.out _ HW1.out.1) HS2.out (by omega) (by omega) (by omega) (by omega) (by omega)).mono ?_)
                rintro e w8 ⟨rfl, W2, hW2, hS3⟩
                have HS3 := Lib.hid (HFin.out W1 W2 _ HW1.out hW2 hS3)
                clear hS3 hW2
                go_wp2_with fail
                all_goals (go_end0; exact ⟨rfl, HS3.out⟩)
              · have HS1 := Lib.hid (HN0.out (by omega))
                obtain ⟨W1, hW1⟩ : ∃ W, W = U1 ++ V1 := ⟨_, rfl⟩
                have HW1 : Hid (W1.Perm (U1 ++ V1) ∧ Srtd K W1) := Lib.hid ⟨by rw [hW1], by rw [hW1]; exact HN1.out (by omega)⟩
                have HS2 : Hid (St w0 g (P ++ (W1 ++ (U2 ++ (V2 ++ Q)))) _) := Lib.hid (by rw [hW1]; simpa using HS1.out)
                clear hW1
                have HS3 := Lib.hid (HFin.out W1 (U2 ++ V2) _ HW1.out ⟨List.Perm.refl _, HN2.out (by omega)⟩ (by simpa using HS2.out))
                go_wp2_with fail
                all_goals (go_end0; exact ⟨rfl, HS3.out⟩)
            · by_cases c4 : M + (D - i) < Y
              · have HS1 := Lib.hid (HN0.out (by omega))
                obtain ⟨W1, hW1⟩ : ∃ W, W = U1 ++ V1 := ⟨_, rfl⟩
                have HW1 : Hid (W1.Perm (U1 ++ V1) ∧ Srtd K W1) := Lib.hid ⟨by rw [hW1], by rw [hW1]; exact HN1.out (by omega)⟩
                have HS2 : Hid (St w0 g (P ++ (W1 ++ (U2 ++ (V2 ++ Q)))) _) := Lib.hid (by rw [hW1]; simpa using HS1.out)
                clear hW1
                have HS3 := Lib.hid (HFin.out W1 (U2 ++ V2) _ HW1.out ⟨List.Perm.refl _, HN2.out (by omega)⟩ (by simpa using HS2.out))
                go_wp2_with fail
                all_goals (go_end0; exact ⟨rfl, HS3.out⟩)
              · have HS1 := Lib.hid (HN0.out (by omega))
                obtain ⟨W1, hW1⟩ : ∃ W, W = U1 ++ V1 := ⟨_, rfl⟩
                have HW1 : Hid (W1.Perm (U1 ++ V1) ∧ Srtd K W1) := Lib.hid ⟨by rw [hW1], by rw [hW1]; exact HN1.out (by omega)⟩
                have HS2 : Hid (St w0 g (P ++ (W1 ++ (U2 ++ (V2 ++ Q)))) _) := Lib.hid (by rw [hW1]; simpa using HS1.out)
                clear hW1
                have HS3 := Lib.hid (HFin.out W1 (U2 ++ V2) _ HW1.out ⟨List.Perm.refl _, HN2.out (by omega)⟩ (by simpa using HS2.out))
                go_wp2_with fail
                all_goals (go_end0; exact ⟨rfl, HS3.out⟩)
        · by_cases c2 : i < D
          · by_cases c3 : i < M
            · by_cases c4 : M + (D - i) < Y
              · go_wp2_with fail
                (with_reducible refine (HROT.out _ _ _ _ HS0.out (by omega) (by omega) (by omega) (by omega) (by omega)).mono ?_)
                rintro e w6 ⟨rfl, hS1⟩
                have HS1 := Lib.hid hS1
                clear hS1
                obtain ⟨W1, hW1⟩ : ∃ W, W = U1 ++ V1 := ⟨_, rfl⟩
                have HW1 : Hid (W1.Perm (U1 ++ V1) ∧ Srtd K W1) := Lib.hid ⟨by rw [hW1], by rw [hW1]; exact HN1.out (by omega)⟩
                have HS2 : Hid (St w0 g (P ++ (W1 ++ (U2 ++ (V2 ++ Q)))) _) := Lib.hid (by rw [hW1]; simpa using HS1.out)
                clear hW1
                go_wp2_with fail
                (with_reducible refine (HM2.out W1 _ _ _ _ (HWL.out _ HW1.out.1) HS2.out (by omega) (by omega) (by omega) (by omega) (by omega)).mono ?_)
                rintro e w8 ⟨rfl, W2, hW2, hS3⟩
                have HS3 := Lib.hid (HFin.out W1 W2 _ HW1.out hW2 hS3)
                clear hS3 hW2
                go_wp2_with fail
                all_goals (go_end0; exact ⟨rfl, HS3.out⟩)
              · go_wp2_with fail
                (with_reducible refine (HROT.out _ _ _ _ HS0.out (by omega) (by omega) (by omega) (by omega) (by omega)).mono ?_)
                rintro e w6 ⟨rfl, hS1⟩
                have HS1 := Lib.hid hS1
                clear hS1
                obtain ⟨W1, hW1⟩ : ∃ W, W = U1 ++ V1 := ⟨_, rfl⟩
                have HW1 : Hid (W1.Perm (U1 ++ V1) ∧ Srtd K W1) := Lib.hid ⟨by rw [hW1], by rw [hW1]; exact HN1.out (by omega)⟩
                have HS2 : Hid (St w0 g (P ++ (W1 ++ (U2 ++ (V2 ++ Q)))) _) := Lib.hid (by rw [hW1]; simpa using HS1.out)
                clear hW1
                have HS3 := Lib.hid (HFin.out W1 (U2 ++ V2) _ HW1.out ⟨List.Perm.refl _, HN2.out (by omega)⟩ (by simpa using HS2.out))
                go_wp2_with fail
                all_goals (go_end0; exact ⟨rfl, HS3.out⟩)
            · by_cases c4 : M + (D - i) < Y
              · have HS1 := Lib.hid (HN0.out (by omega))
                obtain ⟨W1, hW1⟩ : ∃ W, W = U1 ++ V1 := ⟨_, rfl⟩
                have HW1 : Hid (W1.Perm (U1 ++ V1) ∧ Srtd K W1) := Lib.hid ⟨by rw [hW1], by rw [hW1]; exact HN1.out (by omega)⟩
                have HS2 : Hid (St w0 g (P ++ (W1 ++ (U2 ++ (V2 ++ Q)))) _) := Lib.hid (by rw [hW1]; simpa using HS1.out)
                clear hW1
                have HS3 := Lib.hid (HFin.out W1 (U2 ++ V2) _ HW1.out ⟨List.Perm.refl _, HN2.out (by omega)⟩ (by simpa using HS2.out))
                go_wp2_with fail
                all_goals (go_end0; exact ⟨rfl, HS3.out⟩)
              · have HS1 := Lib.hid (HN0.out (by omega))
                obtain ⟨W1, hW1⟩ : ∃ W, W = U1 ++ V1 := ⟨_, rfl⟩
                have HW1 : Hid (W1.Perm (U1 ++ V1) ∧ Srtd K W1) := Lib.hid ⟨by rw [hW1], by rw [hW1]; exact HN1.out (by omega)⟩
                have HS2 : Hid (St w0 g (P ++ (W1 ++ (U2 ++ (V2 ++ Q)))) _) := Lib.hid (by rw [hW1]; simpa using HS1.out)
                clear hW1
                have HS3 := Lib.hid (HFin.out W1 (U2 ++ V2) _ HW1.out ⟨List.Perm.refl _, HN2.out (by omega)⟩ (by simpa using HS2.out))
                go_wp2_with fail
                all_goals (go_end0; exact ⟨rfl, HS3.out⟩)
          · by_cases c3 : i < M
            · by_cases c4 : M + (D - i) < Y
              · have HS1 := Lib.hid (HN0.out (by omega))
                obtain ⟨W1, hW1⟩ : ∃ W, W = U1 ++ V1 := ⟨_, rfl⟩
                have HW1 : Hid (W1.Perm (U1 ++ V1) ∧ Srtd K W1) := Lib.hid ⟨by rw [hW1], by rw [hW1]; exact HN1.out (by omega)⟩
                have HS2 : Hid (St w0 g (P ++ (W1 ++ (U2 ++ (V2 ++ Q)))) _) := Lib.hid (by rw [hW1]; simpa using HS1.out)
                clear hW1
                go_wp2_with fail
                (with_reducible refine (HM2.out W1 _ _ _ _ (HWL.out _ HW1.out.1) HS2.out (by omega) (by omega) (by omega) (by omega) (by omega)).mono ?_)
                rintro e w8 ⟨rfl, W2, hW2, hS3⟩
                have HS3 := Lib.hid (HFin.out W1 W2 _ HW1.out hW2 hS3)
                clear hS3 hW2
                go_wp2_with fail
                all_goals (go_end0; exact ⟨rfl, HS3.out⟩)
              · have HS1 := Lib.hid (HN0.out (by omega))
                obtain ⟨W1, hW1⟩ : ∃ W, W = U1 ++ V1 := ⟨_, rfl⟩
                have HW1 : Hid (W1.Perm (U1 ++ V1) ∧ Srtd K W1) := Lib.hid ⟨by rw [hW1], by rw [hW1]; exact HN1.out (by omega)⟩
                have HS2 : Hid (St w0 g (P ++ (W1 ++ (U2 ++ (V2 ++ Q)))) _) := Lib.hid (by rw [hW1]; simpa using HS1.out)
                clear hW1
                have HS3 := Lib.hid (HFin.out W1 (U2 ++ V2) _ HW1.out ⟨List.Perm.refl _, HN2.out (by omega)⟩ (by simpa using HS2.out))
                go_wp2_with fail
                all_goals (go_end0; exact ⟨rfl, HS3.out⟩)
            · by_cases c4 : M + (D - i) < Y
              · have HS1 := Lib.hid (HN0.out (by omega))
                obtain ⟨W1, hW1⟩ : ∃ W, W = U1 ++ V1 := ⟨_, rfl⟩
                have HW1 : Hid (W1.Perm (U1 ++ V1) ∧ Srtd K W1) := Lib.hid ⟨by rw [hW1], by rw [hW1]; exact HN1.out (by omega)⟩
                have HS2 : Hid (St w0 g (P ++ (W1 ++ (U2 ++ (V2 ++ Q)))) _) := Lib.hid (by rw [hW1]; simpa using HS1.out)
                clear hW1
                have HS3 := Lib.hid (HFin.out W1 (U2 ++ V2) _ HW1.out ⟨List.Perm.refl _, HN2.out (by omega)⟩ (by simpa using HS2.out))
                go_wp2_with fail
                all_goals (go_end0; exact ⟨rfl, HS3.out⟩)
              · have HS1 := Lib.hid (HN0.out (by omega))
                obtain ⟨W1, hW1⟩ : ∃ W, W = U1 ++ V1 := ⟨_, rfl⟩
                have HW1 : Hid (W1.Perm (U1 ++ V1) ∧ Srtd K W1) := Lib.hid ⟨by rw [hW1], by rw [hW1]; exact HN1.out (by omega)⟩
                have HS2 : Hid (St w0 g (P ++ (W1 ++ (U2 ++ (V2 ++ Q)))) _) := Lib.hid (by rw [hW1]; simpa using HS1.out)
                clear hW1
                have HS3 := Lib.hid (HFin.out W1 (U2 ++ V2) _ HW1.out ⟨List.Perm.refl _, HN2.out (by omega)⟩ (by simpa using HS2.out))
                go_wp2_with fail
                all_goals (go_end0; exact ⟨rfl, HS3.out⟩)
end Go.Proofs.YtplojnlmofbneaaDoor
