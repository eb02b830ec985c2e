/- slices.rotateCmpFunc: two pieces that lie one behind the other change places. -/
import Derived.Test.YtplojnlmofbneaaDoorStabW
namespace Go.Proofs.YtplojnlmofbneaaDoor
open Go.ChangeShapes Go.WideShapes Go.ChangeAt Go.RowKit
set_option linter.unusedVariables false
set_option linter.unusedSimpArgs false
theorem swapRange_at {w0 w : World} {g n c N : Nat} {P U M V Q : List Int} {cv : Value} {x y z : Int} (h : St w0 g (P ++ (U ++ (M ++ (V ++ Q)))) w) (hU : U.length = N) (hV : V.length = N) (hn : n = (P ++ (U ++ (M ++ (V ++ Q)))).length) (h63 : n ≤ 1000) (hx : x = (P.length : Int)) (hy : y = (P.length : Int) + N + M.length) (hz : z = (N : Int)) :
    Calls Tryd.prog 92 #[.slice (some ⟨g, 0, none⟩) n c, .int .i64 x, .int .i64 y, .int .i64 z, cv] w fun e w' => e = .returned (.tuple #[]) ∧ St w0 g (P ++ (V ++ (M ++ (U ++ Q)))) w' := by
  subst hx; subst hz
  rw [hy, show (P.length : Int) + N + M.length = ((P.length + N + M.length : Nat) : Int) from by simp]
  exact swapRange_any h hU hV hn h63
structure Rot (w0 : World) (g m : Nat) (P U V Q A' U' V' B' : List Int) (w : World) : Prop where
  st : St w0 g (P ++ (A' ++ (U' ++ (V' ++ (B' ++ Q))))) w
  at_ : P.length + A'.length + U'.length = m
  fin : A' ++ (V' ++ (U' ++ B')) = V ++ U
  u : 0 < U'.length
  v : 0 < V'.length
  len : A'.length + U'.length + V'.length + B'.length = U.length + V.length
theorem split_at {l : List Int} {k : Nat} (h : k ≤ l.length) : ∃ a b, l = a ++ b ∧ a.length = k ∧ b.length = l.length - k := ⟨l.take k, l.drop k, (List.take_append_drop k l).symm, by simp; omega, by simp⟩
set_option maxHeartbeats 2000000 in
theorem rotate_any {w0 w : World} {g n c : Nat} {P U V Q : List Int} {cv : Value} {x y z : Int} (h : St w0 g (P ++ (U ++ (V ++ Q))) w) (hu : 0 < U.length) (hv : 0 < V.length) (hn : n = (P ++ (U ++ (V ++ Q))).length) (h63 : n ≤ 1000) (hx : x = (P.length : Int)) (hy : y = (P.length : Int) + U.length) (hz : z = (P.length : Int) + U.length + V.length) :
    Calls Tryd.prog 86 #[.slice (some ⟨g, 0, none⟩) n c, .int .i64 x, .int .i64 y, .int .i64 z, cv] w fun e w' => e = .returned (.tuple #[]) ∧ St w0 g (P ++ (V ++ (U ++ Q))) w' := by
  obtain ⟨a, ha⟩ : ∃ a, P.length = a := ⟨_, rfl⟩
  obtain ⟨i0, hi0⟩ : ∃ i, U.length = i := ⟨_, rfl⟩
  obtain ⟨j0, hj0⟩ : ∃ j, V.length = j := ⟨_, rfl⟩
  obtain ⟨q, hq⟩ : ∃ j, Q.length = j := ⟨_, rfl⟩
  have hnn : n = a + i0 + j0 + q := by rw [hn]; simp; omega
  have hle : a + i0 + j0 ≤ 1000 := by omega
  have hR : Rot w0 g (a + i0) P U V Q [] U V [] w := ⟨by simpa using h, by simp; omega, by simp, hu, hv, by simp⟩
  rw [hi0] at hu; rw [hj0] at hv
  have HR := Lib.hid hR
  have HL := Lib.hid (And.intro ha (And.intro hi0 (And.intro hj0 hq)))
  rw [ha] at hx; rw [ha, hi0] at hy; rw [ha, hi0, hj0] at hz
  have HNN := Lib.hid hnn
  obtain ⟨m, hm⟩ : ∃ m, a + i0 = m := ⟨_, rfl⟩
  rw [hm] at HR hle
  have HM := Lib.hid hm
  have hi1 : a ≤ m := by omega
  have y1 : y ≤ (m : Int) := by omega
  have y2 : (m : Int) ≤ y := by omega
  have z1 : 0 ≤ z := by omega
  have z2 : z ≤ 1000 := by omega
  have x1 : 0 ≤ x := by omega
  have x2 : x ≤ 1000 := by omega
  have HXZ := Lib.hid (And.intro hx (And.intro hy hz))
  clear h hn hx hy hz hR ha hi0 hj0 hq hnn hm
  go_enter Tryd.func86, Tryd.ntmps86
  go_wp2
  go_loopw [10, 11] (fun i j wr => ∃ (p r : Nat) (A' U' V' B' : List Int), i = .int .i64 p ∧ j = .int .i64 r ∧ p ≤ 1000 ∧ r ≤ 1000 ∧ 0 < p ∧ 0 < r ∧ p ≤ m ∧ Hid (U'.length = p ∧ V'.length = r) ∧ Rot w0 g m P U V Q A' U' V' B' wr) (fun i j _ => (intOf i).toNat + (intOf j).toNat)
  case atStart =>
    obtain ⟨ha, hi, hj, hq⟩ := HL.out
    obtain ⟨e1, e2, e3⟩ := HXZ.out
    exact ⟨i0, j0, [], U, V, [], by congr 1; have := HM.out; omega, by congr 1; omega, by have := HM.out; omega, by omega, by omega, by omega, by have := HM.out; omega, Lib.hid ⟨hi, hj⟩, HR.out⟩
  case round =>
    obtain ⟨p, r, A', U', V', B', rfl, rfl, hp, hr, hp0, hr0, hpm, HP, hR⟩ := hrel
    have hlen := hR.len
    have hat := hR.at_
    have hu' := HP.out.1
    have hv' := HP.out.2
    obtain ⟨ha, hi, hj, hq⟩ := HL.out
    have HR' := Lib.hid hR
    have HN2 : Hid (∀ X Y : List Int, X.length = A'.length + U'.length + V'.length + B'.length → n = (P ++ (X ++ Q)).length) := Lib.hid (fun X Y hX => by rw [HNN.out]; simp; omega)
    have HE := Lib.hid (And.intro hlen (And.intro hat (And.intro ha (And.intro hi (And.intro hj hq)))))
    clear hR HR hlen hat hu' hv' ha hi hj hq
    rcases Nat.lt_trichotomy p r with hlt | heq | hgt
    · -- the second one is longer
      have hne : ((p : Int) != (r : Int)) = true := by simp; omega
      have hd : decide ((r : Int) < (p : Int)) = false := by simp; omega
      obtain ⟨V1, V2, hV, hV1, hV2⟩ := split_at (l := V') (k := r - p) (by rw [HP.out.2]; omega)
      have HC : Hid (∀ x y z : Int, x = (m : Int) - p → y = (m : Int) + r - p → z = (p : Int) → Calls Tryd.prog 92 #[.slice (some ⟨g, 0, none⟩) n c, .int .i64 x, .int .i64 y, .int .i64 z, cv] wr fun e w' => e = .returned (.tuple #[]) ∧ Rot w0 g m P U V Q A' V2 V1 (U' ++ B') w') := Lib.hid (fun x y z h1 h2 h3 => by
        obtain ⟨hlen, hat, ha, hi, hj, hq⟩ := HE.out
        obtain ⟨hu', hv'⟩ := HP.out
        have hS := HR'.out.st
        rw [hV] at hS
        have hS2 : St w0 g ((P ++ A') ++ (U' ++ (V1 ++ (V2 ++ (B' ++ Q))))) wr := by simpa using hS
        refine (swapRange_at (N := p) hS2 hu' (by rw [hV2, hv']; omega) (by rw [HNN.out]; simp; omega) h63 (by rw [h1]; simp; omega) (by rw [h2]; simp; omega) h3).mono fun e w' hh => ⟨hh.1, ?_⟩
        refine ⟨by simpa using hh.2, by rw [hV2, hv']; omega, ?_, by rw [hV2, hv']; omega, by omega, by simp; omega⟩
        have := HR'.out.fin
        rw [hV] at this
        simpa using this)
      have HP2 : Hid (V2.length = p ∧ V1.length = r - p) := Lib.hid ⟨by rw [hV2, HP.out.2]; omega, hV1⟩
      clear hV hV1 hV2
      go_wp2_with fail
      (with_reducible refine (HC.out _ _ _ (by omega) (by omega) (by omega)).mono ?_)
      rintro e w2 ⟨rfl, hR2⟩
      have HR2 := Lib.hid hR2
      clear hR2
      go_wp2
      go_roundw
      case rel => exact ⟨p, r - p, A', V2, V1, U' ++ B', rfl, by congr 1; omega, by omega, by omega, by omega, by omega, by omega, HP2, HR2.out⟩
      case measure => simp [intOf]; omega
    · have hne : ((p : Int) != (r : Int)) = false := by simp; omega
      have HC : Hid (∀ x y z : Int, x = (m : Int) - p → y = (m : Int) → z = (p : Int) → Calls Tryd.prog 92 #[.slice (some ⟨g, 0, none⟩) n c, .int .i64 x, .int .i64 y, .int .i64 z, cv] wr fun e w' => e = .returned (.tuple #[]) ∧ St w0 g (P ++ (V ++ (U ++ Q))) w') := Lib.hid (fun x y z h1 h2 h3 => by
        obtain ⟨hlen, hat, ha, hi, hj, hq⟩ := HE.out
        obtain ⟨hu', hv'⟩ := HP.out
        have hS2 : St w0 g ((P ++ A') ++ (U' ++ ([] ++ (V' ++ (B' ++ Q))))) wr := by simpa using HR'.out.st
        refine (swapRange_at (N := p) hS2 hu' (by rw [hv']; omega) (by rw [HNN.out]; simp; omega) h63 (by rw [h1]; simp; omega) (by rw [h2]; simp; omega) h3).mono fun e w' hh => ⟨hh.1, ?_⟩
        have e1 : (P ++ A') ++ (V' ++ ([] ++ (U' ++ (B' ++ Q)))) = P ++ ((A' ++ (V' ++ (U' ++ B'))) ++ Q) := by simp
        have h2 := hh.2
        rw [e1, HR'.out.fin] at h2
        simpa using h2)
      clear heq
      go_wp2_with fail
      (with_reducible refine (HC.out _ _ _ (by omega) (by omega) (by omega)).mono ?_)
      rintro e w2 ⟨rfl, hR2⟩
      have HR2 := Lib.hid hR2
      clear hR2
      go_wp2
      go_end0
      exact ⟨rfl, HR2.out⟩
    · have hne : ((p : Int) != (r : Int)) = true := by simp; omega
      have hd : decide ((r : Int) < (p : Int)) = true := by simp; omega
      obtain ⟨U1, U2, hU, hU1, hU2⟩ := split_at (l := U') (k := r) (by rw [HP.out.1]; omega)
      have HC : Hid (∀ x y z : Int, x = (m : Int) - p → y = (m : Int) → z = (r : Int) → Calls Tryd.prog 92 #[.slice (some ⟨g, 0, none⟩) n c, .int .i64 x, .int .i64 y, .int .i64 z, cv] wr fun e w' => e = .returned (.tuple #[]) ∧ Rot w0 g m P U V Q (A' ++ V') U2 U1 B' w') := Lib.hid (fun x y z h1 h2 h3 => by
        obtain ⟨hlen, hat, ha, hi, hj, hq⟩ := HE.out
        obtain ⟨hu', hv'⟩ := HP.out
        have hS := HR'.out.st
        rw [hU] at hS
        have hS2 : St w0 g ((P ++ A') ++ (U1 ++ (U2 ++ (V' ++ (B' ++ Q))))) wr := by simpa using hS
        refine (swapRange_at (N := r) hS2 hU1 hv' (by rw [HNN.out]; simp; omega) h63 (by rw [h1]; simp; omega) (by rw [h2]; simp; omega) h3).mono fun e w' hh => ⟨hh.1, ?_⟩
        refine ⟨by simpa using hh.2, by simp; omega, ?_, by rw [hU2, hu']; omega, by omega, by simp; omega⟩
        have := HR'.out.fin
        rw [hU] at this
        simpa using this)
      have HP2 : Hid (U2.length = p - r ∧ U1.length = r) := Lib.hid ⟨by rw [hU2, HP.out.1], hU1⟩
      clear hU hU1 hU2
      go_wp2_with fail
      (with_reducible refine (HC.out _ _ _ (by omega) (by omega) (by omega)).mono ?_)
      rintro e w2 ⟨rfl, hR2⟩
      have HR2 := Lib.hid hR2
      clear hR2
      go_wp2
      go_roundw
      case rel => exact ⟨p - r, r, A' ++ V', U2, U1, B', by congr 1; omega, rfl, by omega, by omega, by omega, by omega, by omega, HP2, HR2.out⟩
      case measure => simp [intOf]; omega
end Go.Proofs.YtplojnlmofbneaaDoor
