/- slices.insertionSortCmpFunc over indices that are compared by their keys. -/
import Derived.Test.YtplojnlmofbneaaDoorStabP
import Derived.Deep.DeepCutAuto
import Derived.Deep.CutBlock
namespace Go.Proofs.YtplojnlmofbneaaDoor
open Go.ChangeShapes Go.WideShapes Go.ChangeAt Go.RowKit
set_option linter.unusedVariables false
set_option linter.unusedSimpArgs false
def cmpK (a b : Int) : Int := if a < b then -1 else if b < a then 1 else 0
theorem cmpK_neg {a b : Int} (h : a < b) : cmpK a b < 0 := by unfold cmpK; rw [if_pos h]; decide
theorem cmpK_not {a b : Int} (h : ¬ a < b) : ¬ cmpK a b < 0 := by unfold cmpK; rw [if_neg h]; split <;> decide
/-- the closure's value, and its contract -/
abbrev cmpV (G : Nat) : Value := .func (.func 52) #[] #[.pointer (some ⟨G, 0, none⟩)]
def CmpC (w0 : World) (g G N : Nat) (K : Int → Int) : Prop := ∀ (w : World) (x y : Int), Below g w0 w → 0 ≤ x → x < N → 0 ≤ y → y < N →
  Calls Tryd.prog 52 #[.int .i64 x, .int .i64 y, .pointer (some ⟨G, 0, none⟩)] w fun e w' => e = .returned (.int .i64 (cmpK (K x) (K y))) ∧ ∃ d, w' = w.drewN d
def InN (N : Nat) (xs : List Int) : Prop := ∀ x ∈ xs, 0 ≤ x ∧ x < N
theorem cmp_q {w0 w : World} {g G N : Nat} {K : Int → Int} (h : CmpC w0 g G N K) (hb : Below g w0 w) {x y c : Int} (hx : 0 ≤ x ∧ x < N) (hy : 0 ≤ y ∧ y < N) (hc : cmpK (K x) (K y) = c) (n : Nat) :
    Calls Tryd.prog 52 #[.int .i64 x, .int .i64 y, .pointer (some ⟨G, 0, none⟩)] (w.drewN n) fun e w' => e = .returned (.int .i64 c) ∧ ∃ d, w' = w.drewN d :=
  (h (w.drewN n) x y (below_drewN hb n) hx.1 hx.2 hy.1 hy.2).mono fun e w' ⟨he, d, hw⟩ => ⟨by rw [he, hc], n + d, by rw [hw, World.drewN_drewN]⟩
theorem swap_adj {A C : List Int} {x y : Int} {k : Nat} (hk : k = A.length) : ((A ++ y :: x :: C).set (k + 1) y).set k x = A ++ x :: y :: C := by
  have e : A ++ y :: x :: C = (A ++ [y]) ++ x :: C := by simp
  rw [e, set_mid (by simp; omega)]
  have e2 : (A ++ [y]) ++ y :: C = A ++ y :: (y :: C) := by simp
  rw [e2, set_mid hk]
set_option maxHeartbeats 4000000 in
theorem insertion_any {w0 w : World} {g G n c N : Nat} {K : Int → Int} {P U Q : List Int} {x y : Int} (h : St w0 g (P ++ (U ++ Q)) w) (hC : CmpC w0 g G N K) (hU : InN N U) (hA : U.Pairwise (· < ·)) (hn : n = (P ++ (U ++ Q)).length) (h63 : n ≤ 1000) (hx : x = (P.length : Int)) (hy : y = (P.length : Int) + U.length) :
    Calls Tryd.prog 72 #[.slice (some ⟨g, 0, none⟩) n c, .int .i64 x, .int .i64 y, cmpV G] w fun e w' => e = .returned (.tuple #[]) ∧ ∃ L, L.Perm U ∧ Srtd K L ∧ St w0 g (P ++ (L ++ Q)) w' := by
  obtain ⟨a, ha⟩ : ∃ a, P.length = a := ⟨_, rfl⟩
  obtain ⟨u, hu⟩ : ∃ i, U.length = i := ⟨_, rfl⟩
  obtain ⟨q, hq⟩ : ∃ j, Q.length = j := ⟨_, rfl⟩
  have hnn : n = a + u + q := by rw [hn]; simp; omega
  have HL := Lib.hid (And.intro ha (And.intro hu (And.intro hq hnn)))
  rw [ha] at hx; rw [ha, hu] at hy
  have hau : a + u ≤ n := by omega
  have HS := Lib.hid h
  have HC := Lib.hid hC
  have HU := Lib.hid hU
  have HAs := Lib.hid hA
  subst hx
  have y1 : y ≤ ((a + u : Nat) : Int) := by omega
  have y2 : ((a + u : Nat) : Int) ≤ y := by omega
  clear h hn hy ha hu hq hnn hC hU hA
  go_enter Tryd.func72, Tryd.ntmps72
  go_wp2
  go_loopw [8] (fun i wr => ∃ (k : Nat) (L : List Int), 1 ≤ k ∧ k ≤ u + 1 ∧ i = .int .i64 ((a + k : Nat) : Int) ∧ Hid (L.Perm (U.take k) ∧ Srtd K L) ∧ St w0 g (P ++ (L ++ (U.drop k ++ Q))) wr) (fun i _ => a + u + 1 - (intOf i).toNat)
  case atStart =>
    refine ⟨1, U.take 1, by omega, by omega, by go_num, Lib.hid ⟨List.Perm.refl _, ?_⟩, by rw [← List.append_assoc (U.take 1), List.take_append_drop]; exact HS.out⟩
    cases U with
    | nil => exact srtd_nil
    | cons z r => exact srtd_one z
  case round =>
    obtain ⟨k, L, hk1, hk2, rfl, HLS, hS⟩ := hrel
    have HSk := Lib.hid hS
    clear hS
    by_cases hlt : k < u
    · obtain ⟨x, hx⟩ : ∃ x, U[k]? = some x := ⟨_, List.getElem?_eq_getElem (by rw [HL.out.2.1]; exact hlt)⟩
      have hxN := HU.out x (List.mem_of_getElem? hx)
      have hLlen : Hid (L.length = k) := Lib.hid (by have := HLS.out.1.length_eq; rw [List.length_take, HL.out.2.1] at this; omega)
      have HXL : Hid (∀ z ∈ L, z < x ∧ 0 ≤ z ∧ z < N) := Lib.hid (fun z hz => by
        have hz' := HLS.out.1.mem_iff.1 hz
        obtain ⟨j, hj, e⟩ := List.getElem_of_mem hz'
        rw [List.length_take] at hj
        rw [List.getElem_take] at e
        have hzU : z ∈ U := by rw [← e]; exact List.getElem_mem _
        have hxe := (List.getElem?_eq_some_iff.1 hx)
        obtain ⟨hk', hxe⟩ := hxe
        have := List.pairwise_iff_getElem.1 HAs.out j k (by omega) hk' (by omega)
        exact ⟨by rw [← e, ← hxe]; exact this, HU.out z hzU⟩)
      have HX := Lib.hid hx
      have hd1 : decide (((a + k : Nat) : Int) < y) = true := by simp; omega
      clear hx
      go_wp2
      go_loopw [9] (fun j wr => ∃ (p : Nat) (l1 l2 : List Int), p ≤ k ∧ j = .int .i64 ((a + p : Nat) : Int) ∧ Hid (L = l1 ++ l2 ∧ l1.length = p ∧ ∀ z ∈ l2, Rl K x z) ∧ St w0 g (P ++ (l1 ++ x :: (l2 ++ (U.drop (k + 1) ++ Q)))) wr) (fun j _ => (intOf j).toNat)
      case atStart => exact ⟨k, L, [], Nat.le_refl _, rfl, Lib.hid ⟨by simp, hLlen.out, by simp⟩, by have := HSk.out; rw [drop_at HX.out] at this; simpa using this⟩
      case round =>
        obtain ⟨p, l1, l2, hp, rfl, HPL, hS⟩ := hrel
        have HSp := Lib.hid hS
        -- what stands where no more is to be done
        have HF : Hid ((l1 = [] ∨ ∃ l z, l1 = l ++ [z] ∧ Rl K z x) → ∃ L', (L'.Perm (U.take (k + 1)) ∧ Srtd K L') ∧ ∀ w1, St w0 g (P ++ (l1 ++ x :: (l2 ++ (U.drop (k + 1) ++ Q)))) w1 → St w0 g (P ++ (L' ++ (U.drop (k + 1) ++ Q))) w1) := Lib.hid (fun hcase => by
          obtain ⟨e1, e2, e3⟩ := HPL.out
          have hs := HLS.out.2
          have hpm := HLS.out.1
          rw [e1] at hs hpm
          refine ⟨l1 ++ x :: l2, ⟨?_, srtd_insert hs ?_ e3⟩, fun w1 h1 => by simpa using h1⟩
          · rw [take_at HX.out]
            exact (List.perm_middle.trans (List.Perm.cons x hpm)).trans (List.perm_append_comm (l₁ := [x]))
          · intro z hz
            rcases hcase with e | ⟨l, y', e, hy'⟩
            · subst e; cases hz
            · subst e
              exact last_all (srtd_append.1 hs).1 hy' z hz)
        by_cases hp0 : p = 0
        · have ht : decide (((a : Nat) : Int) < ((a + p : Nat) : Int)) = false := by simp; omega
          have hl0 : Hid (l1 = []) := Lib.hid (List.eq_nil_of_length_eq_zero (by have := HPL.out.2.1; omega))
          clear hS
          go_wp2
          go_quiet (fail)
          go_wp2
          go_roundw
          case rel =>
            obtain ⟨L', hL', hst⟩ := HF.out (.inl hl0.out)
            exact ⟨k + 1, L', by omega, by omega, by go_num, Lib.hid hL', (hst _ HSp.out).drewN _⟩
          case measure => simp [intOf]; omega
        · obtain ⟨l, z, hlz⟩ := snoc_of (l := l1) (by intro e; have := HPL.out.2.1; rw [e] at this; simp at this; omega)
          obtain ⟨i, hi⟩ : ∃ i, a + p = i + 1 := ⟨a + p - 1, by omega⟩
          have hll : l.length + 1 = p := by have := HPL.out.2.1; rw [hlz] at this; simpa using this
          have hz := HXL.out z (by rw [HPL.out.1, hlz]; simp)
          have hA1 : i = (P ++ l).length := by have := HL.out.1; simp; omega
          have hXS : P ++ (l1 ++ x :: (l2 ++ (U.drop (k + 1) ++ Q))) = (P ++ l) ++ z :: x :: (l2 ++ (U.drop (k + 1) ++ Q)) := by rw [hlz]; simp
          rw [hXS] at hS
          have c1 : wr.cell? ⟨g, i, none⟩ = some (.int .i64 z) := hS.row.get (get_mid hA1)
          have c0 : wr.cell? ⟨g, i + 1, none⟩ = some (.int .i64 x) := hS.row.get (by
            rw [show (P ++ l) ++ z :: x :: (l2 ++ (U.drop (k + 1) ++ Q)) = ((P ++ l) ++ [z]) ++ x :: (l2 ++ (U.drop (k + 1) ++ Q)) from by simp]
            exact get_mid (by simp; simp at hA1; omega))
          have f1 := hS.row.free i
          have f0 := hS.row.free (i + 1)
          have hsp : ((a + p : Nat) : Int) = (i : Int) + 1 := by omega
          rw [hsp]
          have hin : i + 1 < n := by have := HL.out.2.1; omega
          have ht : decide ((a : Int) < (i : Int) + 1) = true := by simp; omega
          have w1 : IntKind.i64.wrap ((i : Int) + 1 - 1) = i := by rw [show (i : Int) + 1 - 1 = i from by omega]; exact IntWalk.i64_in _ ⟨by omega, by omega⟩
          have w2 : (i : Int) + 1 - 1 = i := by omega
          have i0 : 0 ≤ (i : Int) + 1 := by omega
          have i1 : (i : Int) + 1 < (n : Int) := by omega
          have i2 : (i : Int) < (n : Int) := by omega
          have i3 : ((i : Int) + 1).toNat = i + 1 := by omega
          have HB := Lib.hid hS.bel
          have hxN' := hxN
          obtain ⟨cv, hcv⟩ : ∃ cv, cmpK (K x) (K z) = cv := ⟨_, rfl⟩
          have HCV := Lib.hid hcv
          have HI := Lib.hid hi
          by_cases hlt2 : K x < K z
          · have hneg : cv < 0 := by rw [← hcv]; exact cmpK_neg hlt2
            have HN2 : Hid (∀ nq, St w0 g (P ++ (l ++ x :: ((z :: l2) ++ (U.drop (k + 1) ++ Q)))) (((wr.drewN nq).setCell ⟨g, i + 1, none⟩ (.int .i64 z)).setCell ⟨g, i, none⟩ (.int .i64 x)) ∧ (wr.drewN nq).cell? ⟨g, i, none⟩ = some (.int .i64 z) ∧ (wr.drewN nq).cell? ⟨g, i + 1, none⟩ = some (.int .i64 x) ∧ (wr.drewN nq).frozen? ⟨g, i, none⟩ = false ∧ (wr.drewN nq).frozen? ⟨g, i + 1, none⟩ = false) := Lib.hid (fun nq => by
              have := ((hS.drewN nq).set (i + 1) z).set i x
              rw [swap_adj hA1] at this
              exact ⟨by simpa using this, c1, c0, f1, f0⟩)
            have HP2 : Hid (L = l ++ (z :: l2) ∧ l.length = p - 1 ∧ ∀ q ∈ z :: l2, Rl K x q) := Lib.hid ⟨by rw [HPL.out.1, hlz]; simp, by omega, fun q hq => by
              rcases List.mem_cons.1 hq with rfl | hq
              · exact Rl.of_lt hlt2
              · exact HPL.out.2.2 q hq⟩
            clear hS hlz hA1 hXS hcv hlt2 hsp hi hll
            go_wp2
            go_quiet ((go_at_call 52; exact cmp_q HC.out HB.out hxN' hz.2 HCV.out _))
            obtain ⟨hn2, k1, k0, l1', l0'⟩ := HN2.out nq
            have HN3 := Lib.hid hn2
            generalize wr.drewN nq = w3 at *
            clear HN2 c0 c1 f0 f1 hn2
            go_wp2
            go_region
            all_goals
              go_wp2
              go_roundw
              case rel => exact ⟨p - 1, l, z :: l2, by omega, by have := HI.out; congr 1; omega, HP2, HN3.out.drewN 1⟩
              case measure => simp [intOf]
          · have hneg : ¬ cv < 0 := by rw [← hcv]; exact cmpK_not hlt2
            have HF2 := Lib.hid (HF.out (.inr ⟨l, z, hlz, Rl.of_not hlt2 hz.1⟩))
            clear hS hlz hA1 hXS hcv hlt2 hsp hi hll
            go_wp2
            go_quiet ((go_at_call 52; exact cmp_q HC.out HB.out hxN' hz.2 HCV.out _))
            go_wp2
            go_roundw
            case rel =>
              obtain ⟨L', hL', hst⟩ := HF2.out
              exact ⟨k + 1, L', by omega, by omega, by go_num, Lib.hid hL', (hst _ HSp.out).drewN _⟩
            case measure => simp [intOf]; omega
    · have ht : decide (((a + k : Nat) : Int) < y) = false := by simp; omega
      go_wp2
      go_end0
      refine ⟨rfl, L, ?_, HLS.out.2, ?_⟩
      · have := HLS.out.1
        rwa [List.take_of_length_le (by rw [HL.out.2.1]; omega)] at this
      · have := HSk.out
        rw [drop_all U (by rw [HL.out.2.1]; omega)] at this
        simpa using this
end Go.Proofs.YtplojnlmofbneaaDoor
