/- A row of integers that is sorted where it lies; slices.swapRangeCmpFunc. -/
import Derived.Test.YtplojnlmofbneaaDoorRd
import Derived.Test.YtplojnlmofbneaaDoorBlk
import Derived.BigRegion
import Derived.Deep.QuietTactic
import Derived.BigQuiet
namespace Go.Proofs.YtplojnlmofbneaaDoor
open Go.ChangeShapes Go.WideShapes Go.ChangeAt Go.RowKit
set_option linter.unusedVariables false
set_option linter.unusedSimpArgs false
/-- a block whose first cells are these integers -/
def Rw (w : World) (g : Nat) (xs : List Int) : Prop := ∃ cur t, w.heap[g]? = some (.cells cur t (0, 0)) ∧ ∀ (i : Nat) (x : Int), xs[i]? = some x → cur[i]? = some (Value.int .i64 x)
theorem Rw.lt {w : World} {g : Nat} {xs : List Int} (h : Rw w g xs) : g < w.heap.size := by obtain ⟨_, _, h, _⟩ := h; exact size_of_block h
theorem Rw.get {w : World} {g : Nat} {xs : List Int} (h : Rw w g xs) {i : Nat} {x : Int} (hx : xs[i]? = some x) : w.cell? ⟨g, i, none⟩ = some (.int .i64 x) := by
  obtain ⟨cur, t, hg, hc⟩ := h
  rw [cell_of_row _ g _ _ t (0, 0) hg]; exact hc i x hx
theorem Rw.free {w : World} {g : Nat} {xs : List Int} (h : Rw w g xs) (i : Nat) : w.frozen? ⟨g, i, none⟩ = false := by
  obtain ⟨cur, t, hg, hc⟩ := h
  exact frozen_of_row _ g _ _ _ hg
theorem Rw.below {w w' : World} {g B : Nat} {xs : List Int} (h : Rw w g xs) (hb : Below B w w') (hg : g < B) : Rw w' g xs := by
  obtain ⟨cur, t, h1, h2⟩ := h
  exact ⟨cur, t, below_block hb hg h1, h2⟩
theorem Rw.drewN {w : World} {g : Nat} {xs : List Int} (h : Rw w g xs) (k : Nat) : Rw (w.drewN k) g xs := h
theorem Rw.set {w : World} {g : Nat} {xs : List Int} (h : Rw w g xs) (i : Nat) (x : Int) : Rw (w.setCell ⟨g, i, none⟩ (.int .i64 x)) g (xs.set i x) := by
  obtain ⟨cur, t, h1, h2⟩ := h
  refine ⟨_, t, heap_setCell_same w g i _ _ _ h1, fun j y hj => ?_⟩
  rw [List.getElem?_set] at hj
  rw [Array.getElem?_setIfInBounds]
  split at hj
  · rename_i e
    subst e
    rw [if_pos rfl]
    split at hj
    · rename_i hl
      simp only [Option.some.injEq] at hj
      subst hj
      have hz := h2 i (xs[i]'hl) (by rw [List.getElem?_eq_getElem hl])
      have := (Array.getElem?_eq_some_iff.1 hz).1
      rw [if_pos this]
    · cases hj
  · rename_i e
    rw [if_neg e]
    exact h2 j y hj
/-- what stands while it is sorted: the row, and nothing else has turned below the base -/
structure St (w0 : World) (g : Nat) (xs : List Int) (w : World) : Prop where
  bel : Below g w0 w
  row : Rw w g xs
theorem St.drewN {w0 w : World} {g : Nat} {xs : List Int} (h : St w0 g xs w) (k : Nat) : St w0 g xs (w.drewN k) := ⟨below_drewN h.bel k, h.row.drewN k⟩
theorem St.set {w0 w : World} {g : Nat} {xs : List Int} (h : St w0 g xs w) (i : Nat) (x : Int) : St w0 g (xs.set i x) (w.setCell ⟨g, i, none⟩ (.int .i64 x)) := ⟨h.bel.setCell (Nat.le_refl _) _, h.row.set i x⟩
theorem set_mid {α : Type} {A B : List α} {x y : α} {k : Nat} (hk : k = A.length) : (A ++ x :: B).set k y = A ++ y :: B := by
  subst hk
  rw [List.set_append_right _ _ (Nat.le_refl _)]; simp
theorem get_mid {α : Type} {A B : List α} {x : α} {k : Nat} (hk : k = A.length) : (A ++ x :: B)[k]? = some x := by
  subst hk
  rw [List.getElem?_append_right (Nat.le_refl _)]; simp
theorem drop_all {α : Type} (l : List α) {k : Nat} (h : l.length ≤ k) : l.drop k = [] := List.drop_eq_nil_of_le h
theorem drop_at {α : Type} {l : List α} {k : Nat} {x : α} (h : l[k]? = some x) : l.drop k = x :: l.drop (k + 1) := by
  obtain ⟨hk, rfl⟩ := List.getElem?_eq_some_iff.1 h
  exact List.drop_eq_getElem_cons hk
theorem take_at {α : Type} {l : List α} {k : Nat} {x : α} (h : l[k]? = some x) : l.take (k + 1) = l.take k ++ [x] := by rw [List.take_add_one, h]; rfl
/-- two elements change places -/
theorem swap_mid {α : Type} {A B C : List α} {x y : α} {i j : Nat} (hi : i = A.length) (hj : j = A.length + 1 + B.length) : ((A ++ x :: (B ++ y :: C)).set i y).set j x = A ++ y :: (B ++ x :: C) := by
  rw [set_mid hi]
  have : A ++ y :: (B ++ y :: C) = (A ++ y :: B) ++ y :: C := by simp
  rw [this, set_mid (by simp; omega)]; simp
set_option maxHeartbeats 1000000 in
theorem swapRange_any {w0 w : World} {g n c N : Nat} {P U M V Q : List Int} {cv : Value} (h : St w0 g (P ++ (U ++ (M ++ (V ++ Q)))) w) (hU : U.length = N) (hV : V.length = N) (hn : n = (P ++ (U ++ (M ++ (V ++ Q)))).length) (h63 : n ≤ 1000) :
    Calls Tryd.prog 92 #[.slice (some ⟨g, 0, none⟩) n c, .int .i64 P.length, .int .i64 (P.length + N + M.length : Nat), .int .i64 N, cv] w fun e w' => e = .returned (.tuple #[]) ∧ St w0 g (P ++ (V ++ (M ++ (U ++ Q)))) w' := by
  obtain ⟨a, ha⟩ : ∃ a, P.length = a := ⟨_, rfl⟩
  obtain ⟨b, hb⟩ : ∃ b, P.length + N + M.length = b := ⟨_, rfl⟩
  have hbN : b + N ≤ n := by rw [hn]; simp; omega
  have haN : a + N ≤ b := by omega
  have HS := Lib.hid h
  have HA := Lib.hid ha
  have HB := Lib.hid hb
  have HU := Lib.hid hU
  have HV := Lib.hid hV
  rw [hb, ha]
  clear h ha hb hU hV hn
  go_enter Tryd.func92, Tryd.ntmps92
  go_wp2
  go_loopw [10] (fun i wr => ∃ k : Nat, k ≤ N ∧ i = .int .i64 k ∧ St w0 g (P ++ (V.take k ++ (U.drop k ++ (M ++ (U.take k ++ (V.drop k ++ Q)))))) wr) (fun i _ => N - (intOf i).toNat)
  case atStart => exact ⟨0, Nat.zero_le _, rfl, by simpa using HS.out⟩
  case round =>
    obtain ⟨k, hk, rfl, hS⟩ := hrel
    have HSk := Lib.hid hS
    by_cases hlt : k < N
    · obtain ⟨u, hu⟩ : ∃ u, U[k]? = some u := ⟨_, List.getElem?_eq_getElem (by rw [HU.out]; exact hlt)⟩
      obtain ⟨v, hv⟩ : ∃ v, V[k]? = some v := ⟨_, List.getElem?_eq_getElem (by rw [HV.out]; exact hlt)⟩
      have hX : P ++ (V.take k ++ (U.drop k ++ (M ++ (U.take k ++ (V.drop k ++ Q))))) = (P ++ V.take k) ++ u :: ((U.drop (k + 1) ++ (M ++ U.take k)) ++ v :: (V.drop (k + 1) ++ Q)) := by
        rw [drop_at hu, drop_at hv]; simp
      have hY : P ++ (V.take (k + 1) ++ (U.drop (k + 1) ++ (M ++ (U.take (k + 1) ++ (V.drop (k + 1) ++ Q))))) = (P ++ V.take k) ++ v :: ((U.drop (k + 1) ++ (M ++ U.take k)) ++ u :: (V.drop (k + 1) ++ Q)) := by
        rw [take_at hu, take_at hv]; simp
      have hi : a + k = (P ++ V.take k).length := by simp; have := HV.out; have := HA.out; omega
      have hj : b + k = (P ++ V.take k).length + 1 + (U.drop (k + 1) ++ (M ++ U.take k)).length := by
        have := HV.out; have := HU.out; have := HA.out; have := HB.out
        simp; omega
      rw [hX] at hS
      have c0 := hS.row.get (get_mid (B := (U.drop (k + 1) ++ (M ++ U.take k)) ++ v :: (V.drop (k + 1) ++ Q)) (x := u) hi)
      have c1 : wr.cell? ⟨g, b + k, none⟩ = some (.int .i64 v) := hS.row.get (by
        rw [show (P ++ V.take k) ++ u :: ((U.drop (k + 1) ++ (M ++ U.take k)) ++ v :: (V.drop (k + 1) ++ Q)) = ((P ++ V.take k) ++ u :: (U.drop (k + 1) ++ (M ++ U.take k))) ++ v :: (V.drop (k + 1) ++ Q) from by simp]
        exact get_mid (by rw [hj]; simp; omega))
      have f0 := hS.row.free (a + k)
      have f1 := hS.row.free (b + k)
      have HN : Hid (St w0 g (P ++ (V.take (k + 1) ++ (U.drop (k + 1) ++ (M ++ (U.take (k + 1) ++ (V.drop (k + 1) ++ Q)))))) ((wr.setCell ⟨g, a + k, none⟩ (.int .i64 v)).setCell ⟨g, b + k, none⟩ (.int .i64 u))) := Lib.hid (by
        rw [hY, ← swap_mid hi hj]
        exact (hS.set _ _).set _ _)
      clear hX hY hi hj hS hu hv
      go_wp2
      go_region
      all_goals
        go_wp2
        go_roundw
        case rel => exact ⟨k + 1, by omega, by go_num, HN.out.drewN 1⟩
        case measure => simp [intOf]; omega
    · have e : k = N := by omega
      subst e
      have HF : Hid (P ++ (V.take k ++ (U.drop k ++ (M ++ (U.take k ++ (V.drop k ++ Q))))) = P ++ (V ++ (M ++ (U ++ Q)))) := Lib.hid (by
        rw [List.take_of_length_le (l := V) (by rw [HV.out]; exact Nat.le_refl _), List.take_of_length_le (l := U) (by rw [HU.out]; exact Nat.le_refl _), drop_all U (by rw [HU.out]; exact Nat.le_refl _), drop_all V (by rw [HV.out]; exact Nat.le_refl _)]; simp)
      clear hS
      go_wp2
      go_end0
      exact ⟨rfl, by rw [← HF.out]; exact HSk.out⟩
end Go.Proofs.YtplojnlmofbneaaDoor
