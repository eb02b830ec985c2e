/- SpanTells: Links at equal lists; two rows that grow; that there is a last state of beliefs. -/
import Derived.Test.YtccgaflbhpagcaaDoorUpOf
import Derived.Test.YtccgaflbhpagcaaDoorGFault
import Derived.Test.YtccgaflbhpagcaaDoorTree
import Derived.Test.YtccgaflbhpagcaaDoorSpanned
import Derived.Test.YtccgaflbhpagcaaDoorErr
namespace Go.Proofs.YtccgaflbhpagcaaDoor
open Go.ChangeShapes Go.WideShapes Go.ChangeAt Go.RowKit Sp
set_option linter.unusedVariables false
set_option linter.unusedSimpArgs false
set_option maxHeartbeats 1000000 in
theorem Links_eq {w : World} {ok ok' : Nat → Prop} {A A' : Option Addr} {n n' c c' : Nat} {l : List Lnk} (hr : rdLinks w ok [.slice A n c] l) (hr' : rdLinks w ok' [.slice A' n' c'] l) :
    Calls Tryd.prog 13 #[.slice A n c, .slice A' n' c'] w fun e w' => e = .returned (.bool true) ∧ ∃ k, w' = w.drewN k := by
  obtain ⟨hn, hnc, hcm⟩ := RdSlice.len hr
  obtain ⟨hn', hnc', hcm'⟩ := RdSlice.len hr'
  obtain rfl : n' = n := by omega
  have hnm : n' ≤ 9223372036854775807 := by unfold maxLen at hcm; omega
  clear hcm hcm' hn hn'
  have HR := Lib.hid hr
  have HR' := Lib.hid hr'
  clear hr hr'
  go_enter Tryd.func13, Tryd.ntmps13
  go_wp2
  go_loopw [5] (fun i wr => ∃ k : Nat, k ≤ n' ∧ i = .int .i64 k ∧ ∃ j, wr = w.drewN j) (fun i _ => n' - (intOf i).toNat)
  case atStart => exact ⟨0, Nat.zero_le _, rfl, 0, rfl⟩
  case round =>
    obtain ⟨k, hk, rfl, j, rfl⟩ := hrel
    by_cases hlt : k < n'
    · obtain ⟨b, o, x, y, z, rfl, -, HX, -, c0, c1, c2⟩ := RdSlice.atL HR.out hlt
      obtain ⟨b', o', x', y', z', rfl, -, HY, -, d0, d1, d2⟩ := RdSlice.atL HR'.out hlt
      have e := HX.out.symm.trans HY.out
      simp only [Option.some.injEq, Prod.mk.injEq] at e
      obtain ⟨rfl, rfl, rfl⟩ := e
      have i0 : (0 : Int) ≤ (k : Int) := by omega
      have i1 : (k : Int) < (n' : Int) := by omega
      go_wp2
      go_quiet (fail)
      go_wp2
      exact ⟨⟨k + 1, by omega, by go_num, _, rfl⟩, by simp [intOf]; omega⟩
    · go_wp2
      go_ret
      exact ⟨rfl, _, rfl⟩
theorem Links_v {w : World} {u v : Value} {l : List Lnk} (hu : R1 rdLinks w u l) (hv : R1 rdLinks w v l) :
    Calls Tryd.prog 13 #[u, v] w fun e w' => e = .returned (.bool true) ∧ ∃ k, w' = w.drewN k := by
  obtain ⟨A, c, rfl⟩ := hu.form
  obtain ⟨A', c', rfl⟩ := hv.form
  exact Links_eq hu hv
theorem Ints_same {w : World} {u v : Value} {l : List Int} (hu : R1 (RdSlice 1 (rdInt .i64)) w u l) (hv : R1 (RdSlice 1 (rdInt .i64)) w v l) :
    Calls Tryd.prog 10 #[u, v] w fun e w' => e = .returned (.bool true) ∧ ∃ k, w' = w.drewN k :=
  (Ints_v hu hv).mono fun e w' ⟨he, hk⟩ => ⟨by rw [he, beq_self_eq_true], hk⟩
/-- two rows are not one -/
def Apart (v u : Value) : Prop := ∀ g, v.ownBlock = some g → u.ownBlock ≠ some g
theorem Apart.symm {v u : Value} (h : Apart v u) : Apart u v := fun g hg hv => h g hv hg
theorem Apart.grow {w w' : World} {v v' u : Value} {base : Nat} {e : TypeId} {size n : Nat} {xs : List Value} (h : Apart v u) (hg : Grow w v w' v') (hu : w.ownsRow base e size u n xs) : Apart v' u := by
  intro g hv hug
  rcases hg.2 with h2 | ⟨g', h2, hle⟩
  · rw [h2] at hv; exact h g hv hug
  · rw [h2] at hv; injection hv with hv; have := (hu.lt g hug).2; omega
theorem OwnI.grow {e : TypeId} {w w' : World} {base : Nat} {u v v' : Value} {xs : List Int} (h : OwnI e w base u xs) (hg : Grow w v w' v') (ha : Apart v u) : OwnI e w' base u xs :=
  ⟨h.1.kept (row := v.ownBlock) hg.1 (by
    cases hu : u.ownBlock with
    | none => exact .inl rfl
    | some g => exact .inr (fun hv => ha g hv.symm hu)), h.2⟩
theorem last_ex {n : Nat} {l : List Lnk} (ok : OkL n l) (h8 : n ≤ 8) : ∃ B, Last n (arcsOf l) B := by
  have key : ∀ (m j : Nat), ranks (iterB (arcsOf l) j (Sp.start n)) ≤ m → ∃ B, Last n (arcsOf l) B := by
    intro m
    induction m with
    | zero =>
      intro j hj
      obtain ⟨h1, h2, h3⟩ := ranks_pass (ok_arcs ok) h8 (inv_iter (ok_arcs ok) j) (F := arcsOf l) (fun _ h => h)
      cases hm : moved (iterB (arcsOf l) j (Sp.start n)) (arcsOf l) with
      | false => exact ⟨_, j, rfl, hm⟩
      | true => have := h2 hm; omega
    | succ m ih =>
      intro j hj
      obtain ⟨h1, h2, h3⟩ := ranks_pass (ok_arcs ok) h8 (inv_iter (ok_arcs ok) j) (F := arcsOf l) (fun _ h => h)
      cases hm : moved (iterB (arcsOf l) j (Sp.start n)) (arcsOf l) with
      | false => exact ⟨_, j, rfl, hm⟩
      | true => exact ih (j + 1) (by rw [iterB_succ]; have := h2 hm; omega)
  exact key _ 0 (Nat.le_refl _)
/-- what the law's walk holds on to -/
structure Bun (W w : World) (A : Option Addr) (m c : Nat) (l : List Lnk) (v7 v8 v9 : Value) (L7 L8 : List Int) (L9 : List Lnk) : Prop where
  bel : Below W.heap.size W w
  lk : R1 rdLinks w (.slice A m c) l
  er : HErr w
  r7 : R1 (RdSlice 1 (rdInt .i64)) w v7 L7
  r8 : R1 (RdSlice 1 (rdInt .i64)) w v8 L8
  r9 : R1 rdLinks w v9 L9
theorem Bun.below {W w w' : World} {A : Option Addr} {m c : Nat} {l : List Lnk} {v7 v8 v9 : Value} {L7 L8 : List Int} {L9 : List Lnk} (h : Bun W w A m c l v7 v8 v9 L7 L8 L9) (hb : Below w.heap.size w w') : Bun W w' A m c l v7 v8 v9 L7 L8 L9 :=
  ⟨h.bel.trans (hb.mono h.bel.size), h.lk.below hb, h.er.below hb, h.r7.below hb, h.r8.below hb, h.r9.below hb⟩
theorem Bun.drewN {W w : World} {A : Option Addr} {m c : Nat} {l : List Lnk} {v7 v8 v9 : Value} {L7 L8 : List Int} {L9 : List Lnk} (h : Bun W w A m c l v7 v8 v9 L7 L8 L9) (k : Nat) : Bun W (w.drewN k) A m c l v7 v8 v9 L7 L8 L9 := h.below (below_drewN (Below.refl _ _) k)
end Go.Proofs.YtccgaflbhpagcaaDoor
