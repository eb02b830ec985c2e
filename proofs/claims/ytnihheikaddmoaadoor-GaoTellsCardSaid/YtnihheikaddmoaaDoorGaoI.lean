/- waywardenlaw5.dealt, waywardensame.Way. -/
import Derived.Test.YtnihheikaddmoaaDoorGaoH
import Derived.Lib.QuietBelow
namespace Go.Proofs.YtnihheikaddmoaaDoor
open Go.ChangeShapes Go.WideShapes Go.ChangeAt Go.RowKit Ga
set_option linter.unusedVariables false
set_option linter.unusedSimpArgs false
def d013 : List Deal := [(0, 1, 3)]
theorem deal013 : dealE 2 d013 = 0 := by decide
theorem ok013 : OkG 2 d013 := by
  obtain ⟨m, e, h⟩ := dealE_ok deal013
  obtain rfl : m = 2 := by omega
  exact h
theorem rest013 : Ga.Rest (WL d013) 2 1 [(3, [0, 1]), (0, [1])] := by
  refine ⟨rfl, rfl, fun i hi h => ?_⟩
  have : i = 0 := by omega
  subst this
  decide
theorem one_deal {w : World} {g : Nat} {a b c : Int} {t : TypeId} (h : w.heap[g]? = some (.cells #[.int .i64 a, .int .i64 b, .int .i64 c] t (0, 0))) (ha : (Lit.int .i64 a).wf = true) (hb : (Lit.int .i64 b).wf = true) (hc : (Lit.int .i64 c).wf = true) : R1 rdDeals w (.slice (some ⟨g, 0, none⟩) 1 1) [(a, b, c)] := by
  refine ⟨_, 1, rfl, Nat.le_refl _, by decide, fun _ => ⟨g, 0, rfl, size_of_block h, fun i x hi => ?_⟩⟩
  match i, hi with
  | 0, hi =>
    simp only [List.getElem?_cons_zero, Option.some.injEq] at hi
    subst hi
    refine ⟨[.int .i64 a, .int .i64 b, .int .i64 c], rfl, ⟨[.int .i64 a], [.int .i64 b, .int .i64 c], rfl, ⟨rfl, ha⟩, ⟨[.int .i64 b], [.int .i64 c], rfl, ⟨rfl, hb⟩, ⟨rfl, hc⟩⟩⟩, fun j u hu => ?_⟩
    rw [cell_of_row _ g _ _ _ (0, 0) h]
    simpa using hu
theorem Ways_013 {w : World} {A : Option Addr} {m c : Nat} (hd : R1 rdDeals w (.slice A m c) d013) : Calls Tryd.prog 8 #[.int .i64 2, .slice A m c, .int .i64 1] w (WaysPost w (WL d013) 2 1) := Ways_yes (n := 2) (tz := 1) hd deal013 ok013 (by omega)
set_option maxRecDepth 100000 in
theorem dealt_any (w : World) : Calls Tryd.prog 4 #[] w fun e w' => e = .returned (.bool true) ∧ Below w.heap.size w w' := by
  have HD := Lib.hid (one_deal (heap_alloc_new w (.cells #[.int .i64 0, .int .i64 1, .int .i64 3] 42)) (by decide) (by decide) (by decide))
  go_enter Tryd.func4, Tryd.ntmps4
  go_wp2_with fail
  go_at_call 8
  (with_reducible refine (Ways_013 HD.out).mono ?_)
  rintro e w1 ⟨g, T, rfl, hws, hr, hsm, hb⟩
  obtain rfl : T = [(3, [0, 1]), (0, [1])] := rest_one ok013.okw (by omega) hr rest013
  obtain ⟨A0, c0, k0, k1, -, -, -, -⟩ := hws.at_ (i := 0) (x := (3, [0, 1])) rfl
  have HB := Lib.hid (((Below.refl w.heap.size w).alloc (Nat.le_refl _) (.cells #[.int .i64 0, .int .i64 1, .int .i64 3] 42)).trans (hb.mono (by simp)))
  simp only [Nat.zero_mul, Nat.zero_add, List.length_cons, List.length_nil] at k0 k1
  clear hws hr hsm hb
  go_wp2
  go_ret
  exact ⟨rfl, HB.out⟩
set_option maxRecDepth 100000 in
set_option maxHeartbeats 1000000 in
theorem Way_any {w : World} {ok ok' : Nat → Prop} {A A' : Option Addr} {n n' c c' : Nat} {t u : Int} {p q : List Int} {r : Bool} (hp : RdSlice 1 (rdInt .i64) w ok [.slice A n c] p) (hq : RdSlice 1 (rdInt .i64) w ok' [.slice A' n' c'] q) (hok : ∀ b, ok b → b < w.heap.size) (hok' : ∀ b, ok' b → b < w.heap.size) (hr : decide (((t, p) : Ga.Way) = (u, q)) = r) :
    Calls Tryd.prog 27 #[.agg #[.int .i64 t, .slice A n c], .agg #[.int .i64 u, .slice A' n' c']] w fun e w' => e = .returned (.bool r) ∧ Below w.heap.size w w' := by
  have HI : Hid (∀ (o1 o2 : Obj), Calls Tryd.prog 36 #[.slice A n c, .slice A' n' c'] ((w.alloc o1).alloc o2) fun e w' => e = .returned (.bool (p == q)) ∧ ∃ k, w' = ((w.alloc o1).alloc o2).drewN k) :=
    Lib.hid (fun o1 o2 => Ints_any (RdLaw.keep hp (fun _ hb => (below_box2 w o1 o2).cell (hok _ hb))) (RdLaw.keep hq (fun _ hb => (below_box2 w o1 o2).cell (hok' _ hb))))
  obtain ⟨z, hz⟩ : ∃ z, (p == q) = z := ⟨_, rfl⟩
  rw [hz] at HI
  have HR : Hid (r = (z && (t == u))) := Lib.hid (by
    rw [← hr, ← hz, Bool.eq_iff_iff, decide_eq_true_iff]
    simp only [Prod.mk.injEq, Bool.and_eq_true, beq_iff_eq]
    exact and_comm)
  clear hp hq hr hz
  cases z <;> cases t1 : (t == u)
  all_goals
    rw [t1] at HR
    go_enter Tryd.func27, Tryd.ntmps27
    go_wp2_with fail
    go_at_call 36
    (with_reducible refine (HI.out _ _).mono ?_)
    rintro e w1 ⟨rfl, k, rfl⟩
    go_wp2
    go_ret
    exact ⟨by rw [HR.out]; rfl, below_drewN (below_box2 _ _ _) _⟩
/-- three boxes of the law's own -/
structure Bx (W w : World) (a b c : Obj) : Prop where
  bel : Below W.heap.size W w
  ba : w.heap[W.heap.size]? = some a
  bb : w.heap[W.heap.size + 1]? = some b
  bc : w.heap[W.heap.size + 2]? = some c
theorem Bx.start (W : World) (a b c : Obj) : Bx W (((W.alloc a).alloc b).alloc c) a b c := by
  obtain ⟨h1, h2, h3⟩ := box3 (w := W) (o1 := a) (o2 := b) (o3 := c) (Below.refl _ _)
  exact ⟨(((Below.refl _ _).alloc (Nat.le_refl _) _).alloc (by simp) _).alloc (by simp; omega) _, h1, h2, h3⟩
theorem Bx.below {W w w' : World} {a b c : Obj} (h : Bx W w a b c) (hb : Below w.heap.size w w') : Bx W w' a b c :=
  ⟨h.bel.trans (hb.mono h.bel.size), below_block hb (size_of_block h.ba) h.ba, below_block hb (size_of_block h.bb) h.bb, below_block hb (size_of_block h.bc) h.bc⟩
end Go.Proofs.YtnihheikaddmoaaDoor
