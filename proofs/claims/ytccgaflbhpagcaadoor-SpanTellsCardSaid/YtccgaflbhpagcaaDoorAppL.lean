/- A slice of threes behind a row of the call's own. -/
import Derived.Test.YtccgaflbhpagcaaDoorGrowL
namespace Go.Proofs.YtccgaflbhpagcaaDoor
open Go.ChangeShapes Go.WideShapes Go.ChangeAt Go.RowKit Sp
set_option linter.unusedVariables false
theorem tC_len (l : List (Int × Int × Int)) : (l.flatMap tC).length = l.length * 3 := by
  induction l with
  | nil => rfl
  | cons x r ih => rw [List.flatMap_cons, List.length_append, ih]; simp [tC]; omega
theorem RdSlice.atT {w : World} {ok : Nat → Prop} {A : Option Addr} {n c : Nat} {xs : List (Int × Int × Int)} (h : RdSlice 3 rdT w ok [.slice A n c] xs) {k : Nat} (hk : k < n) :
    ∃ b o x, A = some ⟨b, o, none⟩ ∧ ok b ∧ Hid (xs[k]? = some x) ∧ wf3 x.1 x.2.1 x.2.2 ∧ ∀ j u, (tC x)[j]? = some u → w.cell? ⟨b, o + (k * 3 + j), none⟩ = some u := by
  obtain ⟨b, o, x, cs, hA, hb, hx, _, hr, hc⟩ := h.at_ hk
  obtain ⟨x, y, z⟩ := x
  obtain ⟨_, _, rfl, ⟨rfl, w0⟩, ⟨_, _, rfl, ⟨rfl, w1⟩, ⟨rfl, w2⟩⟩⟩ := hr
  exact ⟨b, o, _, hA, hb, hx, ⟨w0, w1, w2⟩, fun j u hu => hc j u hu⟩
theorem reads_three {w : World} {ok : Nat → Prop} {A : Option Addr} {n c : Nat} {l : List (Int × Int × Int)} (hr : RdSlice 3 rdT w ok [.slice A n c] l) (hok : ∀ b, ok b → b < w.heap.size) : Reads w w.heap.size 3 A n (l.flatMap tC) := by
  obtain ⟨hn, _, _⟩ := hr.len
  refine ⟨by rw [tC_len, hn], fun h0 => ?_⟩
  obtain ⟨b, o, x, rfl, hb, _⟩ := hr.atT h0
  refine ⟨⟨b, o, none⟩, rfl, hok b hb, fun j u hu => ?_⟩
  have hj : j < n * 3 := by
    rcases Nat.lt_or_ge j (n * 3) with h | h
    · exact h
    · rw [List.getElem?_eq_none (by rw [tC_len]; omega)] at hu; cases hu
  obtain ⟨b', o', y, e, _, HY, _, hc⟩ := hr.atT (k := j / 3) (by omega)
  simp only [Option.some.injEq, Addr.mk.injEq, and_true] at e
  obtain ⟨rfl, rfl⟩ := e
  have h3 := tC_at l (j / 3) (j % 3) y HY.out (Nat.mod_lt _ (by omega))
  rw [show j / 3 * 3 + j % 3 = j by omega] at h3
  rw [h3] at hu
  have := hc (j % 3) u hu
  rw [show j / 3 * 3 + j % 3 = j by omega] at this
  rw [addr_add]; exact this
theorem three_wf {w : World} {ok : Nat → Prop} {A : Option Addr} {n c : Nat} {l : List (Int × Int × Int)} (hr : RdSlice 3 rdT w ok [.slice A n c] l) : ∀ x ∈ l, wf3 x.1 x.2.1 x.2.2 := by
  intro x hx
  obtain ⟨hn, _, _⟩ := hr.len
  obtain ⟨i, hi, rfl⟩ := List.getElem_of_mem hx
  obtain ⟨_, _, y, _, _, HY, hw, _⟩ := hr.atT (k := i) (by omega)
  rw [List.getElem?_eq_getElem hi] at HY
  have := HY.out
  injection this with this
  rw [this]; exact hw
theorem one_tCs (l : List (Int × Int × Int)) : ∀ u ∈ l.flatMap tC, u.oneCell' = true := by
  intro u hu
  obtain ⟨x, _, hx⟩ := List.mem_flatMap.1 hu
  exact one_tC x u hx
/-- append of a slice of links on a row of the call's own. -/
theorem wpList_append_threes {w : World} {ops : Array Oper} {rest : List Oper} {o : Oper} {a : Act} {Q : Exit → Act → World → Prop} (hgd : o.guard = none) (s x : Operand) (t e : TypeId) (ht : Tryd.prog.underlying t = some (.slice e))
    (hinfo : (Tryd.prog.info? e).map (fun i => (i.zero, i.size, i.bytes)) = some (some (.agg #[.int .i64 0, .int .i64 0, .int .i64 0]), 3, 24))
    (ho : o.op = .call { callee := .builtin .append, args := #[s, x], argTypes := #[t, t] })
    (base : Nat) (v : Value) (xs : List (Int × Int × Int)) (hs : a.eval s = v) (hown : OwnT e w base v xs)
    (A : Option Addr) (m c : Nat) (ys : List (Int × Int × Int)) (hx : a.eval x = .slice A m c) (hr : R1 (RdSlice 3 rdT) w (.slice A m c) ys)
    (hl : xs.length + ys.length ≤ 5864062014000) (hbase : base ≤ w.heap.size)
    (h : ∀ v' w', OwnT e w' base v' (xs ++ ys) → Grow w v w' v' → wpList Tryd.prog ops Q rest (a.put o.dst v') w') : wpList Tryd.prog ops Q (o :: rest) a w := by
  obtain ⟨i0, hi, hz0, hz1, hz2⟩ := info_parts hinfo
  obtain ⟨hm, _, _⟩ := RdSlice.len hr
  refine wpList_append_any w hgd s x t ho base e i0 _ 3 24 ht hi hz0 hz1 hz2 (by rfl) (by omega) v xs.length _ hs hown.1 w.heap.size A m c (ys.flatMap tC) hx (reads_three hr (fun b h => h)) (one_tCs ys) (by simp only [maxLen]; omega) (by omega) hbase ?_
  intro v' w' h1 h2 h3
  refine h v' w' ⟨by rw [List.length_append, List.flatMap_append, ← hm]; exact h1, fun q hq => ?_⟩ ⟨h2, ?_⟩
  · rcases List.mem_append.1 hq with hq | hq
    · exact hown.2 q hq
    · exact three_wf hr q hq
  · rcases h3 with h3 | h3
    · exact .inl h3
    · exact .inr ⟨_, h3, Nat.le_refl _⟩
end Go.Proofs.YtccgaflbhpagcaaDoor
