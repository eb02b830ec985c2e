/- Slices cut out of slices, as readings. -/
import Derived.Test.YtimdnfakgobadaaDoorRd
namespace Go.Proofs.YtimdnfakgobadaaDoor
open Go.ChangeShapes Go.WideShapes Go.ChangeAt Go.RowKit
set_option linter.unusedVariables false
theorem RdSlice.mid {α : Type} {rd : Rdr α} {w : World} {ok : Nat → Prop} {b o n c : Nat} {l : List α} (h : RdSlice 1 rd w ok [.slice (some ⟨b, o, none⟩) n c] l) (i k : Nat) (hik : i + k ≤ n) (hb : ok b) :
    RdSlice 1 rd w ok [.slice (some ⟨b, o + i, none⟩) k (c - i)] ((l.drop i).take k) := by
  obtain ⟨e, h1, h2⟩ := h.len
  obtain ⟨A', c', e', _, _, h3⟩ := h
  simp only [List.cons.injEq, Value.slice.injEq, and_true] at e'
  obtain ⟨rfl, _, rfl⟩ := e'
  have hl : ((l.drop i).take k).length = k := by rw [List.length_take, List.length_drop]; omega
  refine ⟨some ⟨b, o + i, none⟩, c - i, by rw [hl], by rw [hl]; omega, by omega, fun h0 => ⟨b, o + i, rfl, hb, fun j x hj => ?_⟩⟩
  have hjk : j < k := by have := (List.getElem?_eq_some_iff.1 hj).1; omega
  have hj' : l[i + j]? = some x := by
    rw [List.getElem?_take_of_lt hjk, List.getElem?_drop] at hj; exact hj
  obtain ⟨b', o', e2, _, h4⟩ := h3 (by omega)
  simp only [Option.some.injEq, Addr.mk.injEq] at e2
  obtain ⟨rfl, rfl, _⟩ := e2
  obtain ⟨cs', h5, h6, h7⟩ := h4 _ _ hj'
  refine ⟨cs', h5, h6, fun m u hu => ?_⟩
  have := h7 m u hu
  rw [← this]
  congr 2
  omega
theorem RdSlice.pre {α : Type} {size : Nat} {rd : Rdr α} {w : World} {ok : Nat → Prop} {A : Option Addr} {n c : Nat} {l : List α} (h : RdSlice size rd w ok [.slice A n c] l) (k : Nat) (hk : k ≤ n) : RdSlice size rd w ok [.slice A k c] (l.take k) := by
  obtain ⟨e, h1, h2⟩ := h.len
  obtain ⟨A', c', e', _, _, h3⟩ := h
  simp only [List.cons.injEq, Value.slice.injEq, and_true] at e'
  obtain ⟨rfl, _, rfl⟩ := e'
  have hl : (l.take k).length = k := by rw [List.length_take]; omega
  refine ⟨A, c, by rw [hl], by omega, by omega, fun h0 => ?_⟩
  obtain ⟨b', o', e2, hb, h4⟩ := h3 (by omega)
  refine ⟨b', o', e2, hb, fun j x hj => h4 j x ?_⟩
  have hjk : j < k := by have := (List.getElem?_eq_some_iff.1 hj).1; omega
  rwa [List.getElem?_take_of_lt hjk] at hj
/-- what lies behind place i -/
theorem RdSlice.from_ {α : Type} {rd : Rdr α} {w : World} {ok : Nat → Prop} {b o n c : Nat} {l : List α} (h : RdSlice 1 rd w ok [.slice (some ⟨b, o, none⟩) n c] l) (i : Nat) (hi : i ≤ n) (hb : ok b) :
    RdSlice 1 rd w ok [.slice (some ⟨b, o + i, none⟩) (n - i) (c - i)] (l.drop i) := by
  have e := h.len.1
  have := h.mid i (n - i) (by omega) hb
  rwa [List.take_of_length_le (by rw [List.length_drop]; omega)] at this
theorem RdSlice.some_ {α : Type} {size : Nat} {rd : Rdr α} {w : World} {ok : Nat → Prop} {A : Option Addr} {n c : Nat} {l : List α} (h : RdSlice size rd w ok [.slice A n c] l) (hn : 0 < n) : ∃ b o, A = some ⟨b, o, none⟩ ∧ ok b := by
  obtain ⟨b, o, _, _, hA, hb, _⟩ := h.at_ hn
  exact ⟨b, o, hA, hb⟩
/-- cells of a whole block, as a reading of bytes -/
theorem R1.of_block {k : IntKind} {w : World} {g n : Nat} {us : Array Value} {xs : List Int} {t : TypeId} (hg : w.heap[g]? = some (.cells us t (0, 0))) (hn : us.size = n) (hx : us.toList = xs.map (Value.int k)) (hm : n ≤ maxLen) (hw : ∀ x ∈ xs, (Lit.int k x).wf = true) :
    R1 (RdSlice 1 (rdInt k)) w (.slice (some ⟨g, 0, none⟩) n n) xs := by
  have hlt : g < w.heap.size := by
    rcases Nat.lt_or_ge g w.heap.size with h | h
    · exact h
    · rw [Array.getElem?_eq_none h] at hg; cases hg
  have hl : xs.length = n := by have := congrArg List.length hx; simp at this; omega
  refine RdSlice.new1 hg hlt hl (Nat.le_refl _) hm fun i x hi => ⟨.int k x, ?_, rfl, hw x (List.mem_of_getElem? hi)⟩
  have : us.toList[i]? = some (.int k x) := by rw [hx, List.getElem?_map, hi]; rfl
  simpa using this
end Go.Proofs.YtimdnfakgobadaaDoor
