/- A slice of integers behind a row of the call's own; slices.Grow and slices.Concat of two lists of integers. -/
import Derived.Test.YtnihheikaddmoaaDoorSlI
import Derived.Test.YtnihheikaddmoaaDoorOwnI
import Derived.Lib.AppendZeros
namespace Go.Proofs.YtnihheikaddmoaaDoor
open Go.ChangeShapes Go.WideShapes Go.ChangeAt Go.RowKit
set_option linter.unusedVariables false
theorem wpList_append_ints {w : World} {ops : Array Oper} {rest : List Oper} {o : Oper} {a : Act} {Q : Exit → Act → World → Prop} (hgd : o.guard = none) (s x : Operand) (t e : TypeId) (ht : Tryd.prog.underlying t = some (.slice e))
    (hinfo : (Tryd.prog.info? e).map (fun i => (i.zero, i.size, i.bytes)) = some (some (.int .i64 0), 1, 8))
    (ho : o.op = .call { callee := .builtin .append, args := #[s, x], argTypes := #[t, t] })
    (base : Nat) (v : Value) (xs : List Int) (hs : a.eval s = v) (hown : OwnI e w base v xs)
    (A : Option Addr) (m c : Nat) (ys : List Int) (hx : a.eval x = .slice A m c) (hr : R1 (RdSlice 1 (rdInt .i64)) w (.slice A m c) ys)
    (hl : xs.length + ys.length ≤ 17592186044416) (hbase : base ≤ w.heap.size)
    (h : ∀ v' w', OwnI e w' base v' (xs ++ ys) → Grow w v w' v' → wpList Tryd.prog ops Q rest (a.put o.dst v') w') : wpList Tryd.prog ops Q (o :: rest) a w := by
  obtain ⟨i0, hi, hz0, hz1, hz2⟩ := info_parts hinfo
  obtain ⟨hm, _, _⟩ := RdSlice.len hr
  refine wpList_append_any w hgd s x t ho base e i0 _ 1 8 ht hi hz0 hz1 hz2 (by rfl) (by omega) v xs.length _ hs hown.1 w.heap.size A m c (ys.map (.int .i64)) hx (reads_ints hr (fun b h => h)) (by intro u hu; obtain ⟨y, _, rfl⟩ := List.mem_map.1 hu; rfl) (by simp only [maxLen]; omega) (by omega) hbase ?_
  intro v' w' h1 h2 h3
  refine h v' w' ⟨by rw [List.length_append, List.map_append, ← hm]; exact h1, fun q hq => ?_⟩ ⟨h2, ?_⟩
  · rcases List.mem_append.1 hq with hq | hq
    · exact hown.2 q hq
    · exact ints_wf hr q hq
  · rcases h3 with h3 | h3
    · exact .inl h3
    · exact .inr ⟨_, h3, Nat.le_refl _⟩
theorem own_zerosI (w : World) (n : Nat) (hn : n ≤ maxLen) (e : TypeId) (z : Array Value) (hz : z.size = 1) (W : World) (hW : W.heap = w.heap) :
    OwnI e (w.drew.alloc (.cells (Builtin.zeroCells z n ++ Builtin.zeroCells z (grownCap W n 0 e - n)) e)) w.heap.size (.slice (some ⟨w.heap.size, 0, none⟩) 0 (grownCap W n 0 e)) [] := by
  have h1 := grownCap_ge W n 0 e
  have h2 := grownCap_le_maxLen W n 0 e hn
  refine ⟨⟨rfl, .inr ⟨w.heap.size, _, _, rfl, Nat.le_refl _, heap_alloc_new w.drew _, Nat.zero_le _, h2, ?_, by simp⟩⟩, by simp⟩
  rw [Array.size_append, size_zeroCells, size_zeroCells, hz, ← Nat.add_mul, Nat.add_sub_cancel' h1]
set_option maxRecDepth 100000 in
theorem Grow0_ints (n : Nat) (hn : n ≤ 17592186044416) (w : World) :
    Calls Tryd.prog 43 #[.slice none 0 0, .int .i64 n] w fun e w' => ∃ v, e = .returned v ∧ OwnI 3 w' w.heap.size v [] ∧ Below w.heap.size w w' := by
  obtain ⟨i0, hi, hz0, hz1, hz2⟩ := info_parts info_int
  have hnil := fun W => run_eq_nil (P := Tryd.prog) W none 0 0 Tryd.underlying24
  have hlt : ¬ ((n : Int) < 0) := by omega
  by_cases h0 : n = 0
  · subst h0
    go_enter Tryd.func43, Tryd.ntmps43
    go_wp2
    go_ret
    exact ⟨_, rfl, OwnI.nil_ _ _ _, Below.refl _ _⟩
  · have hp : 0 < n := by omega
    have hcap1 := grownCap_ge w n 0 3
    have hcap2 := grownCap_le_maxLen w n 0 3 (by unfold maxLen; omega)
    have hown := Lib.hid (own_zerosI w n (by unfold maxLen; omega) 3 _ (by rfl) w rfl : OwnI _ (w.drew.alloc (.cells (Builtin.zeroCells (Value.int .i64 0).cells n ++ Builtin.zeroCells (Value.int .i64 0).cells (grownCap w n 0 3 - n)) 3)) _ _ _)
    have hrun := Go.Lib.run_append_nil_zeros (P := Tryd.prog) w 24 3 24 3 i0 _ .i64 .i64 Tryd.underlying24 Tryd.underlying3 hi hz0 n hp (by omega) (by omega) (by rw [hz2]; omega)
    obtain ⟨cap, hcap⟩ : ∃ cap, grownCap w n 0 3 = cap := ⟨_, rfl⟩
    rw [hcap] at hown hrun hcap1 hcap2
    have HRUN := Lib.hid hrun
    clear hrun hcap
    go_enter Tryd.func43, Tryd.ntmps43
    go_wp2_with (first
      | (at_builtin; go_loud (refine Go.Lib.wpList_append_run w rfl _ _ _ _ rfl _ _ rfl rfl _ _ HRUN.out ?_))
      | go_in)
    go_ret
    exact ⟨_, rfl, hown.out, ((Below.refl _ _).drew).alloc (Nat.le_refl _) _⟩
set_option maxRecDepth 100000 in
set_option maxHeartbeats 2000000 in
theorem ConcatI_two {w : World} {g : Nat} {A A' : Option Addr} {m m' c c' : Nat} {t : TypeId} {l l' : List Int} (hg : w.heap[g]? = some (.cells #[.slice A m c, .slice A' m' c'] t (0, 0)))
    (h1 : R1 (RdSlice 1 (rdInt .i64)) w (.slice A m c) l) (h2 : R1 (RdSlice 1 (rdInt .i64)) w (.slice A' m' c') l') (hl : l.length + l'.length ≤ 17592186044416) :
    Calls Tryd.prog 35 #[.slice (some ⟨g, 0, none⟩) 2 2] w fun e w' => ∃ v, e = .returned v ∧ OwnI 3 w' w.heap.size v (l ++ l') ∧ Below w.heap.size w w' := by
  obtain ⟨hm, _, _⟩ := RdSlice.len h1
  obtain ⟨hm', _, _⟩ := RdSlice.len h2
  have hgl := size_of_block hg
  have c0 : w.cell? ⟨g, 0, none⟩ = some (.slice A m c) := by rw [cell_of_row _ g _ _ _ (0, 0) hg]; rfl
  have c1 : w.cell? ⟨g, 1, none⟩ = some (.slice A' m' c') := by rw [cell_of_row _ g _ _ _ (0, 0) hg]; rfl
  have hs : m + m' ≤ 17592186044416 := by omega
  have hw1 : IntKind.i64.wrap ((m : Int) + (m' : Int)) = (m : Int) + (m' : Int) := by rw [IntKind.wrap_i64]; omega
  have hn0 : ¬ ((m : Int) < 0) := by omega
  have hn1 : ¬ ((m : Int) + (m' : Int) < 0) := by omega
  have H1 := Lib.hid h1
  have H2 := Lib.hid h2
  have HM := Lib.hid hm
  have HM' := Lib.hid hm'
  clear h1 h2 hm hm' hg
  go_enter Tryd.func35, Tryd.ntmps35
  go_wp2
  refine wp_loop_rounds 3 ?_
  rw [rounds_succ]
  go_wp2
  rw [rounds_succ]
  go_wp2
  rw [rounds_succ]
  go_wp2_with (first
    | (go_at_call 43
       go_loud (refine (Grow0_ints (m + m') hs w).mono ?_)
       rintro e w1 ⟨v, rfl, hown, hb⟩)
    | fail)
  have d0 := (hb.cell (p := ⟨g, 0, none⟩) hgl).trans c0
  have d1 := (hb.cell (p := ⟨g, 1, none⟩) hgl).trans c1
  have s1 := hb.size
  refine wp_loop_rounds 3 ?_
  rw [rounds_succ]
  go_wp2_with (first
    | (at_builtin; go_loud (refine wpList_append_ints rfl _ _ 24 3 Tryd.underlying24 info_int rfl w.heap.size _ [] rfl hown A m c l rfl (H1.out.below hb) (by rw [List.length_nil]; omega) s1 ?_); intro v2 w2 hown2 hgrow2)
    | go_in)
  have hb2 := hgrow2.below hb hown.1 (Nat.le_refl _) s1
  have e0 := (hb2.cell (p := ⟨g, 0, none⟩) hgl).trans c0
  have e1 := (hb2.cell (p := ⟨g, 1, none⟩) hgl).trans c1
  have s2 := hb2.size
  rw [rounds_succ]
  go_wp2_with (first
    | (at_builtin; go_loud (refine wpList_append_ints rfl _ _ 24 3 Tryd.underlying24 info_int rfl w.heap.size _ _ rfl hown2 A' m' c' l' rfl (H2.out.below hb2) (by rw [List.nil_append]; exact hl) s2 ?_); intro v3 w3 hown3 hgrow3)
    | go_in)
  have hb3 := hgrow3.below hb2 hown2.1 (Nat.le_refl _) s2
  rw [rounds_succ]
  go_wp2
  go_ret
  exact ⟨_, rfl, by simpa using hown3, hb3⟩
end Go.Proofs.YtnihheikaddmoaaDoor
