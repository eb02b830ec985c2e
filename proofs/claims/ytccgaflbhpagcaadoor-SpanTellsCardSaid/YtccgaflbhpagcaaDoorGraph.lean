/- graph.Check: its key, and the walk. -/
import Derived.Test.YtccgaflbhpagcaaDoorSpanG
import Derived.Test.YtccgaflbhpagcaaDoorLinksAt
import Derived.Test.YtccgaflbhpagcaaDoorSub
import Derived.Maps.OwnSet
import Derived.DeepKeys4
namespace Go.Proofs.YtccgaflbhpagcaaDoor
open Go.ChangeShapes Go.WideShapes Go.ChangeAt Go.RowKit Go.Maps Go.WideMaps Sp
set_option linter.unusedVariables false
abbrev kv (a b : Int) : Value := .agg #[.int .i64 a, .int .i64 b]
abbrev kl (a b : Int) : Lit := .string (keyBytes [.int .i64 a, .int .i64 b])
theorem laidOutG : laidOutB Tryd.prog = true := by kernel_rfl
theorem pair_law : KeyLaw Tryd.prog 60 := deep_law_laid laidOutG (m := 2) (by omega) (of_decide_eq_true (by kernel_rfl)) (by kernel_rfl) (by rw [Tryd.underlying60])
theorem pair_key {a b : Int} (wa : (Lit.int .i64 a).wf = true) (wb : (Lit.int .i64 b).wf = true) : keyOf Tryd.prog 60 (kv a b) = some (kl a b) := by
  have e1 : Tryd.prog.cellsOf 60 = 2 := by kernel_rfl
  have e2 : Tryd.prog.cellsOf 3 = 1 := by kernel_rfl
  have e3 : Tryd.prog.keyType 60 = true := by kernel_rfl
  have e4 : (kv a b).formed Tryd.prog 60 = true := by simp [Value.formed, Tryd.underlying60, e1]
  obtain ⟨m, hm⟩ : ∃ m, Tryd.prog.types.size = m + 1 := ⟨Tryd.prog.types.size - 1, by kernel_rfl⟩
  unfold keyOf
  rw [Tryd.underlying60]
  simp only
  rw [if_pos (by rw [e3, e4]; rfl), hm]
  simp [Program.keyLits, Tryd.underlying60, Tryd.underlying3, e1, e2, wa, wb, List.range_succ, Value.cells]
theorem kl_inj {a b c d : Int} (wa : (Lit.int .i64 a).wf = true) (wb : (Lit.int .i64 b).wf = true) (wc : (Lit.int .i64 c).wf = true) (wd : (Lit.int .i64 d).wf = true) (h : kl a b = kl c d) : a = c ∧ b = d := by
  have h1 := pair_key wa wb
  rw [h] at h1
  have := pair_law.inj h1 (pair_key wc wd)
  simpa using this
theorem wf_min {a b : Int} (wa : (Lit.int .i64 a).wf = true) (wb : (Lit.int .i64 b).wf = true) : (Lit.int .i64 (min a b)).wf = true := by
  rcases Int.le_total a b with h | h
  · rwa [Int.min_eq_left h]
  · rwa [Int.min_eq_right h]
theorem wf_max {a b : Int} (wa : (Lit.int .i64 a).wf = true) (wb : (Lit.int .i64 b).wf = true) : (Lit.int .i64 (max a b)).wf = true := by
  rcases Int.le_total a b with h | h
  · rwa [Int.max_eq_right h]
  · rwa [Int.max_eq_left h]
theorem pair_key_if {x y : Int} (wa : (Lit.int .i64 x).wf = true) (wb : (Lit.int .i64 y).wf = true) :
    keyOf Tryd.prog 60 (.agg #[.int .i64 (if y < x then y else x), .int .i64 (if x < y then y else x)]) = some (kl (min x y) (max x y)) := by
  have e1 : (if y < x then y else x) = min x y := by split <;> omega
  have e2 : (if x < y then y else x) = max x y := by split <;> omega
  rw [e1, e2]; exact pair_key (wf_min wa wb) (wf_max wa wb)
def keysOf (s : List Lnk) : List Lit := s.map fun x => kl (min x.1 x.2.1) (max x.1 x.2.1)
def LOk (s : List Lnk) : Prop := ∀ y ∈ s, (Lit.int .i64 y.1).wf = true ∧ (Lit.int .i64 y.2.1).wf = true
theorem keys_has {s : List Lnk} (hs : LOk s) {x : Lnk} (w1 : (Lit.int .i64 x.1).wf = true) (w2 : (Lit.int .i64 x.2.1).wf = true) :
    Maps.has (setOf (H := Unit) (.agg []) (keysOf s)) (kl (min x.1 x.2.1) (max x.1 x.2.1)) = s.any (pairB x) := by
  rw [has_setOf _ _ _ (fun y hy => by obtain ⟨_, _, rfl⟩ := List.mem_map.1 hy; trivial)]
  unfold keysOf
  rw [List.any_map]
  have hc : ∀ y ∈ s, ((fun x_1 : Lit => x_1.sameKey (kl (min x.1 x.2.1) (max x.1 x.2.1))) ∘ fun x : Lnk => kl (min x.1 x.2.1) (max x.1 x.2.1)) y = pairB x y := fun y hy => by
    obtain ⟨v1, v2⟩ := hs y hy
    simp only [Function.comp]
    by_cases hp : pairB x y = true
    · rw [hp]
      have e : min y.1 y.2.1 = min x.1 x.2.1 ∧ max y.1 y.2.1 = max x.1 x.2.1 := by
        rcases pairB_iff.1 hp with ⟨h1, h2⟩ | ⟨h1, h2⟩ <;> omega
      rw [e.1, e.2]; exact WideAt.sameKey_self trivial
    · rw [Bool.not_eq_true] at hp
      rw [hp]
      refine sameKey_ne (fun e => ?_)
      have := kl_inj (wf_min v1 v2) (wf_max v1 v2) (wf_min w1 w2) (wf_max w1 w2) e
      have h3 : ¬ (x.1 = y.1 ∧ x.2.1 = y.2.1 ∨ x.1 = y.2.1 ∧ x.2.1 = y.1) := fun h => by rw [pairB_iff.2 h] at hp; cases hp
      omega
  induction s with
  | nil => rfl
  | cons a r ih => rw [List.any_cons, List.any_cons, hc a (by simp), ih (fun y hy => hs y (by simp [hy])) (fun y hy => hc y (by simp [hy]))]
def errE (k : Int) : Value := if k = 0 then .nilIface else .iface 24 (.int .i64 k)
theorem zeroU (w : World) : (zeroValue 61).run Tryd.prog w = .ok (.agg #[]) w := by kernel_rfl
theorem pairK : Keyed Tryd.prog 60 := Keyed.of_law pair_law
theorem linkE_drop {n : Int} {l : List Lnk} {k : Nat} {x : Lnk} (h : l[k]? = some x) :
    linkE n (l.take k) (l.drop k) = if badB n x = true then 1 else if x.1 = x.2.1 then 3 else if (l.take k).any (pairB x) = true then 5 else linkE n (l.take (k + 1)) (l.drop (k + 1)) := by
  obtain ⟨hk, rfl⟩ := List.getElem?_eq_some_iff.1 h
  rw [List.drop_eq_getElem_cons hk, List.take_add_one, h]
  rfl
set_option maxRecDepth 100000 in
set_option maxHeartbeats 4000000 in
theorem GCheck_any {w : World} {n : Int} {A : Option Addr} {c m : Nat} {l : List Lnk} (hl : R1 rdLinks w (.slice A m c) l) (hr : l.length * 24 ≤ 140737488351232) :
    Calls Tryd.prog 22 #[.int .i64 n, .slice A m c] w fun e w' => e = .returned (errE (graphE n l)) ∧ Below w.heap.size w w' := by
  obtain ⟨hm, hle, hcm⟩ := RdSlice.len hl
  have hmm := @run_makeMap Tryd.prog
  have HL := Lib.hid hl
  have HM := Lib.hid hm
  have hm0 : m ≤ 9223372036854775807 := by unfold maxLen at hcm; omega
  have hm1 : m * 24 ≤ 140737488351232 := by omega
  by_cases h1 : n < 1
  · have HG : Hid (graphE n l = 1) := Lib.hid (by unfold graphE; rw [if_pos (.inl h1)])
    clear hl hm
    go_enter Tryd.func22, Tryd.ntmps22
    go_wp2
    go_ret
    exact ⟨by rw [HG.out]; rfl, Below.refl _ _⟩
  by_cases h2 : 8 < n
  · have HG : Hid (graphE n l = 1) := Lib.hid (by unfold graphE; rw [if_pos (.inr h2)])
    clear hl hm
    go_enter Tryd.func22, Tryd.ntmps22
    go_wp2
    go_ret
    exact ⟨by rw [HG.out]; rfl, Below.refl _ _⟩
  have HG : Hid (graphE n l = linkE n [] l) := Lib.hid (by unfold graphE; rw [if_neg (by omega)])
  clear hl hm
  go_enter Tryd.func22, Tryd.ntmps22
  go_wp2
  go_loopw [21] (fun t wr => ∃ k : Nat, k ≤ m ∧ t = .int .i64 k ∧ linkE n (l.take k) (l.drop k) = graphE n l ∧ LOk (l.take k) ∧ wr.ownsMap Tryd.prog 60 (unitElem (H := Unit)) w.heap.size k (setOf (.agg []) (keysOf (l.take k))) ∧ Below w.heap.size w wr)
    (fun t _ => m - (intOf t).toNat)
  case atStart => exact ⟨0, Nat.zero_le _, rfl, HG.out.symm, (fun y hy => by cases hy), World.ownsMap_made _ _ _ _, (Below.refl _ _).alloc (Nat.le_refl _) _⟩
  case round =>
    obtain ⟨k, hk, rfl, he, hok, hown, hb⟩ := hrel
    have HE := Lib.hid he
    have HOK := Lib.hid hok
    have HOWN := Lib.hid hown
    have HB := Lib.hid hb
    clear he hok hown hb
    by_cases hlt : k < m
    · obtain ⟨b, o, x, y, z, rfl, hbb, HX, ⟨wx, wy, wz⟩, d0, d1, d2⟩ := RdSlice.atL HL.out hlt
      have c0 := (HB.out.cell hbb).trans d0
      have c1 := (HB.out.cell hbb).trans d1
      have c2 := (HB.out.cell hbb).trans d2
      have HSTEP := Lib.hid ((linkE_drop (n := n) HX.out).symm.trans HE.out)
      have HKEY := Lib.hid (pair_key_if wx wy)
      have HHAS := Lib.hid (keys_has (x := (x, y, z)) HOK.out wx wy)
      have HWX := Lib.hid wx
      have HWY := Lib.hid wy
      have hmx : k < maxLen := by unfold maxLen; omega
      clear d0 d1 d2 wx wy wz
      go_wp2_with (first
        | (at_lookup; go_loud (refine wpList_lookup_own_unit _ rfl _ _ 59 rfl 60 61 pairK Tryd.underlying59 (zeroU _) w.heap.size k _ rfl ((HOWN.out.alloc _).alloc _) _ _ rfl HKEY.out ?_))
        | (at_mapUpdate; go_loud (refine wpList_mapUpdate_own _ rfl _ _ _ 59 rfl 60 61 pairK Tryd.underlying59 (unitElem (H := Unit)) w.heap.size k _ rfl (((HOWN.out.alloc _).alloc _).alloc _) hmx _ _ _ rfl rfl HKEY.out _ [] unitElem_mk ?_); intro w1 hown1 hgrow1)
        | go_in)
      all_goals first
        | (have hbad : badB n (x, y, z) = true := by unfold badB; exact decide_eq_true (by simp only; omega)
           go_ret
           exact ⟨by rw [← HSTEP.out, if_pos hbad]; rfl, HB.out.alloc HB.out.size _⟩)
        | (have hxy : x = y := by simpa using (by assumption : (x == y) = true)
           have hbad : badB n (x, y, z) = false := by unfold badB; exact decide_eq_false (by simp only; omega)
           go_ret
           exact ⟨by rw [← HSTEP.out, if_neg (by rw [hbad]; simp), if_pos hxy]; rfl, HB.out.alloc HB.out.size _⟩)
        | (have hxy : x ≠ y := by simpa using (by assumption : (x == y) = false)
           have hbad : badB n (x, y, z) = false := by unfold badB; exact decide_eq_false (by simp only; omega)
           have hh : Maps.has (setOf (H := Unit) (.agg []) (keysOf (l.take k))) (kl (min x y) (max x y)) = true := by assumption
           have hh2 := HHAS.out.symm.trans hh
           go_ret
           have s1 := HB.out.size
           exact ⟨by rw [← HSTEP.out, if_neg (by rw [hbad]; simp), if_neg hxy, if_pos hh2]; rfl, ((HB.out.alloc s1 _).alloc (by simp; omega) _).alloc (by simp; omega) _⟩)
        | skip
      have hxy : x ≠ y := by simpa using (by assumption : (x == y) = false)
      have hbad : badB n (x, y, z) = false := by unfold badB; exact decide_eq_false (by simp only; omega)
      have hh : (!Maps.has (setOf (H := Unit) (.agg []) (keysOf (l.take k))) (kl (min x y) (max x y))) = true := by first | assumption | simp [*]
      have s1 := HB.out.size
      have s2 := hgrow1.size
      go_roundw
      case rel =>
        refine ⟨k + 1, by omega, by go_num, ?_, ?_, ?_, ?_⟩
        · have := HSTEP.out
          rw [if_neg (by rw [hbad]; simp), if_neg hxy, if_neg (by rw [← HHAS.out]; simpa using hh)] at this
          exact this
        · intro q hq
          rw [List.take_add_one, HX.out] at hq
          rcases List.mem_append.1 hq with hq | hq
          · exact HOK.out q hq
          · simp at hq; subst hq; exact ⟨HWX.out, HWY.out⟩
        · rw [List.take_add_one, HX.out]
          show w1.ownsMap _ _ _ _ _ (setOf (.agg []) (keysOf (l.take k ++ [(x, y, z)])))
          unfold keysOf
          rw [List.map_append]
          show w1.ownsMap _ _ _ _ _ (setOf (.agg []) (keysOf (l.take k) ++ [kl (min x y) (max x y)]))
          rw [setOf_snoc]
          exact hown1
        · simp at s2
          exact (((HB.out.alloc s1 _).alloc (by simp; omega) _).alloc (by simp; omega) _).grown hgrow1 (by simp; omega) (fun j hj => by cases hj; exact Nat.le_refl _)
      case measure => simp [intOf]; omega
    · have ek : k = m := by omega
      subst ek
      have HE2 : Hid (graphE n l = 0) := Lib.hid (by rw [← HE.out, List.drop_of_length_le (by rw [HM.out]; exact Nat.le_refl _)]; rfl)
      go_wp2
      go_ret
      exact ⟨by rw [HE2.out]; rfl, HB.out⟩
end Go.Proofs.YtccgaflbhpagcaaDoor
