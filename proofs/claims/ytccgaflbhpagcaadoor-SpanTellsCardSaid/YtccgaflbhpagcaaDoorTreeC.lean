/- span.Tree: DeleteFunc by its closure. -/
import Derived.Test.YtccgaflbhpagcaaDoorTreeB
import Derived.Lib.SliceRun
import Derived.Lib.LazyBuf
namespace Go.Proofs.YtccgaflbhpagcaaDoor
open Go.ChangeShapes Go.WideShapes Go.ChangeAt Go.RowKit Sp
set_option linter.unusedVariables false
set_option linter.unusedSimpArgs false
theorem heap_setCells_own {g : Nat} {e : TypeId} : ∀ (vs : List Value) (o : Nat) (w : World) (cur : Array Value), w.heap[g]? = some (.cells cur e (0, 0)) →
    ∃ cur', (w.setCells g o vs).heap[g]? = some (.cells cur' e (0, 0)) ∧ cur'.size = cur.size ∧ ∀ k, k ≤ o → cur'.toList.take k = cur.toList.take k
  | [], o, w, cur, h => ⟨cur, h, rfl, fun _ _ => rfl⟩
  | v :: r, o, w, cur, h => by
    have h1 := heap_setCell_same w g o _ _ v h
    obtain ⟨cur', h2, h3, h4⟩ := heap_setCells_own r (o + 1) _ _ h1
    refine ⟨cur', h2, by rw [h3]; simp, fun k hk => ?_⟩
    rw [h4 k (by omega)]
    simp [List.take_set]
    rw [List.set_eq_of_length_le (by simp; omega)]
theorem run_clear_three {P : Program} (w : World) (t e ty : TypeId) (ht : P.underlying t = some (.slice e)) (hv : ∀ w, (zeroValue e).run P w = .ok (.agg #[.int .i64 0, .int .i64 0, .int .i64 0]) w) (b o n c : Nat) (hn : 0 < n)
    (hc : ∀ j, j < n * 3 → (w.cell? ⟨b, o + j, none⟩).isSome = true) (hf : ∀ j, j < n * 3 → w.frozen? ⟨b, o + j, none⟩ = false) :
    (Builtin.clear_ #[t] ty #[.slice (some ⟨b, o, none⟩) n c]).run P w = .ok (.tuple #[]) (w.setCells b o (List.replicate (n * 3) (.int .i64 0))) := by
  have hzc : (Builtin.zeroCells (Value.agg #[.int .i64 0, .int .i64 0, .int .i64 0]).cells n).toList = List.replicate (n * 3) (.int .i64 0) := by
    apply List.ext_getElem
    · simp [Builtin.zeroCells, Value.cells]
    · intro i h1 h2
      simp [Builtin.zeroCells, Value.cells]
      have h3 : i % 3 = 0 ∨ i % 3 = 1 ∨ i % 3 = 2 := by omega
      rcases h3 with h3 | h3 | h3 <;> rw [h3] <;> rfl
  have hst := run_storeCells_cells (P := P) b o (List.replicate (n * 3) (.int .i64 0)) 0 w (by simpa using hc) (by simpa using hf) (by intro v hv'; rw [List.eq_of_mem_replicate hv']; rfl)
  simp only [Nat.add_zero] at hst
  obtain ⟨m, rfl⟩ : ∃ m, n = m + 1 := ⟨n - 1, by omega⟩
  simp [Builtin.clear_, run_underlying ht, hv, hzc, hst]
/-- the beginning of a row of the own, the rest of it turned -/
theorem OwnT.cut {e : TypeId} {w : World} {base g n c : Nat} {xs : List (Int × Int × Int)} (h : OwnT e w base (.slice (some ⟨g, 0, none⟩) n c) xs) {i : Nat} (hi : i ≤ n) (vs : List Value) :
    OwnT e (w.setCells g (i * 3) vs) base (.slice (some ⟨g, 0, none⟩) i c) (xs.take i) := by
  obtain ⟨⟨h1, h2⟩, h3⟩ := h
  have hlen : xs.length = n := by
    rcases h2 with ⟨e1, _⟩ | ⟨g', cap, cur, e1, _⟩
    · cases e1
    · simp only [Value.slice.injEq] at e1; exact e1.2.1.symm
  have hti : (xs.take i).length = i := by rw [List.length_take]; omega
  refine ⟨⟨by rw [tC_len], ?_⟩, fun q hq => h3 q (List.mem_of_mem_take hq)⟩
  rcases h2 with ⟨e1, _⟩ | ⟨g', cap, cur, e1, hb, hg, hn, hc, hs, ht⟩
  · cases e1
  simp only [Value.slice.injEq, Option.some.injEq, Addr.mk.injEq, and_true] at e1
  obtain ⟨rfl, _, rfl⟩ := e1
  obtain ⟨cur', k1, k2, k3⟩ := heap_setCells_own vs (i * 3) w cur hg
  refine .inr ⟨g, c, cur', by rw [hti], hb, k1, by rw [hti]; omega, hc, by rw [k2]; exact hs, ?_⟩
  rw [hti, k3 _ (Nat.le_refl _)]
  have e2 : (xs.take i).flatMap tC = (xs.flatMap tC).take (i * 3) := by
    have hh := congrArg (fun q => List.flatMap tC q) (List.take_append_drop i xs)
    simp only [List.flatMap_append] at hh
    conv => rhs; rw [← hh]
    rw [List.take_append_of_le_length (by rw [tC_len, hti]; exact Nat.le_refl _)]
    exact (List.take_of_length_le (by rw [tC_len, hti]; exact Nat.le_refl _)).symm
  rw [e2, ← ht, List.take_take, Nat.min_eq_left (by omega)]
/-- where DeleteFunc stands -/
structure Del (B : List Bel) (l S : List Lnk) (i j : Nat) : Prop where
  len : S.length = l.length
  lt : i < j
  le : j ≤ l.length
  pre : S.take i = treeOf B (l.take j)
  post : S.drop j = l.drop j
theorem Del.at_ {B : List Bel} {l S : List Lnk} {i j : Nat} {x : Lnk} (h : Del B l S i j) (hx : l[j]? = some x) : S[j]? = some x := by
  have := congrArg (fun q => q[0]?) h.post
  simp only [List.getElem?_drop, Nat.add_zero] at this
  rw [this, hx]
theorem Del.keep {B : List Bel} {l S : List Lnk} {i j : Nat} {x : Lnk} (h : Del B l S i j) (hx : l[j]? = some x) (hu : usedB B x = true) : Del B l (S.set i x) (i + 1) (j + 1) := by
  have hj := (List.getElem?_eq_some_iff.1 hx).1
  have hl := h.len
  have h1 := h.lt
  refine ⟨by simp [h.len], by omega, by omega, ?_, ?_⟩
  · rw [tree_snoc hx, if_pos hu, ← h.pre, List.take_add_one, List.getElem?_set_self (by omega), List.take_set_of_le (Nat.le_refl _)]
    rfl
  · rw [List.drop_set_of_lt (by omega)]
    have := congrArg (List.drop 1) h.post
    simpa [List.drop_drop] using this
theorem Del.skip {B : List Bel} {l S : List Lnk} {i j : Nat} {x : Lnk} (h : Del B l S i j) (hx : l[j]? = some x) (hu : usedB B x = false) : Del B l S i (j + 1) := by
  have hj := (List.getElem?_eq_some_iff.1 hx).1
  have h1 := h.lt
  refine ⟨h.len, by omega, by omega, ?_, ?_⟩
  · rw [tree_snoc hx, if_neg (by rw [hu]; simp), h.pre, List.append_nil]
  · have := congrArg (List.drop 1) h.post
    simpa [List.drop_drop] using this
theorem Del.start {B : List Bel} {l : List Lnk} {j : Nat} {x : Lnk} (hj : j < l.length) (ht : treeOf B (l.take j) = l.take j) (hx : l[j]? = some x) (hu : usedB B x = false) : Del B l l j (j + 1) :=
  ⟨rfl, by omega, by omega, by rw [tree_snoc hx, if_neg (by rw [hu]; simp), ht, List.append_nil], rfl⟩
theorem link_zero (w : World) : (zeroValue 29).run Tryd.prog w = .ok (.agg #[.int .i64 0, .int .i64 0, .int .i64 0]) w := by kernel_rfl
set_option maxRecDepth 100000 in
set_option maxHeartbeats 4000000 in
theorem DeleteFunc_tree {w : World} {base gp : Nat} {A A' : Option Addr} {n c m c' : Nat} {B : List Bel} {l : List Lnk} (hc : Cap w base gp A n c B) (hl : OwnT 29 w base (.slice A' m c') l) (hn : ∀ x ∈ l, InL n x) :
    Calls Tryd.prog 18 #[.slice A' m c', .func (Fn.func 20) #[] #[.pointer (some ⟨gp, 0, none⟩)]] w fun e w' => ∃ v, e = .returned v ∧ OwnT 29 w' base v (treeOf B l) ∧ Below base w w' := by
  obtain ⟨hm, hle, hcm⟩ := RdSlice.len hl.read
  have hm0 : m ≤ 9223372036854775807 := by unfold maxLen at hcm; omega
  have hc0 : c' ≤ 9223372036854775807 := by unfold maxLen at hcm; omega
  have HC := Lib.hid hc
  have HL := Lib.hid hl
  have HM := Lib.hid hm
  have HN := Lib.hid hn
  have s0 := hc.le
  clear hc hl hm hn hcm
  go_enter Tryd.func18, Tryd.ntmps18
  go_wp2_with fail
  go_at_call 27
  (with_reducible refine (IndexFunc_tree HC.out HL.out.read HN.out).mono ?_)
  rintro e w1 ⟨r, rfl, hidx, hb1⟩
  have HB1 := Lib.hid (hb1.mono s0)
  have HL1 := Lib.hid (HL.out.below hb1)
  have s1 := hb1.size
  clear hb1
  rcases hidx with ⟨rfl, ht⟩ | ⟨j, rfl, hj, ht, x, hx, hu⟩
  · have HT := Lib.hid ht
    clear ht
    go_wp2
    go_ret
    exact ⟨_, rfl, by rw [HT.out]; exact HL1.out, HB1.out⟩
  · have HD := Lib.hid (Del.start hj ht hx hu)
    have hjm : j < m := by have := HM.out; omega
    have t0 : ((j : Int) == -1) = false := by simp
    obtain ⟨g, cg, e2, hgb, hgl⟩ := HL1.out.some_ (by omega)
    simp only [Value.slice.injEq] at e2
    obtain ⟨rfl, -, rfl⟩ := e2
    clear ht hx hu hj
    go_wp2
    go_loopw [5, 6] (fun a b wr => ∃ (i j : Nat) (S : List Lnk), a = .int .i64 i ∧ b = .int .i64 j ∧ Del B l S i j ∧ OwnT 29 wr base (.slice (some ⟨g, 0, none⟩) m c') S ∧ Below base w wr)
      (fun _ b _ => m - (intOf b).toNat)
    case atStart => exact ⟨j, j + 1, l, rfl, by go_num, HD.out, HL1.out, HB1.out⟩
    case round =>
      obtain ⟨i, j, S, rfl, rfl, hd, hown, hb⟩ := hrel
      have hij := hd.lt
      have hjl : j ≤ m := by have := hd.le; have := HM.out; omega
      have HD2 := Lib.hid hd
      have HO := Lib.hid hown
      have HB := Lib.hid hb
      have s2 := hb.size
      clear hd hown hb
      by_cases hlt : j < m
      · obtain ⟨⟨x0, x1, z⟩, hx⟩ : ∃ x, l[j]? = some x := ⟨_, List.getElem?_eq_getElem (by have := HM.out; omega)⟩
        obtain ⟨hx0, hx1, hx2, hx3⟩ := HN.out _ (List.mem_of_getElem? hx)
        simp only at hx0 hx1 hx2 hx3
        obtain ⟨a, rfl⟩ := Int.eq_ofNat_of_zero_le hx0
        obtain ⟨b, rfl⟩ := Int.eq_ofNat_of_zero_le hx2
        obtain ⟨hw3, c0, c1, c2, -, -, -⟩ := HO.out.at_ (HD2.out.at_ hx)
        simp only at c0 c1 c2
        have hSi : i < S.length := by have := HD2.out.len; have := HM.out; omega
        have HSL : Hid (S.length = m) := Lib.hid (by have := HD2.out.len; have := HM.out; omega)
        obtain ⟨yS, hyS⟩ : ∃ y, S[i]? = some y := ⟨_, List.getElem?_eq_getElem hSi⟩
        have GI := Lib.hid hyS
        obtain ⟨r, hr⟩ : ∃ r, (!usedB B ((a : Int), (b : Int), z)) = r := ⟨_, rfl⟩
        have HR := Lib.hid hr
        have HX := Lib.hid hx
        have HW3 := Lib.hid hw3
        have HK := Lib.hid ((HC.out.below HB.out).below ((Below.refl _ _).alloc (Nat.le_trans s0 (by have := HB.out.size; exact this)) (.cells #[.int .i64 a, .int .i64 b, .int .i64 z] 29)))
        have HCL := Lib.hid (fun W : World => fun h : Cap W base gp A n c B => clos_tree h (a := a) (b := b) (c := z) (by omega) (by omega) HR.out)
        clear hr hx hw3 hx0 hx1 hx2 hx3 hSi hyS
        have ij0 : (0 : Int) ≤ (i : Int) := by omega
        have ij1 : (i : Int) < (m : Int) := by omega
        go_wp2_with fail
        go_at_call 20
        (with_reducible refine (HCL.out _ HK.out).mono ?_)
        rintro e w4 ⟨rfl, hb4⟩
        have hbox := below_block hb4 (by simp) (heap_alloc_new wr (.cells #[.int .i64 a, .int .i64 b, .int .i64 z] 29))
        obtain ⟨k0, k1, k2⟩ := row3 hbox
        have HO4 := Lib.hid ((HO.out.alloc _).below hb4)
        have HB4 := Lib.hid ((HB.out.alloc (Nat.le_trans s0 (by have := HB.out.size; exact this)) _).trans (hb4.mono (by have := HB.out.size; simp at *; omega)))
        obtain ⟨-, d0, d1, d2, f0, f1, f2⟩ := HO4.out.at_ GI.out
        clear hb4 hbox c0 c1 c2
        cases r
        · have HU := Lib.hid (show usedB B ((a : Int), (b : Int), z) = true by simpa using HR.out)
          have HD3 := Lib.hid (HD2.out.keep HX.out HU.out)
          have HSET := Lib.hid (OwnT.set3 (y := ((a : Int), (b : Int), z)) (k := i) (xs := S) (g := g) (c := c') (by have := HO4.out; rw [← HSL.out] at this; exact this) (by rw [HSL.out]; omega) HW3.out)
          go_wp2
          go_roundw
          case rel => exact ⟨i + 1, j + 1, _, by go_num, by go_num, HD3.out, (by have := HSET.out; rw [HSL.out] at this; exact this), ((HB4.out.setCell (by simp only; omega) _).setCell (by simp only; omega) _).setCell (by simp only; omega) _⟩
          case measure => simp [intOf]; omega
        · have HU := Lib.hid (show usedB B ((a : Int), (b : Int), z) = false by simpa using HR.out)
          have HD3 := Lib.hid (HD2.out.skip HX.out HU.out)
          go_wp2
          go_roundw
          case rel => exact ⟨i, j + 1, S, rfl, by go_num, HD3.out, HO4.out, HB4.out⟩
          case measure => simp [intOf]; omega
      · have ejm : j = m := by omega
        subst ejm
        have HE : Hid (S.take i = treeOf B l) := Lib.hid (by have := HD2.out.pre; have e : l.take j = l := List.take_of_length_le (by have := HM.out; omega); rw [e] at this; exact this)
        have HSL : Hid (S.length = j) := Lib.hid (by have := HD2.out.len; have := HM.out; omega)
        have hall := fun k (hk : k < j) => HO.out.at_ (List.getElem?_eq_getElem (show k < S.length by rw [HSL.out]; exact hk))
        have hcl : ∀ ty, (Builtin.clear_ #[22] ty #[.slice (some ⟨g, i * 3, none⟩) (j - i) (c' - i)]).run Tryd.prog wr = .ok (.tuple #[]) (wr.setCells g (i * 3) (List.replicate ((j - i) * 3) (.int .i64 0))) := fun ty =>
          run_clear_three wr 22 29 ty Tryd.underlying22 link_zero g (i * 3) (j - i) (c' - i) (by omega)
            (fun t ht => by
              obtain ⟨_, e0, e1, e2, _⟩ := hall (i + t / 3) (by omega)
              have h3 : t % 3 = 0 ∨ t % 3 = 1 ∨ t % 3 = 2 := by omega
              rcases h3 with h3 | h3 | h3
              · rw [show i * 3 + t = (i + t / 3) * 3 by omega, e0]; rfl
              · rw [show i * 3 + t = (i + t / 3) * 3 + 1 by omega, e1]; rfl
              · rw [show i * 3 + t = (i + t / 3) * 3 + 2 by omega, e2]; rfl)
            (fun t ht => by
              obtain ⟨_, _, _, _, e0, e1, e2⟩ := hall (i + t / 3) (by omega)
              have h3 : t % 3 = 0 ∨ t % 3 = 1 ∨ t % 3 = 2 := by omega
              rcases h3 with h3 | h3 | h3
              · rw [show i * 3 + t = (i + t / 3) * 3 by omega]; exact e0
              · rw [show i * 3 + t = (i + t / 3) * 3 + 1 by omega]; exact e1
              · rw [show i * 3 + t = (i + t / 3) * 3 + 2 by omega]; exact e2)
        have HOUT := Lib.hid (HO.out.cut (i := i) (by omega) (List.replicate ((j - i) * 3) (.int .i64 0)))
        have HBO := Lib.hid (below_setCells (b := g) hgb (List.replicate ((j - i) * 3) (.int .i64 0)) (i * 3) wr HB.out)
        clear hall
        go_wp2
        go_ret
        exact ⟨_, rfl, by rw [← HE.out]; exact HOUT.out, HBO.out⟩
end Go.Proofs.YtccgaflbhpagcaaDoor
