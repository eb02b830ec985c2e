/- gao.table. -/
import Derived.Test.YtnihheikaddmoaaDoorGaoC
import Derived.Deep.RegionHeld3
namespace Go.Proofs.YtnihheikaddmoaaDoor
open Go.ChangeShapes Go.WideShapes Go.ChangeAt Go.RowKit Ga
set_option linter.unusedVariables false
set_option linter.unusedSimpArgs false
def rowV (n : Nat) (F : Nat → Int) : List Value := (List.range n).map fun j => Value.int .i64 (F j)
theorem rowV_at {n j : Nat} {F : Nat → Int} (h : j < n) : (rowV n F)[j]? = some (.int .i64 (F j)) := by unfold rowV; rw [List.getElem?_map, List.getElem?_range h]; rfl
theorem rowV_set {n j : Nat} {F : Nat → Int} {z : Int} : (rowV n F).set j (.int .i64 z) = rowV n (fun k => if k = j then z else F k) := by
  apply List.ext_getElem?
  intro k
  by_cases hk : k < n
  · rw [rowV_at hk]
    by_cases e : k = j
    · subst e; rw [List.getElem?_set_self (by unfold rowV; simpa using hk), if_pos rfl]
    · rw [List.getElem?_set_ne (by omega), rowV_at hk, if_neg e]
  · rw [List.getElem?_eq_none (by rw [List.length_set]; unfold rowV; simpa using hk), List.getElem?_eq_none (by unfold rowV; simpa using hk)]
def outV (n : Nat) (R : Nat → Nat) (k : Nat) : List Value := (List.range k).map fun i => Value.slice (some ⟨R i, 0, none⟩) n n
/-- rows of the own, each in a block of its own -/
structure Mat (w : World) (base : Nat) (v : Value) (k n : Nat) (F : Nat → Nat → Int) (R : Nat → Nat) : Prop where
  own : w.ownsRow base 24 1 v k (outV n R k)
  blk : ∀ i, i < k → base ≤ R i ∧ v.ownBlock ≠ some (R i) ∧ Blk w (R i) 3 (rowV n (F i))
  inj : ∀ i j, i < k → j < k → R i = R j → i = j
theorem Mat.below {w w' : World} {base : Nat} {v : Value} {k n : Nat} {F : Nat → Nat → Int} {R : Nat → Nat} (h : Mat w base v k n F R) (hb : Below w.heap.size w w') : Mat w' base v k n F R :=
  ⟨own_below h.own hb, fun i hi => by obtain ⟨h1, h2, h3⟩ := h.blk i hi; exact ⟨h1, h2, h3.below hb h3.lt⟩, h.inj⟩
theorem info_rows : (Tryd.prog.info? 24).map (fun i => (i.zero, i.size, i.bytes)) = some (some (.slice none 0 0), 1, 24) := by kernel_rfl
theorem outV_ext {n k : Nat} {R R' : Nat → Nat} (h : ∀ i, i < k → R i = R' i) : outV n R k = outV n R' k := by
  unfold outV
  refine List.map_congr_left (fun i hi => ?_)
  rw [h i (by simpa using hi)]
theorem outV_succ (n : Nat) (R : Nat → Nat) (k : Nat) : outV n R (k + 1) = outV n R k ++ [.slice (some ⟨R k, 0, none⟩) n n] := by unfold outV; rw [List.range_succ, List.map_append]; rfl
/-- append of a new row of zeros -/
theorem wpList_append_row {w : World} {ops : Array Oper} {rest : List Oper} {o : Oper} {a : Act} {Q : Exit → Act → World → Prop} (hgd : o.guard = none) (s x : Operand)
    (ho : o.op = .call { callee := .builtin .append, args := #[s, x], argTypes := #[48, 48] })
    (base : Nat) (v : Value) (k n : Nat) (R : Nat → Nat) (F : Nat → Nat → Int) (hs : a.eval s = v) (hm : Mat w base v k n F R)
    (G r : Nat) (t2 : TypeId) (hx : a.eval x = .slice (some ⟨G, 0, none⟩) 1 1) (hG : w.heap[G]? = some (.cells #[.slice (some ⟨r, 0, none⟩) n n] t2 (0, 0))) (hr : Blk w r 3 (rowV n (F k))) (hrb : base ≤ r) (hrv : v.ownBlock ≠ some r) (hri : ∀ i, i < k → R i ≠ r)
    (hl : k ≤ 1000) (hbase : base ≤ w.heap.size)
    (h : ∀ v' w', Mat w' base v' (k + 1) n F (fun i => if i = k then r else R i) → Grow w v w' v' → wpList Tryd.prog ops Q rest (a.put o.dst v') w') : wpList Tryd.prog ops Q (o :: rest) a w := by
  obtain ⟨i0, hi, hz0, hz1, hz2⟩ := info_parts info_rows
  have hrd : Reads w w.heap.size 1 (some ⟨G, 0, none⟩) 1 [.slice (some ⟨r, 0, none⟩) n n] := ⟨rfl, fun _ => ⟨_, rfl, size_of_block hG, fun j u hu => by
    rw [addr_add, cell_of_row _ G _ _ t2 (0, 0) hG]; simpa using hu⟩⟩
  refine wpList_append_any w hgd s x 48 ho base 24 i0 _ 1 24 Tryd.underlying48 hi hz0 hz1 hz2 (by rfl) (by omega) v k _ hs hm.own w.heap.size _ 1 1 [.slice (some ⟨r, 0, none⟩) n n] hx hrd (by intro u hu; simp only [List.mem_cons, List.not_mem_nil, or_false] at hu; subst hu; rfl) (by simp only [maxLen]; omega) (by omega) hbase ?_
  intro v' w' h1 h2 h3
  have hR' : ∀ i, i < k → (if i = k then r else R i) = R i := fun i hi => if_neg (by omega)
  have keep : ∀ b vs, Blk w b 3 vs → v.ownBlock ≠ some b → Blk w' b 3 vs ∧ v'.ownBlock ≠ some b := fun b vs hb hv => by
    refine ⟨?_, fun e => ?_⟩
    · unfold Blk
      rw [h2.block b hb.lt hv.symm]; exact hb
    · rcases h3 with h3 | h3
      · rw [h3] at e; exact hv e
      · rw [h3] at e; injection e with e; have := hb.lt; omega
  refine h v' w' ⟨?_, fun i hi' => ?_, fun i j hi' hj' e => ?_⟩ ⟨h2, ?_⟩
  · rw [outV_succ, outV_ext (R' := R) hR', if_pos rfl]; exact h1
  · by_cases e : i = k
    · subst e
      rw [if_pos rfl]
      exact ⟨hrb, (keep r _ hr hrv).2, (keep r _ hr hrv).1⟩
    · rw [if_neg e]
      obtain ⟨b1, b2, b3⟩ := hm.blk i (by omega)
      exact ⟨b1, (keep _ _ b3 b2).2, (keep _ _ b3 b2).1⟩
  · by_cases e1 : i = k
    · by_cases e2 : j = k
      · omega
      · rw [if_pos e1, if_neg e2] at e; exact absurd e.symm (hri j (by omega))
    · by_cases e2 : j = k
      · rw [if_neg e1, if_pos e2] at e; exact absurd e (hri i (by omega))
      · rw [if_neg e1, if_neg e2] at e; exact hm.inj i j (by omega) (by omega) e
  · rcases h3 with h3 | h3
    · exact .inl h3
    · exact .inr ⟨_, h3, Nat.le_refl _⟩
/-- one number of a row written -/
theorem Mat.set {w : World} {base : Nat} {v : Value} {k n : Nat} {F : Nat → Nat → Int} {R : Nat → Nat} (h : Mat w base v k n F R) {i j : Nat} (hi : i < k) {z : Int} :
    Mat (w.setCell ⟨R i, j, none⟩ (.int .i64 z)) base v k n (fun a b => if a = i ∧ b = j then z else F a b) R := by
  obtain ⟨b1, b2, b3⟩ := h.blk i hi
  refine ⟨?_, fun a ha => ?_, h.inj⟩
  · refine h.own.kept (row := some (R i)) ⟨rfl, rfl, rfl, by simp, fun q hq hne => ?_⟩ ?_
    · exact heap_setCell_other _ _ _ _ (fun e => hne (by rw [e]))
    · by_cases hv : v.ownBlock = none
      · exact .inl hv
      · exact .inr b2
  · obtain ⟨a1, a2, a3⟩ := h.blk a ha
    refine ⟨a1, a2, ?_⟩
    by_cases e : a = i
    · subst e
      have := a3.set j (.int .i64 z)
      rw [rowV_set] at this
      have hf : (fun b => if a = a ∧ b = j then z else F a b) = fun b => if b = j then z else F a b := by funext b; simp
      rw [hf]; exact this
    · have hf : (fun b => if a = i ∧ b = j then z else F a b) = F a := by funext b; rw [if_neg (fun h' => e h'.1)]
      rw [hf]
      exact a3.setOther (fun e' => e (h.inj a i ha hi e'.symm)) _
def updF (F : Nat → Nat → Int) (x : Deal) : Nat → Nat → Int := fun a b => if a = x.2.1.toNat ∧ b = x.1.toNat then 4 - x.2.2 else if a = x.1.toNat ∧ b = x.2.1.toNat then x.2.2 else F a b
def foldF (d : List Deal) : Nat → Nat → Int := d.foldl updF (fun _ _ => 0)
theorem foldF_snoc {d : List Deal} {k : Nat} {x : Deal} (h : d[k]? = some x) : foldF (d.take (k + 1)) = updF (foldF (d.take k)) x := by
  unfold foldF; rw [take_succ_of h, List.foldl_append]; rfl
theorem what_snoc (x : Deal) (a b : Int) : ∀ d : List Deal, whatL (d ++ [x]) a b = if d.any (fun y => decide (y.1 = a ∧ y.2.1 = b) || decide (y.1 = b ∧ y.2.1 = a)) = true then whatL d a b else if x.1 = a ∧ x.2.1 = b then x.2.2 else if x.1 = b ∧ x.2.1 = a then 4 - x.2.2 else 0
  | [] => rfl
  | y :: d => by
    show whatL (y :: (d ++ [x])) a b = _
    unfold whatL
    by_cases h1 : y.1 = a ∧ y.2.1 = b
    · rw [if_pos h1, if_pos (by simp [h1]), if_pos h1]
    · by_cases h2 : y.1 = b ∧ y.2.1 = a
      · rw [if_neg h1, if_pos h2, if_pos (by simp [h2]), if_neg h1, if_pos h2]
      · rw [if_neg h1, if_neg h2, what_snoc x a b d, if_neg h1, if_neg h2]
        have : (y :: d).any (fun y => decide (y.1 = a ∧ y.2.1 = b) || decide (y.1 = b ∧ y.2.1 = a)) = d.any (fun y => decide (y.1 = a ∧ y.2.1 = b) || decide (y.1 = b ∧ y.2.1 = a)) := by
          rw [List.any_cons, decide_eq_false h1, decide_eq_false h2]; rfl
        rw [this]
theorem what_none {a b : Int} : ∀ {d : List Deal}, d.any (fun y => decide (y.1 = a ∧ y.2.1 = b) || decide (y.1 = b ∧ y.2.1 = a)) = false → whatL d a b = 0
  | [], _ => rfl
  | y :: d, h => by
    rw [List.any_cons, Bool.or_eq_false_iff, Bool.or_eq_false_iff] at h
    unfold whatL
    rw [if_neg (of_decide_eq_false h.1.1), if_neg (of_decide_eq_false h.1.2)]
    exact what_none h.2
theorem fold_what {n : Nat} {d : List Deal} (hr : ∀ x ∈ d, 0 ≤ x.1 ∧ x.1 < n ∧ 0 ≤ x.2.1 ∧ x.2.1 < n ∧ 1 ≤ x.2.2 ∧ x.2.2 ≤ 3 ∧ x.1 ≠ x.2.1) (ht : d.Pairwise fun x y => pairD y x = false) : ∀ k, k ≤ d.length → ∀ a b, foldF (d.take k) a b = whatL (d.take k) a b
  | 0, _, a, b => rfl
  | k + 1, hk, a, b => by
    have hx : d[k]? = some d[k] := List.getElem?_eq_getElem (by omega)
    have ih := fold_what hr ht k (by omega) a b
    rw [foldF_snoc hx, take_succ_of hx, what_snoc]
    generalize hxx : d[k] = x at *
    have hxr := hr x (by rw [← hxx]; exact List.getElem_mem (by omega))
    have hp : ∀ y ∈ d.take k, pairD x y = false := by
      have h2 : (d.take (k + 1)).Pairwise fun x y => pairD y x = false := ht.sublist (List.take_sublist _ _)
      rw [take_succ_of hx, List.pairwise_append] at h2
      exact fun y hy => h2.2.2 y hy x (by simp)
    unfold updF
    by_cases h1 : x.1 = (a : Int) ∧ x.2.1 = (b : Int)
    · have hno : (d.take k).any (fun y => decide (y.1 = (a : Int) ∧ y.2.1 = b) || decide (y.1 = (b : Int) ∧ y.2.1 = a)) = false := List.any_eq_false.2 (fun y hy => by
        have h3 := hp y hy
        unfold pairD at h3
        have h4 := of_decide_eq_false h3
        rw [Bool.or_eq_true, decide_eq_true_iff, decide_eq_true_iff]; omega)
      rw [hno, if_neg (by omega), if_pos (by omega), if_neg (by simp), if_pos h1]
    · by_cases h2 : x.1 = (b : Int) ∧ x.2.1 = (a : Int)
      · have hno : (d.take k).any (fun y => decide (y.1 = (a : Int) ∧ y.2.1 = b) || decide (y.1 = (b : Int) ∧ y.2.1 = a)) = false := List.any_eq_false.2 (fun y hy => by
          have h3 := hp y hy
          unfold pairD at h3
          have h4 := of_decide_eq_false h3
          rw [Bool.or_eq_true, decide_eq_true_iff, decide_eq_true_iff]; omega)
        rw [hno, if_pos (by omega), if_neg (by simp), if_neg h1, if_pos h2]
      · rw [if_neg (by omega), if_neg (by omega), ih]
        by_cases h3 : (d.take k).any (fun y => decide (y.1 = (a : Int) ∧ y.2.1 = b) || decide (y.1 = (b : Int) ∧ y.2.1 = a)) = true
        · rw [if_pos h3]
        · rw [if_neg h3, if_neg h1, if_neg h2]
          exact what_none (by simpa using h3)
theorem Mat.read {w : World} {base : Nat} {v : Value} {n : Nat} {F : Nat → Nat → Int} {R : Nat → Nat} (h : Mat w base v n n F R) (hn : n ≤ 1000000) (hF : ∀ i j, i < n → j < n → (Lit.int .i64 (F i j)).wf = true) : R1 (RdSlice 1 (RdSlice 1 (rdInt .i64))) w v (tabL n F) := by
  obtain ⟨A, c, rfl⟩ := own_form h.own
  refine RdSlice.of_own (xs := tabL n F) h.own (by unfold tabL; simp) (fun g hg => (own_blk h.own g hg).2) (fun i x hi => ?_)
  have hin : i < n := by have := (List.getElem?_eq_some_iff.1 hi).1; unfold tabL at this; simpa using this
  have hx : x = (List.range n).map fun k => F i k := by
    unfold tabL at hi
    rw [List.getElem?_map, List.getElem?_range hin] at hi
    simpa using hi.symm
  obtain ⟨b1, b2, b3⟩ := h.blk i hin
  refine ⟨[.slice (some ⟨R i, 0, none⟩) n n], rfl, ?_, fun j u hu => ?_⟩
  · subst hx
    refine RdSlice.new1 b3 b3.lt (by simp) (Nat.le_refl _) (by unfold maxLen; omega) (fun j y hy => ?_)
    have hj : j < n := by have := (List.getElem?_eq_some_iff.1 hy).1; simpa using this
    rw [List.getElem?_map, List.getElem?_range hj] at hy
    simp at hy
    subst hy
    exact ⟨.int .i64 (F i j), by have := rowV_at (F := F i) hj; simpa using this, rfl, hF i j hin hj⟩
  · match j, hu with
    | 0, hu =>
      simp only [List.getElem?_cons_zero, Option.some.injEq] at hu
      subst hu
      unfold outV
      rw [List.getElem?_map]; simp [hin]
theorem int_info_ : (Tryd.prog.info? 3).map (fun i => (i.zero, i.size, i.bytes)) = some (some (.int .i64 0), 1, 8) := by kernel_rfl
theorem rowV_zero (n : Nat) : List.replicate n (Value.int .i64 0) = rowV n (fun _ => 0) := by
  unfold rowV
  apply List.ext_getElem?
  intro k
  by_cases hk : k < n
  · simp [hk]
  · simp [hk]
theorem Mat.cells {w : World} {base g c : Nat} {k n : Nat} {F : Nat → Nat → Int} {R : Nat → Nat} (h : Mat w base (.slice (some ⟨g, 0, none⟩) k c) k n F R) {i : Nat} (hi : i < k) : w.cell? ⟨g, i, none⟩ = some (.slice (some ⟨R i, 0, none⟩) n n) ∧ g ≠ R i := by
  refine ⟨?_, fun e => (h.blk i hi).2.1 (by show some g = some (R i); rw [e])⟩
  have := h.own.cells (g := g) rfl i (.slice (some ⟨R i, 0, none⟩) n n) (by unfold outV; rw [List.getElem?_map]; simp [hi])
  rw [addr_add] at this
  simpa using this
set_option maxRecDepth 100000 in
set_option maxHeartbeats 8000000 in
theorem table_any {w : World} {n : Nat} {A : Option Addr} {m c : Nat} {d : List Deal} (hd : R1 rdDeals w (.slice A m c) d) (h1 : 1 ≤ n) (h8 : n ≤ 8) (hr : ∀ x ∈ d, 0 ≤ x.1 ∧ x.1 < n ∧ 0 ≤ x.2.1 ∧ x.2.1 < n ∧ 1 ≤ x.2.2 ∧ x.2.2 ≤ 3 ∧ x.1 ≠ x.2.1) (ht : d.Pairwise fun x y => pairD y x = false) :
    Calls Tryd.prog 19 #[.int .i64 n, .slice A m c] w fun e w' => ∃ v, e = .returned v ∧ R1 (RdSlice 1 (RdSlice 1 (rdInt .i64))) w' v (tabL n (WL d)) ∧ Below w.heap.size w w' := by
  obtain ⟨hm, hle, hcm⟩ := RdSlice.len hd
  have hm0 : m ≤ 9223372036854775807 := by unfold maxLen at hcm; omega
  have HD := Lib.hid hd
  have HM := Lib.hid hm
  have HR := Lib.hid hr
  have HFW := Lib.hid (fold_what hr ht)
  have HWV := Lib.hid (fun a b : Int => what_val hr a b)
  have hmk := run_make_list (P := Tryd.prog) 24 3 _ 8 Tryd.underlying24 int_info_ rfl n (by omega) (by omega)
  clear hd hm hr ht hle hcm
  go_enter Tryd.func19, Tryd.ntmps19
  go_wp2
  go_loopw [5, 9] (fun v t wr => ∃ (k : Nat) (R : Nat → Nat), k ≤ n ∧ t = .int .i64 k ∧ Mat wr w.heap.size v k n (fun _ _ => 0) R ∧ Below w.heap.size w wr) (fun _ t _ => n - (intOf t).toNat)
  case atStart => exact ⟨0, fun _ => 0, Nat.zero_le _, rfl, ⟨⟨rfl, .inl ⟨rfl, rfl⟩⟩, (fun i hi => by omega), (fun i j hi => by omega)⟩, Below.refl _ _⟩
  case round =>
    obtain ⟨k, R, hk, rfl, hmat, hb⟩ := hrel
    have HMAT := Lib.hid hmat
    have HB := Lib.hid hb
    have s1 := hb.size
    clear hmat hb
    by_cases hlt : k < n
    · have hnew : Blk ((wr.alloc (.cells (List.replicate n (Value.int .i64 0)).toArray 3)).alloc (.cells #[.slice (some ⟨wr.heap.size, 0, none⟩) n n] 24)) wr.heap.size 3 (rowV n (fun _ => 0)) := by
        rw [← rowV_zero]; exact (Blk.new wr 3 _).alloc _
      have HNEW := Lib.hid hnew
      have HM2 := Lib.hid ((HMAT.out.below ((Below.refl _ _).alloc (Nat.le_refl _) (.cells (List.replicate n (Value.int .i64 0)).toArray 3))).below ((Below.refl _ _).alloc (Nat.le_refl _) (.cells #[.slice (some ⟨wr.heap.size, 0, none⟩) n n] 24)))
      have HRV := Lib.hid (fun g (e : _ = some g) => (own_blk HMAT.out.own g e).2)
      have HRI := Lib.hid (fun i (hi : i < k) => (HMAT.out.blk i hi).2.2.lt)
      have hbx := heap_alloc_new (wr.alloc (.cells (List.replicate n (Value.int .i64 0)).toArray 3)) (.cells #[.slice (some ⟨wr.heap.size, 0, none⟩) n n] 24)
      rw [World.size_alloc] at hbx
      have HBX := Lib.hid hbx
      clear hnew hbx
      go_wp2_with (first
        | (at_builtin; go_loud (refine wpList_append_row rfl _ _ rfl w.heap.size _ k n R (fun _ _ => 0) rfl HM2.out (wr.heap.size + 1) wr.heap.size 24 rfl HBX.out HNEW.out s1 (fun e => absurd (HRV.out _ e) (Nat.lt_irrefl _)) (fun i hi e => absurd (HRI.out i hi) (by rw [e]; exact Nat.lt_irrefl _)) (by omega) (by simp; omega) ?_); intro v' w2 hmat2 hgrow2)
        | go_in)
      have s2 := hgrow2.size
      simp at s2
      go_roundw
      case rel => exact ⟨k + 1, _, by omega, by go_num, hmat2, hgrow2.below ((HB.out.alloc s1 _).alloc (by simp; omega) _) HM2.out.own (Nat.le_refl _) (by simp; omega)⟩
      case measure => simp [intOf]; omega
    · have ek : k = n := by omega
      subst ek
      obtain ⟨A5, c5, rfl⟩ := own_form HMAT.out.own
      obtain ⟨g, cap, e5, hgb, hgl, -, -⟩ := own_pos HMAT.out.own (by omega)
      simp only [Value.slice.injEq, true_and] at e5
      obtain ⟨rfl, rfl⟩ := e5
      clear hmk
      go_wp2
      go_loopw [19] (fun t wr => ∃ (j : Nat), j ≤ m ∧ t = .int .i64 j ∧ Mat wr w.heap.size (.slice (some ⟨g, 0, none⟩) k c5) k k (foldF (d.take j)) R ∧ Below w.heap.size w wr) (fun t _ => m - (intOf t).toNat)
      case atStart => exact ⟨0, Nat.zero_le _, rfl, HMAT.out, HB.out⟩
      case round =>
        obtain ⟨j, hj, rfl, hmat, hb⟩ := hrel
        have HM3 := Lib.hid hmat
        have HB3 := Lib.hid hb
        have s3 := hb.size
        clear hmat hb
        by_cases hlt2 : j < m
        · obtain ⟨b, o, x0, x1, z, rfl, hbb, HX, ⟨-, -, wz⟩, d0, d1, d2⟩ := RdSlice.atD HD.out hlt2
          have hrg := HR.out _ (List.mem_of_getElem? HX.out)
          simp only at hrg
          obtain ⟨a, rfl⟩ := Int.eq_ofNat_of_zero_le hrg.1
          obtain ⟨q, rfl⟩ := Int.eq_ofNat_of_zero_le hrg.2.2.1
          have ha : a < k := by omega
          have hq : q < k := by omega
          have hz1 : 1 ≤ z := hrg.2.2.2.2.1
          have hz2 : z ≤ 3 := hrg.2.2.2.2.2.1
          have haq : ¬ a = q := by have := hrg.2.2.2.2.2.2; omega
          have hwr : IntKind.i64.wrap (4 - z) = 4 - z := by rw [IntKind.wrap_i64]; omega
          have c0 := (HB3.out.cell hbb).trans d0
          have c1 := (HB3.out.cell hbb).trans d1
          have c2 := (HB3.out.cell hbb).trans d2
          have HF := Lib.hid (foldF_snoc HX.out)
          have hrl := fun i (hi : i < k) => (HM3.out.blk i hi).2.2.lt
          obtain ⟨ra, hra⟩ : ∃ ra, R a = ra := ⟨_, rfl⟩
          obtain ⟨rq, hrq⟩ : ∃ rq, R q = rq := ⟨_, rfl⟩
          obtain ⟨o0, hg0⟩ := HM3.out.cells ha
          obtain ⟨o1, hg1⟩ := HM3.out.cells hq
          have hrarq : ¬ ra = rq := fun e => haq (HM3.out.inj a q ha hq (by rw [hra, hrq, e]))
          have hral := hrl a ha
          have hrql := hrl q hq
          have hba := (HM3.out.blk a ha).2.2
          have hbq := (HM3.out.blk q hq).2.2
          rw [hra] at o0 hg0 hral hba
          rw [hrq] at o1 hg1 hrql hbq
          have e0 := hba.get (rowV_at (F := foldF (d.take j) a) hq)
          have e1 := hbq.get (rowV_at (F := foldF (d.take j) q) ha)
          have f0 := hba.free q
          have f1 := hbq.free a
          obtain ⟨y0, hy0⟩ : ∃ y, foldF (d.take j) a q = y := ⟨_, rfl⟩
          obtain ⟨y1, hy1⟩ : ∃ y, foldF (d.take j) q a = y := ⟨_, rfl⟩
          rw [hy0] at e0
          rw [hy1] at e1
          have hgw : g < wr.heap.size := World.block_lt_of_cell? wr _ o0
          have HRA := Lib.hid hra
          have HRQ := Lib.hid hrq
          clear hrg d0 d1 d2 hrl hba hbq hra hrq hy0 hy1 wz
          have hbd1 : Below wr.heap.size wr (wr.alloc (.cells #[.int .i64 a, .int .i64 q, .int .i64 z] 42)) := (Below.refl _ _).alloc (Nat.le_refl _) _
          have hnew := heap_alloc_new wr (.cells #[.int .i64 a, .int .i64 q, .int .i64 z] 42)
          obtain ⟨p0, p1, p2⟩ := row3 hnew
          have o0' := (hbd1.cell (p := ⟨g, a, none⟩) hgw).trans o0
          have o1' := (hbd1.cell (p := ⟨g, q, none⟩) hgw).trans o1
          have e0' := (hbd1.cell (p := ⟨ra, q, none⟩) hral).trans e0
          have e1' := (hbd1.cell (p := ⟨rq, a, none⟩) hrql).trans e1
          have f0' := (hbd1.frozen (p := ⟨ra, q, none⟩) hral).trans f0
          have f1' := (hbd1.frozen (p := ⟨rq, a, none⟩) hrql).trans f1
          have HM4 := Lib.hid (HM3.out.below hbd1)
          have HB4 := Lib.hid (HB3.out.trans (hbd1.mono s3))
          have n0 : ¬ g = wr.heap.size := by omega
          have n1 : ¬ ra = wr.heap.size := by omega
          have n2 : ¬ rq = wr.heap.size := by omega
          have n3 : ¬ wr.heap.size = g := by omega
          have n4 : ¬ wr.heap.size = ra := by omega
          have n5 : ¬ wr.heap.size = rq := by omega
          have n6 : ¬ rq = ra := fun e => hrarq e.symm
          have n7 : ¬ ra = g := fun e => hg0 e.symm
          have n8 : ¬ rq = g := fun e => hg1 e.symm
          clear hbd1 e0 e1 f0 f1 hnew
          go_wp2
          generalize (wr.alloc (.cells #[.int .i64 a, .int .i64 q, .int .i64 z] 42)) = w4 at *
          refine wp_region_noPanic ?_
          refine wp_region_held_drew (S := (fun w' => w'.cell? ⟨wr.heap.size, 0, none⟩ = some (.int .i64 a) ∧ w'.cell? ⟨wr.heap.size, 1, none⟩ = some (.int .i64 q) ∧ w'.cell? ⟨wr.heap.size, 2, none⟩ = some (.int .i64 z) ∧ w'.cell? ⟨g, a, none⟩ = some (.slice (some ⟨ra, 0, none⟩) k k) ∧ w'.cell? ⟨g, q, none⟩ = some (.slice (some ⟨rq, 0, none⟩) k k))) (by kernel_rfl) (by go_keep) (fun hHeld => ?_)
          refine' wpAnyH_take (i := 0) ?hia0 ?hsa0 ?hfa0 ?hra0 ?hQa0 ?hya0 ?hSa0 ?ha0
          case hia0 => (simp only [List.getElem?_toArray, List.getElem?_cons_succ, List.getElem?_cons_zero]; exact rfl)
          case hsa0 => kernel_rfl
          case hfa0 => kernel_rfl
          case hra0 => kernel_rfl
          case hQa0 => exact fun _ _ _ h => h
          case hya0 => (first | (refine Or.inr ⟨by rfl, ?_⟩; rfl) | (refine Or.inl ⟨by rfl, ?_⟩; (intro w hSw; (try dsimp only at hSw); go_simp); try with_reducible rfl))
          case hSa0 => assumption
          try simp only [Act.put, List.setIfInBounds_toArray, List.set_cons_zero, List.set_cons_succ]
          refine' wpAnyH_take (i := 1) ?hia1 ?hsa1 ?hfa1 ?hra1 ?hQa1 ?hya1 ?hSa1 ?ha1
          case hia1 => (simp only [List.getElem?_toArray, List.getElem?_cons_succ, List.getElem?_cons_zero]; exact rfl)
          case hsa1 => kernel_rfl
          case hfa1 => kernel_rfl
          case hra1 => kernel_rfl
          case hQa1 => exact fun _ _ _ h => h
          case hya1 => (first | (refine Or.inr ⟨by rfl, ?_⟩; rfl) | (refine Or.inl ⟨by rfl, ?_⟩; (intro w hSw; (try dsimp only at hSw); go_simp); try with_reducible rfl))
          case hSa1 => assumption
          try simp only [Act.put, List.setIfInBounds_toArray, List.set_cons_zero, List.set_cons_succ]
          refine' wpAnyH_take (i := 2) ?hia2 ?hsa2 ?hfa2 ?hra2 ?hQa2 ?hya2 ?hSa2 ?ha2
          case hia2 => (simp only [List.getElem?_toArray, List.getElem?_cons_succ, List.getElem?_cons_zero]; exact rfl)
          case hsa2 => kernel_rfl
          case hfa2 => kernel_rfl
          case hra2 => kernel_rfl
          case hQa2 => exact fun _ _ _ h => h
          case hya2 => (first | (refine Or.inr ⟨by rfl, ?_⟩; rfl) | (refine Or.inl ⟨by rfl, ?_⟩; (intro w hSw; (try dsimp only at hSw); go_simp); try with_reducible rfl))
          case hSa2 => assumption
          try simp only [Act.put, List.setIfInBounds_toArray, List.set_cons_zero, List.set_cons_succ]
          refine' wpAnyH_take (i := 3) ?hia3 ?hsa3 ?hfa3 ?hra3 ?hQa3 ?hya3 ?hSa3 ?ha3
          case hia3 => (simp only [List.getElem?_toArray, List.getElem?_cons_succ, List.getElem?_cons_zero]; exact rfl)
          case hsa3 => kernel_rfl
          case hfa3 => kernel_rfl
          case hra3 => kernel_rfl
          case hQa3 => exact fun _ _ _ h => h
          case hya3 => (first | (refine Or.inr ⟨by rfl, ?_⟩; rfl) | (refine Or.inl ⟨by rfl, ?_⟩; (intro w hSw; (try dsimp only at hSw); go_simp); try with_reducible rfl))
          case hSa3 => assumption
          try simp only [Act.put, List.setIfInBounds_toArray, List.set_cons_zero, List.set_cons_succ]
          refine' wpAnyH_take (i := 4) ?hia4 ?hsa4 ?hfa4 ?hra4 ?hQa4 ?hya4 ?hSa4 ?ha4
          case hia4 => (simp only [List.getElem?_toArray, List.getElem?_cons_succ, List.getElem?_cons_zero]; exact rfl)
          case hsa4 => kernel_rfl
          case hfa4 => kernel_rfl
          case hra4 => kernel_rfl
          case hQa4 => exact fun _ _ _ h => h
          case hya4 => (first | (refine Or.inr ⟨by rfl, ?_⟩; rfl) | (refine Or.inl ⟨by rfl, ?_⟩; (intro w hSw; (try dsimp only at hSw); go_simp); try with_reducible rfl))
          case hSa4 => assumption
          try simp only [Act.put, List.setIfInBounds_toArray, List.set_cons_zero, List.set_cons_succ]
          refine' wpAnyH_take (i := 5) ?hia5 ?hsa5 ?hfa5 ?hra5 ?hQa5 ?hya5 ?hSa5 ?ha5
          case hia5 => (simp only [List.getElem?_toArray, List.getElem?_cons_succ, List.getElem?_cons_zero]; exact rfl)
          case hsa5 => kernel_rfl
          case hfa5 => kernel_rfl
          case hra5 => kernel_rfl
          case hQa5 => exact fun _ _ _ h => h
          case hya5 => (first | (refine Or.inr ⟨by rfl, ?_⟩; rfl) | (refine Or.inl ⟨by rfl, ?_⟩; (intro w hSw; (try dsimp only at hSw); go_simp); try with_reducible rfl))
          case hSa5 => assumption
          try simp only [Act.put, List.setIfInBounds_toArray, List.set_cons_zero, List.set_cons_succ]
          refine' wpAnyH_take (i := 6) ?hia6 ?hsa6 ?hfa6 ?hra6 ?hQa6 ?hya6 ?hSa6 ?ha6
          case hia6 => (simp only [List.getElem?_toArray, List.getElem?_cons_succ, List.getElem?_cons_zero]; exact rfl)
          case hsa6 => kernel_rfl
          case hfa6 => kernel_rfl
          case hra6 => kernel_rfl
          case hQa6 => exact fun _ _ _ h => h
          case hya6 => (first | (refine Or.inr ⟨by rfl, ?_⟩; rfl) | (refine Or.inl ⟨by rfl, ?_⟩; (intro w hSw; (try dsimp only at hSw); go_simp); try with_reducible rfl))
          case hSa6 => assumption
          try simp only [Act.put, List.setIfInBounds_toArray, List.set_cons_zero, List.set_cons_succ]
          refine' wpAnyH_take (i := 7) ?hia7 ?hsa7 ?hfa7 ?hra7 ?hQa7 ?hya7 ?hSa7 ?ha7
          case hia7 => (simp only [List.getElem?_toArray, List.getElem?_cons_succ, List.getElem?_cons_zero]; exact rfl)
          case hsa7 => kernel_rfl
          case hfa7 => kernel_rfl
          case hra7 => kernel_rfl
          case hQa7 => exact fun _ _ _ h => h
          case hya7 => (first | (refine Or.inr ⟨by rfl, ?_⟩; rfl) | (refine Or.inl ⟨by rfl, ?_⟩; (intro w hSw; (try dsimp only at hSw); go_simp); try with_reducible rfl))
          case hSa7 => assumption
          try simp only [Act.put, List.setIfInBounds_toArray, List.set_cons_zero, List.set_cons_succ]
          refine' wpAnyH_take (i := 8) ?hia8 ?hsa8 ?hfa8 ?hra8 ?hQa8 ?hya8 ?hSa8 ?ha8
          case hia8 => (simp only [List.getElem?_toArray, List.getElem?_cons_succ, List.getElem?_cons_zero]; exact rfl)
          case hsa8 => kernel_rfl
          case hfa8 => kernel_rfl
          case hra8 => kernel_rfl
          case hQa8 => exact fun _ _ _ h => h
          case hya8 => (first | (refine Or.inr ⟨by rfl, ?_⟩; rfl) | (refine Or.inl ⟨by rfl, ?_⟩; (intro w hSw; (try dsimp only at hSw); go_simp); try with_reducible rfl))
          case hSa8 => assumption
          try simp only [Act.put, List.setIfInBounds_toArray, List.set_cons_zero, List.set_cons_succ]
          refine' wpAnyH_take (i := 9) ?hia9 ?hsa9 ?hfa9 ?hra9 ?hQa9 ?hya9 ?hSa9 ?ha9
          case hia9 => (simp only [List.getElem?_toArray, List.getElem?_cons_succ, List.getElem?_cons_zero]; exact rfl)
          case hsa9 => kernel_rfl
          case hfa9 => kernel_rfl
          case hra9 => kernel_rfl
          case hQa9 => exact fun _ _ _ h => h
          case hya9 => (first | (refine Or.inr ⟨by rfl, ?_⟩; rfl) | (refine Or.inl ⟨by rfl, ?_⟩; (intro w hSw; (try dsimp only at hSw); go_simp); try with_reducible rfl))
          case hSa9 => assumption
          try simp only [Act.put, List.setIfInBounds_toArray, List.set_cons_zero, List.set_cons_succ]
          refine' wpAnyH_take (i := 10) ?hia10 ?hsa10 ?hfa10 ?hra10 ?hQa10 ?hya10 ?hSa10 ?ha10
          case hia10 => (simp only [List.getElem?_toArray, List.getElem?_cons_succ, List.getElem?_cons_zero]; exact rfl)
          case hsa10 => kernel_rfl
          case hfa10 => kernel_rfl
          case hra10 => kernel_rfl
          case hQa10 => exact fun _ _ _ h => h
          case hya10 => (first | (refine Or.inr ⟨by rfl, ?_⟩; rfl) | (refine Or.inl ⟨by rfl, ?_⟩; (intro w hSw; (try dsimp only at hSw); go_simp); try with_reducible rfl))
          case hSa10 => assumption
          try simp only [Act.put, List.setIfInBounds_toArray, List.set_cons_zero, List.set_cons_succ]
          refine' wpAnyH_take (i := 11) ?hia11 ?hsa11 ?hfa11 ?hra11 ?hQa11 ?hya11 ?hSa11 ?ha11
          case hia11 => (simp only [List.getElem?_toArray, List.getElem?_cons_succ, List.getElem?_cons_zero]; exact rfl)
          case hsa11 => kernel_rfl
          case hfa11 => kernel_rfl
          case hra11 => kernel_rfl
          case hQa11 => exact fun _ _ _ h => h
          case hya11 => (first | (refine Or.inr ⟨by rfl, ?_⟩; rfl) | (refine Or.inl ⟨by rfl, ?_⟩; (intro w hSw; (try dsimp only at hSw); go_simp); try with_reducible rfl))
          case hSa11 => assumption
          try simp only [Act.put, List.setIfInBounds_toArray, List.set_cons_zero, List.set_cons_succ]
          refine' wpAnyH_take (i := 12) ?hia12 ?hsa12 ?hfa12 ?hra12 ?hQa12 ?hya12 ?hSa12 ?ha12
          case hia12 => (simp only [List.getElem?_toArray, List.getElem?_cons_succ, List.getElem?_cons_zero]; exact rfl)
          case hsa12 => kernel_rfl
          case hfa12 => kernel_rfl
          case hra12 => kernel_rfl
          case hQa12 => exact fun _ _ _ h => h
          case hya12 => (first | (refine Or.inr ⟨by rfl, ?_⟩; rfl) | (refine Or.inl ⟨by rfl, ?_⟩; (intro w hSw; (try dsimp only at hSw); go_simp); try with_reducible rfl))
          case hSa12 => assumption
          try simp only [Act.put, List.setIfInBounds_toArray, List.set_cons_zero, List.set_cons_succ]
          refine' wpAnyH_take (i := 13) ?hia13 ?hsa13 ?hfa13 ?hra13 ?hQa13 ?hya13 ?hSa13 ?ha13
          case hia13 => (simp only [List.getElem?_toArray, List.getElem?_cons_succ, List.getElem?_cons_zero]; exact rfl)
          case hsa13 => kernel_rfl
          case hfa13 => kernel_rfl
          case hra13 => kernel_rfl
          case hQa13 => exact fun _ _ _ h => h
          case hya13 => (first | (refine Or.inr ⟨by rfl, ?_⟩; rfl) | (refine Or.inl ⟨by rfl, ?_⟩; (intro w hSw; (try dsimp only at hSw); go_simp); try with_reducible rfl))
          case hSa13 => assumption
          try simp only [Act.put, List.setIfInBounds_toArray, List.set_cons_zero, List.set_cons_succ]
          refine' wpAnyH_take (i := 14) ?hia14 ?hsa14 ?hfa14 ?hra14 ?hQa14 ?hya14 ?hSa14 ?ha14
          case hia14 => (simp only [List.getElem?_toArray, List.getElem?_cons_succ, List.getElem?_cons_zero]; exact rfl)
          case hsa14 => kernel_rfl
          case hfa14 => kernel_rfl
          case hra14 => kernel_rfl
          case hQa14 => exact fun _ _ _ h => h
          case hya14 => (first | (refine Or.inr ⟨by rfl, ?_⟩; rfl) | (refine Or.inl ⟨by rfl, ?_⟩; (intro w hSw; (try dsimp only at hSw); go_simp); try with_reducible rfl))
          case hSa14 => assumption
          try simp only [Act.put, List.setIfInBounds_toArray, List.set_cons_zero, List.set_cons_succ]
          refine' wpAnyH_take (i := 15) ?hia15 ?hsa15 ?hfa15 ?hra15 ?hQa15 ?hya15 ?hSa15 ?ha15
          case hia15 => (simp only [List.getElem?_toArray, List.getElem?_cons_succ, List.getElem?_cons_zero]; exact rfl)
          case hsa15 => kernel_rfl
          case hfa15 => kernel_rfl
          case hra15 => kernel_rfl
          case hQa15 => exact fun _ _ _ h => h
          case hya15 => (first | (refine Or.inr ⟨by rfl, ?_⟩; rfl) | (refine Or.inl ⟨by rfl, ?_⟩; (intro w hSw; (try dsimp only at hSw); go_simp); try with_reducible rfl))
          case hSa15 => assumption
          try simp only [Act.put, List.setIfInBounds_toArray, List.set_cons_zero, List.set_cons_succ]
          refine' wpAnyH_take (i := 16) ?hia16 ?hsa16 ?hfa16 ?hra16 ?hQa16 ?hya16 ?hSa16 ?ha16
          case hia16 => (simp only [List.getElem?_toArray, List.getElem?_cons_succ, List.getElem?_cons_zero]; exact rfl)
          case hsa16 => kernel_rfl
          case hfa16 => kernel_rfl
          case hra16 => kernel_rfl
          case hQa16 => exact fun _ _ _ h => h
          case hya16 => (first | (refine Or.inr ⟨by rfl, ?_⟩; rfl) | (refine Or.inl ⟨by rfl, ?_⟩; (intro w hSw; (try dsimp only at hSw); go_simp); try with_reducible rfl))
          case hSa16 => assumption
          try simp only [Act.put, List.setIfInBounds_toArray, List.set_cons_zero, List.set_cons_succ]
          refine' wpAnyH_take (i := 17) ?hia17 ?hsa17 ?hfa17 ?hra17 ?hQa17 ?hya17 ?hSa17 ?ha17
          case hia17 => (simp only [List.getElem?_toArray, List.getElem?_cons_succ, List.getElem?_cons_zero]; exact rfl)
          case hsa17 => kernel_rfl
          case hfa17 => kernel_rfl
          case hra17 => kernel_rfl
          case hQa17 => exact fun _ _ _ h => h
          case hya17 => (first | (refine Or.inr ⟨by rfl, ?_⟩; rfl) | (refine Or.inl ⟨by rfl, ?_⟩; (intro w hSw; (try dsimp only at hSw); go_simp); try with_reducible rfl))
          case hSa17 => assumption
          try simp only [Act.put, List.setIfInBounds_toArray, List.set_cons_zero, List.set_cons_succ]
          refine' wpAnyH_take (i := 18) ?hia18 ?hsa18 ?hfa18 ?hra18 ?hQa18 ?hya18 ?hSa18 ?ha18
          case hia18 => (simp only [List.getElem?_toArray, List.getElem?_cons_succ, List.getElem?_cons_zero]; exact rfl)
          case hsa18 => kernel_rfl
          case hfa18 => kernel_rfl
          case hra18 => kernel_rfl
          case hQa18 => exact fun _ _ _ h => h
          case hya18 => (first | (refine Or.inr ⟨by rfl, ?_⟩; rfl) | (refine Or.inl ⟨by rfl, ?_⟩; (intro w hSw; (try dsimp only at hSw); go_simp); try with_reducible rfl))
          case hSa18 => assumption
          try simp only [Act.put, List.setIfInBounds_toArray, List.set_cons_zero, List.set_cons_succ]
          refine' wpAnyH_take (i := 19) ?hia19 ?hsa19 ?hfa19 ?hra19 ?hQa19 ?hya19 ?hSa19 ?ha19
          case hia19 => (simp only [List.getElem?_toArray, List.getElem?_cons_succ, List.getElem?_cons_zero]; exact rfl)
          case hsa19 => kernel_rfl
          case hfa19 => kernel_rfl
          case hra19 => kernel_rfl
          case hQa19 => exact fun _ _ _ h => h
          case hya19 => (first | (refine Or.inr ⟨by rfl, ?_⟩; rfl) | (refine Or.inl ⟨by rfl, ?_⟩; (intro w hSw; (try dsimp only at hSw); go_simp); try with_reducible rfl))
          case hSa19 => assumption
          try simp only [Act.put, List.setIfInBounds_toArray, List.set_cons_zero, List.set_cons_succ]
          refine wpAnyH_ready (rs := [20]) (by kernel_rfl) (by simp) ?_
          refine' AllReadyH.cons ?hia20 (fun K hK => ?ha20) AllReadyH.nil
          case hia20 => (simp only [List.getElem?_toArray, List.getElem?_cons_succ, List.getElem?_cons_zero]; exact rfl)
          go_simp
          refine hK.out _ _ (by go_keep) (fun hHeld => ?_)
          clear hK K
          refine' wpAnyH_take (i := 21) ?hia21 ?hsa21 ?hfa21 ?hra21 ?hQa21 ?hya21 ?hSa21 ?ha21
          case hia21 => (simp only [List.getElem?_toArray, List.getElem?_cons_succ, List.getElem?_cons_zero]; exact rfl)
          case hsa21 => kernel_rfl
          case hfa21 => kernel_rfl
          case hra21 => kernel_rfl
          case hQa21 => exact fun _ _ _ h => h
          case hya21 => (first | (refine Or.inr ⟨by rfl, ?_⟩; rfl) | (refine Or.inl ⟨by rfl, ?_⟩; (intro w hSw; (try dsimp only at hSw); go_simp); try with_reducible rfl))
          case hSa21 => assumption
          try simp only [Act.put, List.setIfInBounds_toArray, List.set_cons_zero, List.set_cons_succ]
          refine wpAnyH_ready (rs := [22]) (by kernel_rfl) (by simp) ?_
          refine' AllReadyH.cons ?hia22 (fun K hK => ?ha22) AllReadyH.nil
          case hia22 => (simp only [List.getElem?_toArray, List.getElem?_cons_succ, List.getElem?_cons_zero]; exact rfl)
          go_simp
          refine hK.out _ _ (by go_keep) (fun hHeld => ?_)
          clear hK K
          refine wpAnyH_done (by kernel_rfl) ?_ _
          refine NoPanic.normal ?_
          have hm6 := (HM4.out.set (i := a) (j := q) ha (z := z)).set (i := q) (j := a) hq (z := 4 - z)
          rw [HRA.out, HRQ.out] at hm6
          have HM6 := Lib.hid (hm6.below (below_drewN (Below.refl _ _) 1))
          have HB6 : Hid (Below w.heap.size w ((w4.setCell ⟨ra, q, none⟩ (.int .i64 z)).setCell ⟨rq, a, none⟩ (.int .i64 (4 - z))).drew) := Lib.hid (below_drewN ((HB4.out.setCell (by rw [← HRA.out]; exact (HM4.out.blk a ha).1) _).setCell (by rw [← HRQ.out]; exact (HM4.out.blk q hq).1) _) 1)
          have hFF : foldF (d.take (j + 1)) = fun x y => if x = q ∧ y = a then 4 - z else if x = a ∧ y = q then z else foldF (d.take j) x y := by
            rw [HF.out]; rfl
          have HFF := Lib.hid hFF
          clear hHeld hm6 hFF
          go_wp2
          go_roundw
          case rel => exact ⟨j + 1, by omega, by go_num, by rw [HFF.out]; exact HM6.out, HB6.out⟩
          case measure => simp [intOf]; omega
        · have ej : j = m := by omega
          subst ej
          have e : d.take j = d := List.take_of_length_le (by rw [HM.out]; exact Nat.le_refl _)
          have hF : foldF (d.take j) = WL d := by
            funext x y
            have := HFW.out j (by rw [HM.out]; exact Nat.le_refl _) x y
            rw [this, e]; rfl
          have hm5 := HM3.out
          rw [hF] at hm5
          have HM5 := Lib.hid hm5
          have HOUT := Lib.hid (hm5.read (by omega) (fun x y _ _ => WalkArith.wf_i64 (by have := HWV.out x y; unfold WL; omega)))
          clear e hF hm5
          go_wp2
          go_ret
          exact ⟨_, rfl, HOUT.out, HB3.out⟩
end Go.Proofs.YtnihheikaddmoaaDoor
