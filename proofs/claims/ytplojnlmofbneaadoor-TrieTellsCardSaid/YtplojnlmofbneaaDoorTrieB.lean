/- trie.there, Get, Drop, as contracts. -/
import Derived.Test.YtplojnlmofbneaaDoorTrieA
namespace Go.Proofs.YtplojnlmofbneaaDoor
open Go.ChangeShapes Go.WideShapes Go.ChangeAt Go.RowKit
set_option linter.unusedVariables false
set_option linter.unusedSimpArgs false
theorem box1 {w w' : World} {o : Obj} (hb : Below (w.alloc o).heap.size (w.alloc o) w') : w'.heap[w.heap.size]? = some o :=
  below_block hb (by simp) (heap_alloc_new w o)
theorem below_1 (w : World) (o : Obj) : Below w.heap.size w (w.alloc o) := (Below.refl _ _).alloc (Nat.le_refl _) o
section
variable {w : World} {T B : Nat} {N : NM} {m : List (Nt × Int)} {a : Int}
theorem there_bad {n : Int} (ha : is32 a) (h : netF (a, n) ≠ 0) :
    Calls Tryd.prog 38 #[.pointer (some ⟨T, 0, none⟩), .agg #[.int .u32 a, .int .i64 n]] w fun e w' => e = .returned (.tuple #[.pointer none, .iface 41 (.int .i64 (netF (a, n)))]) ∧ Below w.heap.size w w' := by
  have HZ := Lib.hid h
  obtain ⟨h0, h1⟩ := ha
  clear h
  go_enter Tryd.func38, Tryd.ntmps38
  go_wp2_with (first
    | (go_at_call 25; (with_reducible refine (Check_bad _ h0 h1 HZ.out).mono ?_); rintro e w1 ⟨rfl, hb1⟩; have HB1 := Lib.hid ((below_1 w _).trans (hb1.mono (by simp))); clear hb1)
    | fail)
  go_ret2
  exact ⟨rfl, HB1.out⟩
theorem there_none {n : Nat} (h : Tri w T B N m) (ha : is32 a) (hF : netF (a, (n : Int)) = 0) (hl : look m (a, (n : Int)) = none) (hB : B ≤ w.heap.size) :
    Calls Tryd.prog 38 #[.pointer (some ⟨T, 0, none⟩), .agg #[.int .u32 a, .int .i64 n]] w fun e w' => e = .returned (.tuple #[.pointer none, .iface 41 (.int .i64 2)]) ∧ Below w.heap.size w w' := by
  have HZ := Lib.hid hF
  have HA := Lib.hid ha
  have hn : n ≤ 32 := by have := (netF_zero.1 hF).2.1; omega
  have HN := Lib.hid hn
  have HW : Hid (fl (lowI n) a = a) := Lib.hid (by simpa using (netF_zero.1 hF).2.2)
  obtain ⟨h0, h1⟩ := ha
  have HT := Lib.hid h
  have HL := Lib.hid hl
  clear h hF hl
  cases hN : N (a, (n : Int)) with
  | none =>
    have HP : Hid (ptrO (N (a, (n : Int))) = .pointer none) := Lib.hid (by rw [hN]; rfl)
    clear hN
    go_enter Tryd.func38, Tryd.ntmps38
    go_wp2_with fail
    go_at_call 25; (with_reducible refine (Check_ok _ h0 h1 HZ.out).mono ?_); rintro e w1 ⟨rfl, hb1⟩
    obtain ⟨d0, d1, _, _⟩ := row2 (box1 hb1)
    have HT1 := Lib.hid ((HT.out.alloc _).below hb1)
    have HB1 := Lib.hid ((below_1 w _).trans (hb1.mono (by simp)))
    have hz1 := HB1.out.size
    clear hb1
    go_wp2_with fail
    go_at_call 36; (with_reducible refine (at_any HT1.out HN.out HA.out (by omega) HW.out).mono ?_); rintro e w2 ⟨rfl, hb2⟩
    rw [HP.out]
    have HB2 := Lib.hid (HB1.out.trans (hb2.mono (by omega)))
    clear hb2
    go_wp2
    go_ret2
    exact ⟨rfl, HB2.out⟩
  | some b =>
    have HP : Hid (ptrO (N (a, (n : Int))) = .pointer (some ⟨b, 0, none⟩)) := Lib.hid (by rw [hN]; rfl)
    have HNb := Lib.hid hN
    clear hN
    go_enter Tryd.func38, Tryd.ntmps38
    go_wp2_with fail
    go_at_call 25; (with_reducible refine (Check_ok _ h0 h1 HZ.out).mono ?_); rintro e w1 ⟨rfl, hb1⟩
    obtain ⟨d0, d1, _, _⟩ := row2 (box1 hb1)
    have HT1 := Lib.hid ((HT.out.alloc _).below hb1)
    have HB1 := Lib.hid ((below_1 w _).trans (hb1.mono (by simp)))
    have hz1 := HB1.out.size
    clear hb1
    go_wp2_with fail
    go_at_call 36; (with_reducible refine (at_any HT1.out HN.out HA.out (by omega) HW.out).mono ?_); rintro e w2 ⟨rfl, hb2⟩
    rw [HP.out]
    have HT2 := Lib.hid (HT1.out.below hb2)
    obtain ⟨v, -, ⟨c0, -, -, -⟩, -⟩ := HT2.out.cells HNb.out
    rw [HL.out] at c0
    simp only [Option.isSome_none] at c0
    have HB2 := Lib.hid (HB1.out.trans (hb2.mono (by omega)))
    clear hb2
    go_wp2
    go_ret2
    exact ⟨rfl, HB2.out⟩
theorem there_some {n : Nat} {v : Int} (h : Tri w T B N m) (ha : is32 a) (hF : netF (a, (n : Int)) = 0) (hl : look m (a, (n : Int)) = some v) (hB : B ≤ w.heap.size) :
    Calls Tryd.prog 38 #[.pointer (some ⟨T, 0, none⟩), .agg #[.int .u32 a, .int .i64 n]] w fun e w' => ∃ b, N (a, (n : Int)) = some b ∧ e = .returned (.tuple #[.pointer (some ⟨b, 0, none⟩), .nilIface]) ∧ Below w.heap.size w w' := by
  have HZ := Lib.hid hF
  have HA := Lib.hid ha
  have hn : n ≤ 32 := by have := (netF_zero.1 hF).2.1; omega
  have HN := Lib.hid hn
  have HW : Hid (fl (lowI n) a = a) := Lib.hid (by simpa using (netF_zero.1 hF).2.2)
  obtain ⟨h0, h1⟩ := ha
  have HT := Lib.hid h
  have HL := Lib.hid hl
  obtain ⟨b, hN⟩ := Option.ne_none_iff_exists'.1 (h.has (a, (n : Int)) (by rw [hl]; simp))
  have HP : Hid (ptrO (N (a, (n : Int))) = .pointer (some ⟨b, 0, none⟩)) := Lib.hid (by rw [hN]; rfl)
  have HNb := Lib.hid hN
  clear h hF hl hN
  suffices hs : Calls Tryd.prog 38 #[.pointer (some ⟨T, 0, none⟩), .agg #[.int .u32 a, .int .i64 n]] w fun e w' => e = .returned (.tuple #[.pointer (some ⟨b, 0, none⟩), .nilIface]) ∧ Below w.heap.size w w' from
    hs.mono fun e w' hh => ⟨b, HNb.out, hh.1, hh.2⟩
  go_enter Tryd.func38, Tryd.ntmps38
  go_wp2_with fail
  go_at_call 25; (with_reducible refine (Check_ok _ h0 h1 HZ.out).mono ?_); rintro e w1 ⟨rfl, hb1⟩
  obtain ⟨d0, d1, _, _⟩ := row2 (box1 hb1)
  have HT1 := Lib.hid ((HT.out.alloc _).below hb1)
  have HB1 := Lib.hid ((below_1 w _).trans (hb1.mono (by simp)))
  have hz1 := HB1.out.size
  clear hb1
  go_wp2_with fail
  go_at_call 36; (with_reducible refine (at_any HT1.out HN.out HA.out (by omega) HW.out).mono ?_); rintro e w2 ⟨rfl, hb2⟩
  rw [HP.out]
  have HT2 := Lib.hid (HT1.out.below hb2)
  obtain ⟨u, -, ⟨c0, -, -, -⟩, -⟩ := HT2.out.cells HNb.out
  rw [HL.out] at c0
  simp only [Option.isSome_some] at c0
  have HB2 := Lib.hid (HB1.out.trans (hb2.mono (by omega)))
  clear hb2
  go_wp2
  go_ret2
  exact ⟨rfl, HB2.out⟩

/-! ### Get -/
theorem Get_bad {n : Int} (ha : is32 a) (h : netF (a, n) ≠ 0) :
    Calls Tryd.prog 17 #[.pointer (some ⟨T, 0, none⟩), .agg #[.int .u32 a, .int .i64 n]] w fun e w' => e = .returned (.tuple #[.int .i64 0, .iface 41 (.int .i64 (netF (a, n)))]) ∧ Below w.heap.size w w' := by
  have HZ := Lib.hid h
  have HA := Lib.hid ha
  clear h
  go_enter Tryd.func17, Tryd.ntmps17
  go_wp2_with fail
  go_at_call 38; (with_reducible refine (there_bad HA.out HZ.out).mono ?_); rintro e w1 ⟨rfl, hb1⟩
  have HB1 := Lib.hid ((below_1 w _).trans (hb1.mono (by simp)))
  clear hb1
  go_wp2
  go_ret2
  exact ⟨rfl, HB1.out⟩
theorem Get_none {n : Nat} (h : Tri w T B N m) (ha : is32 a) (hF : netF (a, (n : Int)) = 0) (hl : look m (a, (n : Int)) = none) (hB : B ≤ w.heap.size) :
    Calls Tryd.prog 17 #[.pointer (some ⟨T, 0, none⟩), .agg #[.int .u32 a, .int .i64 n]] w fun e w' => e = .returned (.tuple #[.int .i64 0, .iface 41 (.int .i64 2)]) ∧ Below w.heap.size w w' := by
  have HZ := Lib.hid hF
  have HA := Lib.hid ha
  have HL := Lib.hid hl
  have HT := Lib.hid h
  clear h hF hl
  go_enter Tryd.func17, Tryd.ntmps17
  go_wp2_with fail
  go_at_call 38; (with_reducible refine (there_none (HT.out.alloc _) HA.out HZ.out HL.out (by simp; omega)).mono ?_); rintro e w1 ⟨rfl, hb1⟩
  have HB1 := Lib.hid ((below_1 w _).trans (hb1.mono (by simp)))
  clear hb1
  go_wp2
  go_ret2
  exact ⟨rfl, HB1.out⟩
theorem Get_some {n : Nat} {v : Int} (h : Tri w T B N m) (ha : is32 a) (hF : netF (a, (n : Int)) = 0) (hl : look m (a, (n : Int)) = some v) (hB : B ≤ w.heap.size) :
    Calls Tryd.prog 17 #[.pointer (some ⟨T, 0, none⟩), .agg #[.int .u32 a, .int .i64 n]] w fun e w' => e = .returned (.tuple #[.int .i64 v, .nilIface]) ∧ Below w.heap.size w w' := by
  have HZ := Lib.hid hF
  have HA := Lib.hid ha
  have HL := Lib.hid hl
  have HT := Lib.hid h
  clear h hF hl
  go_enter Tryd.func17, Tryd.ntmps17
  go_wp2_with fail
  go_at_call 38; (with_reducible refine (there_some (HT.out.alloc _) HA.out HZ.out HL.out (by simp; omega)).mono ?_); rintro e w1 ⟨b, hN, rfl, hb1⟩
  obtain ⟨u, hu, ⟨-, c1, -, -⟩, -⟩ := ((HT.out.alloc _).below hb1).cells hN
  obtain rfl := hu v HL.out
  have HB1 := Lib.hid ((below_1 w _).trans (hb1.mono (by simp)))
  clear hb1 hN hu
  go_wp2
  go_ret2
  exact ⟨rfl, HB1.out⟩

/-! ### Drop -/
theorem Drop_bad {n : Int} (ha : is32 a) (h : netF (a, n) ≠ 0) :
    Calls Tryd.prog 11 #[.pointer (some ⟨T, 0, none⟩), .agg #[.int .u32 a, .int .i64 n]] w fun e w' => e = .returned (.iface 41 (.int .i64 (netF (a, n)))) ∧ Below w.heap.size w w' := by
  have HZ := Lib.hid h
  have HA := Lib.hid ha
  clear h
  go_enter Tryd.func11, Tryd.ntmps11
  go_wp2_with fail
  go_at_call 38; (with_reducible refine (there_bad HA.out HZ.out).mono ?_); rintro e w1 ⟨rfl, hb1⟩
  have HB1 := Lib.hid ((below_1 w _).trans (hb1.mono (by simp)))
  clear hb1
  go_wp2
  go_ret
  exact ⟨rfl, HB1.out⟩
theorem Drop_none {n : Nat} (h : Tri w T B N m) (ha : is32 a) (hF : netF (a, (n : Int)) = 0) (hl : look m (a, (n : Int)) = none) (hB : B ≤ w.heap.size) :
    Calls Tryd.prog 11 #[.pointer (some ⟨T, 0, none⟩), .agg #[.int .u32 a, .int .i64 n]] w fun e w' => e = .returned (.iface 41 (.int .i64 2)) ∧ Below w.heap.size w w' := by
  have HZ := Lib.hid hF
  have HA := Lib.hid ha
  have HL := Lib.hid hl
  have HT := Lib.hid h
  clear h hF hl
  go_enter Tryd.func11, Tryd.ntmps11
  go_wp2_with fail
  go_at_call 38; (with_reducible refine (there_none (HT.out.alloc _) HA.out HZ.out HL.out (by simp; omega)).mono ?_); rintro e w1 ⟨rfl, hb1⟩
  have HB1 := Lib.hid ((below_1 w _).trans (hb1.mono (by simp)))
  clear hb1
  go_wp2
  go_ret
  exact ⟨rfl, HB1.out⟩
theorem Keeps.of_below {w' : World} (hb : Below w.heap.size w w') (hB : B ≤ w.heap.size) : Keeps B N w w' := ⟨hb.mono hB, fun g hg _ => hb.block g hg⟩
theorem Keeps.trans {w1 w2 : World} (h : Keeps B N w w1) (k : Keeps B N w1 w2) : Keeps B N w w2 :=
  ⟨h.bel.trans k.bel, fun g hg hn => (k.oth g (Nat.lt_of_lt_of_le hg h.bel.size) hn).trans (h.oth g hg hn)⟩
theorem Keeps.setCell {w1 : World} (h : Keeps B N w w1) {x : Nt} {b o : Nat} (hx : N x = some b) (hb : B ≤ b) (u : Value) : Keeps B N w (w1.setCell ⟨b, o, none⟩ u) :=
  ⟨h.bel.setCell hb u, fun g hg hn => (heap_setCell_other _ _ _ _ (fun e => hn x (by rw [hx, e]))).trans (h.oth g hg hn)⟩
theorem Drop_some {n : Nat} {v : Int} (h : Tri w T B N m) (ha : is32 a) (hF : netF (a, (n : Int)) = 0) (hl : look m (a, (n : Int)) = some v) (hB : B ≤ w.heap.size) :
    Calls Tryd.prog 11 #[.pointer (some ⟨T, 0, none⟩), .agg #[.int .u32 a, .int .i64 n]] w fun e w' => e = .returned .nilIface ∧ Tri w' T B N (delM m (a, (n : Int))) ∧ Keeps B N w w' := by
  have HZ := Lib.hid hF
  have HA := Lib.hid ha
  have HL := Lib.hid hl
  have HT := Lib.hid h
  have HLen : Hid (((delM m (a, (n : Int))).length : Int) = (m.length : Int) - 1) := Lib.hid (by
    have := del_length h.ok.nodup (x := (a, (n : Int))) (by rw [hl]; simp); omega)
  have hml : m.length ≤ 64 := h.ok.len
  have hBr := Lib.hid hB
  clear h hF hl
  go_enter Tryd.func11, Tryd.ntmps11
  go_wp2_with fail
  go_at_call 38; (with_reducible refine (there_some (HT.out.alloc _) HA.out HZ.out HL.out (by simp; omega)).mono ?_); rintro e w1 ⟨b, hN, rfl, hb1⟩
  have hT1 := (HT.out.alloc _).below hb1
  obtain ⟨u, hu, ⟨c0, c1, -, -⟩, f0, -⟩ := hT1.cells hN
  obtain ⟨g4, k4⟩ := hT1.top
  have HT1 := Lib.hid hT1
  have HK1 : Hid (Keeps B N w w1) := Lib.hid (Keeps.of_below ((below_1 w _).trans (hb1.mono (by simp))) hBr.out)
  have HN := Lib.hid hN
  clear hb1 hN hu hT1
  go_wp2
  go_ret
  rw [← HLen.out]
  exact ⟨rfl, HT1.out.dropped HN.out (HT1.out.ok.del _) (fun y hy => by rw [look_del, if_neg hy]) (by rw [look_del, if_pos rfl]), (HK1.out.setCell HN.out (HT1.out.base _ _ HN.out) _).setCell HT1.out.root (HT1.out.base _ _ HT1.out.root) _⟩
end
end Go.Proofs.YtplojnlmofbneaaDoor
