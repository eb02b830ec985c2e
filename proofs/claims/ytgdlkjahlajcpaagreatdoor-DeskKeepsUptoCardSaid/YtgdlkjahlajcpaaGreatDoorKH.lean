/- trie.New, bit and at, as contracts. trie.there, Get, Drop, as contracts. trie.Put, as contracts. -/
import Derived.Test.YtgdlkjahlajcpaaGreatDoorKG
import Derived.Deep.QuietTactic
import Derived.BigQuiet
namespace Go.Proofs.YtgdlkjahlajcpaaGreatDoor
open Go.ChangeShapes Go.WideShapes Go.ChangeAt Go.RowKit
set_option linter.unusedVariables false
set_option linter.unusedSimpArgs false
theorem bit_any (a : Int) (i : Nat) (w : World) (ha : is32 a) (hi : i < 32) :
    Calls Tryz.prog 79 #[.int .u32 a, .int .i64 i] w fun e w' => e = .returned (.int .u32 (bitI a i)) ∧ w = w' := by
  have HB : Hid (bitI a i = bits .and .u32 (a / 2 ^ (31 - i)) 1) := Lib.hid (by
    obtain ⟨x, rfl⟩ := Int.eq_ofNat_of_zero_le ha.1
    have h1 := ha.2
    have e : ((x : Int) / 2 ^ (31 - i)) = ((x / 2 ^ (31 - i) : Nat) : Int) := by simp
    have hlt : x / 2 ^ (31 - i) ≤ 4294967295 := Nat.le_trans (Nat.div_le_self _ _) (by omega)
    unfold bitI
    rw [e, show (1 : Int) = ((1 : Nat) : Int) from rfl, u32_and_nat _ _ (by omega) (by omega), Nat.and_one_is_mod]
    omega)
  obtain ⟨h0, h1⟩ := ha
  go_enter Tryz.func79, Tryz.ntmps79
  go_wp2
  go_ret
  exact ⟨by rw [HB.out]; rfl, rfl⟩
theorem New_any (w : World) :
    Calls Tryz.prog 11 #[] w fun e w' => e = .returned (.pointer (some ⟨w.heap.size, 0, none⟩)) ∧ w' = w.alloc (.cells #[.bool false, .int .i64 0, .pointer none, .pointer none, .int .i64 0] 70) := by
  go_enter Tryz.func11, Tryz.ntmps11
  go_wp2
  go_ret
  exact ⟨rfl, rfl⟩
theorem bit_is {a : Int} {i : Nat} {r : Int} (w : World) (ha : is32 a) (hi : i < 32) (hr : bitI a i = r) :
    Calls Tryz.prog 79 #[.int .u32 a, .int .i64 i] w fun e w' => e = .returned (.int .u32 r) ∧ w = w' := by
  rw [← hr]; exact bit_any a i w ha hi
theorem ptrO_none : ptrO none = .pointer none := rfl
theorem ptrO_some (b : Nat) : ptrO (some b) = .pointer (some ⟨b, 0, none⟩) := rfl
set_option maxHeartbeats 1000000 in
theorem at_any {w : World} {T B : Nat} {N : NM} {m : List (Nt × Int)} {a : Int} {n : Nat} (h : Tri w T B N m) (hn : n ≤ 32) (ha : is32 a) (hB : B ≤ w.heap.size) (hnet : fl (lowI n) a = a) :
    Calls Tryz.prog 78 #[.pointer (some ⟨T, 0, none⟩), .agg #[.int .u32 a, .int .i64 n]] w fun e w' => e = .returned (ptrO (N (a, (n : Int)))) ∧ Below w.heap.size w w' := by
  have HT := Lib.hid h
  have HB : Hid (∀ d, Below w.heap.size w ((w.alloc (.cells #[.int .u32 a, .int .i64 n] 47)).drewN d)) := Lib.hid (fun d => below_drewN ((Below.refl _ _).alloc (Nat.le_refl _) _) d)
  have h00 : N (trimN (a, (n : Int)) 0) = some T := by rw [trim_zero ha]; exact h.root
  have h0 : ptrO (N (trimN (a, (n : Int)) 0)) = .pointer (some ⟨T, 0, none⟩) := by rw [h00]; rfl
  have H0 := Lib.hid h0
  have HE : Hid (trimN (a, (n : Int)) n = (a, (n : Int))) := Lib.hid (trim_self rfl hnet)
  have HA := Lib.hid ha
  clear h00 h0 h hnet
  go_enter Tryz.func78, Tryz.ntmps78
  go_wp2
  go_loopw [5, 6] (fun x i wr => ∃ k d : Nat, k ≤ n ∧ i = .int .i64 k ∧ x = ptrO (N (trimN (a, (n : Int)) k)) ∧ wr = (w.alloc (.cells #[.int .u32 a, .int .i64 n] 47)).drewN d) (fun _ i _ => n - (intOf i).toNat)
  case atStart => exact ⟨0, 0, by omega, rfl, H0.out.symm, rfl⟩
  case round =>
    obtain ⟨k, d, hk, rfl, rfl, rfl⟩ := hrel
    have hT := HT.out
    cases hN : N (trimN (a, (n : Int)) k) with
    | none =>
      rw [ptrO_none]
      have HR : Hid (N (a, (n : Int)) = none) := Lib.hid (by rw [← HE.out]; exact hT.none_up hN n hk)
      clear hN hT
      by_cases hlt : k < n
      all_goals
        go_wp2
        go_ret
        exact ⟨by rw [HR.out]; rfl, HB.out _⟩
    | some b =>
      rw [ptrO_some]
      obtain ⟨v, -, ⟨c0, c1, c2, c3⟩, f0, f1, f2, f3⟩ := hT.cells hN
      have hbl := hT.lt hN
      have hbn : ¬ b = w.heap.size := by omega
      by_cases hlt : k < n
      · have HS := Lib.hid (trim_step (a, (n : Int)) k (by omega))
        rcases bitI_01 a k with hb | hb
        · have HBit := Lib.hid hb
          have HS2 : Hid (trimN (a, (n : Int)) (k + 1) = halfP (trimN (a, (n : Int)) k)) := Lib.hid (by rw [HS.out]; simp [hb])
          clear hb hN hT HS
          have hk31 : k < 32 := by omega
          rw [← HS2.out] at c2
          go_wp2
          go_quiet ((go_at_call 79; exact quiet_add_left (bit_is _ HA.out hk31 HBit.out)))
          go_wp2
          go_roundw
          case rel => exact ⟨k + 1, _, by omega, by go_num, rfl, rfl⟩
          case measure => simp [intOf]; omega
        · have HBit := Lib.hid hb
          have HS2 : Hid (trimN (a, (n : Int)) (k + 1) = halfQ (trimN (a, (n : Int)) k)) := Lib.hid (by rw [HS.out]; simp [hb])
          clear hb hN hT HS
          have hk31 : k < 32 := by omega
          rw [← HS2.out] at c3
          go_wp2
          go_quiet ((go_at_call 79; exact quiet_add_left (bit_is _ HA.out hk31 HBit.out)))
          go_wp2
          go_roundw
          case rel => exact ⟨k + 1, _, by omega, by go_num, rfl, rfl⟩
          case measure => simp [intOf]; omega
      · obtain rfl : k = n := by omega
        have HR : Hid (N (a, (k : Int)) = some b) := Lib.hid (by rw [← HE.out]; exact hN)
        clear hN hT
        go_wp2
        go_ret
        exact ⟨by rw [HR.out]; rfl, HB.out _⟩
end Go.Proofs.YtgdlkjahlajcpaaGreatDoor
namespace Go.Proofs.YtgdlkjahlajcpaaGreatDoor
open Go.ChangeShapes Go.WideShapes Go.ChangeAt Go.RowKit
set_option linter.unusedVariables false
set_option linter.unusedSimpArgs false
theorem box1 {w w' : World} {o : Obj} (hb : Below (w.alloc o).heap.size (w.alloc o) w') : w'.heap[w.heap.size]? = some o :=
  below_block hb (by simp) (heap_alloc_new w o)
theorem below_1 (w : World) (o : Obj) : Below w.heap.size w (w.alloc o) := (Below.refl _ _).alloc (Nat.le_refl _) o
section
variable {w : World} {T B : Nat} {N : NM} {m : List (Nt × Int)} {a : Int}
theorem there_bad {n : Int} (ha : is32 a) (h : netF (a, n) ≠ 0) :
    Calls Tryz.prog 80 #[.pointer (some ⟨T, 0, none⟩), .agg #[.int .u32 a, .int .i64 n]] w fun e w' => e = .returned (.tuple #[.pointer none, .iface 35 (.int .i64 (netF (a, n)))]) ∧ Below w.heap.size w w' := by
  have HZ := Lib.hid h
  obtain ⟨h0, h1⟩ := ha
  clear h
  go_enter Tryz.func80, Tryz.ntmps80
  go_wp2_with (first
    | (go_at_call 77; (with_reducible refine (Check_bad _ h0 h1 HZ.out).mono ?_); rintro e w1 ⟨rfl, hb1⟩; have HB1 := Lib.hid ((below_1 w _).trans (hb1.mono (by simp))); clear hb1)
    | fail)
  go_ret2
  exact ⟨rfl, HB1.out⟩
theorem there_none {n : Nat} (h : Tri w T B N m) (ha : is32 a) (hF : netF (a, (n : Int)) = 0) (hl : look m (a, (n : Int)) = none) (hB : B ≤ w.heap.size) :
    Calls Tryz.prog 80 #[.pointer (some ⟨T, 0, none⟩), .agg #[.int .u32 a, .int .i64 n]] w fun e w' => e = .returned (.tuple #[.pointer none, .iface 35 (.int .i64 2)]) ∧ Below w.heap.size w w' := by
  have HZ := Lib.hid hF
  have HA := Lib.hid ha
  have hn : n ≤ 32 := by have := (netF_zero.1 hF).2.1; omega
  have HN := Lib.hid hn
  have HW : Hid (fl (lowI n) a = a) := Lib.hid (by simpa using (netF_zero.1 hF).2.2)
  obtain ⟨h0, h1⟩ := ha
  have HT := Lib.hid h
  have HL := Lib.hid hl
  clear h hF hl
  cases hN : N (a, (n : Int)) with
  | none =>
    have HP : Hid (ptrO (N (a, (n : Int))) = .pointer none) := Lib.hid (by rw [hN]; rfl)
    clear hN
    go_enter Tryz.func80, Tryz.ntmps80
    go_wp2_with fail
    go_at_call 77; (with_reducible refine (Check_ok _ h0 h1 HZ.out).mono ?_); rintro e w1 ⟨rfl, hb1⟩
    obtain ⟨d0, d1, _, _⟩ := row2 (box1 hb1)
    have HT1 := Lib.hid ((HT.out.alloc _).below hb1)
    have HB1 := Lib.hid ((below_1 w _).trans (hb1.mono (by simp)))
    have hz1 := HB1.out.size
    clear hb1
    go_wp2_with fail
    go_at_call 78; (with_reducible refine (at_any HT1.out HN.out HA.out (by omega) HW.out).mono ?_); rintro e w2 ⟨rfl, hb2⟩
    rw [HP.out]
    have HB2 := Lib.hid (HB1.out.trans (hb2.mono (by omega)))
    clear hb2
    go_wp2
    go_ret2
    exact ⟨rfl, HB2.out⟩
  | some b =>
    have HP : Hid (ptrO (N (a, (n : Int))) = .pointer (some ⟨b, 0, none⟩)) := Lib.hid (by rw [hN]; rfl)
    have HNb := Lib.hid hN
    clear hN
    go_enter Tryz.func80, Tryz.ntmps80
    go_wp2_with fail
    go_at_call 77; (with_reducible refine (Check_ok _ h0 h1 HZ.out).mono ?_); rintro e w1 ⟨rfl, hb1⟩
    obtain ⟨d0, d1, _, _⟩ := row2 (box1 hb1)
    have HT1 := Lib.hid ((HT.out.alloc _).below hb1)
    have HB1 := Lib.hid ((below_1 w _).trans (hb1.mono (by simp)))
    have hz1 := HB1.out.size
    clear hb1
    go_wp2_with fail
    go_at_call 78; (with_reducible refine (at_any HT1.out HN.out HA.out (by omega) HW.out).mono ?_); rintro e w2 ⟨rfl, hb2⟩
    rw [HP.out]
    have HT2 := Lib.hid (HT1.out.below hb2)
    obtain ⟨v, -, ⟨c0, -, -, -⟩, -⟩ := HT2.out.cells HNb.out
    rw [HL.out] at c0
    simp only [Option.isSome_none] at c0
    have HB2 := Lib.hid (HB1.out.trans (hb2.mono (by omega)))
    clear hb2
    go_wp2
    go_ret2
    exact ⟨rfl, HB2.out⟩
theorem there_some {n : Nat} {v : Int} (h : Tri w T B N m) (ha : is32 a) (hF : netF (a, (n : Int)) = 0) (hl : look m (a, (n : Int)) = some v) (hB : B ≤ w.heap.size) :
    Calls Tryz.prog 80 #[.pointer (some ⟨T, 0, none⟩), .agg #[.int .u32 a, .int .i64 n]] w fun e w' => ∃ b, N (a, (n : Int)) = some b ∧ e = .returned (.tuple #[.pointer (some ⟨b, 0, none⟩), .nilIface]) ∧ Below w.heap.size w w' := by
  have HZ := Lib.hid hF
  have HA := Lib.hid ha
  have hn : n ≤ 32 := by have := (netF_zero.1 hF).2.1; omega
  have HN := Lib.hid hn
  have HW : Hid (fl (lowI n) a = a) := Lib.hid (by simpa using (netF_zero.1 hF).2.2)
  obtain ⟨h0, h1⟩ := ha
  have HT := Lib.hid h
  have HL := Lib.hid hl
  obtain ⟨b, hN⟩ := Option.ne_none_iff_exists'.1 (h.has (a, (n : Int)) (by rw [hl]; simp))
  have HP : Hid (ptrO (N (a, (n : Int))) = .pointer (some ⟨b, 0, none⟩)) := Lib.hid (by rw [hN]; rfl)
  have HNb := Lib.hid hN
  clear h hF hl hN
  suffices hs : Calls Tryz.prog 80 #[.pointer (some ⟨T, 0, none⟩), .agg #[.int .u32 a, .int .i64 n]] w fun e w' => e = .returned (.tuple #[.pointer (some ⟨b, 0, none⟩), .nilIface]) ∧ Below w.heap.size w w' from
    hs.mono fun e w' hh => ⟨b, HNb.out, hh.1, hh.2⟩
  go_enter Tryz.func80, Tryz.ntmps80
  go_wp2_with fail
  go_at_call 77; (with_reducible refine (Check_ok _ h0 h1 HZ.out).mono ?_); rintro e w1 ⟨rfl, hb1⟩
  obtain ⟨d0, d1, _, _⟩ := row2 (box1 hb1)
  have HT1 := Lib.hid ((HT.out.alloc _).below hb1)
  have HB1 := Lib.hid ((below_1 w _).trans (hb1.mono (by simp)))
  have hz1 := HB1.out.size
  clear hb1
  go_wp2_with fail
  go_at_call 78; (with_reducible refine (at_any HT1.out HN.out HA.out (by omega) HW.out).mono ?_); rintro e w2 ⟨rfl, hb2⟩
  rw [HP.out]
  have HT2 := Lib.hid (HT1.out.below hb2)
  obtain ⟨u, -, ⟨c0, -, -, -⟩, -⟩ := HT2.out.cells HNb.out
  rw [HL.out] at c0
  simp only [Option.isSome_some] at c0
  have HB2 := Lib.hid (HB1.out.trans (hb2.mono (by omega)))
  clear hb2
  go_wp2
  go_ret2
  exact ⟨rfl, HB2.out⟩

/-! ### Get -/
theorem Get_bad {n : Int} (ha : is32 a) (h : netF (a, n) ≠ 0) :
    Calls Tryz.prog 53 #[.pointer (some ⟨T, 0, none⟩), .agg #[.int .u32 a, .int .i64 n]] w fun e w' => e = .returned (.tuple #[.int .i64 0, .iface 35 (.int .i64 (netF (a, n)))]) ∧ Below w.heap.size w w' := by
  have HZ := Lib.hid h
  have HA := Lib.hid ha
  clear h
  go_enter Tryz.func53, Tryz.ntmps53
  go_wp2_with fail
  go_at_call 80; (with_reducible refine (there_bad HA.out HZ.out).mono ?_); rintro e w1 ⟨rfl, hb1⟩
  have HB1 := Lib.hid ((below_1 w _).trans (hb1.mono (by simp)))
  clear hb1
  go_wp2
  go_ret2
  exact ⟨rfl, HB1.out⟩
theorem Get_none {n : Nat} (h : Tri w T B N m) (ha : is32 a) (hF : netF (a, (n : Int)) = 0) (hl : look m (a, (n : Int)) = none) (hB : B ≤ w.heap.size) :
    Calls Tryz.prog 53 #[.pointer (some ⟨T, 0, none⟩), .agg #[.int .u32 a, .int .i64 n]] w fun e w' => e = .returned (.tuple #[.int .i64 0, .iface 35 (.int .i64 2)]) ∧ Below w.heap.size w w' := by
  have HZ := Lib.hid hF
  have HA := Lib.hid ha
  have HL := Lib.hid hl
  have HT := Lib.hid h
  clear h hF hl
  go_enter Tryz.func53, Tryz.ntmps53
  go_wp2_with fail
  go_at_call 80; (with_reducible refine (there_none (HT.out.alloc _) HA.out HZ.out HL.out (by simp; omega)).mono ?_); rintro e w1 ⟨rfl, hb1⟩
  have HB1 := Lib.hid ((below_1 w _).trans (hb1.mono (by simp)))
  clear hb1
  go_wp2
  go_ret2
  exact ⟨rfl, HB1.out⟩
theorem Get_some {n : Nat} {v : Int} (h : Tri w T B N m) (ha : is32 a) (hF : netF (a, (n : Int)) = 0) (hl : look m (a, (n : Int)) = some v) (hB : B ≤ w.heap.size) :
    Calls Tryz.prog 53 #[.pointer (some ⟨T, 0, none⟩), .agg #[.int .u32 a, .int .i64 n]] w fun e w' => e = .returned (.tuple #[.int .i64 v, .nilIface]) ∧ Below w.heap.size w w' := by
  have HZ := Lib.hid hF
  have HA := Lib.hid ha
  have HL := Lib.hid hl
  have HT := Lib.hid h
  clear h hF hl
  go_enter Tryz.func53, Tryz.ntmps53
  go_wp2_with fail
  go_at_call 80; (with_reducible refine (there_some (HT.out.alloc _) HA.out HZ.out HL.out (by simp; omega)).mono ?_); rintro e w1 ⟨b, hN, rfl, hb1⟩
  obtain ⟨u, hu, ⟨-, c1, -, -⟩, -⟩ := ((HT.out.alloc _).below hb1).cells hN
  obtain rfl := hu v HL.out
  have HB1 := Lib.hid ((below_1 w _).trans (hb1.mono (by simp)))
  clear hb1 hN hu
  go_wp2
  go_ret2
  exact ⟨rfl, HB1.out⟩

/-! ### Drop -/
theorem Drop_bad {n : Int} (ha : is32 a) (h : netF (a, n) ≠ 0) :
    Calls Tryz.prog 49 #[.pointer (some ⟨T, 0, none⟩), .agg #[.int .u32 a, .int .i64 n]] w fun e w' => e = .returned (.iface 35 (.int .i64 (netF (a, n)))) ∧ Below w.heap.size w w' := by
  have HZ := Lib.hid h
  have HA := Lib.hid ha
  clear h
  go_enter Tryz.func49, Tryz.ntmps49
  go_wp2_with fail
  go_at_call 80; (with_reducible refine (there_bad HA.out HZ.out).mono ?_); rintro e w1 ⟨rfl, hb1⟩
  have HB1 := Lib.hid ((below_1 w _).trans (hb1.mono (by simp)))
  clear hb1
  go_wp2
  go_ret
  exact ⟨rfl, HB1.out⟩
theorem Drop_none {n : Nat} (h : Tri w T B N m) (ha : is32 a) (hF : netF (a, (n : Int)) = 0) (hl : look m (a, (n : Int)) = none) (hB : B ≤ w.heap.size) :
    Calls Tryz.prog 49 #[.pointer (some ⟨T, 0, none⟩), .agg #[.int .u32 a, .int .i64 n]] w fun e w' => e = .returned (.iface 35 (.int .i64 2)) ∧ Below w.heap.size w w' := by
  have HZ := Lib.hid hF
  have HA := Lib.hid ha
  have HL := Lib.hid hl
  have HT := Lib.hid h
  clear h hF hl
  go_enter Tryz.func49, Tryz.ntmps49
  go_wp2_with fail
  go_at_call 80; (with_reducible refine (there_none (HT.out.alloc _) HA.out HZ.out HL.out (by simp; omega)).mono ?_); rintro e w1 ⟨rfl, hb1⟩
  have HB1 := Lib.hid ((below_1 w _).trans (hb1.mono (by simp)))
  clear hb1
  go_wp2
  go_ret
  exact ⟨rfl, HB1.out⟩
theorem Keeps.of_below {w' : World} (hb : Below w.heap.size w w') (hB : B ≤ w.heap.size) : Keeps B N w w' := ⟨hb.mono hB, fun g hg _ => hb.block g hg⟩
theorem Keeps.trans {w1 w2 : World} (h : Keeps B N w w1) (k : Keeps B N w1 w2) : Keeps B N w w2 :=
  ⟨h.bel.trans k.bel, fun g hg hn => (k.oth g (Nat.lt_of_lt_of_le hg h.bel.size) hn).trans (h.oth g hg hn)⟩
theorem Keeps.setCell {w1 : World} (h : Keeps B N w w1) {x : Nt} {b o : Nat} (hx : N x = some b) (hb : B ≤ b) (u : Value) : Keeps B N w (w1.setCell ⟨b, o, none⟩ u) :=
  ⟨h.bel.setCell hb u, fun g hg hn => (heap_setCell_other _ _ _ _ (fun e => hn x (by rw [hx, e]))).trans (h.oth g hg hn)⟩
theorem Drop_some {n : Nat} {v : Int} (h : Tri w T B N m) (ha : is32 a) (hF : netF (a, (n : Int)) = 0) (hl : look m (a, (n : Int)) = some v) (hB : B ≤ w.heap.size) :
    Calls Tryz.prog 49 #[.pointer (some ⟨T, 0, none⟩), .agg #[.int .u32 a, .int .i64 n]] w fun e w' => e = .returned .nilIface ∧ Tri w' T B N (delM m (a, (n : Int))) ∧ Keeps B N w w' := by
  have HZ := Lib.hid hF
  have HA := Lib.hid ha
  have HL := Lib.hid hl
  have HT := Lib.hid h
  have HLen : Hid (((delM m (a, (n : Int))).length : Int) = (m.length : Int) - 1) := Lib.hid (by
    have := del_length h.ok.nodup (x := (a, (n : Int))) (by rw [hl]; simp); omega)
  have hml : m.length ≤ 64 := h.ok.len
  have hBr := Lib.hid hB
  clear h hF hl
  go_enter Tryz.func49, Tryz.ntmps49
  go_wp2_with fail
  go_at_call 80; (with_reducible refine (there_some (HT.out.alloc _) HA.out HZ.out HL.out (by simp; omega)).mono ?_); rintro e w1 ⟨b, hN, rfl, hb1⟩
  have hT1 := (HT.out.alloc _).below hb1
  obtain ⟨u, hu, ⟨c0, c1, -, -⟩, f0, -⟩ := hT1.cells hN
  obtain ⟨g4, k4⟩ := hT1.top
  have HT1 := Lib.hid hT1
  have HK1 : Hid (Keeps B N w w1) := Lib.hid (Keeps.of_below ((below_1 w _).trans (hb1.mono (by simp))) hBr.out)
  have HN := Lib.hid hN
  clear hb1 hN hu hT1
  go_wp2
  go_ret
  rw [← HLen.out]
  exact ⟨rfl, HT1.out.dropped HN.out (HT1.out.ok.del _) (fun y hy => by rw [look_del, if_neg hy]) (by rw [look_del, if_pos rfl]), (HK1.out.setCell HN.out (HT1.out.base _ _ HN.out) _).setCell HT1.out.root (HT1.out.base _ _ HT1.out.root) _⟩
end
end Go.Proofs.YtgdlkjahlajcpaaGreatDoor
namespace Go.Proofs.YtgdlkjahlajcpaaGreatDoor
open Go.ChangeShapes Go.WideShapes Go.ChangeAt Go.RowKit
set_option linter.unusedVariables false
set_option linter.unusedSimpArgs false
section
variable {w : World} {T B : Nat} {N : NM} {m : List (Nt × Int)} {a : Int} {v : Int}
theorem Put_bad {n : Int} (ha : is32 a) (h : netF (a, n) ≠ 0) :
    Calls Tryz.prog 47 #[.pointer (some ⟨T, 0, none⟩), .agg #[.int .u32 a, .int .i64 n], .int .i64 v] w fun e w' => e = .returned (.iface 35 (.int .i64 (netF (a, n)))) ∧ Below w.heap.size w w' := by
  have HZ := Lib.hid h
  obtain ⟨h0, h1⟩ := ha
  clear h
  go_enter Tryz.func47, Tryz.ntmps47
  go_wp2_with fail
  go_at_call 77; (with_reducible refine (Check_bad _ h0 h1 HZ.out).mono ?_); rintro e w1 ⟨rfl, hb1⟩
  have HB1 := Lib.hid ((below_1 w _).trans (hb1.mono (by simp)))
  clear hb1
  go_wp2
  go_ret
  exact ⟨rfl, HB1.out⟩
theorem Put_renew {n : Nat} (h : Tri w T B N m) (ha : is32 a) (hv : (Lit.int .i64 v).wf = true) (hF : netF (a, (n : Int)) = 0) (hl : look m (a, (n : Int)) ≠ none) (hB : B ≤ w.heap.size) :
    Calls Tryz.prog 47 #[.pointer (some ⟨T, 0, none⟩), .agg #[.int .u32 a, .int .i64 n], .int .i64 v] w fun e w' => e = .returned .nilIface ∧ Tri w' T B N (putM m (a, (n : Int)) v) ∧ Keeps B N w w' := by
  have HZ := Lib.hid hF
  have HA := Lib.hid ha
  have hn : n ≤ 32 := by have := (netF_zero.1 hF).2.1; omega
  have HN := Lib.hid hn
  have HW : Hid (fl (lowI n) a = a) := Lib.hid (by simpa using (netF_zero.1 hF).2.2)
  have hM := h.ok.put hF ha hv (fun e => absurd e hl)
  have HM := Lib.hid hM
  obtain ⟨h0, h1⟩ := ha
  have HT := Lib.hid h
  have hs := Option.isSome_iff_ne_none.2 hl
  have HS := Lib.hid hs
  have HLn : Hid ((putM m (a, (n : Int)) v).length = m.length) := Lib.hid (by rw [put_length h.ok.nodup, if_neg hl])
  obtain ⟨b, hN⟩ := Option.ne_none_iff_exists'.1 (h.has (a, (n : Int)) hl)
  have HP : Hid (ptrO (N (a, (n : Int))) = .pointer (some ⟨b, 0, none⟩)) := Lib.hid (by rw [hN]; rfl)
  have HNb := Lib.hid hN
  have HBr := Lib.hid hB
  have HL := Lib.hid hl
  clear h hF hl hN hM hs
  go_enter Tryz.func47, Tryz.ntmps47
  go_wp2_with fail
  go_at_call 77; (with_reducible refine (Check_ok _ h0 h1 HZ.out).mono ?_); rintro e w1 ⟨rfl, hb1⟩
  obtain ⟨d0, d1, _, _⟩ := row2 (box1 hb1)
  have HT1 := Lib.hid ((HT.out.alloc _).below hb1)
  have HB1 := Lib.hid ((below_1 w _).trans (hb1.mono (by simp)))
  have hz1 := HB1.out.size
  clear hb1
  go_wp2_with fail
  go_at_call 78; (with_reducible refine (at_any HT1.out HN.out HA.out (by omega) HW.out).mono ?_); rintro e w2 ⟨rfl, hb2⟩
  rw [HP.out]
  have HT2 := Lib.hid (HT1.out.below hb2)
  obtain ⟨u, -, ⟨c0, c1, -, -⟩, f0, f1, -⟩ := HT2.out.cells HNb.out
  rw [HS.out] at c0
  have HB2 := Lib.hid (HB1.out.trans (hb2.mono (by omega)))
  clear hb2
  go_wp2
  go_ret
  exact ⟨rfl, HT2.out.renewed HNb.out HM.out (fun y hy => by rw [look_put, if_neg hy]) (by rw [look_put, if_pos rfl]) HL.out HLn.out, (Keeps.of_below HB2.out HBr.out).setCell HNb.out (HT2.out.base _ _ HNb.out) _⟩
/-- what 'at' finds for a net that is not there -/
theorem at_absent {n : Nat} (h : Tri w T B N m) (hl : look m (a, (n : Int)) = none) :
    N (a, (n : Int)) = none ∨ ∃ b, N (a, (n : Int)) = some b ∧ w.cell? ⟨b, 0, none⟩ = some (.bool false) := by
  cases hN : N (a, (n : Int)) with
  | none => exact .inl rfl
  | some b =>
    obtain ⟨u, -, ⟨c0, -, -, -⟩, -⟩ := h.cells hN
    rw [hl] at c0
    exact .inr ⟨b, rfl, c0⟩
theorem Put_full {n : Nat} (h : Tri w T B N m) (ha : is32 a) (hF : netF (a, (n : Int)) = 0) (hl : look m (a, (n : Int)) = none) (hm : m.length = 64) (hB : B ≤ w.heap.size) :
    Calls Tryz.prog 47 #[.pointer (some ⟨T, 0, none⟩), .agg #[.int .u32 a, .int .i64 n], .int .i64 v] w fun e w' => e = .returned (.iface 35 (.int .i64 4)) ∧ Below w.heap.size w w' := by
  have HZ := Lib.hid hF
  have HA := Lib.hid ha
  have hn : n ≤ 32 := by have := (netF_zero.1 hF).2.1; omega
  have HN := Lib.hid hn
  have HW : Hid (fl (lowI n) a = a) := Lib.hid (by simpa using (netF_zero.1 hF).2.2)
  obtain ⟨h0, h1⟩ := ha
  have HT := Lib.hid h
  have HL := Lib.hid hl
  have HM := Lib.hid hm
  have HBr := Lib.hid hB
  clear h hF hl hm
  go_enter Tryz.func47, Tryz.ntmps47
  go_wp2_with fail
  go_at_call 77; (with_reducible refine (Check_ok _ h0 h1 HZ.out).mono ?_); rintro e w1 ⟨rfl, hb1⟩
  obtain ⟨d0, d1, _, _⟩ := row2 (box1 hb1)
  have HT1 := Lib.hid ((HT.out.alloc _).below hb1)
  have HB1 := Lib.hid ((below_1 w _).trans (hb1.mono (by simp)))
  have hz1 := HB1.out.size
  clear hb1
  go_wp2_with fail
  go_at_call 78; (with_reducible refine (at_any HT1.out HN.out HA.out (by omega) HW.out).mono ?_); rintro e w2 ⟨rfl, hb2⟩
  have HT2 := Lib.hid (HT1.out.below hb2)
  have HB2 := Lib.hid (HB1.out.trans (hb2.mono (by omega)))
  have t4 := HT2.out.top.1
  rw [HM.out] at t4
  clear hb2
  rcases at_absent HT2.out HL.out with hN | ⟨b, hN, c0⟩
  all_goals
    rw [hN]
    first | rw [ptrO_none] | rw [ptrO_some]
    clear hN
    go_wp2
    go_ret
    exact ⟨rfl, HB2.out⟩
/-- what putting leaves while it makes the way -/
structure PutR (w : World) (T B : Nat) (N : NM) (m : List (Nt × Int)) (a : Int) (n k : Nat) (N' : NM) (b : Nat) (wr : World) : Prop where
  tri : Tri wr T B N' m
  here : N' (trimN (a, (n : Int)) k) = some b
  keeps : Keeps B N w wr
  new : ∀ z g, N' z = some g → N z = some g ∨ w.heap.size + 1 ≤ g
  box : wr.heap[w.heap.size]? = some (.cells #[.int .u32 a, .int .i64 n] 47 (0, 0))
theorem PutR.drewN {n k : Nat} {N' : NM} {b : Nat} {wr : World} (h : PutR w T B N m a n k N' b wr) (d : Nat) : PutR w T B N m a n k N' b (wr.drewN d) :=
  ⟨h.tri.drewN d, h.here, ⟨below_drewN h.keeps.bel d, h.keeps.oth⟩, h.new, h.box⟩
theorem PutR.step {n k : Nat} {N' : NM} {b c : Nat} {wr : World} (h : PutR w T B N m a n k N' b wr) (q : Bool) (hq : trimN (a, (n : Int)) (k + 1) = kidN (trimN (a, (n : Int)) k) q) (hc : N' (kidN (trimN (a, (n : Int)) k) q) = some c) : PutR w T B N m a n (k + 1) N' c wr :=
  ⟨h.tri, by rw [hq]; exact hc, h.keeps, h.new, h.box⟩
theorem PutR.grow {n k : Nat} {N' : NM} {b : Nat} {wr : World} (h : PutR w T B N m a n k N' b wr) (hk : k < 32) (hB : B ≤ w.heap.size) (hT : Tri w T B N m) (q : Bool) (hq : trimN (a, (n : Int)) (k + 1) = kidN (trimN (a, (n : Int)) k) q) (hc : N' (kidN (trimN (a, (n : Int)) k) q) = none) :
    PutR w T B N m a n (k + 1) (updN N' (kidN (trimN (a, (n : Int)) k) q) wr.heap.size) wr.heap.size ((wr.alloc (.cells #[.bool false, .int .i64 0, .pointer none, .pointer none] 68)).setCell ⟨b, if q then 3 else 2, none⟩ (.pointer (some ⟨wr.heap.size, 0, none⟩))) := by
  have hsz := h.keeps.bel.size
  have hbx := size_of_block h.box
  refine ⟨h.tri.grow h.here rfl hk q hc (by omega), by rw [hq]; unfold updN; rw [if_pos rfl], ?_, ?_, ?_⟩
  · refine ⟨(h.keeps.bel.alloc (by omega) _).setCell (h.tri.base _ _ h.here) _, fun g hg hn => ?_⟩
    have hgb : g ≠ b := by
      rcases h.new _ _ h.here with h1 | h1
      · intro e; exact hn _ (by rw [h1, e])
      · omega
    rw [heap_setCell_other _ _ _ _ hgb]
    exact (((Below.refl wr.heap.size wr).alloc (Nat.le_refl _) _).block g (by omega)).trans (h.keeps.oth g hg hn)
  · intro z g hz
    unfold updN at hz
    split at hz
    · simp at hz; right; omega
    · exact h.new z g hz
  · have hgb : w.heap.size ≠ b := by
      rcases h.new _ _ h.here with h1 | h1
      · have := hT.lt h1; omega
      · omega
    rw [heap_setCell_other _ _ _ _ hgb]
    exact (((Below.refl wr.heap.size wr).alloc (Nat.le_refl _) _).block _ hbx).trans h.box
set_option maxHeartbeats 4000000 in
theorem Put_new {n : Nat} (h : Tri w T B N m) (ha : is32 a) (hv : (Lit.int .i64 v).wf = true) (hF : netF (a, (n : Int)) = 0) (hl : look m (a, (n : Int)) = none) (hm : m.length < 64) (hB : B ≤ w.heap.size) :
    Calls Tryz.prog 47 #[.pointer (some ⟨T, 0, none⟩), .agg #[.int .u32 a, .int .i64 n], .int .i64 v] w fun e w' => e = .returned .nilIface ∧ ∃ N', Tri w' T B N' (putM m (a, (n : Int)) v) ∧ Keeps B N w w' ∧ ∀ z g, N' z = some g → N z = some g ∨ w.heap.size ≤ g := by
  have HZ := Lib.hid hF
  have HA := Lib.hid ha
  have hn : n ≤ 32 := by have := (netF_zero.1 hF).2.1; omega
  have HN := Lib.hid hn
  have HW : Hid (fl (lowI n) a = a) := Lib.hid (by simpa using (netF_zero.1 hF).2.2)
  have HMo := Lib.hid (h.ok.put hF ha hv (fun e => hm))
  have HLn : Hid (((putM m (a, (n : Int)) v).length : Int) = (m.length : Int) + 1) := Lib.hid (by rw [put_length h.ok.nodup, if_pos hl]; simp)
  have HT := Lib.hid h
  have HL := Lib.hid hl
  have HBr := Lib.hid hB
  have HE : Hid (trimN (a, (n : Int)) n = (a, (n : Int))) := Lib.hid (trim_self rfl (by simpa using (netF_zero.1 hF).2.2))
  have H00 : Hid (N (trimN (a, (n : Int)) 0) = some T) := Lib.hid (by rw [trim_zero ha]; exact h.root)
  obtain ⟨h0, h1⟩ := ha
  have hne : ((m.length : Int) == 64) = false := by rw [beq_eq_false_iff_ne]; omega
  clear h hF hl
  go_enter Tryz.func47, Tryz.ntmps47
  go_wp2_with fail
  go_at_call 77; (with_reducible refine (Check_ok _ h0 h1 HZ.out).mono ?_); rintro e w1 ⟨rfl, hb1⟩
  have bx1 := box1 hb1
  have HX1 := Lib.hid bx1
  obtain ⟨d0, d1, _, _⟩ := row2 bx1
  have HT1 := Lib.hid ((HT.out.alloc _).below hb1)
  have HB1 := Lib.hid ((below_1 w _).trans (hb1.mono (by simp)))
  have hz1 := HB1.out.size
  clear hb1 bx1
  go_wp2_with fail
  go_at_call 78; (with_reducible refine (at_any HT1.out HN.out HA.out (by omega) HW.out).mono ?_); rintro e w2 ⟨rfl, hb2⟩
  have hT2 := HT1.out.below hb2
  have hB2 := HB1.out.trans (hb2.mono (by omega))
  have bx2 := below_block hb2 (size_of_block HX1.out) HX1.out
  obtain ⟨e0, e1, _, _⟩ := row2 bx2
  have HP : Hid (PutR w T B N m a n 0 N T w2) := Lib.hid ⟨hT2, H00.out, Keeps.of_below hB2 HBr.out, fun _ _ h => .inl h, bx2⟩
  have t4 := hT2.top.1
  have hab := at_absent hT2 HL.out
  clear hb2 hT2 hB2 bx2
  rcases hab with hN | ⟨b, hN, c0⟩
  all_goals
    rw [hN]
    first | rw [ptrO_none] | rw [ptrO_some]
    clear hN
    go_wp2
    try clear c0
    go_loopw [9, 43] (fun x c wr => ∃ (k : Nat) (N' : NM) (b : Nat), k ≤ n ∧ c = .int .i64 k ∧ x = .pointer (some ⟨b, 0, none⟩) ∧ PutR w T B N m a n k N' b wr) (fun _ c _ => n - (intOf c).toNat)
    case atStart => exact ⟨0, N, T, by omega, rfl, rfl, HP.out⟩
    case round =>
      obtain ⟨k, N', b', hk, rfl, rfl, hP⟩ := hrel
      have hT := hP.tri
      have hbx := hP.box
      obtain ⟨x0, x1, _, _⟩ := row2 hbx
      obtain ⟨u, -, ⟨c0, c1, c2, c3⟩, f0, f1, f2, f3⟩ := hT.cells hP.here
      obtain ⟨t4', f4⟩ := hT.top
      have HP' := Lib.hid hP
      have hbl := hT.lt hP.here
      have hbn : ¬ b' = wr.heap.size := by omega
      have hbn2 : ¬ wr.heap.size = b' := by omega
      by_cases hlt : k < n
      · have hk32 : k < 32 := by omega
        have HS := Lib.hid (trim_step (a, (n : Int)) k hk32)
        rcases bitI_01 a k with hb | hb
        · have HBit := Lib.hid hb
          have HS2 : Hid (trimN (a, (n : Int)) (k + 1) = kidN (trimN (a, (n : Int)) k) false) := Lib.hid (by rw [HS.out]; simp [hb, kidN])
          clear HS hb hT hP hbx
          cases hc : N' (halfP (trimN (a, (n : Int)) k)) with
          | some c =>
            rw [hc, ptrO_some] at c2
            have HC := Lib.hid hc
            clear hc
            go_wp2
            go_quiet ((go_at_call 79; exact quiet_left (bit_is _ HA.out hk32 HBit.out)))
            go_wp2
            go_roundw
            case rel => exact ⟨k + 1, N', c, by omega, by go_num, rfl, (HP'.out.step false HS2.out HC.out).drewN _⟩
            case measure => simp [intOf]; omega
          | none =>
            rw [hc, ptrO_none] at c2
            have HC := Lib.hid hc
            clear hc
            go_wp2
            go_quiet ((go_at_call 79; exact quiet_left (bit_is _ HA.out hk32 HBit.out)))
            have HP3 := Lib.hid (HP'.out.drewN nq)
            generalize wr.drewN nq = w3 at *
            obtain ⟨u3, -, ⟨-, -, b2, -⟩, -, -, g2, -⟩ := HP3.out.tri.cells HP3.out.here
            have hbl3 := HP3.out.tri.lt HP3.out.here
            rw [HC.out, ptrO_none] at b2
            have k2 := ((World.cell?_alloc_lt w3 (.cells #[.bool false, .int .i64 0, .pointer none, .pointer none] 68) ⟨b', 2, none⟩ hbl3).trans b2)
            have hbn3 : ¬ b' = w3.heap.size := by omega
            have hbn4 : ¬ w3.heap.size = b' := by omega
            go_wp2
            go_roundw
            case rel => exact ⟨k + 1, _, _, by omega, by go_num, rfl, by have hg := HP3.out.grow hk32 HBr.out HT.out false HS2.out HC.out; rwa [World.setCell_alloc_past _ _ _ _ hbl3] at hg⟩
            case measure => simp [intOf]; omega
        · have HBit := Lib.hid hb
          have HS2 : Hid (trimN (a, (n : Int)) (k + 1) = kidN (trimN (a, (n : Int)) k) true) := Lib.hid (by rw [HS.out]; simp [hb, kidN])
          clear HS hb hT hP hbx
          cases hc : N' (halfQ (trimN (a, (n : Int)) k)) with
          | some c =>
            rw [hc, ptrO_some] at c3
            have HC := Lib.hid hc
            clear hc
            go_wp2
            go_quiet ((go_at_call 79; exact quiet_left (bit_is _ HA.out hk32 HBit.out)))
            go_wp2
            go_roundw
            case rel => exact ⟨k + 1, N', c, by omega, by go_num, rfl, (HP'.out.step true HS2.out HC.out).drewN _⟩
            case measure => simp [intOf]; omega
          | none =>
            rw [hc, ptrO_none] at c3
            have HC := Lib.hid hc
            clear hc
            go_wp2
            go_quiet ((go_at_call 79; exact quiet_left (bit_is _ HA.out hk32 HBit.out)))
            have HP3 := Lib.hid (HP'.out.drewN nq)
            generalize wr.drewN nq = w3 at *
            obtain ⟨u3, -, ⟨-, -, -, b2⟩, -, -, -, g2⟩ := HP3.out.tri.cells HP3.out.here
            have hbl3 := HP3.out.tri.lt HP3.out.here
            rw [HC.out, ptrO_none] at b2
            have k2 := ((World.cell?_alloc_lt w3 (.cells #[.bool false, .int .i64 0, .pointer none, .pointer none] 68) ⟨b', 3, none⟩ hbl3).trans b2)
            have hbn3 : ¬ b' = w3.heap.size := by omega
            have hbn4 : ¬ w3.heap.size = b' := by omega
            go_wp2
            go_roundw
            case rel => exact ⟨k + 1, _, _, by omega, by go_num, rfl, by have hg := HP3.out.grow hk32 HBr.out HT.out true HS2.out HC.out; rwa [World.setCell_alloc_past _ _ _ _ hbl3] at hg⟩
            case measure => simp [intOf]; omega
      · obtain rfl : k = n := by omega
        have HN' : Hid (N' (a, (k : Int)) = some b') := Lib.hid (by have h := HP'.out.here; rwa [HE.out] at h)
        clear hP hT hbx
        go_wp2
        go_ret
        rw [← HLn.out]
        exact ⟨rfl, N', HP'.out.tri.store3 HN'.out HMo.out (fun y hy => by rw [look_put, if_neg hy]) (by rw [look_put, if_pos rfl]),
          ⟨((HP'.out.keeps.bel.setCell (HP'.out.tri.base _ _ HN'.out) _).setCell (HP'.out.tri.base _ _ HN'.out) _).setCell (HP'.out.tri.base _ _ HP'.out.tri.root) _, fun g hg hn => by
            have hgb : g ≠ b' := by
              rcases HP'.out.new _ _ HN'.out with h1 | h1
              · intro e; exact hn _ (by rw [h1, e])
              · omega
            have hgT : g ≠ T := fun e => hn _ (by rw [HT.out.root, e])
            rw [heap_setCell_other _ _ _ _ hgT, heap_setCell_other _ _ _ _ hgb, heap_setCell_other _ _ _ _ hgb]
            exact HP'.out.keeps.oth g hg hn⟩,
          fun z g hz => (HP'.out.new z g hz).imp id (fun h => by omega)⟩
end
end Go.Proofs.YtgdlkjahlajcpaaGreatDoor
