/- trie.Find, as a contract. Rows of nets of the call's own: what they read as, and append of one and of many. -/
import Derived.Test.YtgdlkjahlajcpaaGreatDoorKH
import Derived.Deep.DeepCutAuto
import Derived.Deep.CutBlock
import Derived.Test.YtgdlkjahlajcpaaGreatDoorKC
import Derived.Test.YtgdlkjahlajcpaaGreatDoorKD
namespace Go.Proofs.YtgdlkjahlajcpaaGreatDoor
open Go.ChangeShapes Go.WideShapes Go.ChangeAt Go.RowKit
set_option linter.unusedVariables false
set_option linter.unusedSimpArgs false
def fB (r : Option (Nat × Int)) : Int := match r with | none => 0 | some p => (p.1 : Int)
def fV (r : Option (Nat × Int)) : Int := match r with | none => 0 | some p => p.2
def fF (r : Option (Nat × Int)) : Bool := r.isSome
def findV (a : Int) (r : Option (Nat × Int)) : Value := match r with
  | none => .tuple #[netV (0, 0), .int .i64 0, .iface 35 (.int .i64 2)]
  | some p => .tuple #[netV (trimN (a, 32) p.1), .int .i64 p.2, .nilIface]
section
variable {w : World} {T B : Nat} {N : NM} {m : List (Nt × Int)} {a : Int} {v : Int}
theorem find_end {W : World} {R : Nat} {a : Act} {v0 v1 x e : Value} {t : TypeId} {K : Ending → World → Prop} (h : W.heap[R]? = some (.cells #[v0, v1] t (0, 0))) (h2 : a.tmps[4]?.getD undef = .pointer (some ⟨R, 0, none⟩)) (h3 : a.tmps[5]?.getD undef = x) (h4 : a.tmps[6]?.getD undef = e) (hd : a.defers = [])
    (hK : K (.returned (.tuple #[.agg #[v0, v1], x, e])) W) : bodyPost Tryz.prog Tryz.f55 K .ret a W := by
  have e0 : W.cell? ⟨R, 0, none⟩ = some v0 := by rw [cell_of_row _ R _ _ _ (0, 0) h]; rfl
  have e1 : W.cell? ⟨R, 1, none⟩ = some v1 := by rw [cell_of_row _ R _ _ _ (0, 0) h]; rfl
  exact bodyPost_ret (by simp [results, Tryz.results55, go_sem, h2, h3, h4, e0, e1]) hd hK
theorem com_self {a : Int} (h : is32 a) : comN (a, ((32 : Nat) : Int)) (a, ((32 : Nat) : Int)) = (a, 32) := by
  have e : comL (a, ((32 : Nat) : Int)) (a, ((32 : Nat) : Int)) = 32 := by
    unfold comL lzN
    simp [Nat.xor_self, blen]
  unfold comN
  rw [e]
  exact trim_32 h
set_option maxHeartbeats 4000000 in
theorem Find_any (h : Tri w T B N m) (ha : is32 a) (hB : B ≤ w.heap.size) :
    Calls Tryz.prog 55 #[.pointer (some ⟨T, 0, none⟩), .int .u32 a] w fun e w' => e = .returned (findV a (fnd m a 33)) ∧ Below w.heap.size w w' := by
  have HA := Lib.hid ha
  have HT := Lib.hid h
  obtain ⟨r, hr⟩ : ∃ r, fnd m a 33 = r := ⟨_, rfl⟩
  rw [hr]
  have HR := Lib.hid hr
  have H00 : Hid (N (trimN (a, 32) 0) = some T) := Lib.hid (by rw [trim_zero ha]; exact h.root)
  clear h hr
  go_enter Tryz.func55, Tryz.ntmps55
  go_upto_block 0 with fail
  go_cut [7, 8, 9] (fun s t u wx => s = .int .i64 (fB r) ∧ t = .int .i64 (fV r) ∧ u = .bool (fF r) ∧ ∃ d, wx = (w.alloc (.cells #[.int .u32 0, .int .i64 0] 47)).drewN d)
  case first =>
    go_wp2
    go_loopw [7, 8, 9, 10, 11] (fun s t u x i wr => ∃ k d : Nat, k ≤ 32 ∧ i = .int .i64 k ∧ s = .int .i64 (fB (fnd m a k)) ∧ t = .int .i64 (fV (fnd m a k)) ∧ u = .bool (fF (fnd m a k)) ∧ x = ptrO (N (trimN (a, 32) k)) ∧ wr = (w.alloc (.cells #[.int .u32 0, .int .i64 0] 47)).drewN d) (fun _ _ _ _ i _ => 32 - (intOf i).toNat)
    case atStart => exact ⟨0, 0, by omega, rfl, rfl, rfl, rfl, by rw [H00.out]; rfl, rfl⟩
    case round =>
      obtain ⟨k, d, hk, rfl, rfl, rfl, rfl, rfl, rfl⟩ := hrel
      have hT := HT.out
      have HK := Lib.hid (show fnd m a (k + 1) = match look m (trimN (a, 32) k) with | some v => some (k, v) | none => fnd m a k from rfl)
      cases hN : N (trimN (a, 32) k) with
      | none =>
        rw [ptrO_none]
        have HE : Hid (fnd m a k = r) := Lib.hid (by rw [← HR.out, hT.find_stop hN 33 (by omega)])
        rw [HE.out]
        clear hN hT HK
        go_wp2
        go_meet
        exact ⟨rfl, rfl, rfl, d, rfl⟩
      | some b =>
        rw [ptrO_some]
        obtain ⟨v, hv, ⟨c0, c1, c2, c3⟩, f0, f1, f2, f3⟩ := hT.cells hN
        have hbl := hT.lt hN
        have hbn : ¬ b = w.heap.size := by omega
        cases hl : look m (trimN (a, 32) k) with
        | none =>
          rw [hl] at c0 HK
          simp only [Option.isSome_none] at c0
          by_cases h32 : k = 32
          · subst h32
            have HE : Hid (fnd m a 32 = r) := Lib.hid (by rw [← HR.out]; exact HK.out.symm)
            rw [HE.out]
            clear hv hN hT hl HK
            go_wp2
            go_meet
            exact ⟨rfl, rfl, rfl, d, rfl⟩
          · have hk31 : k < 32 := by omega
            have h32' : ((k : Int) == 32) = false := by rw [beq_eq_false_iff_ne]; omega
            have HS := Lib.hid (trim_step (a, 32) k hk31)
            rcases bitI_01 a k with hb | hb
            · have HBit := Lib.hid hb
              have HS2 : Hid (trimN (a, 32) (k + 1) = halfP (trimN (a, 32) k)) := Lib.hid (by rw [HS.out]; simp [hb])
              clear hb hN hT HS hl hv
              rw [← HS2.out] at c2
              rw [← (show fnd m a (k + 1) = fnd m a k from HK.out)]
              go_wp2
              go_quiet ((go_at_call 79; exact quiet_add_left (bit_is _ HA.out hk31 HBit.out)))
              go_wp2
              go_roundw
              case rel => exact ⟨k + 1, _, by omega, by go_num, rfl, rfl, rfl, rfl, rfl⟩
              case measure => simp [intOf]; omega
            · have HBit := Lib.hid hb
              have HS2 : Hid (trimN (a, 32) (k + 1) = halfQ (trimN (a, 32) k)) := Lib.hid (by rw [HS.out]; simp [hb])
              clear hb hN hT HS hl hv
              rw [← HS2.out] at c3
              rw [← (show fnd m a (k + 1) = fnd m a k from HK.out)]
              go_wp2
              go_quiet ((go_at_call 79; exact quiet_add_left (bit_is _ HA.out hk31 HBit.out)))
              go_wp2
              go_roundw
              case rel => exact ⟨k + 1, _, by omega, by go_num, rfl, rfl, rfl, rfl, rfl⟩
              case measure => simp [intOf]; omega
        | some u =>
          obtain rfl := hv u hl
          rw [hl] at c0 HK
          simp only [Option.isSome_some] at c0
          by_cases h32 : k = 32
          · subst h32
            have HE : Hid (some (32, u) = r) := Lib.hid (by rw [← HR.out]; exact HK.out.symm)
            clear hv hN hT hl HK
            generalize fnd m a 32 = q
            go_wp2
            go_quiet (fail)
            go_wp2
            go_meet
            rw [← HE.out]
            exact ⟨rfl, rfl, rfl, _, rfl⟩
          · have hk31 : k < 32 := by omega
            have h32' : ((k : Int) == 32) = false := by rw [beq_eq_false_iff_ne]; omega
            have HS := Lib.hid (trim_step (a, 32) k hk31)
            generalize hq : fnd m a k = q at *
            clear hq
            rcases bitI_01 a k with hb | hb
            · have HBit := Lib.hid hb
              have HS2 : Hid (trimN (a, 32) (k + 1) = halfP (trimN (a, 32) k)) := Lib.hid (by rw [HS.out]; simp [hb])
              clear hb hN hT HS hl hv
              rw [← HS2.out] at c2
              go_wp2
              go_quiet (fail)
              go_wp2
              go_quiet ((go_at_call 79; exact quiet_add_left (bit_is _ HA.out hk31 HBit.out)))
              go_wp2
              go_roundw
              case rel => exact ⟨k + 1, _, by omega, by go_num, by rw [HK.out]; rfl, by rw [HK.out]; rfl, by rw [HK.out]; rfl, rfl, rfl⟩
              case measure => simp [intOf]; omega
            · have HBit := Lib.hid hb
              have HS2 : Hid (trimN (a, 32) (k + 1) = halfQ (trimN (a, 32) k)) := Lib.hid (by rw [HS.out]; simp [hb])
              clear hb hN hT HS hl hv
              rw [← HS2.out] at c3
              go_wp2
              go_quiet (fail)
              go_wp2
              go_quiet ((go_at_call 79; exact quiet_add_left (bit_is _ HA.out hk31 HBit.out)))
              go_wp2
              go_roundw
              case rel => exact ⟨k + 1, _, by omega, by go_num, by rw [HK.out]; rfl, by rw [HK.out]; rfl, by rw [HK.out]; rfl, rfl, rfl⟩
              case measure => simp [intOf]; omega
  case rest =>
    obtain ⟨rfl, rfl, rfl, d, rfl⟩ := hcut
    have hRs : w.heap.size < (w.alloc (.cells #[.int .u32 0, .int .i64 0] 47)).heap.size := by simp
    have hblk : ((w.alloc (.cells #[.int .u32 0, .int .i64 0] 47)).drewN d).heap[w.heap.size]? = some (.cells #[.int .u32 0, .int .i64 0] 47 (0, 0)) := heap_alloc_new w _
    have HBW : Hid (Below w.heap.size w ((w.alloc (.cells #[.int .u32 0, .int .i64 0] 47)).drewN d)) := Lib.hid (below_drewN (below_1 w _) d)
    have hsz : ((w.alloc (.cells #[.int .u32 0, .int .i64 0] 47)).drewN d).heap.size = w.heap.size + 1 := by simp
    cases r with
    | none =>
      clear HR
      simp only [fB, fV, fF, Option.isSome_none]
      generalize (w.alloc (.cells #[.int .u32 0, .int .i64 0] 47)).drewN d = w1 at *
      obtain ⟨q0, q1, g0, g1⟩ := row2 hblk
      have HBLK := Lib.hid hblk
      clear hblk hsz hRs
      go_wp2
      exact find_end (set2_block _ _ HBLK.out) rfl rfl rfl rfl ⟨rfl, (HBW.out.setCell (by simp) _).setCell (by simp) _⟩
    | some p =>
      obtain ⟨j, u⟩ := p
      have hj : j ≤ 32 := by have := (fnd_some HR.out).1; omega
      clear HR
      simp only [fB, fV, fF, Option.isSome_some]
      generalize (w.alloc (.cells #[.int .u32 0, .int .i64 0] 47)).drewN d = w1 at *
      have HBLK := Lib.hid hblk
      have HSZ := Lib.hid hsz
      clear hblk hsz hRs
      have hsz1 : w.heap.size < w1.heap.size := by have := HSZ.out; omega
      have HC : Hid (∀ w, Calls Tryz.prog 67 #[.agg #[.int .u32 a, .int .i64 32], .agg #[.int .u32 a, .int .i64 32]] w fun e w' => e = .returned (.tuple #[.agg #[.int .u32 a, .int .i64 32], .nilIface]) ∧ Below w.heap.size w w') := Lib.hid (fun w => by
        have h32 : netF (a, ((32 : Nat) : Int)) = 0 := net_of (by omega) (by have := congrArg Prod.fst (trim_32 HA.out); simpa [trimN] using this)
        have := Common_ok (n := 32) (m := 32) w HA.out HA.out h32 h32
        rw [com_self HA.out] at this
        exact this)
      go_wp2_with fail
      go_at_call 67
      (with_reducible refine (HC.out _).mono ?_)
      rintro e w2 ⟨rfl, hb2⟩
      have hRB := below_block hb2 hsz1 HBLK.out
      have HRB2 : Hid ((w2.alloc (.cells #[.int .u32 a, .int .i64 32] 47)).heap[w.heap.size]? = some (.cells #[.int .u32 0, .int .i64 0] 47 (0, 0))) := Lib.hid (below_block ((Below.refl _ _).alloc (Nat.le_refl _) _) (size_of_block hRB) hRB)
      have HB2 : Hid (Below w.heap.size w (w2.alloc (.cells #[.int .u32 a, .int .i64 32] 47))) := Lib.hid ((HBW.out.trans (hb2.mono (by omega))).alloc (Nat.le_of_lt (size_of_block hRB)) _)
      have hRlt := size_of_block hRB
      have HF32 : Hid (fl (lowI 32) a = a) := Lib.hid (by have := congrArg Prod.fst (trim_32 HA.out); simpa [trimN] using this)
      clear hb2 hRB
      go_wp2_with fail
      go_loopw [13] (fun er wr => ∃ l : Nat, j ≤ l ∧ l ≤ 32 ∧ er = .nilIface ∧ wr.heap[w2.heap.size]? = some (.cells #[.int .u32 (fl (lowI l) a), .int .i64 l] 47 (0, 0)) ∧ wr.heap[w.heap.size]? = some (.cells #[.int .u32 0, .int .i64 0] 47 (0, 0)) ∧ Below w.heap.size w wr) (fun _ wr => (intOf ((wr.cell? ⟨w2.heap.size, 1, none⟩).getD undef)).toNat)
      case atStart => exact ⟨32, hj, Nat.le_refl _, rfl, by rw [HF32.out]; exact heap_alloc_new w2 _, HRB2.out, HB2.out⟩
      case round =>
        obtain ⟨l, hjl, hl, rfl, hn, hR, hB'⟩ := hrel
        obtain ⟨n0, n1, gn0, gn1⟩ := row2 hn
        obtain ⟨q0, q1, g0, g1⟩ := row2 hR
        have HNn := Lib.hid hn
        have HRr := Lib.hid hR
        have HBr := Lib.hid hB'
        have hwl := size_of_block hn
        clear hn hR hB'
        by_cases hlt : j < l
        · obtain ⟨k, rfl⟩ : ∃ k, l = k + 1 := ⟨l - 1, by omega⟩
          have HU : Hid (∀ w, Calls Tryz.prog 82 #[.agg #[.int .u32 (fl (lowI (k + 1)) a), .int .i64 ((k : Int) + 1)]] w fun e w' => e = .returned (.tuple #[.agg #[.int .u32 (fl (lowI k) a), .int .i64 k], .nilIface]) ∧ Below w.heap.size w w') := Lib.hid (fun w => by
            have := Up_ok (a := fl (lowI (k + 1)) a) (k := k) w (fl_32 (lowI_pos _) HA.out) (by omega) (net_of (k := k + 1) hl (fl_of (fl_idem _ _ (lowI_pos _))))
            rw [fl_low (by omega) hl] at this
            exact this)
          have HM : Hid (intOf ((wr.cell? ⟨w2.heap.size, 1, none⟩).getD undef) = ((k + 1 : Nat) : Int)) := Lib.hid (by rw [n1]; rfl)
          go_wp2_with fail
          go_at_call 82
          (with_reducible refine (HU.out _).mono ?_)
          rintro e w3 ⟨rfl, hb3⟩
          have hn3 := below_block hb3 hwl HNn.out
          have hR3 := below_block hb3 (size_of_block HRr.out) HRr.out
          have HS3 := Lib.hid (set2_block (.int .u32 (fl (lowI k) a)) (.int .i64 k) hn3)
          have HR3 := Lib.hid hR3
          have HB3 := Lib.hid (HBr.out.trans (hb3.mono HBr.out.size))
          obtain ⟨p0, p1, gp0, gp1⟩ := row2 hn3
          have hne : w.heap.size ≠ w2.heap.size := by omega
          clear hn3 hR3 hb3
          go_wp2
          go_roundw
          case rel => exact ⟨k, by omega, by omega, rfl, HS3.out, by rw [heap_setCell_other _ _ _ _ hne, heap_setCell_other _ _ _ _ hne]; exact HR3.out, (HB3.out.setCell (by simp; omega) _).setCell (by simp; omega) _⟩
          case measure =>
            rw [HM.out, cell_of_row _ _ _ _ _ (0, 0) HS3.out]
            simp [intOf]
        · obtain rfl : l = j := by omega
          have hd : decide ((l : Int) < (l : Int)) = false := by simp
          go_wp2
          exact find_end (set2_block _ _ HRr.out) rfl rfl rfl rfl ⟨rfl, (HBr.out.setCell (by simp) _).setCell (by simp) _⟩
end
end Go.Proofs.YtgdlkjahlajcpaaGreatDoor
namespace Go.Proofs.YtgdlkjahlajcpaaGreatDoor
open Go.ChangeShapes Go.WideShapes Go.ChangeAt Go.RowKit
set_option linter.unusedVariables false
def nC (x : Int × Int) : List Value := [.int .u32 x.1, .int .i64 x.2]
def wfN (x : Int × Int) : Prop := (Lit.int .u32 x.1).wf = true ∧ (Lit.int .i64 x.2).wf = true
theorem rd_nC {w : World} {ok : Nat → Prop} {x : Int × Int} (h : wfN x) : rdNet w ok (nC x) x := ⟨_, _, rfl, ⟨rfl, h.1⟩, ⟨rfl, h.2⟩⟩
def OwnN (w : World) (base : Nat) (v : Value) (xs : List (Int × Int)) : Prop := w.ownsRow base 47 2 v xs.length (xs.flatMap nC) ∧ ∀ x ∈ xs, wfN x
theorem nC_len (l : List (Int × Int)) : (l.flatMap nC).length = l.length * 2 := by
  induction l with
  | nil => rfl
  | cons x r ih => rw [List.flatMap_cons, List.length_append, ih]; simp [nC]; omega
theorem nC_at (xs : List (Int × Int)) (i j : Nat) (x : Int × Int) (hi : xs[i]? = some x) (hj : j < 2) : (xs.flatMap nC)[i * 2 + j]? = (nC x)[j]? := by
  induction xs generalizing i with
  | nil => simp at hi
  | cons y r ih =>
    rw [List.flatMap_cons]
    cases i with
    | zero =>
      simp only [List.getElem?_cons_zero, Option.some.injEq] at hi
      subst hi
      rw [Nat.zero_mul, Nat.zero_add, List.getElem?_append_left (by simp [nC]; omega)]
    | succ i =>
      have := ih i (by simpa using hi)
      rw [List.getElem?_append_right (by simp [nC]; omega), ← this]
      congr 1
      simp [nC]; omega
theorem OwnN.read {w : World} {base : Nat} {v : Value} {xs : List (Int × Int)} (h : OwnN w base v xs) : R1 rdNets w v xs := by
  obtain ⟨A, c, rfl⟩ := own_form h.1
  refine RdSlice.of_own (xs := xs) h.1 rfl (fun g hg => (own_blk h.1 g hg).2) (fun i x hi => ⟨nC x, rfl, rd_nC (h.2 x (List.mem_of_getElem? hi)), fun j u hu => ?_⟩)
  have hj : j < 2 := by have := (List.getElem?_eq_some_iff.1 hu).1; simpa [nC] using this
  rw [nC_at xs i j x hi hj]; exact hu
theorem OwnN.nil_ (w : World) (base : Nat) : OwnN w base (.slice none 0 0) [] := ⟨⟨rfl, .inl ⟨rfl, rfl⟩⟩, by simp⟩
theorem OwnN.alloc {w : World} {base : Nat} {v : Value} {xs : List (Int × Int)} (h : OwnN w base v xs) (o : Obj) : OwnN (w.alloc o) base v xs := ⟨h.1.alloc o, h.2⟩
theorem OwnN.below {w w' : World} {base : Nat} {v : Value} {xs : List (Int × Int)} (h : OwnN w base v xs) (hb : Below w.heap.size w w') : OwnN w' base v xs := ⟨own_below h.1 hb, h.2⟩
theorem OwnN.form {w : World} {base : Nat} {v : Value} {xs : List (Int × Int)} (h : OwnN w base v xs) : ∃ A c, v = .slice A xs.length c := own_form h.1
/-- a store beside the row -/
theorem OwnN.setCell {w : World} {base : Nat} {v : Value} {xs : List (Int × Int)} (h : OwnN w base v xs) {g o : Nat} (hg : g < base) (u : Value) : OwnN (w.setCell ⟨g, o, none⟩ u) base v xs := by
  refine ⟨h.1.kept (row := some g) ⟨rfl, rfl, rfl, by simp, fun k hk hne => heap_setCell_other _ _ _ _ (fun e => hne (by rw [e]))⟩ ?_, h.2⟩
  cases hv : v.ownBlock with
  | none => exact .inl rfl
  | some k => exact .inr (by have := (own_blk h.1 k hv).1; intro e; injection e with e; omega)
theorem one_nC (x : Int × Int) : ∀ u ∈ nC x, u.oneCell' = true := by
  intro u hu; simp only [nC, List.mem_cons, List.not_mem_nil, or_false] at hu
  rcases hu with rfl | rfl <;> rfl
theorem one_nCs (l : List (Int × Int)) : ∀ u ∈ l.flatMap nC, u.oneCell' = true := by
  intro u hu
  obtain ⟨x, _, hx⟩ := List.mem_flatMap.1 hu
  exact one_nC x u hx
theorem net_info : (Tryz.prog.info? 47).map (fun i => (i.zero, i.size, i.bytes)) = some (some (.agg #[.int .u32 0, .int .i64 0]), 2, 16) := by kernel_rfl
/-- append of one on a row of the call's own. -/
theorem wpList_append_net {w : World} {ops : Array Oper} {rest : List Oper} {o : Oper} {a : Act} {Q : Exit → Act → World → Prop} (hgd : o.guard = none) (s x : Operand) (t : TypeId) (ht : Tryz.prog.underlying t = some (.slice 47))
    (ho : o.op = .call { callee := .builtin .append, args := #[s, x], argTypes := #[t, t] })
    (base : Nat) (v : Value) (xs : List (Int × Int)) (hs : a.eval s = v) (hown : OwnN w base v xs)
    (G : Nat) (y : Int × Int) (t2 : TypeId) (hx : a.eval x = .slice (some ⟨G, 0, none⟩) 1 1) (hG : w.heap[G]? = some (.cells #[.int .u32 y.1, .int .i64 y.2] t2 (0, 0))) (hwf : wfN y)
    (hl : xs.length ≤ 8796093022000) (hbase : base ≤ w.heap.size)
    (h : ∀ v' w', OwnN w' base v' (xs ++ [y]) → Grow w v w' v' → wpList Tryz.prog ops Q rest (a.put o.dst v') w') : wpList Tryz.prog ops Q (o :: rest) a w := by
  obtain ⟨i0, hi, hz0, hz1, hz2⟩ := info_parts net_info
  have hr : Reads w w.heap.size 2 (some ⟨G, 0, none⟩) 1 (nC y) := ⟨rfl, fun _ => ⟨_, rfl, size_of_block hG, fun j u hu => by
    rw [addr_add, cell_of_row _ G _ _ t2 (0, 0) hG]; simpa [nC] using hu⟩⟩
  refine wpList_append_any w hgd s x t ho base _ i0 _ 2 16 ht hi hz0 hz1 hz2 (by rfl) (by omega) v xs.length _ hs hown.1 w.heap.size _ 1 1 (nC y) hx hr (one_nC y) (by simp only [maxLen]; omega) (by omega) hbase ?_
  intro v' w' h1 h2 h3
  refine h v' w' ⟨by simpa using h1, fun q hq => ?_⟩ ⟨h2, ?_⟩
  · rcases List.mem_append.1 hq with hq | hq
    · exact hown.2 q hq
    · simp only [List.mem_cons, List.not_mem_nil, or_false] at hq; subst hq; exact hwf
  · rcases h3 with h3 | h3
    · exact .inl h3
    · exact .inr ⟨_, h3, Nat.le_refl _⟩
theorem RdSlice.atN {w : World} {ok : Nat → Prop} {A : Option Addr} {n c : Nat} {xs : List (Int × Int)} (h : RdSlice 2 rdNet w ok [.slice A n c] xs) {k : Nat} (hk : k < n) :
    ∃ b o x, A = some ⟨b, o, none⟩ ∧ ok b ∧ Hid (xs[k]? = some x) ∧ wfN x ∧ w.cell? ⟨b, o + k * 2, none⟩ = some (.int .u32 x.1) ∧ w.cell? ⟨b, o + k * 2 + 1, none⟩ = some (.int .i64 x.2) := by
  obtain ⟨b, o, x, cs, hA, hb, hx, _, hr, hc⟩ := h.at_ hk
  obtain ⟨x, y⟩ := x
  obtain ⟨_, _, rfl, ⟨rfl, w0⟩, ⟨rfl, w1⟩⟩ := hr
  exact ⟨b, o, _, hA, hb, hx, ⟨w0, w1⟩, hc 0 _ rfl, by rw [Nat.add_assoc]; exact hc 1 _ rfl⟩
theorem reads_nets {w : World} {ok : Nat → Prop} {A : Option Addr} {n c : Nat} {l : List (Int × Int)} (hr : RdSlice 2 rdNet w ok [.slice A n c] l) (hok : ∀ b, ok b → b < w.heap.size) : Reads w w.heap.size 2 A n (l.flatMap nC) := by
  obtain ⟨hn, _, _⟩ := hr.len
  refine ⟨by rw [nC_len, hn], fun h0 => ?_⟩
  obtain ⟨b, o, x, rfl, hb, _⟩ := hr.atN h0
  refine ⟨⟨b, o, none⟩, rfl, hok b hb, fun j u hu => ?_⟩
  have hj : j < n * 2 := by
    rcases Nat.lt_or_ge j (n * 2) with h | h
    · exact h
    · rw [List.getElem?_eq_none (by rw [nC_len]; omega)] at hu; cases hu
  obtain ⟨b', o', y, e, _, HY, _, c0, c1⟩ := hr.atN (k := j / 2) (by omega)
  simp only [Option.some.injEq, Addr.mk.injEq, and_true] at e
  obtain ⟨rfl, rfl⟩ := e
  have h3 := nC_at l (j / 2) (j % 2) y HY.out (Nat.mod_lt _ (by omega))
  rw [show j / 2 * 2 + j % 2 = j by omega] at h3
  rw [h3] at hu
  rw [addr_add]
  rcases (show j % 2 = 0 ∨ j % 2 = 1 by omega) with hm | hm
  · rw [hm] at hu
    simp only [nC, List.getElem?_cons_zero, Option.some.injEq] at hu
    subst hu
    rw [show j = j / 2 * 2 by omega]; exact c0
  · rw [hm] at hu
    simp only [nC, List.getElem?_cons_succ, List.getElem?_cons_zero, Option.some.injEq] at hu
    subst hu
    rw [show j = j / 2 * 2 + 1 by omega, ← Nat.add_assoc]
    exact c1
theorem nets_wf {w : World} {ok : Nat → Prop} {A : Option Addr} {n c : Nat} {l : List (Int × Int)} (hr : RdSlice 2 rdNet w ok [.slice A n c] l) : ∀ x ∈ l, wfN x := by
  intro x hx
  obtain ⟨hn, _, _⟩ := hr.len
  obtain ⟨i, hi, rfl⟩ := List.getElem_of_mem hx
  obtain ⟨_, _, y, _, _, HY, hw, _⟩ := hr.atN (k := i) (by omega)
  rw [List.getElem?_eq_getElem hi] at HY
  have := HY.out
  injection this with this
  rw [this]; exact hw
/-- append of a slice of nets on a row of the call's own. -/
theorem wpList_append_nets {w : World} {ops : Array Oper} {rest : List Oper} {o : Oper} {a : Act} {Q : Exit → Act → World → Prop} (hgd : o.guard = none) (s x : Operand) (t : TypeId) (ht : Tryz.prog.underlying t = some (.slice 47))
    (ho : o.op = .call { callee := .builtin .append, args := #[s, x], argTypes := #[t, t] })
    (base : Nat) (v : Value) (xs : List (Int × Int)) (hs : a.eval s = v) (hown : OwnN w base v xs)
    (A : Option Addr) (m c : Nat) (ys : List (Int × Int)) (hx : a.eval x = .slice A m c) (hr : R1 rdNets w (.slice A m c) ys)
    (hl : xs.length + ys.length ≤ 8796093022000) (hbase : base ≤ w.heap.size)
    (h : ∀ v' w', OwnN w' base v' (xs ++ ys) → Grow w v w' v' → wpList Tryz.prog ops Q rest (a.put o.dst v') w') : wpList Tryz.prog ops Q (o :: rest) a w := by
  obtain ⟨i0, hi, hz0, hz1, hz2⟩ := info_parts net_info
  obtain ⟨hm, _, _⟩ := RdSlice.len hr
  refine wpList_append_any w hgd s x t ho base _ i0 _ 2 16 ht hi hz0 hz1 hz2 (by rfl) (by omega) v xs.length _ hs hown.1 w.heap.size A m c (ys.flatMap nC) hx (reads_nets hr (fun b h => h)) (one_nCs ys) (by simp only [maxLen]; omega) (by omega) hbase ?_
  intro v' w' h1 h2 h3
  refine h v' w' ⟨by rw [List.length_append, List.flatMap_append, ← hm]; exact h1, fun q hq => ?_⟩ ⟨h2, ?_⟩
  · rcases List.mem_append.1 hq with hq | hq
    · exact hown.2 q hq
    · exact nets_wf hr q hq
  · rcases h3 with h3 | h3
    · exact .inl h3
    · exact .inr ⟨_, h3, Nat.le_refl _⟩
end Go.Proofs.YtgdlkjahlajcpaaGreatDoor
