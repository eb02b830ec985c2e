/- slices.Values, slices.AppendSeq and slices.Collect at nets: a new row of the call's own that holds the same nets. DERIVED: THE SHELF's CONTRACTS AT THIS DUMP, IN PLAIN WORDS (tools/lay-plain.mjs out of 'TryzShelfwn.lean', which tools/lay-shelf.mjs wrote): THE SAME DECLARATIONS UNDER THE SAME NAMES: 'import', 'namespace', 'open', 'def', 'theorem' AND NOTHING ELSE: no command of the shelf's: FOR A HAND-IN. Each laying: the table of numbers ('.._ren') and one theorem, a field a fact of the dump's own or the kernel's comparison; each contract: ONE APPLICATION. slices.SortFunc and slices.SortedFunc at nets: the same nets, in order. -/
import Derived.Test.YtgdlkjahlajcpaaGreatDoorKI
import Derived.Test.YtgdlkjahlajcpaaGreatDoorKR
import Derived.RangeFuncNested
import Derived.RangeFuncBound
import Derived.RangeFuncBox
import Derived.RangeFuncCalls
import Derived.RangeFuncLeaves
import Derived.Shelf.Abstract
import Derived.OwnWalkIn
import Derived.TacticsInMore
import Derived.LoopNIn
import Derived.LoopIn
import Derived.Shelf.SlGeneric
import Derived.Shelf.SlSortCmp.NoneTotal
import Derived.Ground.SlsfProg
import Derived.Test.YtgdlkjahlajcpaaGreatDoorProg
namespace Go.Proofs.YtgdlkjahlajcpaaGreatDoor
open Go.ChangeShapes Go.WideShapes Go.ChangeAt Go.RowKit Go.Shelf
set_option linter.unusedVariables false
set_option linter.unusedSimpArgs false
attribute [local go_sem] Oper.semAt_some

set_option maxRecDepth 100000 in
set_option maxHeartbeats 2000000 in
theorem Vals1_in (F : Fence) (n : Nat) (h7 : F.fn 111) (hro : F.round = none) (hn : 1 ≤ n) (l Bs n₀ : Nat) (A : Option Addr) (len cap : Nat) (zs : List (Int × Int)) (J Jx : List (Int × Int) → World → Prop)
    (hY : ∀ pre x W, J pre W → pre.length < zs.length → YieldAt F (n - 1) Tryz.prog l #[.agg #[.int .u32 x.1, .int .i64 x.2]] W fun e W' =>
      (e = .returned (.bool true) ∧ J (pre ++ [x]) W' ∧ Below n₀ W W') ∨ (e = .returned (.bool false) ∧ Jx (pre ++ [x]) W'))
    (W : World) (hJ : AbidesFrom W.heap.size J) (hBs : W.cell? ⟨Bs, 0, none⟩ = some (.slice A len cap)) (hn₀ : n₀ ≤ W.heap.size) (hr : rdNets W (· < n₀) [.slice A len cap] zs) (h0 : J [] W) :
    CallsIn F n Tryz.prog 111 #[.func (.yield l) #[] #[], .pointer (some ⟨Bs, 0, none⟩)] W fun e W' => (∃ v, e = .returned v) ∧
      ((∃ ys, ys = zs ∧ J ys W') ∨ (∃ pre, pre <+: zs ∧ Jx pre W')) := by
  obtain ⟨hl, hlc, hcm⟩ := RdSlice.len hr
  have hlm : len ≤ 9223372036854775807 := by unfold maxLen at hcm; omega
  have HR := Lib.hid hr
  have HL := Lib.hid hl
  have HN0 := Lib.hid hn₀
  clear hr hl hcm hlc hn₀
  refine callsIn_of_wp Tryz.func111 rfl h7 ?_ hro
  simp only [Tryz.ntmps111, List.size_toArray, List.length_cons, List.length_nil, Nat.reduceAdd, Nat.reduceSub, Array.replicate_succ, Array.replicate_zero, List.push_toArray, List.append_toArray, List.nil_append, List.cons_append]
  gi_wp2
  gi_loopw [4, 7] (fun _ i wr => ∃ k : Nat, k ≤ len ∧ i = .int .i64 k ∧ J (zs.take k) wr ∧ Below n₀ W wr)
    (fun _ i _ => len - (intOf i).toNat)
  case atStart => exact ⟨0, Nat.zero_le _, rfl, by simpa using h0, Below.refl _ _⟩
  case round =>
    obtain ⟨k, hk, rfl, hJs, hnx⟩ := hrel
    by_cases hlt : k < len
    · obtain ⟨b, o, ⟨x, x'⟩, rfl, hb, HX, _, c0, c1⟩ := RdSlice.atN HR.out hlt
      have d0 := (hnx.cell (p := ⟨b, o + k * 2, none⟩) hb).trans c0
      have d1 := (hnx.cell (p := ⟨b, o + k * 2 + 1, none⟩) hb).trans c1
      have i0 : (0 : Int) ≤ (k : Int) := by omega
      have i1 : (k : Int) < (len : Int) := by omega
      have HS : Hid (zs.take (k + 1) = zs.take k ++ [(x, x')]) := Lib.hid (takeN_succ HX.out)
      have HB2 : Hid (Below n₀ wr (wr.alloc (.cells #[.int .u32 x, .int .i64 x'] 47))) := Lib.hid ((Below.refl n₀ wr).alloc (Nat.le_trans HN0.out hnx.size) _)
      have hJ2 : J (zs.take k) (wr.alloc (.cells #[.int .u32 x, .int .i64 x'] 47)) := hJ _ _ _ none hJs (World.grownBy_alloc wr _ none) (fun r e => by cases e)
      obtain ⟨fn, tmps, assign, body, hy, hR⟩ := hY _ (x, x') _ hJ2 (by rw [List.length_take, HL.out] at *; have := HL.out; omega)
      dsimp only at hy
      clear c0 c1
      gi_wp2
      refine hR.mono ?_
      rintro e W3 (⟨rfl, hJ3, hk3⟩ | ⟨rfl, hJx3⟩)
      · gi_wp2
        go_roundw
        case rel => exact ⟨k + 1, by omega, by go_num, by rw [HS.out]; exact hJ3, hnx.trans (HB2.out.trans hk3)⟩
        case measure => simp [intOf]; omega
      · gi_wp2
        refine bodyPost_ret (results_none rfl _ _ _) rfl ?_
        exact ⟨⟨_, rfl⟩, .inr ⟨_, by rw [← HS.out]; exact List.take_prefix _ _, hJx3⟩⟩
    · obtain rfl : k = len := by omega
      have HT : Hid (zs.take k = zs) := Lib.hid (List.take_of_length_le (by rw [HL.out]; exact Nat.le_refl _))
      gi_wp2
      go_end0
      exact ⟨⟨_, rfl⟩, .inl ⟨_, HT.out, hJs⟩⟩

theorem Vals_stops (F : Fence) (n : Nat) (h7 : F.fn 111) (hro : F.round = none) (hn : 1 ≤ n) (Bs n₀ : Nat) (A : Option Addr) (len cap : Nat) (zs : List (Int × Int)) (w : World) (hBs : Bs < w.heap.size) (hn₀ : n₀ ≤ w.heap.size)
    (hc : w.cell? ⟨Bs, 0, none⟩ = some (.slice A len cap)) (hr : rdNets w (· < n₀) [.slice A len cap] zs) :
    SeqStopsK F n Tryz.prog 111 #[.pointer (some ⟨Bs, 0, none⟩)] (fun x : Int × Int => #[Value.agg #[.int .u32 x.1, .int .i64 x.2]]) (Below n₀) (fun ys => ys = zs) (fun pre => pre <+: zs) zs.length w := fun l J Jx W hW hJ _ hY h0 =>
  Vals1_in F n h7 hro hn l Bs n₀ A len cap zs J Jx hY W hJ ((hW.cell (p := ⟨Bs, 0, none⟩) hBs).trans hc) (Nat.le_trans hn₀ hW.size)
    (RdLaw.keep hr fun p hp => hW.cell (Nat.lt_of_lt_of_le hp hn₀)) h0

theorem cells2_new (w : World) (x : Int × Int) (t : TypeId) : ∀ j u, (nC x)[j]? = some u → (w.alloc (.cells #[.int .u32 x.1, .int .i64 x.2] t)).cell? ((⟨w.heap.size, 0, none⟩ : Addr).add j) = some u := by
  intro j u hu
  rw [addr_add, cell_of_row _ w.heap.size _ _ t (0, 0) (heap_alloc_new w _)]
  simpa [nC] using hu

set_option maxRecDepth 100000 in
set_option maxHeartbeats 2000000 in
theorem AppendSeq_in (F : Fence) (n : Nat) (hA : F.fn 129) (hV : F.fn 111) (hro : F.round = none) (hn : 3 ≤ n) (Bs : Nat) (A : Option Addr) (len cap : Nat) (zs : List (Int × Int)) (w : World) (hz : zs.length ≤ 8796093022000) (hBs : Bs < w.heap.size)
    (hc : w.cell? ⟨Bs, 0, none⟩ = some (.slice A len cap)) (hr : rdNets w (· < w.heap.size) [.slice A len cap] zs) :
    CallsIn F n Tryz.prog 129 #[.slice none 0 0, .func (.func 111) #[] #[.pointer (some ⟨Bs, 0, none⟩)]] w fun e W' =>
      ∃ v, e = .returned v ∧ W'.ownsRow w.heap.size 47 2 v zs.length (zs.flatMap nC) ∧ Below w.heap.size w W' := by
  have h1 : 1 ≤ n := by omega
  obtain ⟨i0, hi, hz0, hz1, hz2⟩ := info_parts net_info
  refine callsIn_of_wp_marks Tryz.func129 rfl hA ?_ hro
  simp only [Tryz.ntmps129, List.size_toArray, List.length_cons, List.length_nil, Nat.reduceAdd, Nat.reduceSub, Array.replicate_succ, Array.replicate_zero, List.push_toArray, List.append_toArray, List.nil_append, List.cons_append]
  gi_wp2
  have bO := Boxed.new w 26 (.slice none 0 0)
  have hB0 : Below w.heap.size w (w.alloc (.cells #[.slice none 0 0] 26)) := (Below.refl _ w).alloc (Nat.le_refl _) _
  obtain ⟨W0, hW0⟩ : ∃ W0, w.alloc (.cells #[.slice none 0 0] 26) = W0 := ⟨_, rfl⟩
  have hsz : W0.heap.size = w.heap.size + 1 := by rw [← hW0]; simp
  rw [hW0] at bO hB0 ⊢
  clear hW0
  refine wpIn_rangeFunc_ownH hro h1 (gf := 111) (lb := #[.pointer (some ⟨Bs, 0, none⟩)]) rfl hV (enters_of Tryz.func111 (by kernel_rfl) rfl)
    (Vals_stops F (n - 1) hV hro (by omega) Bs w.heap.size A len cap zs W0 (by omega) (by omega) ((hB0.cell (p := ⟨Bs, 0, none⟩) hBs).trans hc) (RdLaw.keep hr fun p hp => hB0.cell hp)) belowK_t (belowK_b (by omega)) (Below.refl _ _) (fun _ => rfl)
    (fun (pre : List (Int × Int)) W => (∃ v, Boxed W w.heap.size 26 v ∧ W.ownsRow w.heap.size 47 2 v pre.length (pre.flatMap nC) ∧ True) ∧ Below w.heap.size w W)
    (fun _ _ _ => False)
    (OwnFrom.and (Own.from (holdsRow_own w.heap.size w.heap.size 26 47 2 (fun pre : List (Int × Int) => pre.length) (fun pre : List (Int × Int) => pre.flatMap nC) (fun _ _ => True)) _) (ownFrom_below (Nat.le_refl _) (by omega)))
    (fun _ _ _ _ _ hs _ _ => hs)
    ⟨⟨_, bO, World.ownsRow_nil _ _ _ _, trivial⟩, hB0⟩
    (fun x a' W => ∃ Bx, w.heap.size < Bx ∧ W.heap[Bx]? = some (.cells #[.int .u32 x.1, .int .i64 x.2] 47 (0, 0)) ∧ a' = { tmps := #[.slice none 0 0, .func (.func 111) #[] #[.pointer (some ⟨Bs, 0, none⟩)], .pointer (some ⟨w.heap.size, 0, none⟩), undef, .slice none 0 0, .pointer (some ⟨Bx, 0, none⟩), .func (.func 111) #[] #[.pointer (some ⟨Bs, 0, none⟩)], .agg #[.int .u32 x.1, .int .i64 x.2], undef, undef, undef, undef, undef], defers := [] })
    (fun x a' _ X Y row hs hg hr => by
      obtain ⟨Bx, h1, h2, h3⟩ := hs
      refine ⟨Bx, h1, (hg.block Bx (size_of_block h2) (fun e => ?_)).trans h2, h3⟩
      obtain ⟨_, o, ho, hno⟩ := hr Bx e.symm
      rw [h2] at ho; cases ho; cases hno)
    ?assign ?body ?done ?stop
  case assign =>
    rintro l pre ⟨x, x'⟩ W K ⟨⟨v, hv, hrow, -⟩, hB⟩ hK
    have hlt := hv.lt
    gi_wp2
    exact hK _ _ ((KeepsOthers.alloc _ _).from _) ((Below.refl _ W).alloc hB.size _) ⟨⟨v, hv.alloc _, hrow.alloc _, trivial⟩, hB.alloc hB.size _⟩ ⟨W.heap.size, hlt, heap_alloc_new W _, rfl⟩
  case body =>
    rintro l pre ⟨x, x'⟩ a' W hl ⟨r, hr⟩ ⟨⟨v, hv, hrow, -⟩, hB⟩ ⟨Bx, hBx, hX, rfl⟩ hlt
    have hc := hv.cell
    obtain ⟨c0, c1, _, _⟩ := row2 hX
    gi_wp2_with (gi_at_builtin; refine wpListIn_append_own _ rfl _ _ 26 rfl w.heap.size 47 i0 (.agg #[.int .u32 0, .int .i64 0]) 2 16 Tryz.underlying26 hi hz0 hz1 hz2 rfl (by decide) _ _ _ rfl (hrow.alloc _) ⟨W.heap.size, 0, none⟩ 1 1 (nC (x, x')) rfl rfl (cells2_new W (x, x') _) (one_nC (x, x')) (by simp only [maxLen]; omega) (by omega) (by have := hB.size; simp; omega) ?_; intro v' w1 hown' hgrow _; obtain ⟨g', cap', rfl⟩ := ownsRow_succ hown'; obtain ⟨hv1, hv2, hr2, hk2, hb2⟩ := hv.appended (by decide) hrow hB.size (Nat.le_refl _) hown' hgrow; have hc1 := hv1.cell; have hf1 := hv1.frozen)
    have e1 : (pre ++ [(x, x')]).length = pre.length + 1 := by simp
    have e2 : (pre ++ [(x, x')]).flatMap nC = pre.flatMap nC ++ nC (x, x') := by simp
    exact ⟨hk2.from _, hb2, ⟨_, hv2, by rw [e1, e2]; exact hr2⟩, hB.trans hb2⟩
  case done =>
    rintro D ys W hD rfl ⟨⟨v, hv, hrow, -⟩, hB⟩ hK
    have hc := hv.cell
    gi_wp2
    refine ⟨by simp, .inl ⟨_, _, rfl, run_takeDeferred hK, ?_⟩⟩
    exact ⟨_, results_tmp rfl _ _ _, v, rfl, ownsRow_putObj hrow _ hK rfl, hB.trans (belowK_b (w := w) (Nat.le_refl _) W D _ _ (by omega) hK rfl rfl)⟩
  case stop =>
    rintro D c pre W _ _ h _
    exact h.elim

theorem AppendSeq_any {Bs : Nat} {A : Option Addr} {len cap : Nat} {zs : List (Int × Int)} {w : World} (hz : zs.length ≤ 8796093022000) (hBs : Bs < w.heap.size)
    (hc : w.cell? ⟨Bs, 0, none⟩ = some (.slice A len cap)) (hr : R1 rdNets w (.slice A len cap) zs) :
    Calls Tryz.prog 129 #[.slice none 0 0, .func (.func 111) #[] #[.pointer (some ⟨Bs, 0, none⟩)]] w fun e W' =>
      ∃ v, e = .returned v ∧ W'.ownsRow w.heap.size 47 2 v zs.length (zs.flatMap nC) ∧ Below w.heap.size w W' :=
  callsIn_wide.1 (AppendSeq_in Fence.wide 5 trivial trivial rfl (by omega) Bs A len cap zs w hz hBs hc hr)
theorem wf_of_rd {w : World} {ok : Nat → Prop} {v : Value} {l : List (Int × Int)} (h : rdNets w ok [v] l) : ∀ x ∈ l, wfN x := by
  obtain ⟨A, c, e, _⟩ := id h
  simp only [List.cons.injEq, and_true] at e
  subst e
  intro x hx
  obtain ⟨k, hk, rfl⟩ := List.getElem_of_mem hx
  obtain ⟨_, _, y, _, _, HX, hw, _⟩ := RdSlice.atN h hk
  have := HX.out
  rw [List.getElem?_eq_getElem hk] at this
  simp only [Option.some.injEq] at this
  rw [this]; exact hw
set_option maxHeartbeats 400000 in
theorem Collect_any {Bs : Nat} {A : Option Addr} {len cap : Nat} {zs : List (Int × Int)} {w : World} (hz : zs.length ≤ 8796093022000) (hBs : Bs < w.heap.size)
    (hc : w.cell? ⟨Bs, 0, none⟩ = some (.slice A len cap)) (hr : R1 rdNets w (.slice A len cap) zs) :
    Calls Tryz.prog 109 #[.func (.func 111) #[] #[.pointer (some ⟨Bs, 0, none⟩)]] w fun e W' =>
      ∃ v, e = .returned v ∧ OwnN W' w.heap.size v zs ∧ Below w.heap.size w W' := by
  have HW := Lib.hid (wf_of_rd hr)
  have HA := Lib.hid (AppendSeq_any hz hBs hc hr)
  clear hz hBs hc hr
  go_enter Tryz.func109, Tryz.ntmps109
  go_wp2_with fail
  (with_reducible refine HA.out.mono ?_)
  rintro e w1 ⟨v, rfl, ho, hb⟩
  obtain ⟨A1, c1, rfl⟩ := own_form ho
  have HO := Lib.hid ho
  have HB := Lib.hid hb
  clear ho hb
  go_wp2
  go_ret
  exact ⟨_, rfl, ⟨HO.out, HW.out⟩, HB.out⟩
set_option maxHeartbeats 400000 in
theorem Values_any (A : Option Addr) (len cap : Nat) (w : World) :
    Calls Tryz.prog 89 #[.slice A len cap] w fun e w' => e = .returned (.func (.func 111) #[] #[.pointer (some ⟨w.heap.size, 0, none⟩)]) ∧ w' = w.alloc (.cells #[.slice A len cap] 26) := by
  go_enter Tryz.func89, Tryz.ntmps89
  go_wp2
  go_ret
  exact ⟨rfl, rfl⟩
end Go.Proofs.YtgdlkjahlajcpaaGreatDoor
namespace Go.Proofs
open Go.Shelf
def Tryz.sortN_ren : Go.Shelf.Ren := ⟨fun | 6 => 110 | 15 => 131 | 14 => 130 | 28 => 114 | 29 => 136 | 20 => 142 | 21 => 143 | 22 => 144 | 23 => 145 | 24 => 146 | 25 => 147 | 26 => 148 | 27 => 149 | 46 => 154 | 47 => 155 | 48 => 156 | 49 => 157 | 50 => 158 | 57 => 159 | n => n, fun | 22 => 26 | 24 => 47 | 25 => 135 | 3 => 3 | 39 => 84 | 0 => 0 | 53 => 45 | 55 => 137 | 4 => 4 | 46 => 186 | 45 => 185 | 50 => 190 | 5 => 5 | 9 => 9 | 66 => 196 | 70 => 200 | 76 => 204 | 77 => 205 | n => n, fun | n => n⟩
theorem Tryz.sortN : Go.Proofs.SlLaysF0.n6 Tryz.prog Tryz.sortN_ren := {
  mixed := by kernel_rfl
  f6 := ⟨Tryz.f110.name, by decide, Tryz.func110.trans (congrArg some (by kernel_rfl))⟩
  f14 := ⟨Tryz.f130.name, by decide, Tryz.func130.trans (congrArg some (by kernel_rfl))⟩
  f15 := Tryz.func131.trans (congrArg some (by kernel_rfl))
  f20 := ⟨Tryz.f142.name, by decide, Tryz.func142.trans (congrArg some (by kernel_rfl))⟩
  f21 := ⟨Tryz.f143.name, by decide, Tryz.func143.trans (congrArg some (by kernel_rfl))⟩
  f22 := ⟨Tryz.f144.name, by decide, Tryz.func144.trans (congrArg some (by kernel_rfl))⟩
  f23 := ⟨Tryz.f145.name, by decide, Tryz.func145.trans (congrArg some (by kernel_rfl))⟩
  f24 := ⟨Tryz.f146.name, by decide, Tryz.func146.trans (congrArg some (by kernel_rfl))⟩
  f25 := ⟨Tryz.f147.name, by decide, Tryz.func147.trans (congrArg some (by kernel_rfl))⟩
  f26 := ⟨Tryz.f148.name, by decide, Tryz.func148.trans (congrArg some (by kernel_rfl))⟩
  f27 := ⟨Tryz.f149.name, by decide, Tryz.func149.trans (congrArg some (by kernel_rfl))⟩
  f28 := Tryz.func114.trans (congrArg some (by kernel_rfl))
  f29 := Tryz.func136.trans (congrArg some (by kernel_rfl))
  f46 := ⟨Tryz.f154.name, by decide, Tryz.func154.trans (congrArg some (by kernel_rfl))⟩
  f47 := Tryz.func155.trans (congrArg some (by kernel_rfl))
  f48 := Tryz.func156.trans (congrArg some (by kernel_rfl))
  f49 := ⟨Tryz.f157.name, by decide, Tryz.func157.trans (congrArg some (by kernel_rfl))⟩
  f50 := ⟨Tryz.f158.name, by decide, Tryz.func158.trans (congrArg some (by kernel_rfl))⟩
  f57 := ⟨Tryz.f159.name, by decide, Tryz.func159.trans (congrArg some (by kernel_rfl))⟩
  t0 := Tryz.underlying0
  a0 := Tryz.isAgg0
  z0 := Tryz.sizeOf0
  v0 := Tryz.zeroValue0
  t3 := Tryz.underlying3
  a3 := Tryz.isAgg3
  z3 := Tryz.sizeOf3
  v3 := Tryz.zeroValue3
  t4 := Tryz.underlying4
  a4 := Tryz.isAgg4
  z4 := Tryz.sizeOf4
  v4 := Tryz.zeroValue4
  t5 := Tryz.underlying5
  a5 := Tryz.isAgg5
  z5 := Tryz.sizeOf5
  v5 := Tryz.zeroValue5
  t9 := Tryz.underlying9
  a9 := Tryz.isAgg9
  z9 := Tryz.sizeOf9
  v9 := Tryz.zeroValue9
  t22 := Tryz.underlying26
  a22 := Tryz.isAgg26
  z22 := Tryz.sizeOf26
  v22 := Tryz.zeroValue26
  t25 := Tryz.underlying135
  a25 := Tryz.isAgg135
  z25 := Tryz.sizeOf135
  v25 := Tryz.zeroValue135
  t39 := Tryz.underlying84
  a39 := Tryz.isAgg84
  z39 := Tryz.sizeOf84
  v39 := Tryz.zeroValue84
  t45 := Tryz.underlying185
  a45 := Tryz.isAgg185
  z45 := Tryz.sizeOf185
  v45 := Tryz.zeroValue185
  t46 := Tryz.underlying186
  a46 := Tryz.isAgg186
  z46 := Tryz.sizeOf186
  v46 := Tryz.zeroValue186
  t50 := Tryz.underlying190
  a50 := Tryz.isAgg190
  z50 := Tryz.sizeOf190
  v50 := Tryz.zeroValue190
  t53 := Tryz.underlying45
  a53 := Tryz.isAgg45
  z53 := Tryz.sizeOf45
  v53 := Tryz.zeroValue45
  t55 := Tryz.underlying137
  a55 := Tryz.isAgg137
  z55 := Tryz.sizeOf137
  v55 := Tryz.zeroValue137
  t66 := Tryz.underlying196
  a66 := Tryz.isAgg196
  z66 := Tryz.sizeOf196
  v66 := Tryz.zeroValue196
  t70 := Tryz.underlying200
  a70 := Tryz.isAgg200
  z70 := Tryz.sizeOf200
  v70 := Tryz.zeroValue200
  t76 := Tryz.underlying204
  a76 := Tryz.isAgg204
  z76 := Tryz.sizeOf204
  v76 := Tryz.zeroValue204
  t77 := Tryz.underlying205
  a77 := Tryz.isAgg205
  z77 := Tryz.sizeOf205
  v77 := Tryz.zeroValue205 }
end Go.Proofs
namespace Go.Proofs.YtgdlkjahlajcpaaGreatDoor
open Go.ChangeShapes Go.WideShapes Go.ChangeAt Go.RowKit
set_option linter.unusedVariables false
set_option linter.unusedSimpArgs false
open Go.Sort in
theorem flat_eq (zs : List Nn) : flatK nC 2 zs.toArray = (zs.flatMap nC).toArray := by
  apply Array.ext
  · simp only [size_flatK, List.size_toArray]; exact (nC_len zs).symm
  · intro t h1 h2
    have ht : t < zs.length * 2 := by simpa using h1
    have e0 := get_flatK nC 2 zs.toArray t (by simpa using ht)
    have hq : t / 2 < zs.length := by omega
    have hx : zs[t / 2]? = some zs[t / 2] := List.getElem?_eq_getElem hq
    have e1 := nC_at zs (t / 2) (t % 2) _ hx (by omega)
    rw [show t / 2 * 2 + t % 2 = t from by omega] at e1
    have e2 : (flatK nC 2 zs.toArray)[t]! = (flatK nC 2 zs.toArray)[t] := getElem!_pos _ t h1
    rw [← e2, e0]
    have e3 : zs.toArray[t / 2]! = zs[t / 2] := by rw [getElem!_pos zs.toArray (t / 2) (by simpa using hq)]; simp
    rw [e3]
    have h2' : t < (zs.flatMap nC).length := by rw [nC_len]; exact ht
    rw [List.getElem?_eq_getElem h2'] at e1
    have hm : t % 2 < (nC zs[t / 2]).length := by simp [nC]; omega
    rw [List.getElem?_eq_getElem hm] at e1
    simp only [Option.some.injEq] at e1
    rw [getElem!_pos (nC zs[t / 2]) (t % 2) hm, ← e1]; simp
open Go.Sort in
theorem holds_of_blockV {w : World} {g : Nat} {cur : Array Value} {e : TypeId} {ss : List Value} (hb : w.heap[g]? = some (.cells cur e (0, 0))) (ht : cur.toList.take ss.length = ss) : Holds id w g 0 ss.toArray := by
  intro j hj
  have hj' : j < ss.length := by simpa using hj
  refine ⟨?_, by simp [World.frozen?, hb]⟩
  have h1 : (cur.toList.take ss.length)[j]? = ss[j]? := by rw [ht]
  rw [List.getElem?_take_of_lt hj'] at h1
  simp only [World.cell?, hb, Nat.zero_add]
  simp only [Option.isSome_none, Bool.false_eq_true, if_false]
  rw [← Array.getElem?_toList, h1]
  simp [hj']
open Go.Sort in
theorem heap_sortedV {w : World} {g n : Nat} {os : Array Obj} {cur : Array Value} {e : TypeId} {fr : Nat × Nat} (d : Array Value) (hb : w.heap[g]? = some (.cells cur e fr)) :
    (grow (putRow id (Sort.ahead w n) g 0 d) os).heap[g]? = some (.cells (putCells id 0 d cur) e fr) := by
  have hg : g < w.heap.size := (Array.getElem?_eq_some_iff.1 hb).1
  rw [heap_grow_old _ _ (by simpa using hg)]
  simp [putRow, mapBlock, Sort.ahead, Array.getElem?_modify, hb, onCells]
open Go.Sort in
theorem grownBy_sortedV {w : World} {g n : Nat} {os : Array Obj} (d : Array Value) : w.grownBy (grow (putRow id (Sort.ahead w n) g 0 d) os) (some g) := by
  refine ⟨rfl, rfl, rfl, by simp, fun k hk hne => ?_⟩
  rw [heap_grow_old _ _ (by simpa using hk)]
  have : g ≠ k := fun e => hne (by rw [e])
  simp [putRow, mapBlock, Sort.ahead, Array.getElem?_modify, this]
open Go.Sort in
theorem take_putCellsV (cur : Array Value) (ts : List Value) (h : ts.length ≤ cur.size) : (putCells id 0 ts.toArray cur).toList.take ts.length = ts := by
  apply List.ext_getElem?
  intro j
  by_cases hj : j < ts.length
  · rw [List.getElem?_take_of_lt hj, Array.getElem?_toList]
    simp [putCells, hj, show j < cur.size by omega]
  · rw [List.getElem?_take_eq_none (by omega), List.getElem?_eq_none (by omega)]
theorem sort_fun : (fun x y : Nn => !(ltOf cmpN) y x) = fun x y => !lessB y x := by funext x y; rw [cmp_lt]
theorem sort_nil : sortN [] = [] := by unfold sortN; simp
theorem SortFunc_any {w : World} {base : Nat} {v : Value} {zs : List Nn} (ho : OwnN w base v zs) (hl : zs.length ≤ 1000) :
    Calls Tryz.prog 110 #[v, .func (.func 90) #[] #[]] w fun e w' => e = .returned (.tuple #[]) ∧ OwnN w' base v (sortN zs) ∧ Grow w v w' v := by
  by_cases hz : zs = []
  · subst hz
    obtain ⟨A, c, rfl⟩ := ho.form
    have hcon := AnyF.slices_SortFunc_none Tryz.sortN A c (.func (.func 90) #[] #[]) w
    change Calls Tryz.prog 110 _ _ _ at hcon
    refine hcon.mono fun e w' hh => ⟨hh.1, ?_⟩
    rw [hh.2, sort_nil]
    exact ⟨ho, Grow.refl _ _⟩
  · have hpos : 0 < zs.length := List.length_pos_iff.2 hz
    obtain ⟨⟨h1, h2⟩, h3⟩ := ho
    rcases h2 with ⟨_, h2⟩ | ⟨g, cap, cur, rfl, hg, hb, hc, hm, hs, ht⟩
    · omega
    · have hlen := nC_len zs
      have hH : Sort.HoldsK nC 2 w g 0 zs.toArray := by
        unfold Sort.HoldsK
        rw [flat_eq]
        exact holds_of_blockV hb (by rw [hlen]; exact ht)
      have eg : ∀ args w, (callFunc 90 args).run Tryz.prog w = .ok (.enter 90 args) w := enters_of Tryz.func90 (by kernel_rfl) rfl
      have hcmp : CmpLays Tryz.prog 90 #[] nC 2 cmpN g 0 zs.toArray.size w := fun m os dk hs x y =>
        (Order_g x.1 x.2 y.1 y.2 _).mono fun e w' hh => ⟨hh.1, by obtain ⟨os', e'⟩ := hh.2; exact ⟨0, os', e'⟩⟩
      have hcon := AnyQ.slices_SortFunc_total Tryz.sortN 2 Tryz.isAgg47 Tryz.sizeOf47 nC (fun _ => rfl) (fun x v hv => one_nC x v hv) cmpN cmp_swo 90 #[] g 0 cap zs.toArray w eg hcmp hH (size_of_block hb) (by simp; omega) (fun x y a b => by
        rw [cmp_lt] at a b
        by_cases e : x = y
        · exact e
        · have := less_one e; rw [a, b] at this; cases this)
      change Calls Tryz.prog 110 _ _ _ at hcon
      rw [List.size_toArray] at hcon
      refine hcon.mono fun e w' hh => ⟨hh.1, ?_⟩
      obtain ⟨n, os, e'⟩ := hh.2
      rw [sort_fun] at e'
      have e2 : w' = Sort.grow (Sort.putRow id (Sort.ahead w n) g 0 ((sortN zs).flatMap nC).toArray) os := by rw [e', ← flat_eq]; rfl
      have hp := (sortN_perm zs).length_eq
      have hl2 : ((sortN zs).flatMap nC).length = zs.length * 2 := by rw [nC_len, hp]
      have hb' := heap_sortedV (n := n) (os := os) ((sortN zs).flatMap nC).toArray hb
      rw [← e2] at hb'
      refine ⟨⟨⟨nC_len _, .inr ⟨g, cap, _, by rw [hp], hg, hb', by rw [hp]; exact hc, hm, by simp [Sort.putCells, hs], ?_⟩⟩, fun x hx => h3 x ((sortN_perm zs).mem_iff.1 hx)⟩, ?_, .inl rfl⟩
      · rw [← nC_len]
        exact take_putCellsV cur _ (by rw [hl2, hs]; omega)
      · rw [e2]; exact grownBy_sortedV _
set_option maxHeartbeats 400000 in
theorem SortedFunc_any {Bs : Nat} {A : Option Addr} {len cap : Nat} {zs : List Nn} {w : World} (hz : zs.length ≤ 1000) (hBs : Bs < w.heap.size)
    (hc : w.cell? ⟨Bs, 0, none⟩ = some (.slice A len cap)) (hr : R1 rdNets w (.slice A len cap) zs) :
    Calls Tryz.prog 88 #[.func (.func 111) #[] #[.pointer (some ⟨Bs, 0, none⟩)], .func (.func 90) #[] #[]] w fun e W' =>
      ∃ v, e = .returned v ∧ OwnN W' w.heap.size v (sortN zs) ∧ Below w.heap.size w W' := by
  have HC := Lib.hid (Collect_any (by omega) hBs hc hr)
  have HZ := Lib.hid hz
  clear hz hBs hc hr
  go_enter Tryz.func88, Tryz.ntmps88
  go_wp2_with fail
  (with_reducible refine HC.out.mono ?_)
  rintro e w1 ⟨v, rfl, ho, hb⟩
  have HS := Lib.hid (SortFunc_any ho HZ.out)
  have HB := Lib.hid hb
  have HO := Lib.hid ho
  obtain ⟨A1, c1, rfl⟩ := ho.form
  clear ho hb
  go_wp2_with fail
  (with_reducible refine HS.out.mono ?_)
  rintro e w2 ⟨rfl, ho2, hg2⟩
  have HO2 := Lib.hid ho2
  have HB2 := Lib.hid (hg2.below HB.out HO.out.1 (Nat.le_refl _) HB.out.size)
  clear ho2 hg2
  go_wp2
  go_ret
  exact ⟨_, rfl, HO2.out, HB2.out⟩
end Go.Proofs.YtgdlkjahlajcpaaGreatDoor
