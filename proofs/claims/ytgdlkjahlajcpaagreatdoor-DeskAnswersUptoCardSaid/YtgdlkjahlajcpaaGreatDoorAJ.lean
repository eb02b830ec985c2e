/- DERIVED: THE SHELF's CONTRACTS AT THIS DUMP, IN PLAIN WORDS (tools/lay-plain.mjs out of 'TryzShelfwn.lean', which tools/lay-shelf.mjs wrote): THE SAME DECLARATIONS UNDER THE SAME NAMES: 'import', 'namespace', 'open', 'def', 'theorem' AND NOTHING ELSE: no command of the shelf's: FOR A HAND-IN. Each l -/
import Derived.Shelf.SlGeneric
import Derived.Shelf.SlSortCmp.NoneTotal
import Derived.Ground.SlsfProg
import Derived.Test.YtgdlkjahlajcpaaGreatDoorProg
import Derived.Test.YtgdlkjahlajcpaaGreatDoorAI
import Derived.Test.YtgdlkjahlajcpaaGreatDoorAE
import Derived.BigQuiet
import Derived.Deep.RegionHeld3
import Derived.Deep.DeepCutAuto
namespace Go.Proofs
open Go.Shelf
def Tryz.sortN_ren : Go.Shelf.Ren := ⟨fun | 6 => 110 | 15 => 131 | 14 => 130 | 28 => 114 | 29 => 136 | 20 => 142 | 21 => 143 | 22 => 144 | 23 => 145 | 24 => 146 | 25 => 147 | 26 => 148 | 27 => 149 | 46 => 154 | 47 => 155 | 48 => 156 | 49 => 157 | 50 => 158 | 57 => 159 | n => n, fun | 22 => 26 | 24 => 47 | 25 => 135 | 3 => 3 | 39 => 84 | 0 => 0 | 53 => 45 | 55 => 137 | 4 => 4 | 46 => 186 | 45 => 185 | 50 => 190 | 5 => 5 | 9 => 9 | 66 => 196 | 70 => 200 | 76 => 204 | 77 => 205 | n => n, fun | n => n⟩
theorem Tryz.sortN : Go.Proofs.SlLaysF0.n6 Tryz.prog Tryz.sortN_ren := {
  mixed := by kernel_rfl
  f6 := ⟨Tryz.f110.name, by decide, Tryz.func110.trans (congrArg some (by kernel_rfl))⟩
  f14 := ⟨Tryz.f130.name, by decide, Tryz.func130.trans (congrArg some (by kernel_rfl))⟩
  f15 := Tryz.func131.trans (congrArg some (by kernel_rfl))
  f20 := ⟨Tryz.f142.name, by decide, Tryz.func142.trans (congrArg some (by kernel_rfl))⟩
  f21 := ⟨Tryz.f143.name, by decide, Tryz.func143.trans (congrArg some (by kernel_rfl))⟩
  f22 := ⟨Tryz.f144.name, by decide, Tryz.func144.trans (congrArg some (by kernel_rfl))⟩
  f23 := ⟨Tryz.f145.name, by decide, Tryz.func145.trans (congrArg some (by kernel_rfl))⟩
  f24 := ⟨Tryz.f146.name, by decide, Tryz.func146.trans (congrArg some (by kernel_rfl))⟩
  f25 := ⟨Tryz.f147.name, by decide, Tryz.func147.trans (congrArg some (by kernel_rfl))⟩
  f26 := ⟨Tryz.f148.name, by decide, Tryz.func148.trans (congrArg some (by kernel_rfl))⟩
  f27 := ⟨Tryz.f149.name, by decide, Tryz.func149.trans (congrArg some (by kernel_rfl))⟩
  f28 := Tryz.func114.trans (congrArg some (by kernel_rfl))
  f29 := Tryz.func136.trans (congrArg some (by kernel_rfl))
  f46 := ⟨Tryz.f154.name, by decide, Tryz.func154.trans (congrArg some (by kernel_rfl))⟩
  f47 := Tryz.func155.trans (congrArg some (by kernel_rfl))
  f48 := Tryz.func156.trans (congrArg some (by kernel_rfl))
  f49 := ⟨Tryz.f157.name, by decide, Tryz.func157.trans (congrArg some (by kernel_rfl))⟩
  f50 := ⟨Tryz.f158.name, by decide, Tryz.func158.trans (congrArg some (by kernel_rfl))⟩
  f57 := ⟨Tryz.f159.name, by decide, Tryz.func159.trans (congrArg some (by kernel_rfl))⟩
  t0 := Tryz.underlying0
  a0 := Tryz.isAgg0
  z0 := Tryz.sizeOf0
  v0 := Tryz.zeroValue0
  t3 := Tryz.underlying3
  a3 := Tryz.isAgg3
  z3 := Tryz.sizeOf3
  v3 := Tryz.zeroValue3
  t4 := Tryz.underlying4
  a4 := Tryz.isAgg4
  z4 := Tryz.sizeOf4
  v4 := Tryz.zeroValue4
  t5 := Tryz.underlying5
  a5 := Tryz.isAgg5
  z5 := Tryz.sizeOf5
  v5 := Tryz.zeroValue5
  t9 := Tryz.underlying9
  a9 := Tryz.isAgg9
  z9 := Tryz.sizeOf9
  v9 := Tryz.zeroValue9
  t22 := Tryz.underlying26
  a22 := Tryz.isAgg26
  z22 := Tryz.sizeOf26
  v22 := Tryz.zeroValue26
  t25 := Tryz.underlying135
  a25 := Tryz.isAgg135
  z25 := Tryz.sizeOf135
  v25 := Tryz.zeroValue135
  t39 := Tryz.underlying84
  a39 := Tryz.isAgg84
  z39 := Tryz.sizeOf84
  v39 := Tryz.zeroValue84
  t45 := Tryz.underlying185
  a45 := Tryz.isAgg185
  z45 := Tryz.sizeOf185
  v45 := Tryz.zeroValue185
  t46 := Tryz.underlying186
  a46 := Tryz.isAgg186
  z46 := Tryz.sizeOf186
  v46 := Tryz.zeroValue186
  t50 := Tryz.underlying190
  a50 := Tryz.isAgg190
  z50 := Tryz.sizeOf190
  v50 := Tryz.zeroValue190
  t53 := Tryz.underlying45
  a53 := Tryz.isAgg45
  z53 := Tryz.sizeOf45
  v53 := Tryz.zeroValue45
  t55 := Tryz.underlying137
  a55 := Tryz.isAgg137
  z55 := Tryz.sizeOf137
  v55 := Tryz.zeroValue137
  t66 := Tryz.underlying196
  a66 := Tryz.isAgg196
  z66 := Tryz.sizeOf196
  v66 := Tryz.zeroValue196
  t70 := Tryz.underlying200
  a70 := Tryz.isAgg200
  z70 := Tryz.sizeOf200
  v70 := Tryz.zeroValue200
  t76 := Tryz.underlying204
  a76 := Tryz.isAgg204
  z76 := Tryz.sizeOf204
  v76 := Tryz.zeroValue204
  t77 := Tryz.underlying205
  a77 := Tryz.isAgg205
  z77 := Tryz.sizeOf205
  v77 := Tryz.zeroValue205 }
end Go.Proofs
namespace Go.Proofs.YtgdlkjahlajcpaaGreatDoor
open Go.ChangeShapes Go.WideShapes Go.ChangeAt Go.RowKit
set_option linter.unusedVariables false
set_option linter.unusedSimpArgs false
open Go.Sort in
theorem flat_eq (zs : List Nn) : flatK nC 2 zs.toArray = (zs.flatMap nC).toArray := by
  apply Array.ext
  · simp only [size_flatK, List.size_toArray]; exact (nC_len zs).symm
  · intro t h1 h2
    have ht : t < zs.length * 2 := by simpa using h1
    have e0 := get_flatK nC 2 zs.toArray t (by simpa using ht)
    have hq : t / 2 < zs.length := by omega
    have hx : zs[t / 2]? = some zs[t / 2] := List.getElem?_eq_getElem hq
    have e1 := nC_at zs (t / 2) (t % 2) _ hx (by omega)
    rw [show t / 2 * 2 + t % 2 = t from by omega] at e1
    have e2 : (flatK nC 2 zs.toArray)[t]! = (flatK nC 2 zs.toArray)[t] := getElem!_pos _ t h1
    rw [← e2, e0]
    have e3 : zs.toArray[t / 2]! = zs[t / 2] := by rw [getElem!_pos zs.toArray (t / 2) (by simpa using hq)]; simp
    rw [e3]
    have h2' : t < (zs.flatMap nC).length := by rw [nC_len]; exact ht
    rw [List.getElem?_eq_getElem h2'] at e1
    have hm : t % 2 < (nC zs[t / 2]).length := by simp [nC]; omega
    rw [List.getElem?_eq_getElem hm] at e1
    simp only [Option.some.injEq] at e1
    rw [getElem!_pos (nC zs[t / 2]) (t % 2) hm, ← e1]; simp
open Go.Sort in
theorem holds_of_blockV {w : World} {g : Nat} {cur : Array Value} {e : TypeId} {ss : List Value} (hb : w.heap[g]? = some (.cells cur e (0, 0))) (ht : cur.toList.take ss.length = ss) : Holds id w g 0 ss.toArray := by
  intro j hj
  have hj' : j < ss.length := by simpa using hj
  refine ⟨?_, by simp [World.frozen?, hb]⟩
  have h1 : (cur.toList.take ss.length)[j]? = ss[j]? := by rw [ht]
  rw [List.getElem?_take_of_lt hj'] at h1
  simp only [World.cell?, hb, Nat.zero_add]
  simp only [Option.isSome_none, Bool.false_eq_true, if_false]
  rw [← Array.getElem?_toList, h1]
  simp [hj']
open Go.Sort in
theorem heap_sortedV {w : World} {g n : Nat} {os : Array Obj} {cur : Array Value} {e : TypeId} {fr : Nat × Nat} (d : Array Value) (hb : w.heap[g]? = some (.cells cur e fr)) :
    (grow (putRow id (Sort.ahead w n) g 0 d) os).heap[g]? = some (.cells (putCells id 0 d cur) e fr) := by
  have hg : g < w.heap.size := (Array.getElem?_eq_some_iff.1 hb).1
  rw [heap_grow_old _ _ (by simpa using hg)]
  simp [putRow, mapBlock, Sort.ahead, Array.getElem?_modify, hb, onCells]
open Go.Sort in
theorem grownBy_sortedV {w : World} {g n : Nat} {os : Array Obj} (d : Array Value) : w.grownBy (grow (putRow id (Sort.ahead w n) g 0 d) os) (some g) := by
  refine ⟨rfl, rfl, rfl, by simp, fun k hk hne => ?_⟩
  rw [heap_grow_old _ _ (by simpa using hk)]
  have : g ≠ k := fun e => hne (by rw [e])
  simp [putRow, mapBlock, Sort.ahead, Array.getElem?_modify, this]
open Go.Sort in
theorem take_putCellsV (cur : Array Value) (ts : List Value) (h : ts.length ≤ cur.size) : (putCells id 0 ts.toArray cur).toList.take ts.length = ts := by
  apply List.ext_getElem?
  intro j
  by_cases hj : j < ts.length
  · rw [List.getElem?_take_of_lt hj, Array.getElem?_toList]
    simp [putCells, hj, show j < cur.size by omega]
  · rw [List.getElem?_take_eq_none (by omega), List.getElem?_eq_none (by omega)]
theorem sort_fun : (fun x y : Nn => !(ltOf cmpN) y x) = fun x y => !lessB y x := by funext x y; rw [cmp_lt]
theorem sort_nil : sortN [] = [] := by unfold sortN; simp
theorem SortFunc_any {w : World} {base : Nat} {v : Value} {zs : List Nn} (ho : OwnN w base v zs) (hl : zs.length ≤ 1000) :
    Calls Tryz.prog 110 #[v, .func (.func 90) #[] #[]] w fun e w' => e = .returned (.tuple #[]) ∧ OwnN w' base v (sortN zs) ∧ Grow w v w' v := by
  by_cases hz : zs = []
  · subst hz
    obtain ⟨A, c, rfl⟩ := ho.form
    have hcon := AnyF.slices_SortFunc_none Tryz.sortN A c (.func (.func 90) #[] #[]) w
    change Calls Tryz.prog 110 _ _ _ at hcon
    refine hcon.mono fun e w' hh => ⟨hh.1, ?_⟩
    rw [hh.2, sort_nil]
    exact ⟨ho, Grow.refl _ _⟩
  · have hpos : 0 < zs.length := List.length_pos_iff.2 hz
    obtain ⟨⟨h1, h2⟩, h3⟩ := ho
    rcases h2 with ⟨_, h2⟩ | ⟨g, cap, cur, rfl, hg, hb, hc, hm, hs, ht⟩
    · omega
    · have hlen := nC_len zs
      have hH : Sort.HoldsK nC 2 w g 0 zs.toArray := by
        unfold Sort.HoldsK
        rw [flat_eq]
        exact holds_of_blockV hb (by rw [hlen]; exact ht)
      have eg : ∀ args w, (callFunc 90 args).run Tryz.prog w = .ok (.enter 90 args) w := enters_of Tryz.func90 (by kernel_rfl) rfl
      have hcmp : CmpLays Tryz.prog 90 #[] nC 2 cmpN g 0 zs.toArray.size w := fun m os dk hs x y =>
        (Order_g x.1 x.2 y.1 y.2 _).mono fun e w' hh => ⟨hh.1, by obtain ⟨os', e'⟩ := hh.2; exact ⟨0, os', e'⟩⟩
      have hcon := AnyQ.slices_SortFunc_total Tryz.sortN 2 Tryz.isAgg47 Tryz.sizeOf47 nC (fun _ => rfl) (fun x v hv => one_nC x v hv) cmpN cmp_swo 90 #[] g 0 cap zs.toArray w eg hcmp hH (size_of_block hb) (by simp; omega) (fun x y a b => by
        rw [cmp_lt] at a b
        by_cases e : x = y
        · exact e
        · have := less_one e; rw [a, b] at this; cases this)
      change Calls Tryz.prog 110 _ _ _ at hcon
      rw [List.size_toArray] at hcon
      refine hcon.mono fun e w' hh => ⟨hh.1, ?_⟩
      obtain ⟨n, os, e'⟩ := hh.2
      rw [sort_fun] at e'
      have e2 : w' = Sort.grow (Sort.putRow id (Sort.ahead w n) g 0 ((sortN zs).flatMap nC).toArray) os := by rw [e', ← flat_eq]; rfl
      have hp := (sortN_perm zs).length_eq
      have hl2 : ((sortN zs).flatMap nC).length = zs.length * 2 := by rw [nC_len, hp]
      have hb' := heap_sortedV (n := n) (os := os) ((sortN zs).flatMap nC).toArray hb
      rw [← e2] at hb'
      refine ⟨⟨⟨nC_len _, .inr ⟨g, cap, _, by rw [hp], hg, hb', by rw [hp]; exact hc, hm, by simp [Sort.putCells, hs], ?_⟩⟩, fun x hx => h3 x ((sortN_perm zs).mem_iff.1 hx)⟩, ?_, .inl rfl⟩
      · rw [← nC_len]
        exact take_putCellsV cur _ (by rw [hl2, hs]; omega)
      · rw [e2]; exact grownBy_sortedV _
set_option maxHeartbeats 400000 in
theorem SortedFunc_any {Bs : Nat} {A : Option Addr} {len cap : Nat} {zs : List Nn} {w : World} (hz : zs.length ≤ 1000) (hBs : Bs < w.heap.size)
    (hc : w.cell? ⟨Bs, 0, none⟩ = some (.slice A len cap)) (hr : R1 rdNets w (.slice A len cap) zs) :
    Calls Tryz.prog 88 #[.func (.func 111) #[] #[.pointer (some ⟨Bs, 0, none⟩)], .func (.func 90) #[] #[]] w fun e W' =>
      ∃ v, e = .returned v ∧ OwnN W' w.heap.size v (sortN zs) ∧ Below w.heap.size w W' := by
  have HC := Lib.hid (Collect_any (by omega) hBs hc hr)
  have HZ := Lib.hid hz
  clear hz hBs hc hr
  go_enter Tryz.func88, Tryz.ntmps88
  go_wp2_with fail
  (with_reducible refine HC.out.mono ?_)
  rintro e w1 ⟨v, rfl, ho, hb⟩
  have HS := Lib.hid (SortFunc_any ho HZ.out)
  have HB := Lib.hid hb
  have HO := Lib.hid ho
  obtain ⟨A1, c1, rfl⟩ := ho.form
  clear ho hb
  go_wp2_with fail
  (with_reducible refine HS.out.mono ?_)
  rintro e w2 ⟨rfl, ho2, hg2⟩
  have HO2 := Lib.hid ho2
  have HB2 := Lib.hid (hg2.below HB.out HO.out.1 (Nat.le_refl _) HB.out.size)
  clear ho2 hg2
  go_wp2
  go_ret
  exact ⟨_, rfl, HO2.out, HB2.out⟩
end Go.Proofs.YtgdlkjahlajcpaaGreatDoor
namespace Go.Proofs.YtgdlkjahlajcpaaGreatDoor
open Go.ChangeShapes Go.WideShapes Go.ChangeAt Go.RowKit
set_option linter.unusedVariables false
set_option linter.unusedSimpArgs false
theorem below_a1 (w : World) (o : Obj) : Below w.heap.size w (w.alloc o) := (Below.refl _ _).alloc (Nat.le_refl _) _
theorem Grow.of_below {w w' : World} (hb : Below w.heap.size w w') (v : Value) : Grow w v w' v := ⟨⟨hb.os, hb.tape, hb.output, hb.size, fun k hk _ => hb.block k hk⟩, .inl rfl⟩
theorem inN_c {w : World} {a n b m : Int} {r : Bool} (ha : is32 a) (hb : is32 b) (hr : inB (a, n) (b, m) = r) (d : Nat) (os : Array Obj) :
    Calls Tryz.prog 91 #[.agg #[.int .u32 a, .int .i64 n], .agg #[.int .u32 b, .int .i64 m]] (Sort.grow (redrawn w d) os) fun e w'' => e = .returned (.bool r) ∧ ∃ p : Regrown, w'' = Sort.grow (redrawn w p.d) p.os :=
  Calls.regrown_of ((In_any a n b m _ ha hb).mono fun e w' ⟨he, hb⟩ => ⟨by rw [he, hr], hb⟩)
theorem OwnN.pre {w : World} {base n c : Nat} {A : Option Addr} {xs ys : List (Int × Int)} (h : OwnN w base (.slice A n c) (xs ++ ys)) (hn : 0 < (xs ++ ys).length) : OwnN w base (.slice A xs.length c) xs := by
  obtain ⟨⟨h1, h2⟩, h3⟩ := h
  refine ⟨⟨nC_len xs, ?_⟩, fun x hx => h3 x (List.mem_append_left _ hx)⟩
  rcases h2 with ⟨_, h2⟩ | ⟨g, cap, cur, e, hg, hb, hc, hm, hz, ht⟩
  · omega
  · simp only [Value.slice.injEq] at e
    obtain ⟨rfl, _, rfl⟩ := e
    have hle : xs.length ≤ (xs ++ ys).length := by rw [List.length_append]; omega
    refine .inr ⟨g, c, cur, rfl, hg, hb, by omega, hm, hz, ?_⟩
    have : cur.toList.take (xs.length * 2) = (cur.toList.take ((xs ++ ys).length * 2)).take (xs.length * 2) := by rw [List.take_take, Nat.min_eq_left (by omega)]
    rw [this, ht, List.flatMap_append, List.take_left' (nC_len xs)]
theorem step_append_net {w : World} {ops : Array Oper} {o : Oper} {a : Act} {K : Act → World → Prop} {Q : Exit → Act → World → Prop} {E : Prop} (hgd : o.guard = none) (s x : Operand) (t : TypeId) (ht : Tryz.prog.underlying t = some (.slice 47))
    (ho : o.op = .call { callee := .builtin .append, args := #[s, x], argTypes := #[t, t] })
    (base : Nat) (v : Value) (xs : List (Int × Int)) (hs : a.eval s = v) (hown : OwnN w base v xs)
    (G : Nat) (y : Int × Int) (t2 : TypeId) (hx : a.eval x = .slice (some ⟨G, 0, none⟩) 1 1) (hG : w.heap[G]? = some (.cells #[.int .u32 y.1, .int .i64 y.2] t2 (0, 0))) (hwf : wfN y)
    (hl : xs.length ≤ 8796093022000) (hbase : base ≤ w.heap.size)
    (h : ∀ v' w', OwnN w' base v' (xs ++ [y]) → Grow w v w' v' → K (a.put o.dst v') w') : if Region.wanted o (yielded ops a.tmps) = true then Oper.wp Tryz.prog o a w K Q else E := by
  obtain ⟨i0, hi, hz0, hz1, hz2⟩ := info_parts net_info
  have hr : Reads w w.heap.size 2 (some ⟨G, 0, none⟩) 1 (nC y) := ⟨rfl, fun _ => ⟨_, rfl, size_of_block hG, fun j u hu => by
    rw [addr_add, cell_of_row _ G _ _ t2 (0, 0) hG]; simpa [nC] using hu⟩⟩
  refine step_append_any w hgd s x t ho base _ i0 _ 2 16 ht hi hz0 hz1 hz2 (by rfl) (by omega) v xs.length _ hs hown.1 w.heap.size _ 1 1 (nC y) hx hr (one_nC y) (by simp only [maxLen]; omega) (by omega) hbase ?_
  intro v' w' h1 h2 h3
  refine h v' w' ⟨by simpa using h1, fun q hq => ?_⟩ ⟨h2, ?_⟩
  · rcases List.mem_append.1 hq with hq | hq
    · exact hown.2 q hq
    · simp only [List.mem_cons, List.not_mem_nil, or_false] at hq; subst hq; exact hwf
  · rcases h3 with h3 | h3
    · exact .inl h3
    · exact .inr ⟨_, h3, Nat.le_refl _⟩
theorem Up_okl {a l : Int} {k : Nat} (w : World) (ha : is32 a) (hk : k < 32) (hl : l = (k : Int) + 1) (h : netF (a, l) = 0) :
    Calls Tryz.prog 82 #[.agg #[.int .u32 a, .int .i64 l]] w fun e w' => e = .returned (.tuple #[.agg #[.int .u32 (fl (lowI k) a), .int .i64 k], .nilIface]) ∧ Below w.heap.size w w' := by
  subst hl; exact Up_ok w ha hk h
theorem joinS_stop {n t : Nn} {r : List Nn} (h : sibB t n = false) : joinS n (t :: r) = n :: t :: r := by rw [joinS, h]; rfl
theorem joinS_go {n t : Nn} {r : List Nn} (h : sibB t n = true) : joinS n (t :: r) = joinS (upN n) r := by rw [joinS, h]; rfl
set_option maxRecDepth 100000 in
set_option maxHeartbeats 4000000 in
theorem Joined_any {w : World} {base : Nat} {v : Value} {n : Nn} {r : List Nn} (ho : OwnN w base v (n :: r).reverse) (hn : netF n = 0) (h32 : ∀ x ∈ n :: r, is32 x.1) (hl : r.length ≤ 100) (hb : base ≤ w.heap.size) :
    Calls Tryz.prog 92 #[v] w fun e w' => ∃ v', e = .returned v' ∧ OwnN w' base v' (joinS n r).reverse ∧ Grow w v w' v' := by
  obtain ⟨A0, c0, rfl⟩ := ho.form
  obtain ⟨N0, hN0⟩ : ∃ N0, (n :: r).reverse.length = N0 := ⟨_, rfl⟩
  rw [hN0] at ho ⊢
  have HN0 : Hid (N0 = r.length + 1) := Lib.hid (by rw [← hN0]; simp)
  obtain ⟨J, hJ⟩ : ∃ J, joinS n r = J := ⟨_, rfl⟩
  rw [hJ]
  have HJ := Lib.hid hJ
  have HO := Lib.hid ho
  have HF := Lib.hid hn
  have H32 := Lib.hid h32
  have HL := Lib.hid hl
  have HB := Lib.hid hb
  obtain ⟨V0, hV0⟩ : ∃ V0 : Value, .slice A0 N0 c0 = V0 := ⟨_, rfl⟩
  have HV0 := Lib.hid hV0
  have HG0 : Hid (Grow w V0 w (.slice A0 N0 c0)) := Lib.hid (by rw [← hV0]; exact Grow.refl _ _)
  have HGOAL : Hid (∀ e w', (∃ v', e = Ending.returned v' ∧ OwnN w' base v' J.reverse ∧ Grow w V0 w' v') → (∃ v', e = Ending.returned v' ∧ OwnN w' base v' J.reverse ∧ Grow w (.slice A0 N0 c0) w' v')) := Lib.hid (fun e w' h => by rw [hV0]; exact h)
  refine Calls.mono (R := fun e w' => ∃ v', e = Ending.returned v' ∧ OwnN w' base v' J.reverse ∧ Grow w V0 w' v') ?_ HGOAL.out
  clear hN0 hJ ho hn h32 hl hb hV0 HGOAL HV0
  go_enter Tryz.func92, Tryz.ntmps92
  go_wp2
  go_loopw [0, 3, 4, 5] (fun lv kv _ _ wr => ∃ (A : Option Addr) (c N : Nat) (n : Nn) (r : List Nn), lv = .slice A N c ∧ kv = .int .i64 N ∧ Hid (joinS n r = J) ∧ Hid (netF n = 0) ∧ Hid (∀ x ∈ n :: r, is32 x.1) ∧ Hid (N = r.length + 1) ∧ Hid (r.length ≤ 100) ∧ Hid (OwnN wr base (.slice A N c) (n :: r).reverse) ∧ Hid (Grow w V0 wr (.slice A N c))) (fun _ kv _ _ _ => (intOf kv).toNat)
  case atStart => exact ⟨A0, c0, N0, n, r, rfl, rfl, HJ, HF, H32, HN0, HL, HO, HG0⟩
  case round =>
    clear HJ HF H32 HN0 HL HO HG0 n r
    obtain ⟨A, c, N, n, r, rfl, rfl, HJ, HF, H32, HN, HL, HO, HG⟩ := hrel
    have HSZ : Hid (w.heap.size ≤ wr.heap.size) := Lib.hid HG.out.size
    cases r with
    | nil =>
      obtain rfl : N = 1 := HN.out
      have HE : Hid (J = [n]) := Lib.hid (by rw [← HJ.out]; rfl)
      go_wp2
      go_ret
      exact ⟨_, rfl, by rw [HE.out]; exact HO.out, HG.out⟩
    | cons t r =>
      obtain ⟨M, hM⟩ : ∃ M, r.length = M := ⟨_, rfl⟩
      obtain ⟨P, hP⟩ : ∃ P, M + 1 = P := ⟨_, rfl⟩
      have HM := Lib.hid hM
      have HP := Lib.hid hP
      have hNM : N = M + 2 := by rw [← hM]; exact HN.out
      have hM100 : M + 1 ≤ 100 := by rw [← hM]; exact HL.out
      obtain ⟨a, l⟩ := n
      obtain ⟨x, x'⟩ := t
      have hrd := HO.out.read
      have e1 : ((a, l) :: (x, x') :: r).reverse[P]? = some (a, l) := by rw [← hP, ← hM]; simp
      have e2 : ((a, l) :: (x, x') :: r).reverse[M]? = some (x, x') := by rw [← hM]; simp
      obtain ⟨b, o, y1, rfl, hb, HX, -, c0, c1⟩ := RdSlice.atN hrd (k := P) (by omega)
      obtain ⟨b2, o2, y2, eb, _, HY, -, d0, d1⟩ := RdSlice.atN hrd (k := M) (by omega)
      simp only [Option.some.injEq, Addr.mk.injEq, and_true] at eb
      obtain ⟨rfl, rfl⟩ := eb
      have ey1 := HX.out
      rw [e1] at ey1
      simp only [Option.some.injEq] at ey1
      subst ey1
      have ey2 := HY.out
      rw [e2] at ey2
      simp only [Option.some.injEq] at ey2
      subst ey2
      have HIa : Hid (is32 a) := Lib.hid (H32.out (a, l) (by simp))
      have HIx : Hid (is32 x) := Lib.hid (H32.out (x, x') (by simp))
      have HIr : Hid (∀ y ∈ r, is32 y.1) := Lib.hid (fun y hy => H32.out y (by simp [hy]))
      have t0 : (1 : Int) < (N : Int) := by omega
      have t0' : 1 < N := by omega
      have q1 : IntKind.i64.wrap ((N : Int) - 1) = (P : Int) := by rw [show (N : Int) - 1 = (P : Int) from by omega]; exact IntWalk.i64_in _ ⟨by omega, by omega⟩
      have q2 : IntKind.i64.wrap ((N : Int) - 2) = (M : Int) := by rw [show (N : Int) - 2 = (M : Int) from by omega]; exact IntWalk.i64_in _ ⟨by omega, by omega⟩
      have i0 : (0 : Int) ≤ (P : Int) := by omega
      have i1 : (P : Int) < (N : Int) := by omega
      have i2 : (0 : Int) ≤ (M : Int) := by omega
      have i3 : (M : Int) < (N : Int) := by omega
      have HNM := Lib.hid hNM
      have HM100 := Lib.hid hM100
      have hcN : N ≤ c := (RdSlice.len hrd).2.1
      have hMc : (M : Int) ≤ (c : Int) := by omega
      clear HX HY e1 e2 hrd hP hM hNM hM100 HN HL
      by_cases hl0 : l = 0
      · subst hl0
        have HE : Hid (J = (a, 0) :: (x, x') :: r) := Lib.hid (by rw [← HJ.out, joinS_stop (by simp [sibB])])
        go_wp2_with fail
        (with_reducible refine (Up_top _ HIa.out HF.out).mono ?_)
        rintro e w1 ⟨rfl, hb1⟩
        have HB1 := Lib.hid (hb1.trans ((below_a1 w1 (.cells #[.int .u32 0, .int .i64 0] 47)).mono hb1.size))
        clear hb1
        go_upto_region 5 with (fail)
        generalize w1.alloc (.cells #[.int .u32 0, .int .i64 0] 47) = w2 at *
        refine wp_region_quiet_below (by kernel_rfl) (by kernel_rfl) ?_
        repeat (go_big_quiet_step (fail))
        refine wpQuiet_nil ?_
        intro w6 hw'
        obtain ⟨⟨dq, osq⟩, hw''⟩ := hw'
        have HB6 := Lib.hid (HB1.out.trans ((show Below w2.heap.size w2 w6 by rw [hw'']; exact below_regrown w2 dq osq).mono HB1.out.size))
        clear hw''
        go_wp2
        go_ret
        exact ⟨_, rfl, by rw [HE.out]; exact HO.out.below HB6.out, HG.out.trans (Grow.of_below HB6.out _)⟩
      · obtain ⟨k, hk, ek, eu, hu, hor, hs, hs2⟩ := up_ok HF.out hl0
        simp only at ek
        have HLK := Lib.hid ek
        have HU := Lib.hid eu
        have HIu : Hid (is32 (fl (lowI k) a)) := Lib.hid (fl_32 (lowI_pos k) HIa.out)
        have HVu : Hid (netF (fl (lowI k) a, (k : Int)) = 0) := Lib.hid (by rw [← eu]; exact hu)
        have HK32 := Lib.hid hk
        clear eu hu hor hs hs2 hl0 ek
        go_wp2_with fail
        (with_reducible refine (Up_okl _ HIa.out HK32.out HLK.out HF.out).mono ?_)
        rintro e w1 ⟨rfl, hb1⟩
        have hx := heap_alloc_new w1 (.cells #[.int .u32 (fl (lowI k) a), .int .i64 (k : Int)] 47)
        have hb2 := hb1.trans ((below_a1 w1 (.cells #[.int .u32 (fl (lowI k) a), .int .i64 (k : Int)] 47)).mono hb1.size)
        obtain ⟨Bx, hBx⟩ : ∃ Bx, w1.heap.size = Bx := ⟨_, rfl⟩
        have HBX : Hid (wr.heap.size ≤ Bx) := Lib.hid (by rw [← hBx]; exact hb1.size)
        have HB1 := Lib.hid hb2
        have f0 := (hb2.cell (p := ⟨b, o + P * 2 + 1, none⟩) hb).trans c1
        have f1 := (hb2.cell (p := ⟨b, o + M * 2, none⟩) hb).trans d0
        have f2 := (hb2.cell (p := ⟨b, o + M * 2 + 1, none⟩) hb).trans d1
        clear hb1 hb2 c0 c1 d0 d1
        go_upto_region 5 with (fail)
        try rw [hBx] at hx
        clear hBx
        generalize w1.alloc (.cells #[.int .u32 (fl (lowI k) a), .int .i64 (k : Int)] 47) = w2 at *
        obtain ⟨u0, u1, _, _⟩ := row2 hx
        have HXB := Lib.hid hx
        have j0 := fun d os => cell_regrown f0 d os
        have j1 := fun d os => cell_regrown f1 d os
        have j2 := fun d os => cell_regrown f2 d os
        have j3 := fun d os => cell_regrown u0 d os
        have j4 := fun d os => cell_regrown u1 d os
        clear hx u0 u1 f0 f1 f2
        obtain ⟨s, hs⟩ : ∃ s, inB (x, x') (fl (lowI k) a, (k : Int)) = s := ⟨_, rfl⟩
        have HR := Lib.hid hs
        clear hs
        by_cases hx1 : x' = l
        · have hx9 := hx1.symm
          subst hx9
          clear hx1
          cases s with
          | false =>
            have HE : Hid (J = (a, l) :: (x, l) :: r) := Lib.hid (by rw [← HJ.out, joinS_stop (by unfold sibB; rw [HU.out, HR.out]; simp)])
            refine wp_region_quiet_below (by kernel_rfl) (by kernel_rfl) ?_
            repeat (go_big_quiet_step (first | (with_reducible exact inN_c HIx.out HIu.out HR.out _ _) | fail))
            refine wpQuiet_nil ?_
            intro w6 hw'
            obtain ⟨⟨dq, osq⟩, hw''⟩ := hw'
            have hb6 := (show Below w2.heap.size w2 w6 by rw [hw'']; exact below_regrown w2 dq osq)
            have HB6 := Lib.hid (HB1.out.trans (hb6.mono HB1.out.size))
            clear hw'' hb6 j0 j1 j2 j3 j4
            go_wp2
            go_ret
            exact ⟨_, rfl, by rw [HE.out]; exact HO.out.below HB6.out, HG.out.trans (Grow.of_below HB6.out _)⟩
          | true =>
            have HE : Hid (joinS (fl (lowI k) a, (k : Int)) r = J) := Lib.hid (by rw [← HU.out, ← HJ.out, joinS_go (by unfold sibB; rw [HU.out, HR.out]; have := HLK.out; simp; omega)])
            refine wp_region_quiet_below (by kernel_rfl) (by kernel_rfl) ?_
            repeat (go_big_quiet_step (first | (with_reducible exact inN_c HIx.out HIu.out HR.out _ _) | fail))
            refine wpQuiet_nil ?_
            intro w6 hw'
            obtain ⟨⟨dq, osq⟩, hw''⟩ := hw'
            have hb6 := (show Below w2.heap.size w2 w6 by rw [hw'']; exact below_regrown w2 dq osq)
            have HB6 := Lib.hid (HB1.out.trans (hb6.mono HB1.out.size))
            have hx6 := below_block hb6 (size_of_block HXB.out) HXB.out
            have HX6 := Lib.hid hx6
            obtain ⟨z0, z1, _, _⟩ := row2 hx6
            have hpre : OwnN w6 base (.slice (some ⟨b, o, none⟩) M c) r.reverse := by
              have h := HO.out.below HB6.out
              have e : ((a, l) :: (x, l) :: r).reverse = r.reverse ++ [(x, l), (a, l)] := by simp
              rw [e] at h
              have := h.pre (by simp)
              rwa [List.length_reverse, HM.out] at this
            have HPRE := Lib.hid hpre
            have HGR : Hid (Grow w V0 w6 (.slice (some ⟨b, o, none⟩) M c)) := Lib.hid (by
              have := HG.out.trans (Grow.of_below HB6.out _)
              exact ⟨this.1, this.2⟩)
            have hBb : ¬ Bx = b := by have := HBX.out; omega
            have hB6z : Bx < w6.heap.size := size_of_block hx6
            have hBb6 : b < w6.heap.size := by have := HB6.out.size; omega
            clear hw'' hb6 j0 j1 j2 j3 j4 hx6 hpre
            go_upto_region 6 with (fail)
            refine wp_region_noPanic ?_
            refine wp_region_held_drew (S := (fun w' => w'.cell? ⟨Bx, 0, none⟩ = some (.int .u32 (fl (lowI k) a)) ∧ w'.cell? ⟨Bx, 1, none⟩ = some (.int .i64 (k : Int)))) (by kernel_rfl) (by go_keep) (fun hHeld => ?_)
            refine' wpAnyH_take (i := 0) ?hia0 ?hsa0 ?hfa0 ?hra0 ?hQa0 ?hya0 ?hSa0 ?ha0
            case hia0 => (simp only [List.getElem?_toArray, List.getElem?_cons_succ, List.getElem?_cons_zero]; exact rfl)
            case hsa0 => kernel_rfl
            case hfa0 => kernel_rfl
            case hra0 => kernel_rfl
            case hQa0 => exact fun _ _ _ h => h
            case hya0 => (first | (refine Or.inr ⟨by rfl, ?_⟩; rfl) | (refine Or.inl ⟨by rfl, ?_⟩; (intro w hSw; (try dsimp only at hSw); go_simp); try with_reducible rfl))
            case hSa0 => assumption
            try simp only [Act.put, List.setIfInBounds_toArray, List.set_cons_zero, List.set_cons_succ]
            refine' wpAnyH_take (i := 1) ?hia1 ?hsa1 ?hfa1 ?hra1 ?hQa1 ?hya1 ?hSa1 ?ha1
            case hia1 => (simp only [List.getElem?_toArray, List.getElem?_cons_succ, List.getElem?_cons_zero]; exact rfl)
            case hsa1 => kernel_rfl
            case hfa1 => kernel_rfl
            case hra1 => kernel_rfl
            case hQa1 => exact fun _ _ _ h => h
            case hya1 => (first | (refine Or.inr ⟨by rfl, ?_⟩; rfl) | (refine Or.inl ⟨by rfl, ?_⟩; (intro w hSw; (try dsimp only at hSw); go_simp); try with_reducible rfl))
            case hSa1 => assumption
            try simp only [Act.put, List.setIfInBounds_toArray, List.set_cons_zero, List.set_cons_succ]
            refine' wpAnyH_take (i := 2) ?hia2 ?hsa2 ?hfa2 ?hra2 ?hQa2 ?hya2 ?hSa2 ?ha2
            case hia2 => (simp only [List.getElem?_toArray, List.getElem?_cons_succ, List.getElem?_cons_zero]; exact rfl)
            case hsa2 => kernel_rfl
            case hfa2 => kernel_rfl
            case hra2 => kernel_rfl
            case hQa2 => exact fun _ _ _ h => h
            case hya2 => (first | (refine Or.inr ⟨by rfl, ?_⟩; rfl) | (refine Or.inl ⟨by rfl, ?_⟩; (intro w hSw; (try dsimp only at hSw); go_simp); try with_reducible rfl))
            case hSa2 => assumption
            try simp only [Act.put, List.setIfInBounds_toArray, List.set_cons_zero, List.set_cons_succ]
            refine' wpAnyH_take (i := 3) ?hia3 ?hsa3 ?hfa3 ?hra3 ?hQa3 ?hya3 ?hSa3 ?ha3
            case hia3 => (simp only [List.getElem?_toArray, List.getElem?_cons_succ, List.getElem?_cons_zero]; exact rfl)
            case hsa3 => kernel_rfl
            case hfa3 => kernel_rfl
            case hra3 => kernel_rfl
            case hQa3 => exact fun _ _ _ h => h
            case hya3 => (first | (refine Or.inr ⟨by rfl, ?_⟩; rfl) | (refine Or.inl ⟨by rfl, ?_⟩; (intro w hSw; (try dsimp only at hSw); go_simp); try with_reducible rfl))
            case hSa3 => assumption
            try simp only [Act.put, List.setIfInBounds_toArray, List.set_cons_zero, List.set_cons_succ]
            refine' wpAnyH_take (i := 4) ?hia4 ?hsa4 ?hfa4 ?hra4 ?hQa4 ?hya4 ?hSa4 ?ha4
            case hia4 => (simp only [List.getElem?_toArray, List.getElem?_cons_succ, List.getElem?_cons_zero]; exact rfl)
            case hsa4 => kernel_rfl
            case hfa4 => kernel_rfl
            case hra4 => kernel_rfl
            case hQa4 => exact fun _ _ _ h => h
            case hya4 => (first | (refine Or.inr ⟨by rfl, ?_⟩; rfl) | (refine Or.inl ⟨by rfl, ?_⟩; (intro w hSw; (try dsimp only at hSw); go_simp); try with_reducible rfl))
            case hSa4 => assumption
            try simp only [Act.put, List.setIfInBounds_toArray, List.set_cons_zero, List.set_cons_succ]
            refine wpAnyH_ready (rs := [5]) (by kernel_rfl) (by simp) ?_
            refine' AllReadyH.cons ?hia5 (fun K hK => ?ha5) AllReadyH.nil
            case hia5 => (simp only [List.getElem?_toArray, List.getElem?_cons_succ, List.getElem?_cons_zero]; exact rfl)
            go_simp
            refine hK.out _ _ (by go_keep) (fun hHeld => ?_)
            clear hK K
            have HPR7 := Lib.hid ((show OwnN w6.drew base (.slice (some ⟨b, o, none⟩) M c) r.reverse from HPRE.out).below (below_a1 w6.drew (.cells #[.int .u32 (fl (lowI k) a), .int .i64 (k : Int)] 47)))
            have hbw7 : Below w6.heap.size w6 (w6.drew.alloc (.cells #[.int .u32 (fl (lowI k) a), .int .i64 (k : Int)] 47)) := (below_drewN (Below.refl w6.heap.size w6) 1).trans (below_a1 w6.drew _)
            have hnew7 := heap_alloc_new w6.drew (.cells #[.int .u32 (fl (lowI k) a), .int .i64 (k : Int)] 47)
            have HWF : Hid (wfN (fl (lowI k) a, (k : Int))) := Lib.hid ⟨WalkArith.wf_u32 HIu.out, WalkArith.wf_i64 (by have := HK32.out; omega)⟩
            refine wpAnyH_ready (rs := [6]) (by kernel_rfl) (by simp) ?_
            refine' AllReadyH.cons ?hia6 (fun K hK => ?ha6) AllReadyH.nil
            case hia6 => (simp only [List.getElem?_toArray, List.getElem?_cons_succ, List.getElem?_cons_zero]; exact rfl)
            (refine step_append_net rfl (.tmp 51) (.tmp 53) 26 Tryz.underlying26 rfl base _ r.reverse rfl HPR7.out w6.heap.size (fl (lowI k) a, (k : Int)) 47 rfl hnew7 HWF.out (by rw [List.length_reverse, HM.out]; have := HM100.out; omega) (by have := HB.out; have := HSZ.out; have := HB6.out.size; simp; omega) ?_)
            intro v8 w8 hown8 hgrow8
            have r0 := (hgrow8.cell (p := ⟨Bx, 0, none⟩) (B := 0) HPR7.out.1 (by simp; omega) (fun g e => by cases e; simp only; omega)).trans hHeld.1
            have r1 := (hgrow8.cell (p := ⟨Bx, 1, none⟩) (B := 0) HPR7.out.1 (by simp; omega) (fun g e => by cases e; simp only; omega)).trans hHeld.2
            have HO8 := Lib.hid hown8
            have HG8 := Lib.hid hgrow8
            clear hown8 hgrow8
            refine hK.out _ _ (by go_keep) (fun hHeld => ?_)
            clear hK K
            refine' wpAnyH_take (i := 7) ?hia7 ?hsa7 ?hfa7 ?hra7 ?hQa7 ?hya7 ?hSa7 ?ha7
            case hia7 => (simp only [List.getElem?_toArray, List.getElem?_cons_succ, List.getElem?_cons_zero]; exact rfl)
            case hsa7 => kernel_rfl
            case hfa7 => kernel_rfl
            case hra7 => kernel_rfl
            case hQa7 => exact fun _ _ _ h => h
            case hya7 => (first | (refine Or.inr ⟨by rfl, ?_⟩; rfl) | (refine Or.inl ⟨by rfl, ?_⟩; (intro w hSw; (try dsimp only at hSw); go_simp); try with_reducible rfl))
            case hSa7 => assumption
            try simp only [Act.put, List.setIfInBounds_toArray, List.set_cons_zero, List.set_cons_succ]
            refine wpAnyH_done (by kernel_rfl) ?_ _
            refine NoPanic.normal ?_
            clear hHeld r0 r1
            have hGR8 : Grow w V0 w8 v8 := HGR.out.trans ((Grow.of_below hbw7 _).trans HG8.out)
            obtain ⟨A8, c8, e8⟩ := HO8.out.form
            have eP : (r.reverse ++ [(fl (lowI k) a, (k : Int))]).length = P := by rw [List.length_append, List.length_reverse, HM.out, ← HP.out]; rfl
            rw [eP] at e8
            subst e8
            have HGR8 := Lib.hid hGR8
            have HO9 : Hid (OwnN w8 base (.slice A8 P c8) ((fl (lowI k) a, (k : Int)) :: r).reverse) := Lib.hid (by rw [List.reverse_cons]; exact HO8.out)
            have HPP : Hid (P = r.length + 1) := Lib.hid (by rw [HM.out, HP.out])
            have HRL : Hid (r.length ≤ 100) := Lib.hid (by rw [HM.out]; have := HM100.out; omega)
            have HI9 : Hid (∀ y ∈ (fl (lowI k) a, (k : Int)) :: r, is32 y.1) := Lib.hid (fun y hy => by
              rcases List.mem_cons.1 hy with rfl | hy
              · exact HIu.out
              · exact HIr.out y hy)
            clear hbw7 hnew7 hGR8 eP z0 z1 hBb hB6z hBb6
            go_wp2
            go_roundw
            case rel => exact ⟨A8, c8, P, _, r, rfl, rfl, HE, HVu, HI9, HPP, HRL, HO9, HGR8⟩
            case measure => simp [intOf]; omega
        · have hx3 : (x' != l) = true := by simpa using hx1
          have HE : Hid (J = (a, l) :: (x, x') :: r) := Lib.hid (by rw [← HJ.out, joinS_stop (by unfold sibB; rw [decide_eq_false (show ¬ ((x, x') : Nn).2 = ((a, l) : Nn).2 from hx1)]; simp)])
          clear hx1
          refine wp_region_quiet_below (by kernel_rfl) (by kernel_rfl) ?_
          repeat (go_big_quiet_step (first | (with_reducible exact inN_c HIx.out HIu.out HR.out _ _) | fail))
          refine wpQuiet_nil ?_
          intro w6 hw'
          obtain ⟨⟨dq, osq⟩, hw''⟩ := hw'
          have hb6 := (show Below w2.heap.size w2 w6 by rw [hw'']; exact below_regrown w2 dq osq)
          have HB6 := Lib.hid (HB1.out.trans (hb6.mono HB1.out.size))
          clear hw'' hb6 j0 j1 j2 j3 j4
          go_wp2
          go_ret
          exact ⟨_, rfl, by rw [HE.out]; exact HO.out.below HB6.out, HG.out.trans (Grow.of_below HB6.out _)⟩
end Go.Proofs.YtgdlkjahlajcpaaGreatDoor
namespace Go.Proofs.YtgdlkjahlajcpaaGreatDoor
open Go.ChangeShapes Go.WideShapes Go.ChangeAt Go.RowKit
set_option linter.unusedVariables false
set_option linter.unusedSimpArgs false
def faultL : List Nn → Int
  | [] => 0
  | x :: r => if netF x = 0 then faultL r else netF x
def covF (l : List Nn) : Int := if faultL l = 0 then (if 64 < l.length then 4 else 0) else faultL l
theorem faultL_zero : ∀ {l : List Nn}, faultL l = 0 ↔ ∀ x ∈ l, netF x = 0
  | [] => by simp [faultL]
  | x :: r => by
    unfold faultL
    by_cases h : netF x = 0
    · rw [if_pos h, faultL_zero]; simp [h]
    · rw [if_neg h]; simp [h]
theorem covF_zero {l : List Nn} : covF l = 0 ↔ (∀ x ∈ l, netF x = 0) ∧ l.length ≤ 64 := by
  unfold covF
  by_cases h : faultL l = 0
  · rw [if_pos h]
    have := faultL_zero.1 h
    by_cases h2 : 64 < l.length
    · rw [if_pos h2]; simp; omega
    · rw [if_neg h2]; simp only [true_iff]; exact ⟨this, by omega⟩
  · rw [if_neg h]
    exact ⟨fun e => absurd e h, fun e => absurd (faultL_zero.2 e.1) h⟩
theorem joinS_len : ∀ (r : List Nn) (n : Nn), (joinS n r).length ≤ r.length + 1
  | [], n => by simp [joinS]
  | t :: r, n => by
    unfold joinS
    cases sibB t n
    · simp
    · have := joinS_len r (upN n); simp; omega
theorem OwnN.mono {w : World} {base b' : Nat} {v : Value} {xs : List (Int × Int)} (h : OwnN w base v xs) (hb : b' ≤ base) : OwnN w b' v xs := by
  refine ⟨⟨h.1.1, ?_⟩, h.2⟩
  rcases h.1.2 with h2 | ⟨g, cap, cur, e, hg, h3⟩
  · exact .inl h2
  · exact .inr ⟨g, cap, cur, e, Nat.le_trans hb hg, h3⟩
def CovPost (w : World) (l : List Nn) (e : Ending) (w' : World) : Prop := ∃ v, e = .returned (.tuple #[v, errV (covF l)]) ∧ (covF l ≠ 0 → v = .slice none 0 0) ∧ (covF l = 0 → OwnN w' w.heap.size v (coverV l)) ∧ Below w.heap.size w w'
theorem CovPost.bad {w w' : World} {l : List Nn} {E : Int} (hE : covF l = E) (h0 : E ≠ 0) (hb : Below w.heap.size w w') : CovPost w l (.returned (.tuple #[.slice none 0 0, .iface 35 (.int .i64 E)])) w' :=
  ⟨_, by rw [hE, errV_ne h0], fun _ => rfl, fun h => absurd (hE.symm.trans h) h0, hb⟩
theorem CovPost.good {w w' : World} {l : List Nn} {v : Value} (hE : covF l = 0) (ho : OwnN w' w.heap.size v (coverV l)) (hb : Below w.heap.size w w') : CovPost w l (.returned (.tuple #[v, .nilIface])) w' :=
  ⟨_, by rw [hE]; rfl, fun h => absurd hE h, fun _ => ho, hb⟩
set_option maxRecDepth 100000 in
set_option maxHeartbeats 8000000 in
theorem Cover_any {w : World} {A : Option Addr} {n c : Nat} {l : List Nn} (hr : R1 rdNets w (.slice A n c) l) :
    Calls Tryz.prog 64 #[.slice A n c] w (CovPost w l) := by
  obtain ⟨hn, hnc, hcm⟩ := RdSlice.len hr
  have hnm : n ≤ 9223372036854775807 := by unfold maxLen at hcm; omega
  have HR := Lib.hid hr
  have HN := Lib.hid hn
  obtain ⟨PP, hPP⟩ : ∃ PP, CovPost w l = PP := ⟨_, rfl⟩
  have HPP := Lib.hid hPP
  rw [hPP]
  have HF0 : Hid (faultL l = faultL l) := Lib.hid rfl
  clear hr hcm hnc hn hPP
  go_enter Tryz.func64, Tryz.ntmps64
  go_wp2
  go_loopw [5, 6, 13] (fun _ _ iv wr => ∃ k : Nat, k ≤ n ∧ iv = .int .i64 k ∧ Hid (faultL (l.drop k) = faultL l) ∧ Below w.heap.size w wr) (fun _ _ iv _ => n - (intOf iv).toNat)
  case atStart => exact ⟨0, Nat.zero_le _, rfl, Lib.hid rfl, Below.refl _ _⟩
  case round =>
    clear HF0
    obtain ⟨k, hk, rfl, HK, hbr⟩ := hrel
    have HB := Lib.hid hbr
    have s1 := hbr.size
    by_cases hlt : k < n
    · obtain ⟨b, o, ⟨x, x'⟩, rfl, hb, HX, ⟨wx, wy⟩, c0, c1⟩ := RdSlice.atN HR.out hlt
      have d0 := (hbr.cell (p := ⟨b, o + k * 2, none⟩) hb).trans c0
      have d1 := (hbr.cell (p := ⟨b, o + k * 2 + 1, none⟩) hb).trans c1
      have i0 : (0 : Int) ≤ (k : Int) := by omega
      have i1 : (k : Int) < (n : Int) := by omega
      obtain ⟨hx0, hx1⟩ := bounds_u32 wx
      have HD : Hid (l.drop k = (x, x') :: l.drop (k + 1)) := Lib.hid (by
        have h := HX.out
        obtain ⟨hk', e⟩ := List.getElem?_eq_some_iff.1 h
        rw [List.drop_eq_getElem_cons hk', e])
      clear c0 c1 wx wy hbr
      by_cases hF : netF (x, x') = 0
      · have HF := Lib.hid hF
        have HK2 : Hid (faultL (l.drop (k + 1)) = faultL l) := Lib.hid (by rw [← HK.out, HD.out, faultL, if_pos hF])
        clear hF
        go_wp2_with fail
        (with_reducible refine (Check_ok _ hx0 hx1 HF.out).mono ?_)
        rintro e w2 ⟨rfl, hb2⟩
        have HB2 := Lib.hid ((HB.out.trans ((below_a1 wr _).mono s1)).trans (hb2.mono (by simp; omega)))
        clear hb2
        go_wp2
        go_roundw
        case rel => exact ⟨k + 1, by omega, by go_num, HK2, HB2.out⟩
        case measure => simp [intOf]; omega
      · have HF := Lib.hid hF
        obtain ⟨E, hE⟩ : ∃ E, netF (x, x') = E := ⟨_, rfl⟩
        have HE0 : Hid (E ≠ 0) := Lib.hid (by rw [← hE]; exact hF)
        have HCE : Hid (covF l = E) := Lib.hid (by
          have h : faultL l = E := by rw [← HK.out, HD.out, faultL, if_neg hF, hE]
          unfold covF
          rw [h, if_neg HE0.out])
        have HEE := Lib.hid hE
        clear hF hE
        go_wp2_with fail
        (with_reducible refine (Check_bad _ hx0 hx1 HF.out).mono ?_)
        rw [HEE.out]
        rintro e w2 ⟨rfl, hb2⟩
        have HB2 := Lib.hid ((HB.out.trans ((below_a1 wr _).mono s1)).trans (hb2.mono (by simp; omega)))
        clear hb2
        go_wp2
        rw [← HPP.out]
        exact CovPost.bad HCE.out HE0.out HB2.out
    · have HF : Hid (faultL l = 0) := Lib.hid (by rw [← HK.out, List.drop_eq_nil_of_le (by rw [← HN.out]; omega)]; rfl)
      clear hbr
      by_cases h64 : 64 < n
      · have t1 : (64 : Int) < (n : Int) := by omega
        have HCE : Hid (covF l = 4) := Lib.hid (by unfold covF; rw [if_pos HF.out, if_pos (by rw [← HN.out]; exact h64)])
        go_wp2
        rw [← HPP.out]
        exact CovPost.bad HCE.out (by decide) HB.out
      · have t1 : ¬ (64 : Int) < (n : Int) := by omega
        have HCE : Hid (covF l = 0) := Lib.hid (by unfold covF; rw [if_pos HF.out, if_neg (by rw [← HN.out]; exact h64)])
        have HV := Lib.hid (covF_zero.1 HCE.out)
        have HRr := Lib.hid (HR.out.below HB.out)
        have hl64 : l.length ≤ 64 := HV.out.2
        have HL64 := Lib.hid hl64
        have HI32 : Hid (∀ x ∈ l, is32 x.1) := Lib.hid (fun x hx => bounds_u32 (wf_of_rd HR.out x hx).1)
        clear hl64
        go_wp2_with fail
        (with_reducible refine (Values_any _ _ _ _).mono ?_)
        rintro e w1 ⟨rfl, hw1⟩
        have HBX := Lib.hid (heap_alloc_new wr (.cells #[.slice A n c] 26))
        rw [← hw1] at HBX
        have hb1 : Below wr.heap.size wr w1 := by rw [hw1]; exact below_a1 wr _
        have hz1 : wr.heap.size < w1.heap.size := by rw [hw1]; simp
        have HR1 := Lib.hid (HRr.out.below hb1)
        have HB1 := Lib.hid (HB.out.trans (hb1.mono s1))
        have HC1 : Hid (w1.cell? ⟨wr.heap.size, 0, none⟩ = some (.slice A n c)) := Lib.hid (by rw [cell_of_row _ _ _ _ _ (0, 0) HBX.out]; rfl)
        clear hw1 hb1 HBX
        go_wp2_with fail
        (with_reducible refine (SortedFunc_any (by have := HL64.out; omega) hz1 HC1.out HR1.out).mono ?_)
        rintro e w5 ⟨v5, rfl, ho5, hb5⟩
        obtain ⟨s, hs⟩ : ∃ s, sortN l = s := ⟨_, rfl⟩
        have HS5 : Hid ((∀ x ∈ s, netF x = 0) ∧ (∀ x ∈ s, is32 x.1) ∧ s.length ≤ 64) := Lib.hid (by
          have hp := sortN_perm l
          rw [hs] at hp
          exact ⟨fun x hx => HV.out.1 x (hp.mem_iff.1 hx), fun x hx => HI32.out x (hp.mem_iff.1 hx), by rw [hp.length_eq]; exact HL64.out⟩)
        have HCV : Hid (coverV l = (s.foldl stepS []).reverse) := Lib.hid (by unfold coverV covS; rw [hs])
        rw [hs] at ho5
        obtain ⟨A5, c5, rfl⟩ := ho5.form
        obtain ⟨N, hN5⟩ : ∃ N, s.length = N := ⟨_, rfl⟩
        rw [hN5] at ho5 ⊢
        have HN5 := Lib.hid hN5
        have HR5 := Lib.hid (show rdNets w5 (· < w5.heap.size) [.slice A5 N c5] s from ho5.read)
        have HB5 := Lib.hid (HB1.out.trans (hb5.mono HB1.out.size))
        have hN64 : N ≤ 64 := by rw [← hN5]; exact HS5.out.2.2
        obtain ⟨C, hC⟩ : ∃ C, s.foldl stepS [] = C := ⟨_, rfl⟩
        have HC := Lib.hid hC
        rw [hC] at HCV
        clear ho5 hb5 hs hN5 hC hz1 t1 h64 HR1 HC1
        go_wp2
        go_loopw [7, 9, 10, 31] (fun vv _ _ iv wt => ∃ (k : Nat) (A : Option Addr) (L c : Nat) (st : List Nn), k ≤ N ∧ vv = .slice A L c ∧ iv = .int .i64 k ∧ Hid ((s.drop k).foldl stepS st = C) ∧ Hid (st.length = L ∧ L ≤ k) ∧ Hid (∀ x ∈ st, is32 x.1) ∧ Hid (OwnN wt w5.heap.size (.slice A L c) st.reverse) ∧ Below w5.heap.size w5 wt) (fun _ _ _ iv _ => N - (intOf iv).toNat)
        case atStart => exact ⟨0, none, 0, 0, [], Nat.zero_le _, rfl, rfl, Lib.hid HC.out, Lib.hid ⟨rfl, Nat.le_refl _⟩, Lib.hid (fun _ h => by cases h), Lib.hid (OwnN.nil_ _ _), Below.refl _ _⟩
        case round =>
          clear HC
          obtain ⟨k, A7, L, c7, st, hk, rfl, rfl, HK, HL, H32, HO, hbt⟩ := hrel
          have HBT := Lib.hid hbt
          have s2 := hbt.size
          have hL64 : L ≤ k := HL.out.2
          by_cases hlt : k < N
          · obtain ⟨b, o, ⟨x, x'⟩, rfl, hb, HX, hwf, c0, c1⟩ := RdSlice.atN HR5.out hlt
            have d0 := (hbt.cell (p := ⟨b, o + k * 2, none⟩) hb).trans c0
            have d1 := (hbt.cell (p := ⟨b, o + k * 2 + 1, none⟩) hb).trans c1
            have i0 : (0 : Int) ≤ (k : Int) := by omega
            have i1 : (k : Int) < (N : Int) := by omega
            have HWF := Lib.hid hwf
            have HIx : Hid (is32 x) := Lib.hid (bounds_u32 hwf.1)
            have HFx : Hid (netF (x, x') = 0) := Lib.hid (HS5.out.1 _ (List.mem_of_getElem? HX.out))
            have HK2 : Hid ((s.drop (k + 1)).foldl stepS (stepS st (x, x')) = C) := Lib.hid (by
              have h := HX.out
              obtain ⟨hk', e⟩ := List.getElem?_eq_some_iff.1 h
              rw [← HK.out, List.drop_eq_getElem_cons hk', e]; rfl)
            have H32s : Hid (∀ y ∈ stepS st (x, x'), is32 y.1) := Lib.hid (step_mem32 HIx.out H32.out)
            have H32c : Hid (∀ y ∈ (x, x') :: st, is32 y.1) := Lib.hid (fun y hy => by
              rcases List.mem_cons.1 hy with rfl | hy
              · exact HIx.out
              · exact H32.out y hy)
            have hlen : st.reverse.length ≤ 8796093022000 := by rw [List.length_reverse, HL.out.1]; omega
            have HL100 : Hid (st.length ≤ 100) := Lib.hid (by rw [HL.out.1]; omega)
            have HO2 := Lib.hid (HO.out.alloc (.cells #[.int .u32 x, .int .i64 x'] 47))
            have hX2 := heap_alloc_new wr (.cells #[.int .u32 x, .int .i64 x'] 47)
            obtain ⟨Bx, hBx⟩ : ∃ Bx, wr.heap.size = Bx := ⟨_, rfl⟩
            have HBx : Hid (wr.heap.size = Bx) := Lib.hid hBx
            have HB2 := Lib.hid (HBT.out.trans ((below_a1 wr (.cells #[.int .u32 x, .int .i64 x'] 47)).mono s2))
            have hz2 : Bx < (wr.alloc (.cells #[.int .u32 x, .int .i64 x'] 47)).heap.size := by rw [← hBx]; simp
            have hz5 : w5.heap.size ≤ (wr.alloc (.cells #[.int .u32 x, .int .i64 x'] 47)).heap.size := by simp; omega
            clear c0 c1 hwf hbt
            go_upto_region 15 with (fail)
            try rw [hBx] at hX2
            clear hBx d0 d1
            generalize wr.alloc (.cells #[.int .u32 x, .int .i64 x'] 47) = w2 at *
            obtain ⟨u0, u1, _, _⟩ := row2 hX2
            have j0 := fun d os => cell_regrown u0 d os
            have j1 := fun d os => cell_regrown u1 d os
            have HX2 := Lib.hid hX2
            clear u0 u1 hX2
            cases st with
            | nil =>
              obtain rfl : L = 0 := HL.out.1.symm
              have HST : Hid (stepS [] (x, x') = joinS (x, x') []) := Lib.hid rfl
              refine wp_region_quiet_below (by kernel_rfl) (by kernel_rfl) ?_
              repeat (go_big_quiet_step (first | (with_reducible exact inN_c HIx.out HIx.out rfl _ _) | fail))
              refine wpQuiet_nil ?_
              intro w6 hw'
              obtain ⟨⟨dq, osq⟩, hw''⟩ := hw'
              have hb6 := (show Below w2.heap.size w2 w6 by rw [hw'']; exact below_regrown w2 dq osq)
              have HB6 := Lib.hid (HB2.out.trans (hb6.mono hz5))
              have HO6 := Lib.hid (HO2.out.below hb6)
              have HX6 := Lib.hid (below_block hb6 hz2 HX2.out)
              obtain ⟨z0, z1, _, _⟩ := row2 HX6.out
              have hz6 : w5.heap.size ≤ w6.heap.size := HB6.out.size
              clear hw'' hb6 j0 j1 
              go_wp2_with (first
                | (at_builtin; go_loud (refine wpList_append_net rfl _ _ 26 Tryz.underlying26 rfl w5.heap.size _ _ rfl (HO6.out.alloc _) w6.heap.size (x, x') 47 rfl (heap_alloc_new w6 _) HWF.out hlen (by simp; omega) ?_); intro v8 w8 hown8 hgrow8; have HB8 := Lib.hid (hgrow8.below (HB6.out.trans ((below_a1 w6 _).mono hz6)) (HO6.out.alloc _).1 (Nat.le_refl _) (by simp; omega)); rw [← List.reverse_cons] at hown8; have HO8 := Lib.hid hown8; have HJ := Lib.hid (Joined_any hown8 HFx.out H32c.out HL100.out HB8.out.size); obtain ⟨A8, c8, rfl⟩ := hown8.form; obtain ⟨L8, hL8⟩ : ∃ L8, ((x, x') :: []).reverse.length = L8 := ⟨_, rfl⟩; rw [hL8] at HO8 HJ ⊢; clear hown8 hgrow8 hL8)
                | fail)
              go_at_call 92
              (with_reducible refine HJ.out.mono ?_)
              rintro e w9 ⟨v9, rfl, ho9, hg9⟩
              rw [← HST.out] at ho9
              have HB9 := Lib.hid (hg9.below HB8.out HO8.out.1 (Nat.le_refl _) HB8.out.size)
              obtain ⟨A9, c9, rfl⟩ := ho9.form
              obtain ⟨L9, hL9⟩ : ∃ L9, (stepS [] (x, x')).reverse.length = L9 := ⟨_, rfl⟩
              rw [hL9] at ho9 ⊢
              have HO9 := Lib.hid ho9
              have HL9 : Hid ((stepS [] (x, x')).length = L9 ∧ L9 ≤ k + 1) := Lib.hid (by
                rw [List.length_reverse] at hL9
                have h1 := joinS_len [] (x, x')
                rw [← HST.out, hL9] at h1
                have h2 := HL.out
                exact ⟨hL9, by omega⟩)
              clear ho9 hg9 hL9 hz6 z0 z1
              go_wp2
              go_roundw
              case rel => exact ⟨k + 1, A9, L9, c9, _, by omega, rfl, by go_num, HK2, HL9, H32s, HO9, HB9.out⟩
              case measure => simp [intOf]; omega
            | cons t r =>
              obtain ⟨y, y'⟩ := t
              obtain ⟨M, hM⟩ : ∃ M, r.length = M := ⟨_, rfl⟩
              have hLM : L = M + 1 := by rw [← hM]; exact HL.out.1.symm
              have HM := Lib.hid hM
              have hrd := HO2.out.read
              have e1 : ((y, y') :: r).reverse[M]? = some (y, y') := by rw [← hM]; simp
              obtain ⟨b2, o2, y1, rfl, hb2, HY, -, f0, f1⟩ := RdSlice.atN hrd (k := M) (by omega)
              have ey := HY.out
              rw [e1] at ey
              simp only [Option.some.injEq] at ey
              subst ey
              have j2 := fun d os => cell_regrown f0 d os
              have j3 := fun d os => cell_regrown f1 d os
              have HIy : Hid (is32 y) := Lib.hid (H32.out (y, y') (by simp))
              have q1 : IntKind.i64.wrap ((L : Int) - 1) = (M : Int) := by rw [show (L : Int) - 1 = (M : Int) from by omega]; exact IntWalk.i64_in _ ⟨by omega, by omega⟩
              have t0 : (0 : Int) < (L : Int) := by omega
              have t0' : 0 < L := by omega
              have i2 : (0 : Int) ≤ (M : Int) := by omega
              have i3 : (M : Int) < (L : Int) := by omega
              have HLM := Lib.hid hLM
              clear hM hLM hrd e1 HY f0 f1
              obtain ⟨q, hq⟩ : ∃ q, inB (x, x') (y, y') = q := ⟨_, rfl⟩
              have HQ := Lib.hid hq
              clear hq
              cases q with
              | true =>
                have HST : Hid (stepS ((y, y') :: r) (x, x') = (y, y') :: r) := Lib.hid (by unfold stepS; simp only; rw [HQ.out]; rfl)
                refine wp_region_quiet_below (by kernel_rfl) (by kernel_rfl) ?_
                repeat (go_big_quiet_step (first | (with_reducible exact inN_c HIx.out HIy.out HQ.out _ _) | fail))
                refine wpQuiet_nil ?_
                intro w6 hw'
                obtain ⟨⟨dq, osq⟩, hw''⟩ := hw'
                have hb6 := (show Below w2.heap.size w2 w6 by rw [hw'']; exact below_regrown w2 dq osq)
                have HB6 := Lib.hid (HB2.out.trans (hb6.mono hz5))
                have HO6 := Lib.hid (HO2.out.below hb6)
                have HX6 := Lib.hid (below_block hb6 hz2 HX2.out)
                clear hw'' hb6 j0 j1 j2 j3
                have HK3 : Hid ((s.drop (k + 1)).foldl stepS ((y, y') :: r) = C) := Lib.hid (by rw [← HST.out]; exact HK2.out)
                have HL3 : Hid (((y, y') :: r).length = L ∧ L ≤ k + 1) := Lib.hid ⟨HL.out.1, by omega⟩
                go_wp2
                go_roundw
                case rel => exact ⟨k + 1, _, L, c7, _, by omega, rfl, by go_num, HK3, HL3, H32, HO6, HB6.out⟩
                case measure => simp [intOf]; omega
              | false =>
                have HST : Hid (stepS ((y, y') :: r) (x, x') = joinS (x, x') ((y, y') :: r)) := Lib.hid (by unfold stepS; simp only; rw [HQ.out]; rfl)
                refine wp_region_quiet_below (by kernel_rfl) (by kernel_rfl) ?_
                repeat (go_big_quiet_step (first | (with_reducible exact inN_c HIx.out HIy.out HQ.out _ _) | fail))
                refine wpQuiet_nil ?_
                intro w6 hw'
                obtain ⟨⟨dq, osq⟩, hw''⟩ := hw'
                have hb6 := (show Below w2.heap.size w2 w6 by rw [hw'']; exact below_regrown w2 dq osq)
                have HB6 := Lib.hid (HB2.out.trans (hb6.mono hz5))
                have HO6 := Lib.hid (HO2.out.below hb6)
                have HX6 := Lib.hid (below_block hb6 hz2 HX2.out)
                obtain ⟨z0, z1, _, _⟩ := row2 HX6.out
                have hz6 : w5.heap.size ≤ w6.heap.size := HB6.out.size
                clear hw'' hb6 j0 j1 j2 j3
                go_wp2_with (first
                  | (at_builtin; go_loud (refine wpList_append_net rfl _ _ 26 Tryz.underlying26 rfl w5.heap.size _ _ rfl (HO6.out.alloc _) w6.heap.size (x, x') 47 rfl (heap_alloc_new w6 _) HWF.out hlen (by simp; omega) ?_); intro v8 w8 hown8 hgrow8; have HB8 := Lib.hid (hgrow8.below (HB6.out.trans ((below_a1 w6 _).mono hz6)) (HO6.out.alloc _).1 (Nat.le_refl _) (by simp; omega)); rw [← List.reverse_cons] at hown8; have HO8 := Lib.hid hown8; have HJ := Lib.hid (Joined_any hown8 HFx.out H32c.out HL100.out HB8.out.size); obtain ⟨A8, c8, rfl⟩ := hown8.form; obtain ⟨L8, hL8⟩ : ∃ L8, ((x, x') :: ((y, y') :: r)).reverse.length = L8 := ⟨_, rfl⟩; rw [hL8] at HO8 HJ ⊢; clear hown8 hgrow8 hL8)
                  | fail)
                go_at_call 92
                (with_reducible refine HJ.out.mono ?_)
                rintro e w9 ⟨v9, rfl, ho9, hg9⟩
                rw [← HST.out] at ho9
                have HB9 := Lib.hid (hg9.below HB8.out HO8.out.1 (Nat.le_refl _) HB8.out.size)
                obtain ⟨A9, c9, rfl⟩ := ho9.form
                obtain ⟨L9, hL9⟩ : ∃ L9, (stepS ((y, y') :: r) (x, x')).reverse.length = L9 := ⟨_, rfl⟩
                rw [hL9] at ho9 ⊢
                have HO9 := Lib.hid ho9
                have HL9 : Hid ((stepS ((y, y') :: r) (x, x')).length = L9 ∧ L9 ≤ k + 1) := Lib.hid (by
                  rw [List.length_reverse] at hL9
                  have h1 := joinS_len ((y, y') :: r) (x, x')
                  rw [← HST.out, hL9] at h1
                  have h2 := HL.out
                  exact ⟨hL9, by omega⟩)
                clear ho9 hg9 hL9 hz6 z0 z1
                go_wp2
                go_roundw
                case rel => exact ⟨k + 1, A9, L9, c9, _, by omega, rfl, by go_num, HK2, HL9, H32s, HO9, HB9.out⟩
                case measure => simp [intOf]; omega
          · have HE : Hid (coverV l = st.reverse) := Lib.hid (by
              have h := HK.out
              rw [List.drop_eq_nil_of_le (by rw [HN5.out]; omega)] at h
              rw [HCV.out, ← h]; rfl)
            have HBE := Lib.hid (HB5.out.trans (hbt.mono HB5.out.size))
            have hw5 : w.heap.size ≤ w5.heap.size := HB5.out.size
            have HW5 := Lib.hid hw5
            clear hbt hw5
            go_wp2
            rw [← HPP.out]
            exact CovPost.good HCE.out (by rw [HE.out]; exact HO.out.mono HW5.out) HBE.out
end Go.Proofs.YtgdlkjahlajcpaaGreatDoor
