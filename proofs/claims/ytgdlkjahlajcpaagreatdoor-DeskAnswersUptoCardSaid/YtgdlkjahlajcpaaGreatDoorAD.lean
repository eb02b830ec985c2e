/- pref.Common, as a contract in plain numbers. A table of nets as it lies in memory: a node for each net on the way to one that is there; what stores and new blocks do to it. trie.New, bit and at, as contracts. trie.there, Get, Drop, as contracts. -/
import Derived.Test.YtgdlkjahlajcpaaGreatDoorAC
import Derived.WalkLawsBesides
import Derived.Deep.RegionHeld3
import Derived.Deep.QuietTactic
import Derived.BigQuiet
namespace Go.Proofs.YtgdlkjahlajcpaaGreatDoor
open Go.ChangeShapes Go.WideShapes Go.ChangeAt Go.RowKit
set_option linter.unusedVariables false
set_option linter.unusedSimpArgs false

theorem common_end {W : World} {R : Nat} {a : Act} {v0 v1 e : Value} {t : TypeId} {K : Ending → World → Prop} (h : W.heap[R]? = some (.cells #[v0, v1] t (0, 0))) (h2 : a.tmps[4]?.getD undef = .pointer (some ⟨R, 0, none⟩)) (h3 : a.tmps[5]?.getD undef = e) (hd : a.defers = [])
    (hK : K (.returned (.tuple #[.agg #[v0, v1], e])) W) : bodyPost Tryz.prog Tryz.f67 K .ret a W := by
  have e0 : W.cell? ⟨R, 0, none⟩ = some v0 := by rw [cell_of_row _ R _ _ _ (0, 0) h]; rfl
  have e1 : W.cell? ⟨R, 1, none⟩ = some v1 := by rw [cell_of_row _ R _ _ _ (0, 0) h]; rfl
  exact bodyPost_ret (by simp [results, Tryz.results67, go_sem, h2, h3, e0, e1]) hd hK
theorem LZ_net (a b : Int) (w : World) (ha : is32 a) (hb : is32 b) :
    Calls Tryz.prog 94 #[.int .u32 (bits .xor .u32 a b)] w fun e w' => e = .returned (.int .i64 ((lzN a b : Nat) : Int)) ∧ w = w' := by
  obtain ⟨x, rfl⟩ := Int.eq_ofNat_of_zero_le ha.1
  obtain ⟨y, rfl⟩ := Int.eq_ofNat_of_zero_le hb.1
  have hx := ha.2; have hy := hb.2
  rw [u32_xor_nat x y (by omega) (by omega)]
  have hlt : x ^^^ y < 4294967296 := Nat.xor_lt_two_pow (n := 32) (by omega) (by omega)
  have hbl : blen (x ^^^ y) ≤ 32 := blen_lt.2 hlt
  have e : ((lzN (x : Int) (y : Int) : Nat) : Int) = 32 - (blen (x ^^^ y) : Int) := by unfold lzN; simp only [Int.toNat_natCast]; omega
  rw [e]
  exact LeadingZeros32_any _ w hlt
set_option maxHeartbeats 2000000 in
theorem Common_ok {a b : Int} {n m : Nat} (w : World) (ha : is32 a) (hb : is32 b) (h : netF (a, (n : Int)) = 0) (h2 : netF (b, (m : Int)) = 0) :
    Calls Tryz.prog 67 #[.agg #[.int .u32 a, .int .i64 n], .agg #[.int .u32 b, .int .i64 m]] w fun e w' => e = .returned (.tuple #[netV (comN (a, (n : Int)) (b, (m : Int))), .nilIface]) ∧ Below w.heap.size w w' := by
  have HLZ := Lib.hid (fun w => LZ_net a b w ha hb)
  have HA := Lib.hid ha
  have HL : Hid (comL (a, (n : Int)) (b, (m : Int)) = min (min n m) (lzN a b)) := Lib.hid rfl
  have hL := lzN_le a b
  obtain ⟨h0, h1⟩ := ha
  have HZ := Lib.hid h
  have HZ2 := Lib.hid h2
  clear h h2
  obtain ⟨h2, h3⟩ := hb
  generalize lzN a b = L at *
  go_enter Tryz.func67, Tryz.ntmps67
  go_wp2_with fail
  go_at_call 77; (with_reducible refine (Check_ok _ h0 h1 HZ.out).mono ?_); rintro e w1 ⟨rfl, hb1⟩; obtain ⟨blk0, blk1, blk2⟩ := box3 hb1
  obtain ⟨d0, d1, _, _⟩ := row2 blk0; obtain ⟨r0, r1, f0, f1⟩ := row2 blk1; obtain ⟨q0, q1, g0, g1⟩ := row2 blk2; have BLK0 := Lib.hid blk0; have BLK1 := Lib.hid blk1; have BLK2 := Lib.hid blk2; clear blk0 blk1 blk2; have HB1 := Lib.hid ((below_3 w _ _ _).trans (hb1.mono (by simp; omega))); have hz1 := HB1.out.size; clear hb1
  go_wp2_with (first
    | (go_at_call 77; (with_reducible refine (Check_ok _ h2 h3 HZ2.out).mono ?_); rintro e w2 ⟨rfl, hb2⟩; have blk0 := below_block hb2 (size_of_block BLK0.out) BLK0.out; have blk1 := below_block hb2 (size_of_block BLK1.out) BLK1.out; have blk2 := below_block hb2 (size_of_block BLK2.out) BLK2.out; obtain ⟨d0, d1, _, _⟩ := row2 blk0; obtain ⟨r0, r1, f0, f1⟩ := row2 blk1; obtain ⟨q0, q1, g0, g1⟩ := row2 blk2; have CLK0 := Lib.hid blk0; have CLK1 := Lib.hid blk1; have CLK2 := Lib.hid blk2; clear blk0 blk1 blk2; have HB2 := Lib.hid (HB1.out.trans (hb2.mono (by omega))); have hz2 := HB2.out.size; clear hb2)
    | fail)
  have hn2 : ¬ (w.heap.size + 1 + 1 = w.heap.size) := by omega
  have hn3 : ¬ (w.heap.size = w.heap.size + 1 + 1) := by omega
  refine wp_region_noPanic ?_
  refine wp_region_held_drew (S := (fun w' => w'.cell? ⟨w.heap.size, 0, none⟩ = some (.int .u32 a) ∧ w'.cell? ⟨w.heap.size, 1, none⟩ = some (.int .i64 n) ∧ w'.cell? ⟨w.heap.size + 1, 0, none⟩ = some (.int .u32 b) ∧ w'.cell? ⟨w.heap.size + 1, 1, none⟩ = some (.int .i64 m))) (by kernel_rfl) (by go_keep) (fun hHeld => ?_)
  refine' wpAnyH_take (i := 0) ?hia0 ?hsa0 ?hfa0 ?hra0 ?hQa0 ?hya0 ?hSa0 ?ha0
  case hia0 => (simp only [List.getElem?_toArray, List.getElem?_cons_succ, List.getElem?_cons_zero]; exact rfl)
  case hsa0 => kernel_rfl
  case hfa0 => kernel_rfl
  case hra0 => kernel_rfl
  case hQa0 => exact fun _ _ _ h => h
  case hya0 => (first | (refine Or.inr ⟨by rfl, ?_⟩; rfl) | (refine Or.inl ⟨by rfl, ?_⟩; (intro w hSw; (try dsimp only at hSw); go_simp); try with_reducible rfl))
  case hSa0 => assumption
  try simp only [Act.put, List.setIfInBounds_toArray, List.set_cons_zero, List.set_cons_succ]
  refine' wpAnyH_take (i := 1) ?hia1 ?hsa1 ?hfa1 ?hra1 ?hQa1 ?hya1 ?hSa1 ?ha1
  case hia1 => (simp only [List.getElem?_toArray, List.getElem?_cons_succ, List.getElem?_cons_zero]; exact rfl)
  case hsa1 => kernel_rfl
  case hfa1 => kernel_rfl
  case hra1 => kernel_rfl
  case hQa1 => exact fun _ _ _ h => h
  case hya1 => (first | (refine Or.inr ⟨by rfl, ?_⟩; rfl) | (refine Or.inl ⟨by rfl, ?_⟩; (intro w hSw; (try dsimp only at hSw); go_simp); try with_reducible rfl))
  case hSa1 => assumption
  try simp only [Act.put, List.setIfInBounds_toArray, List.set_cons_zero, List.set_cons_succ]
  refine' wpAnyH_take (i := 2) ?hia2 ?hsa2 ?hfa2 ?hra2 ?hQa2 ?hya2 ?hSa2 ?ha2
  case hia2 => (simp only [List.getElem?_toArray, List.getElem?_cons_succ, List.getElem?_cons_zero]; exact rfl)
  case hsa2 => kernel_rfl
  case hfa2 => kernel_rfl
  case hra2 => kernel_rfl
  case hQa2 => exact fun _ _ _ h => h
  case hya2 => (first | (refine Or.inr ⟨by rfl, ?_⟩; rfl) | (refine Or.inl ⟨by rfl, ?_⟩; (intro w hSw; (try dsimp only at hSw); go_simp); try with_reducible rfl))
  case hSa2 => assumption
  try simp only [Act.put, List.setIfInBounds_toArray, List.set_cons_zero, List.set_cons_succ]
  refine' wpAnyH_take (i := 3) ?hia3 ?hsa3 ?hfa3 ?hra3 ?hQa3 ?hya3 ?hSa3 ?ha3
  case hia3 => (simp only [List.getElem?_toArray, List.getElem?_cons_succ, List.getElem?_cons_zero]; exact rfl)
  case hsa3 => kernel_rfl
  case hfa3 => kernel_rfl
  case hra3 => kernel_rfl
  case hQa3 => exact fun _ _ _ h => h
  case hya3 => (first | (refine Or.inr ⟨by rfl, ?_⟩; rfl) | (refine Or.inl ⟨by rfl, ?_⟩; (intro w hSw; (try dsimp only at hSw); go_simp); try with_reducible rfl))
  case hSa3 => assumption
  try simp only [Act.put, List.setIfInBounds_toArray, List.set_cons_zero, List.set_cons_succ]
  refine' wpAnyH_take (i := 4) ?hia4 ?hsa4 ?hfa4 ?hra4 ?hQa4 ?hya4 ?hSa4 ?ha4
  case hia4 => (simp only [List.getElem?_toArray, List.getElem?_cons_succ, List.getElem?_cons_zero]; exact rfl)
  case hsa4 => kernel_rfl
  case hfa4 => kernel_rfl
  case hra4 => kernel_rfl
  case hQa4 => exact fun _ _ _ h => h
  case hya4 => (first | (refine Or.inr ⟨by rfl, ?_⟩; rfl) | (refine Or.inl ⟨by rfl, ?_⟩; (intro w hSw; (try dsimp only at hSw); go_simp); try with_reducible rfl))
  case hSa4 => assumption
  try simp only [Act.put, List.setIfInBounds_toArray, List.set_cons_zero, List.set_cons_succ]
  refine' wpAnyH_take (i := 5) ?hia5 ?hsa5 ?hfa5 ?hra5 ?hQa5 ?hya5 ?hSa5 ?ha5
  case hia5 => (simp only [List.getElem?_toArray, List.getElem?_cons_succ, List.getElem?_cons_zero]; exact rfl)
  case hsa5 => kernel_rfl
  case hfa5 => kernel_rfl
  case hra5 => kernel_rfl
  case hQa5 => exact fun _ _ _ h => h
  case hya5 => (first | (refine Or.inr ⟨by rfl, ?_⟩; rfl) | (refine Or.inl ⟨by rfl, ?_⟩; (intro w hSw; (try dsimp only at hSw); go_simp); try with_reducible rfl))
  case hSa5 => assumption
  try simp only [Act.put, List.setIfInBounds_toArray, List.set_cons_zero, List.set_cons_succ]
  refine' wpAnyH_take (i := 6) ?hia6 ?hsa6 ?hfa6 ?hra6 ?hQa6 ?hya6 ?hSa6 ?ha6
  case hia6 => (simp only [List.getElem?_toArray, List.getElem?_cons_succ, List.getElem?_cons_zero]; exact rfl)
  case hsa6 => kernel_rfl
  case hfa6 => kernel_rfl
  case hra6 => kernel_rfl
  case hQa6 => exact fun _ _ _ h => h
  case hya6 => (first | (refine Or.inr ⟨by rfl, ?_⟩; rfl) | (refine Or.inl ⟨by rfl, ?_⟩; (intro w hSw; (try dsimp only at hSw); go_simp); try with_reducible rfl))
  case hSa6 => assumption
  try simp only [Act.put, List.setIfInBounds_toArray, List.set_cons_zero, List.set_cons_succ]
  refine' wpAnyH_take (i := 7) ?hia7 ?hsa7 ?hfa7 ?hra7 ?hQa7 ?hya7 ?hSa7 ?ha7
  case hia7 => (simp only [List.getElem?_toArray, List.getElem?_cons_succ, List.getElem?_cons_zero]; exact rfl)
  case hsa7 => kernel_rfl
  case hfa7 => kernel_rfl
  case hra7 => kernel_rfl
  case hQa7 => exact fun _ _ _ h => h
  case hya7 => (first | (refine Or.inr ⟨by rfl, ?_⟩; rfl) | (refine Or.inl ⟨by rfl, ?_⟩; (intro w hSw; (try dsimp only at hSw); go_simp); try with_reducible rfl))
  case hSa7 => assumption
  try simp only [Act.put, List.setIfInBounds_toArray, List.set_cons_zero, List.set_cons_succ]
  refine' wpAnyH_take (i := 8) ?hia8 ?hsa8 ?hfa8 ?hra8 ?hQa8 ?hya8 ?hSa8 ?ha8
  case hia8 => (simp only [List.getElem?_toArray, List.getElem?_cons_succ, List.getElem?_cons_zero]; exact rfl)
  case hsa8 => kernel_rfl
  case hfa8 => kernel_rfl
  case hra8 => kernel_rfl
  case hQa8 => exact fun _ _ _ h => h
  case hya8 => (first | (refine Or.inr ⟨by rfl, ?_⟩; rfl) | (refine Or.inl ⟨by rfl, ?_⟩; (intro w hSw; (try dsimp only at hSw); go_simp); try with_reducible rfl))
  case hSa8 => assumption
  try simp only [Act.put, List.setIfInBounds_toArray, List.set_cons_zero, List.set_cons_succ]
  refine' wpAnyH_take (i := 9) ?hia9 ?hsa9 ?hfa9 ?hra9 ?hQa9 ?hya9 ?hSa9 ?ha9
  case hia9 => (simp only [List.getElem?_toArray, List.getElem?_cons_succ, List.getElem?_cons_zero]; exact rfl)
  case hsa9 => kernel_rfl
  case hfa9 => kernel_rfl
  case hra9 => kernel_rfl
  case hQa9 => exact fun _ _ _ h => h
  case hya9 => (first | (refine Or.inr ⟨by rfl, ?_⟩; rfl) | (refine Or.inl ⟨by rfl, ?_⟩; (intro w hSw; (try dsimp only at hSw); go_simp); try with_reducible rfl))
  case hSa9 => assumption
  try simp only [Act.put, List.setIfInBounds_toArray, List.set_cons_zero, List.set_cons_succ]
  refine wpAnyH_ready (rs := [10]) (by kernel_rfl) (by simp) ?_
  refine' AllReadyH.cons ?hia10 (fun K hK => ?ha10) AllReadyH.nil
  case hia10 => (simp only [List.getElem?_toArray, List.getElem?_cons_succ, List.getElem?_cons_zero]; exact rfl)
  (go_simp; go_at_call 94; refine (HLZ.out _).mono ?_; rintro e w' ⟨rfl, rfl⟩)
  refine hK.out _ _ (by go_keep) (fun hHeld => ?_)
  clear hK K
  refine' wpAnyH_take (i := 11) ?hia11 ?hsa11 ?hfa11 ?hra11 ?hQa11 ?hya11 ?hSa11 ?ha11
  case hia11 => (simp only [List.getElem?_toArray, List.getElem?_cons_succ, List.getElem?_cons_zero]; exact rfl)
  case hsa11 => kernel_rfl
  case hfa11 => kernel_rfl
  case hra11 => kernel_rfl
  case hQa11 => exact fun _ _ _ h => h
  case hya11 => (first | (refine Or.inr ⟨by rfl, ?_⟩; rfl) | (refine Or.inl ⟨by rfl, ?_⟩; (intro w hSw; (try dsimp only at hSw); go_simp); try with_reducible rfl))
  case hSa11 => assumption
  try simp only [Act.put, List.setIfInBounds_toArray, List.set_cons_zero, List.set_cons_succ]
  have HIF : Hid ((if (L : Int) < if m < n then (m : Int) else (n : Int) then (L : Int) else if m < n then (m : Int) else (n : Int)) = ((comL (a, (n : Int)) (b, (m : Int)) : Nat) : Int)) := Lib.hid (by rw [HL.out]; split <;> split <;> omega)
  refine wpAnyH_ready (rs := [12]) (by kernel_rfl) (by simp) ?_
  refine' AllReadyH.cons ?hia12 (fun K hK => ?ha12) AllReadyH.nil
  case hia12 => (simp only [List.getElem?_toArray, List.getElem?_cons_succ, List.getElem?_cons_zero]; exact rfl)
  (go_simp; go_at_call 93; rw [HIF.out]; refine (cut_any a n _ _ HA.out (comL_le _ _)).mono ?_; rintro e w3 ⟨rfl, hb3⟩; have blk0 := below_block hb3 (size_of_block CLK0.out) CLK0.out; have blk1 := below_block hb3 (size_of_block CLK1.out) CLK1.out; have blk2 := below_block hb3 (size_of_block CLK2.out) CLK2.out; obtain ⟨d0, d1, _, _⟩ := row2 blk0; obtain ⟨r0, r1, f0, f1⟩ := row2 blk1; obtain ⟨q0, q1, g0, g1⟩ := row2 blk2; have DLK2 := Lib.hid blk2; clear blk0 blk1 blk2; have HB3 := Lib.hid ((below_drewN HB2.out 1).trans (hb3.mono (by simpa using hz2))); have hz3 := HB3.out.size; clear hb3)
  refine hK.out _ _ (by go_keep) (fun hHeld => ?_)
  clear hK K
  refine wpAnyH_ready (rs := [13]) (by kernel_rfl) (by simp) ?_
  refine' AllReadyH.cons ?hia13 (fun K hK => ?ha13) AllReadyH.nil
  case hia13 => (simp only [List.getElem?_toArray, List.getElem?_cons_succ, List.getElem?_cons_zero]; exact rfl)
  go_simp
  refine hK.out _ _ (by go_keep) (fun hHeld => ?_)
  clear hK K
  refine' wpAnyH_take (i := 14) ?hia14 ?hsa14 ?hfa14 ?hra14 ?hQa14 ?hya14 ?hSa14 ?ha14
  case hia14 => (simp only [List.getElem?_toArray, List.getElem?_cons_succ, List.getElem?_cons_zero]; exact rfl)
  case hsa14 => kernel_rfl
  case hfa14 => kernel_rfl
  case hra14 => kernel_rfl
  case hQa14 => exact fun _ _ _ h => h
  case hya14 => (first | (refine Or.inr ⟨by rfl, ?_⟩; rfl) | (refine Or.inl ⟨by rfl, ?_⟩; (intro w hSw; (try dsimp only at hSw); go_simp); try with_reducible rfl))
  case hSa14 => assumption
  try simp only [Act.put, List.setIfInBounds_toArray, List.set_cons_zero, List.set_cons_succ]
  refine wpAnyH_done (by kernel_rfl) ?_ _
  refine NoPanic.normal ?_
  go_wp2
  exact common_end (e := .nilIface) (set2_block _ _ DLK2.out) rfl rfl rfl ⟨rfl, (HB3.out.setCell (by simp; omega) _).setCell (by simp; omega) _⟩
end Go.Proofs.YtgdlkjahlajcpaaGreatDoor
namespace Go.Proofs.YtgdlkjahlajcpaaGreatDoor
open Go.ChangeShapes Go.WideShapes Go.ChangeAt Go.RowKit
set_option linter.unusedVariables false
set_option linter.unusedSimpArgs false

abbrev NM := Nt → Option Nat
def ptrO (o : Option Nat) : Value := .pointer (o.map fun b => ⟨b, 0, none⟩)
def nodeC (N : NM) (m : List (Nt × Int)) (x : Nt) (v : Int) : List Value :=
  [.bool (look m x).isSome, .int .i64 v, ptrO (N (halfP x)), ptrO (N (halfQ x))] ++ (if x = (0, 0) then [.int .i64 (m.length : Int)] else [])
def nodeT (x : Nt) : TypeId := if x = (0, 0) then 70 else 68
structure Tri (w : World) (T B : Nat) (N : NM) (m : List (Nt × Int)) : Prop where
  ok : MOk m
  root : N (0, 0) = some T
  dom : ∀ x b, N x = some b → netF x = 0 ∧ is32 x.1
  base : ∀ x b, N x = some b → B ≤ b
  inj : ∀ x y b, N x = some b → N y = some b → x = y
  up : ∀ (x : Nt) (k : Nat), N x ≠ none → x.2 = ((k + 1 : Nat) : Int) → N (trimN x k) ≠ none
  has : ∀ x, look m x ≠ none → N x ≠ none
  node : ∀ x b, N x = some b → ∃ v, (∀ u, look m x = some u → u = v) ∧ w.heap[b]? = some (.cells (nodeC N m x v).toArray (nodeT x) (0, 0))
structure Keeps (B : Nat) (N : NM) (w w' : World) : Prop where
  bel : Below B w w'
  oth : ∀ g, g < w.heap.size → (∀ x, N x ≠ some g) → w'.heap[g]? = w.heap[g]?
theorem Keeps.refl (B : Nat) (N : NM) (w : World) : Keeps B N w w := ⟨Below.refl _ _, fun _ _ _ => rfl⟩
theorem Keeps.block {B : Nat} {N : NM} {w w' : World} {g : Nat} {o : Obj} (h : Keeps B N w w') (hg : w.heap[g]? = some o) (hn : ∀ x, N x ≠ some g) : w'.heap[g]? = some o := (h.oth g (size_of_block hg) hn).trans hg

section
variable {w w' : World} {T B : Nat} {N : NM} {m : List (Nt × Int)}
theorem Tri.lt (h : Tri w T B N m) {x : Nt} {b : Nat} (hx : N x = some b) : b < w.heap.size := by
  obtain ⟨v, _, hb⟩ := h.node x b hx
  exact size_of_block hb
theorem Tri.below (h : Tri w T B N m) (hb : Below w.heap.size w w') : Tri w' T B N m :=
  ⟨h.ok, h.root, h.dom, h.base, h.inj, h.up, h.has, fun x b hx => by
    obtain ⟨v, h1, h2⟩ := h.node x b hx
    exact ⟨v, h1, below_block hb (h.lt hx) h2⟩⟩
theorem Tri.kept (h : Tri w T B N m) (hb : ∀ x b, N x = some b → w'.heap[b]? = w.heap[b]?) : Tri w' T B N m :=
  ⟨h.ok, h.root, h.dom, h.base, h.inj, h.up, h.has, fun x b hx => by
    obtain ⟨v, h1, h2⟩ := h.node x b hx
    exact ⟨v, h1, (hb x b hx).trans h2⟩⟩
theorem Tri.setCell (h : Tri w T B N m) {g o : Nat} (hg : ∀ x, N x ≠ some g) (u : Value) : Tri (w.setCell ⟨g, o, none⟩ u) T B N m :=
  h.kept fun x b hx => heap_setCell_other _ _ _ _ fun e => hg x (by rw [hx, e])
theorem Tri.drewN (h : Tri w T B N m) (k : Nat) : Tri (w.drewN k) T B N m := h.kept fun _ _ _ => rfl
theorem Tri.alloc (h : Tri w T B N m) (o : Obj) : Tri (w.alloc o) T B N m := h.below ((Below.refl _ _).alloc (Nat.le_refl _) o)
theorem Tri.fresh (h : Tri w T B N m) {g : Nat} (hg : w.heap.size ≤ g) : ∀ x, N x ≠ some g := fun x hx => by have := h.lt hx; omega
theorem Tri.cells (h : Tri w T B N m) {x : Nt} {b : Nat} (hx : N x = some b) : ∃ v, (∀ u, look m x = some u → u = v) ∧
    (w.cell? ⟨b, 0, none⟩ = some (.bool (look m x).isSome) ∧ w.cell? ⟨b, 1, none⟩ = some (.int .i64 v) ∧ w.cell? ⟨b, 2, none⟩ = some (ptrO (N (halfP x))) ∧ w.cell? ⟨b, 3, none⟩ = some (ptrO (N (halfQ x)))) ∧
    (w.frozen? ⟨b, 0, none⟩ = false ∧ w.frozen? ⟨b, 1, none⟩ = false ∧ w.frozen? ⟨b, 2, none⟩ = false ∧ w.frozen? ⟨b, 3, none⟩ = false) := by
  obtain ⟨v, h1, h2⟩ := h.node x b hx
  refine ⟨v, h1, ⟨?_, ?_, ?_, ?_⟩, frozen_of_row _ b _ _ _ h2, frozen_of_row _ b _ _ _ h2, frozen_of_row _ b _ _ _ h2, frozen_of_row _ b _ _ _ h2⟩ <;>
    rw [cell_of_row _ b _ _ _ (0, 0) h2] <;> simp [nodeC]
theorem Tri.top (h : Tri w T B N m) : w.cell? ⟨T, 4, none⟩ = some (.int .i64 (m.length : Int)) ∧ w.frozen? ⟨T, 4, none⟩ = false := by
  obtain ⟨v, h1, h2⟩ := h.node _ T h.root
  refine ⟨?_, frozen_of_row _ T _ _ _ h2⟩
  rw [cell_of_row _ T _ _ _ (0, 0) h2]; simp [nodeC]
theorem Tri.chain (h : Tri w T B N m) {x : Nt} {j : Nat} (hx : N x ≠ none) (hj : x.2 = (j : Int)) : ∀ k, k ≤ j → N (trimN x k) ≠ none := by
  have hj32 : j ≤ 32 := by
    obtain ⟨b, hb⟩ := Option.ne_none_iff_exists'.1 hx
    have := (netF_zero.1 (h.dom x b hb).1).2.1
    omega
  have key : ∀ d k, k + d = j → N (trimN x k) ≠ none := by
    intro d
    induction d with
    | zero =>
      intro k hk
      obtain rfl : k = j := by omega
      obtain ⟨b, hb⟩ := Option.ne_none_iff_exists'.1 hx
      have h2 := (netF_zero.1 (h.dom x b hb).1).2.2
      rw [hj] at h2
      rw [trim_self hj (by simpa using h2)]
      exact hx
    | succ d ih =>
      intro k hk
      have h1 := ih (k + 1) (by omega)
      have h2 := h.up _ k h1 rfl
      rwa [trim_trim x (by omega) (by omega)] at h2
  exact fun k hk => key (j - k) k (by omega)
theorem Tri.none_up (h : Tri w T B N m) {x : Nt} {k : Nat} (hk : N (trimN x k) = none) : ∀ j, k ≤ j → N (trimN x j) = none := by
  intro j hj
  cases hn : N (trimN x j) with
  | none => rfl
  | some b =>
    exfalso
    have h32 : j ≤ 32 := by
      have := (netF_zero.1 (h.dom _ b hn).1).2.1
      omega
    have := h.chain (x := trimN x j) (by rw [hn]; simp) rfl k hj
    rw [trim_trim x hj h32, hk] at this
    exact this rfl
theorem Tri.look_none (h : Tri w T B N m) {x : Nt} (hx : N x = none) : look m x = none := by
  cases hl : look m x with
  | none => rfl
  | some v => exact absurd hx (h.has x (by rw [hl]; simp))
theorem Tri.find_stop (h : Tri w T B N m) {a : Int} {i : Nat} (hk : N (trimN (a, 32) i) = none) : ∀ j, i ≤ j → fnd m a j = fnd m a i :=
  fnd_stop fun k hk' => h.look_none (h.none_up hk k hk')
theorem Tri.ne (h : Tri w T B N m) {x y : Nt} {b c : Nat} (hx : N x = some b) (hy : N y = some c) (hne : x ≠ y) : b ≠ c := by
  rintro rfl; exact hne (h.inj _ _ _ hx hy)
theorem Tri.change (h : Tri w T B N m) {m' : List (Nt × Int)} {x : Nt} {b : Nat} (hx : N x = some b) (hm : MOk m') (hl : ∀ y, y ≠ x → look m' y = look m y)
    (hb : ∃ v, (∀ u, look m' x = some u → u = v) ∧ w'.heap[b]? = some (.cells (nodeC N m' x v).toArray (nodeT x) (0, 0)))
    (hT : x ≠ (0, 0) → ∀ v, w.heap[T]? = some (.cells (nodeC N m (0, 0) v).toArray (nodeT (0, 0)) (0, 0)) → w'.heap[T]? = some (.cells (nodeC N m' (0, 0) v).toArray (nodeT (0, 0)) (0, 0)))
    (hO : ∀ g, g ≠ b → g ≠ T → w'.heap[g]? = w.heap[g]?) : Tri w' T B N m' := by
  refine ⟨hm, h.root, h.dom, h.base, h.inj, h.up, fun y hy => ?_, fun y c hy => ?_⟩
  · by_cases e : y = x
    · rw [e, hx]; simp
    · rw [hl y e] at hy; exact h.has y hy
  · by_cases e : y = x
    · subst e
      rw [hx] at hy
      simp only [Option.some.injEq] at hy
      subst hy
      exact hb
    · obtain ⟨v, h1, h2⟩ := h.node y c hy
      refine ⟨v, by rw [hl y e]; exact h1, ?_⟩
      by_cases e0 : y = (0, 0)
      · subst e0
        have hc : c = T := by
          have := h.root
          rw [hy] at this
          simpa using this
        subst hc
        exact hT (fun e' => e e'.symm) v h2
      · have hcT : c ≠ T := h.ne hy h.root e0
        rw [hO c (h.ne hy hx e) hcT, h2]
        unfold nodeC
        rw [hl y e, if_neg e0, if_neg e0]
theorem Tri.store3 (h : Tri w T B N m) {m' : List (Nt × Int)} {x : Nt} {b : Nat} (hx : N x = some b) (hm : MOk m') (hl : ∀ y, y ≠ x → look m' y = look m y) {v : Int} (hv : look m' x = some v) :
    Tri (((w.setCell ⟨b, 0, none⟩ (.bool true)).setCell ⟨b, 1, none⟩ (.int .i64 v)).setCell ⟨T, 4, none⟩ (.int .i64 (m'.length : Int))) T B N m' := by
  obtain ⟨v0, h1, h2⟩ := h.node x b hx
  by_cases e : x = (0, 0)
  · subst e
    have hbT : b = T := by have := h.root; rw [hx] at this; simpa using this
    subst hbT
    refine h.change hx hm hl ⟨v, fun u hu => by rw [hv] at hu; simpa using hu.symm, ?_⟩ (fun e => absurd rfl e) (fun g hg _ => ?_)
    · unfold nodeC at h2 ⊢
      rw [if_pos rfl] at h2 ⊢
      rw [hv]
      exact heap_setCell_same _ b 4 _ _ _ (heap_setCell_same _ b 1 _ _ _ (heap_setCell_same w b 0 _ _ (.bool true) h2))
    · rw [heap_setCell_other _ _ _ _ hg, heap_setCell_other _ _ _ _ hg, heap_setCell_other _ _ _ _ hg]
  · have hbT : b ≠ T := h.ne hx h.root e
    refine h.change hx hm hl ⟨v, fun u hu => by rw [hv] at hu; simpa using hu.symm, ?_⟩ (fun _ u hu => ?_) (fun g hg hg2 => ?_)
    · rw [heap_setCell_other _ _ _ _ hbT]
      unfold nodeC at h2 ⊢
      rw [if_neg e] at h2 ⊢
      rw [hv]
      exact heap_setCell_same _ b 1 _ _ _ (heap_setCell_same w b 0 _ _ (.bool true) h2)
    · have h3 : ((w.setCell ⟨b, 0, none⟩ (.bool true)).setCell ⟨b, 1, none⟩ (.int .i64 v)).heap[T]? = some (.cells (nodeC N m (0, 0) u).toArray (nodeT (0, 0)) (0, 0)) := by
        rw [heap_setCell_other _ _ _ _ (fun e => hbT e.symm), heap_setCell_other _ _ _ _ (fun e => hbT e.symm), hu]
      unfold nodeC at h3 ⊢
      rw [if_pos rfl] at h3 ⊢
      rw [hl _ (fun e' => e e'.symm)]
      exact heap_setCell_same _ T 4 _ _ _ h3
    · rw [heap_setCell_other _ _ _ _ hg2, heap_setCell_other _ _ _ _ hg, heap_setCell_other _ _ _ _ hg]
theorem Tri.dropped (h : Tri w T B N m) {m' : List (Nt × Int)} {x : Nt} {b : Nat} (hx : N x = some b) (hm : MOk m') (hl : ∀ y, y ≠ x → look m' y = look m y) (hv : look m' x = none) :
    Tri ((w.setCell ⟨b, 0, none⟩ (.bool false)).setCell ⟨T, 4, none⟩ (.int .i64 (m'.length : Int))) T B N m' := by
  obtain ⟨v0, h1, h2⟩ := h.node x b hx
  by_cases e : x = (0, 0)
  · subst e
    have hbT : b = T := by have := h.root; rw [hx] at this; simpa using this
    subst hbT
    refine h.change hx hm hl ⟨v0, fun u hu => (by rw [hv] at hu; cases hu), ?_⟩ (fun e => absurd rfl e) (fun g hg _ => ?_)
    · unfold nodeC at h2 ⊢
      rw [if_pos rfl] at h2 ⊢
      rw [hv]
      exact heap_setCell_same _ b 4 _ _ _ (heap_setCell_same w b 0 _ _ (.bool false) h2)
    · rw [heap_setCell_other _ _ _ _ hg, heap_setCell_other _ _ _ _ hg]
  · have hbT : b ≠ T := h.ne hx h.root e
    refine h.change hx hm hl ⟨v0, fun u hu => (by rw [hv] at hu; cases hu), ?_⟩ (fun _ u hu => ?_) (fun g hg hg2 => ?_)
    · rw [heap_setCell_other _ _ _ _ hbT]
      unfold nodeC at h2 ⊢
      rw [if_neg e] at h2 ⊢
      rw [hv]
      exact heap_setCell_same w b 0 _ _ (.bool false) h2
    · have h3 : (w.setCell ⟨b, 0, none⟩ (.bool false)).heap[T]? = some (.cells (nodeC N m (0, 0) u).toArray (nodeT (0, 0)) (0, 0)) := by
        rw [heap_setCell_other _ _ _ _ (fun e => hbT e.symm), hu]
      unfold nodeC at h3 ⊢
      rw [if_pos rfl] at h3 ⊢
      rw [hl _ (fun e' => e e'.symm)]
      exact heap_setCell_same _ T 4 _ _ _ h3
    · rw [heap_setCell_other _ _ _ _ hg2, heap_setCell_other _ _ _ _ hg]
theorem Tri.renewed (h : Tri w T B N m) {m' : List (Nt × Int)} {x : Nt} {b : Nat} (hx : N x = some b) (hm : MOk m') (hl : ∀ y, y ≠ x → look m' y = look m y) {v : Int} (hv : look m' x = some v) (hs : look m x ≠ none) (hn : m'.length = m.length) :
    Tri (w.setCell ⟨b, 1, none⟩ (.int .i64 v)) T B N m' := by
  obtain ⟨v0, h1, h2⟩ := h.node x b hx
  have hs' : (look m x).isSome = true := Option.isSome_iff_ne_none.2 hs
  refine h.change hx hm hl ⟨v, fun u hu => by rw [hv] at hu; simpa using hu.symm, ?_⟩ (fun e u hu => ?_) (fun g hg _ => heap_setCell_other _ _ _ _ hg)
  · have h3 := heap_setCell_same w b 1 _ _ (.int .i64 v) h2
    rw [h3]
    unfold nodeC
    rw [hv, hs', hn]
    split <;> rfl
  · rw [heap_setCell_other _ _ _ _ (fun e' => h.ne hx h.root e e'.symm), hu]
    unfold nodeC
    rw [hl _ (fun e' => e e'.symm), hn]
def updN (N : NM) (y : Nt) (c : Nat) : NM := fun z => if z = y then some c else N z
def kidN (x : Nt) (q : Bool) : Nt := if q then halfQ x else halfP x
theorem half_ne (x : Nt) (h : 0 < lowI (x.2.toNat + 1)) : halfP x ≠ halfQ x := by
  intro e
  have := congrArg Prod.fst e
  simp only [halfP, halfQ] at this
  omega
theorem kid_trim {x : Nt} {k : Nat} (hk : x.2 = (k : Int)) (hl : k < 32) (h : fl (lowI k) x.1 = x.1) (q : Bool) : trimN (kidN x q) k = x := by
  unfold kidN
  cases q
  · exact trim_halfP x hk hl h
  · exact trim_halfQ x hk hl h
theorem Tri.grow (h : Tri w T B N m) {x : Nt} {b k : Nat} (hx : N x = some b) (hk : x.2 = (k : Int)) (hl : k < 32) (q : Bool) (hn : N (kidN x q) = none) (hB : B ≤ w.heap.size) :
    Tri ((w.alloc (.cells #[.bool false, .int .i64 0, .pointer none, .pointer none] 68)).setCell ⟨b, if q then 3 else 2, none⟩ (.pointer (some ⟨w.heap.size, 0, none⟩))) T B (updN N (kidN x q) w.heap.size) m := by
  obtain ⟨hF, hI⟩ := h.dom x b hx
  obtain ⟨a, l⟩ := x
  simp only at hk hI
  subst hk
  have hfl : fl (lowI k) a = a := by simpa using (netF_zero.1 hF).2.2
  have hy2 : (kidN (a, (k : Int)) q).2 = ((k + 1 : Nat) : Int) := by unfold kidN halfP halfQ; cases q <;> simp
  have hyF : netF (kidN (a, (k : Int)) q) = 0 := by
    unfold kidN halfP halfQ
    cases q
    · simpa using half_p hl hF
    · simpa using half_q hl hF
  have hyI : is32 (kidN (a, (k : Int)) q).1 := by
    unfold kidN halfP halfQ
    cases q
    · simpa using hI
    · simpa using half_is hl hI hF
  have hyT := kid_trim (x := (a, (k : Int))) rfl hl hfl q
  have hyx : ∀ c, N c ≠ none → c ≠ kidN (a, (k : Int)) q := fun c hc e => hc (e ▸ hn)
  have hy0 : kidN (a, (k : Int)) q ≠ (0, 0) := fun e => by
    have := h.root
    rw [← e, hn] at this
    cases this
  -- no node below the new one
  have hbelow : ∀ q', N (kidN (kidN (a, (k : Int)) q) q') = none := by
    intro q'
    cases hc : N (kidN (kidN (a, (k : Int)) q) q') with
    | none => rfl
    | some c =>
      exfalso
      obtain ⟨kd, hkd, ekd, _⟩ := net_ok (h.dom _ c hc).1
      have h2 : (kidN (kidN (a, (k : Int)) q) q').2 = ((k + 1 + 1 : Nat) : Int) := by
        have : ∀ z : Nt, (kidN z q').2 = z.2 + 1 := fun z => by unfold kidN halfP halfQ; cases q' <;> simp
        rw [this, hy2]; simp
      have h3 := h.up _ (k + 1) (by rw [hc]; simp) h2
      have hfy : fl (lowI (k + 1)) (kidN (a, (k : Int)) q).1 = (kidN (a, (k : Int)) q).1 := by
        obtain ⟨k1, _, e1, f1⟩ := net_ok hyF
        have : k1 = k + 1 := by rw [hy2] at e1; omega
        rwa [this] at f1
      rw [kid_trim hy2 (by rw [h2] at ekd; omega) hfy q'] at h3
      exact h3 hn
  refine ⟨h.ok, ?_, ?_, ?_, ?_, ?_, ?_, ?_⟩
  · unfold updN; rw [if_neg (fun e => hy0 e.symm)]; exact h.root
  · intro z c hz
    unfold updN at hz
    split at hz
    · rename_i e; subst e; exact ⟨hyF, hyI⟩
    · exact h.dom z c hz
  · intro z c hz
    unfold updN at hz
    split at hz
    · simp at hz; omega
    · exact h.base z c hz
  · intro z z' c hz hz'
    unfold updN at hz hz'
    split at hz <;> split at hz'
    · rename_i e e'; rw [e, e']
    · simp only [Option.some.injEq] at hz; have := h.lt hz'; omega
    · simp only [Option.some.injEq] at hz'; have := h.lt hz; omega
    · exact h.inj _ _ _ hz hz'
  · intro z j hz hj
    unfold updN at hz ⊢
    split at hz
    · rename_i e
      subst e
      have : j = k := by rw [hy2] at hj; omega
      subst this
      rw [hyT]
      split
      · simp
      · rw [hx]; simp
    · have := h.up z j hz hj
      split
      · simp
      · exact this
  · intro z hz
    unfold updN
    split
    · simp
    · exact h.has z hz
  · intro z c hz
    unfold updN at hz
    split at hz
    · rename_i e
      subst e
      simp only [Option.some.injEq] at hz
      subst hz
      refine ⟨0, fun u hu => (by rw [h.look_none hn] at hu; cases hu), ?_⟩
      have hne : w.heap.size ≠ b := by have := h.lt hx; omega
      rw [heap_setCell_other _ _ _ _ hne, heap_alloc_new]
      have e1 := hbelow false
      have e2 := hbelow true
      simp only [kidN, Bool.false_eq_true, if_false, if_true] at e1 e2
      have hz2 : ∀ z : Nt, z.2 = (kidN (a, (k : Int)) q).2 + 1 → z ≠ kidN (a, (k : Int)) q := fun z hz e => by rw [e] at hz; omega
      unfold nodeC nodeT updN
      rw [if_neg hy0, if_neg hy0, h.look_none hn, if_neg (hz2 _ rfl), if_neg (hz2 _ rfl), show N (halfP (kidN (a, (k : Int)) q)) = none from e1, show N (halfQ (kidN (a, (k : Int)) q)) = none from e2]
      rfl
    · rename_i hzy
      obtain ⟨v, h1, h2⟩ := h.node z c hz
      refine ⟨v, h1, ?_⟩
      by_cases ec : c = b
      · subst ec
        obtain rfl := h.inj _ _ _ hz hx
        have h3 : (w.alloc (.cells #[.bool false, .int .i64 0, .pointer none, .pointer none] 68)).heap[c]? = some (.cells (nodeC N m (a, (k : Int)) v).toArray (nodeT (a, (k : Int))) (0, 0)) :=
          below_block ((Below.refl _ _).alloc (Nat.le_refl _) _) (h.lt hx) h2
        have h4 := heap_setCell_same _ c (if q then 3 else 2) _ _ (.pointer (some ⟨w.heap.size, 0, none⟩)) h3
        rw [h4]
        have hpq : halfP (a, (k : Int)) ≠ halfQ (a, (k : Int)) := half_ne _ (lowI_pos _)
        cases q
        · have u1 : updN N (kidN (a, (k : Int)) false) w.heap.size (halfP (a, (k : Int))) = some w.heap.size := if_pos rfl
          have u2 : updN N (kidN (a, (k : Int)) false) w.heap.size (halfQ (a, (k : Int))) = N (halfQ (a, (k : Int))) := if_neg (fun e => hpq e.symm)
          unfold nodeC
          rw [u1, u2]
          split <;> rfl
        · have u1 : updN N (kidN (a, (k : Int)) true) w.heap.size (halfP (a, (k : Int))) = N (halfP (a, (k : Int))) := if_neg hpq
          have u2 : updN N (kidN (a, (k : Int)) true) w.heap.size (halfQ (a, (k : Int))) = some w.heap.size := if_pos rfl
          unfold nodeC
          rw [u1, u2]
          split <;> rfl
      · rw [heap_setCell_other _ _ _ _ ec, below_block ((Below.refl _ _).alloc (Nat.le_refl _) _) (h.lt hz) h2]
        have hk2 : ∀ q', kidN z q' ≠ kidN (a, (k : Int)) q := by
          intro q' e
          obtain ⟨hF', hI'⟩ := h.dom z c hz
          have e2 : z.2 = (k : Int) := by
            have h5 : (kidN z q').2 = z.2 + 1 := by unfold kidN halfP halfQ; cases q' <;> simp
            rw [e, hy2] at h5
            omega
          have h6 : fl (lowI k) z.1 = z.1 := by
            have := (netF_zero.1 hF').2.2
            rw [e2] at this
            simpa using this
          have h7 := kid_trim e2 hl h6 q'
          rw [e, hyT] at h7
          rw [← h7] at hz
          rw [hx] at hz
          exact ec (by simpa using hz.symm)
        have p1 := hk2 false
        have p2 := hk2 true
        simp only [kidN, Bool.false_eq_true, if_false, if_true] at p1 p2
        have u1 : updN N (kidN (a, (k : Int)) q) w.heap.size (halfP z) = N (halfP z) := by unfold updN; exact if_neg p1
        have u2 : updN N (kidN (a, (k : Int)) q) w.heap.size (halfQ z) = N (halfQ z) := by unfold updN; exact if_neg p2
        unfold nodeC
        rw [u1, u2]
end
end Go.Proofs.YtgdlkjahlajcpaaGreatDoor
namespace Go.Proofs.YtgdlkjahlajcpaaGreatDoor
open Go.ChangeShapes Go.WideShapes Go.ChangeAt Go.RowKit
set_option linter.unusedVariables false
set_option linter.unusedSimpArgs false
theorem bit_any (a : Int) (i : Nat) (w : World) (ha : is32 a) (hi : i < 32) :
    Calls Tryz.prog 79 #[.int .u32 a, .int .i64 i] w fun e w' => e = .returned (.int .u32 (bitI a i)) ∧ w = w' := by
  have HB : Hid (bitI a i = bits .and .u32 (a / 2 ^ (31 - i)) 1) := Lib.hid (by
    obtain ⟨x, rfl⟩ := Int.eq_ofNat_of_zero_le ha.1
    have h1 := ha.2
    have e : ((x : Int) / 2 ^ (31 - i)) = ((x / 2 ^ (31 - i) : Nat) : Int) := by simp
    have hlt : x / 2 ^ (31 - i) ≤ 4294967295 := Nat.le_trans (Nat.div_le_self _ _) (by omega)
    unfold bitI
    rw [e, show (1 : Int) = ((1 : Nat) : Int) from rfl, u32_and_nat _ _ (by omega) (by omega), Nat.and_one_is_mod]
    omega)
  obtain ⟨h0, h1⟩ := ha
  go_enter Tryz.func79, Tryz.ntmps79
  go_wp2
  go_ret
  exact ⟨by rw [HB.out]; rfl, rfl⟩
theorem New_any (w : World) :
    Calls Tryz.prog 11 #[] w fun e w' => e = .returned (.pointer (some ⟨w.heap.size, 0, none⟩)) ∧ w' = w.alloc (.cells #[.bool false, .int .i64 0, .pointer none, .pointer none, .int .i64 0] 70) := by
  go_enter Tryz.func11, Tryz.ntmps11
  go_wp2
  go_ret
  exact ⟨rfl, rfl⟩
theorem bit_is {a : Int} {i : Nat} {r : Int} (w : World) (ha : is32 a) (hi : i < 32) (hr : bitI a i = r) :
    Calls Tryz.prog 79 #[.int .u32 a, .int .i64 i] w fun e w' => e = .returned (.int .u32 r) ∧ w = w' := by
  rw [← hr]; exact bit_any a i w ha hi
theorem ptrO_none : ptrO none = .pointer none := rfl
theorem ptrO_some (b : Nat) : ptrO (some b) = .pointer (some ⟨b, 0, none⟩) := rfl
set_option maxHeartbeats 1000000 in
theorem at_any {w : World} {T B : Nat} {N : NM} {m : List (Nt × Int)} {a : Int} {n : Nat} (h : Tri w T B N m) (hn : n ≤ 32) (ha : is32 a) (hB : B ≤ w.heap.size) (hnet : fl (lowI n) a = a) :
    Calls Tryz.prog 78 #[.pointer (some ⟨T, 0, none⟩), .agg #[.int .u32 a, .int .i64 n]] w fun e w' => e = .returned (ptrO (N (a, (n : Int)))) ∧ Below w.heap.size w w' := by
  have HT := Lib.hid h
  have HB : Hid (∀ d, Below w.heap.size w ((w.alloc (.cells #[.int .u32 a, .int .i64 n] 47)).drewN d)) := Lib.hid (fun d => below_drewN ((Below.refl _ _).alloc (Nat.le_refl _) _) d)
  have h00 : N (trimN (a, (n : Int)) 0) = some T := by rw [trim_zero ha]; exact h.root
  have h0 : ptrO (N (trimN (a, (n : Int)) 0)) = .pointer (some ⟨T, 0, none⟩) := by rw [h00]; rfl
  have H0 := Lib.hid h0
  have HE : Hid (trimN (a, (n : Int)) n = (a, (n : Int))) := Lib.hid (trim_self rfl hnet)
  have HA := Lib.hid ha
  clear h00 h0 h hnet
  go_enter Tryz.func78, Tryz.ntmps78
  go_wp2
  go_loopw [5, 6] (fun x i wr => ∃ k d : Nat, k ≤ n ∧ i = .int .i64 k ∧ x = ptrO (N (trimN (a, (n : Int)) k)) ∧ wr = (w.alloc (.cells #[.int .u32 a, .int .i64 n] 47)).drewN d) (fun _ i _ => n - (intOf i).toNat)
  case atStart => exact ⟨0, 0, by omega, rfl, H0.out.symm, rfl⟩
  case round =>
    obtain ⟨k, d, hk, rfl, rfl, rfl⟩ := hrel
    have hT := HT.out
    cases hN : N (trimN (a, (n : Int)) k) with
    | none =>
      rw [ptrO_none]
      have HR : Hid (N (a, (n : Int)) = none) := Lib.hid (by rw [← HE.out]; exact hT.none_up hN n hk)
      clear hN hT
      by_cases hlt : k < n
      all_goals
        go_wp2
        go_ret
        exact ⟨by rw [HR.out]; rfl, HB.out _⟩
    | some b =>
      rw [ptrO_some]
      obtain ⟨v, -, ⟨c0, c1, c2, c3⟩, f0, f1, f2, f3⟩ := hT.cells hN
      have hbl := hT.lt hN
      have hbn : ¬ b = w.heap.size := by omega
      by_cases hlt : k < n
      · have HS := Lib.hid (trim_step (a, (n : Int)) k (by omega))
        rcases bitI_01 a k with hb | hb
        · have HBit := Lib.hid hb
          have HS2 : Hid (trimN (a, (n : Int)) (k + 1) = halfP (trimN (a, (n : Int)) k)) := Lib.hid (by rw [HS.out]; simp [hb])
          clear hb hN hT HS
          have hk31 : k < 32 := by omega
          rw [← HS2.out] at c2
          go_wp2
          go_quiet ((go_at_call 79; exact quiet_add_left (bit_is _ HA.out hk31 HBit.out)))
          go_wp2
          go_roundw
          case rel => exact ⟨k + 1, _, by omega, by go_num, rfl, rfl⟩
          case measure => simp [intOf]; omega
        · have HBit := Lib.hid hb
          have HS2 : Hid (trimN (a, (n : Int)) (k + 1) = halfQ (trimN (a, (n : Int)) k)) := Lib.hid (by rw [HS.out]; simp [hb])
          clear hb hN hT HS
          have hk31 : k < 32 := by omega
          rw [← HS2.out] at c3
          go_wp2
          go_quiet ((go_at_call 79; exact quiet_add_left (bit_is _ HA.out hk31 HBit.out)))
          go_wp2
          go_roundw
          case rel => exact ⟨k + 1, _, by omega, by go_num, rfl, rfl⟩
          case measure => simp [intOf]; omega
      · obtain rfl : k = n := by omega
        have HR : Hid (N (a, (k : Int)) = some b) := Lib.hid (by rw [← HE.out]; exact hN)
        clear hN hT
        go_wp2
        go_ret
        exact ⟨by rw [HR.out]; rfl, HB.out _⟩
end Go.Proofs.YtgdlkjahlajcpaaGreatDoor
namespace Go.Proofs.YtgdlkjahlajcpaaGreatDoor
open Go.ChangeShapes Go.WideShapes Go.ChangeAt Go.RowKit
set_option linter.unusedVariables false
set_option linter.unusedSimpArgs false
theorem box1 {w w' : World} {o : Obj} (hb : Below (w.alloc o).heap.size (w.alloc o) w') : w'.heap[w.heap.size]? = some o :=
  below_block hb (by simp) (heap_alloc_new w o)
theorem below_1 (w : World) (o : Obj) : Below w.heap.size w (w.alloc o) := (Below.refl _ _).alloc (Nat.le_refl _) o
section
variable {w : World} {T B : Nat} {N : NM} {m : List (Nt × Int)} {a : Int}
theorem there_bad {n : Int} (ha : is32 a) (h : netF (a, n) ≠ 0) :
    Calls Tryz.prog 80 #[.pointer (some ⟨T, 0, none⟩), .agg #[.int .u32 a, .int .i64 n]] w fun e w' => e = .returned (.tuple #[.pointer none, .iface 35 (.int .i64 (netF (a, n)))]) ∧ Below w.heap.size w w' := by
  have HZ := Lib.hid h
  obtain ⟨h0, h1⟩ := ha
  clear h
  go_enter Tryz.func80, Tryz.ntmps80
  go_wp2_with (first
    | (go_at_call 77; (with_reducible refine (Check_bad _ h0 h1 HZ.out).mono ?_); rintro e w1 ⟨rfl, hb1⟩; have HB1 := Lib.hid ((below_1 w _).trans (hb1.mono (by simp))); clear hb1)
    | fail)
  go_ret2
  exact ⟨rfl, HB1.out⟩
theorem there_none {n : Nat} (h : Tri w T B N m) (ha : is32 a) (hF : netF (a, (n : Int)) = 0) (hl : look m (a, (n : Int)) = none) (hB : B ≤ w.heap.size) :
    Calls Tryz.prog 80 #[.pointer (some ⟨T, 0, none⟩), .agg #[.int .u32 a, .int .i64 n]] w fun e w' => e = .returned (.tuple #[.pointer none, .iface 35 (.int .i64 2)]) ∧ Below w.heap.size w w' := by
  have HZ := Lib.hid hF
  have HA := Lib.hid ha
  have hn : n ≤ 32 := by have := (netF_zero.1 hF).2.1; omega
  have HN := Lib.hid hn
  have HW : Hid (fl (lowI n) a = a) := Lib.hid (by simpa using (netF_zero.1 hF).2.2)
  obtain ⟨h0, h1⟩ := ha
  have HT := Lib.hid h
  have HL := Lib.hid hl
  clear h hF hl
  cases hN : N (a, (n : Int)) with
  | none =>
    have HP : Hid (ptrO (N (a, (n : Int))) = .pointer none) := Lib.hid (by rw [hN]; rfl)
    clear hN
    go_enter Tryz.func80, Tryz.ntmps80
    go_wp2_with fail
    go_at_call 77; (with_reducible refine (Check_ok _ h0 h1 HZ.out).mono ?_); rintro e w1 ⟨rfl, hb1⟩
    obtain ⟨d0, d1, _, _⟩ := row2 (box1 hb1)
    have HT1 := Lib.hid ((HT.out.alloc _).below hb1)
    have HB1 := Lib.hid ((below_1 w _).trans (hb1.mono (by simp)))
    have hz1 := HB1.out.size
    clear hb1
    go_wp2_with fail
    go_at_call 78; (with_reducible refine (at_any HT1.out HN.out HA.out (by omega) HW.out).mono ?_); rintro e w2 ⟨rfl, hb2⟩
    rw [HP.out]
    have HB2 := Lib.hid (HB1.out.trans (hb2.mono (by omega)))
    clear hb2
    go_wp2
    go_ret2
    exact ⟨rfl, HB2.out⟩
  | some b =>
    have HP : Hid (ptrO (N (a, (n : Int))) = .pointer (some ⟨b, 0, none⟩)) := Lib.hid (by rw [hN]; rfl)
    have HNb := Lib.hid hN
    clear hN
    go_enter Tryz.func80, Tryz.ntmps80
    go_wp2_with fail
    go_at_call 77; (with_reducible refine (Check_ok _ h0 h1 HZ.out).mono ?_); rintro e w1 ⟨rfl, hb1⟩
    obtain ⟨d0, d1, _, _⟩ := row2 (box1 hb1)
    have HT1 := Lib.hid ((HT.out.alloc _).below hb1)
    have HB1 := Lib.hid ((below_1 w _).trans (hb1.mono (by simp)))
    have hz1 := HB1.out.size
    clear hb1
    go_wp2_with fail
    go_at_call 78; (with_reducible refine (at_any HT1.out HN.out HA.out (by omega) HW.out).mono ?_); rintro e w2 ⟨rfl, hb2⟩
    rw [HP.out]
    have HT2 := Lib.hid (HT1.out.below hb2)
    obtain ⟨v, -, ⟨c0, -, -, -⟩, -⟩ := HT2.out.cells HNb.out
    rw [HL.out] at c0
    simp only [Option.isSome_none] at c0
    have HB2 := Lib.hid (HB1.out.trans (hb2.mono (by omega)))
    clear hb2
    go_wp2
    go_ret2
    exact ⟨rfl, HB2.out⟩
theorem there_some {n : Nat} {v : Int} (h : Tri w T B N m) (ha : is32 a) (hF : netF (a, (n : Int)) = 0) (hl : look m (a, (n : Int)) = some v) (hB : B ≤ w.heap.size) :
    Calls Tryz.prog 80 #[.pointer (some ⟨T, 0, none⟩), .agg #[.int .u32 a, .int .i64 n]] w fun e w' => ∃ b, N (a, (n : Int)) = some b ∧ e = .returned (.tuple #[.pointer (some ⟨b, 0, none⟩), .nilIface]) ∧ Below w.heap.size w w' := by
  have HZ := Lib.hid hF
  have HA := Lib.hid ha
  have hn : n ≤ 32 := by have := (netF_zero.1 hF).2.1; omega
  have HN := Lib.hid hn
  have HW : Hid (fl (lowI n) a = a) := Lib.hid (by simpa using (netF_zero.1 hF).2.2)
  obtain ⟨h0, h1⟩ := ha
  have HT := Lib.hid h
  have HL := Lib.hid hl
  obtain ⟨b, hN⟩ := Option.ne_none_iff_exists'.1 (h.has (a, (n : Int)) (by rw [hl]; simp))
  have HP : Hid (ptrO (N (a, (n : Int))) = .pointer (some ⟨b, 0, none⟩)) := Lib.hid (by rw [hN]; rfl)
  have HNb := Lib.hid hN
  clear h hF hl hN
  suffices hs : Calls Tryz.prog 80 #[.pointer (some ⟨T, 0, none⟩), .agg #[.int .u32 a, .int .i64 n]] w fun e w' => e = .returned (.tuple #[.pointer (some ⟨b, 0, none⟩), .nilIface]) ∧ Below w.heap.size w w' from
    hs.mono fun e w' hh => ⟨b, HNb.out, hh.1, hh.2⟩
  go_enter Tryz.func80, Tryz.ntmps80
  go_wp2_with fail
  go_at_call 77; (with_reducible refine (Check_ok _ h0 h1 HZ.out).mono ?_); rintro e w1 ⟨rfl, hb1⟩
  obtain ⟨d0, d1, _, _⟩ := row2 (box1 hb1)
  have HT1 := Lib.hid ((HT.out.alloc _).below hb1)
  have HB1 := Lib.hid ((below_1 w _).trans (hb1.mono (by simp)))
  have hz1 := HB1.out.size
  clear hb1
  go_wp2_with fail
  go_at_call 78; (with_reducible refine (at_any HT1.out HN.out HA.out (by omega) HW.out).mono ?_); rintro e w2 ⟨rfl, hb2⟩
  rw [HP.out]
  have HT2 := Lib.hid (HT1.out.below hb2)
  obtain ⟨u, -, ⟨c0, -, -, -⟩, -⟩ := HT2.out.cells HNb.out
  rw [HL.out] at c0
  simp only [Option.isSome_some] at c0
  have HB2 := Lib.hid (HB1.out.trans (hb2.mono (by omega)))
  clear hb2
  go_wp2
  go_ret2
  exact ⟨rfl, HB2.out⟩

/-! ### Get -/
theorem Get_bad {n : Int} (ha : is32 a) (h : netF (a, n) ≠ 0) :
    Calls Tryz.prog 53 #[.pointer (some ⟨T, 0, none⟩), .agg #[.int .u32 a, .int .i64 n]] w fun e w' => e = .returned (.tuple #[.int .i64 0, .iface 35 (.int .i64 (netF (a, n)))]) ∧ Below w.heap.size w w' := by
  have HZ := Lib.hid h
  have HA := Lib.hid ha
  clear h
  go_enter Tryz.func53, Tryz.ntmps53
  go_wp2_with fail
  go_at_call 80; (with_reducible refine (there_bad HA.out HZ.out).mono ?_); rintro e w1 ⟨rfl, hb1⟩
  have HB1 := Lib.hid ((below_1 w _).trans (hb1.mono (by simp)))
  clear hb1
  go_wp2
  go_ret2
  exact ⟨rfl, HB1.out⟩
theorem Get_none {n : Nat} (h : Tri w T B N m) (ha : is32 a) (hF : netF (a, (n : Int)) = 0) (hl : look m (a, (n : Int)) = none) (hB : B ≤ w.heap.size) :
    Calls Tryz.prog 53 #[.pointer (some ⟨T, 0, none⟩), .agg #[.int .u32 a, .int .i64 n]] w fun e w' => e = .returned (.tuple #[.int .i64 0, .iface 35 (.int .i64 2)]) ∧ Below w.heap.size w w' := by
  have HZ := Lib.hid hF
  have HA := Lib.hid ha
  have HL := Lib.hid hl
  have HT := Lib.hid h
  clear h hF hl
  go_enter Tryz.func53, Tryz.ntmps53
  go_wp2_with fail
  go_at_call 80; (with_reducible refine (there_none (HT.out.alloc _) HA.out HZ.out HL.out (by simp; omega)).mono ?_); rintro e w1 ⟨rfl, hb1⟩
  have HB1 := Lib.hid ((below_1 w _).trans (hb1.mono (by simp)))
  clear hb1
  go_wp2
  go_ret2
  exact ⟨rfl, HB1.out⟩
theorem Get_some {n : Nat} {v : Int} (h : Tri w T B N m) (ha : is32 a) (hF : netF (a, (n : Int)) = 0) (hl : look m (a, (n : Int)) = some v) (hB : B ≤ w.heap.size) :
    Calls Tryz.prog 53 #[.pointer (some ⟨T, 0, none⟩), .agg #[.int .u32 a, .int .i64 n]] w fun e w' => e = .returned (.tuple #[.int .i64 v, .nilIface]) ∧ Below w.heap.size w w' := by
  have HZ := Lib.hid hF
  have HA := Lib.hid ha
  have HL := Lib.hid hl
  have HT := Lib.hid h
  clear h hF hl
  go_enter Tryz.func53, Tryz.ntmps53
  go_wp2_with fail
  go_at_call 80; (with_reducible refine (there_some (HT.out.alloc _) HA.out HZ.out HL.out (by simp; omega)).mono ?_); rintro e w1 ⟨b, hN, rfl, hb1⟩
  obtain ⟨u, hu, ⟨-, c1, -, -⟩, -⟩ := ((HT.out.alloc _).below hb1).cells hN
  obtain rfl := hu v HL.out
  have HB1 := Lib.hid ((below_1 w _).trans (hb1.mono (by simp)))
  clear hb1 hN hu
  go_wp2
  go_ret2
  exact ⟨rfl, HB1.out⟩

/-! ### Drop -/
theorem Drop_bad {n : Int} (ha : is32 a) (h : netF (a, n) ≠ 0) :
    Calls Tryz.prog 49 #[.pointer (some ⟨T, 0, none⟩), .agg #[.int .u32 a, .int .i64 n]] w fun e w' => e = .returned (.iface 35 (.int .i64 (netF (a, n)))) ∧ Below w.heap.size w w' := by
  have HZ := Lib.hid h
  have HA := Lib.hid ha
  clear h
  go_enter Tryz.func49, Tryz.ntmps49
  go_wp2_with fail
  go_at_call 80; (with_reducible refine (there_bad HA.out HZ.out).mono ?_); rintro e w1 ⟨rfl, hb1⟩
  have HB1 := Lib.hid ((below_1 w _).trans (hb1.mono (by simp)))
  clear hb1
  go_wp2
  go_ret
  exact ⟨rfl, HB1.out⟩
theorem Drop_none {n : Nat} (h : Tri w T B N m) (ha : is32 a) (hF : netF (a, (n : Int)) = 0) (hl : look m (a, (n : Int)) = none) (hB : B ≤ w.heap.size) :
    Calls Tryz.prog 49 #[.pointer (some ⟨T, 0, none⟩), .agg #[.int .u32 a, .int .i64 n]] w fun e w' => e = .returned (.iface 35 (.int .i64 2)) ∧ Below w.heap.size w w' := by
  have HZ := Lib.hid hF
  have HA := Lib.hid ha
  have HL := Lib.hid hl
  have HT := Lib.hid h
  clear h hF hl
  go_enter Tryz.func49, Tryz.ntmps49
  go_wp2_with fail
  go_at_call 80; (with_reducible refine (there_none (HT.out.alloc _) HA.out HZ.out HL.out (by simp; omega)).mono ?_); rintro e w1 ⟨rfl, hb1⟩
  have HB1 := Lib.hid ((below_1 w _).trans (hb1.mono (by simp)))
  clear hb1
  go_wp2
  go_ret
  exact ⟨rfl, HB1.out⟩
theorem Keeps.of_below {w' : World} (hb : Below w.heap.size w w') (hB : B ≤ w.heap.size) : Keeps B N w w' := ⟨hb.mono hB, fun g hg _ => hb.block g hg⟩
theorem Keeps.trans {w1 w2 : World} (h : Keeps B N w w1) (k : Keeps B N w1 w2) : Keeps B N w w2 :=
  ⟨h.bel.trans k.bel, fun g hg hn => (k.oth g (Nat.lt_of_lt_of_le hg h.bel.size) hn).trans (h.oth g hg hn)⟩
theorem Keeps.setCell {w1 : World} (h : Keeps B N w w1) {x : Nt} {b o : Nat} (hx : N x = some b) (hb : B ≤ b) (u : Value) : Keeps B N w (w1.setCell ⟨b, o, none⟩ u) :=
  ⟨h.bel.setCell hb u, fun g hg hn => (heap_setCell_other _ _ _ _ (fun e => hn x (by rw [hx, e]))).trans (h.oth g hg hn)⟩
theorem Drop_some {n : Nat} {v : Int} (h : Tri w T B N m) (ha : is32 a) (hF : netF (a, (n : Int)) = 0) (hl : look m (a, (n : Int)) = some v) (hB : B ≤ w.heap.size) :
    Calls Tryz.prog 49 #[.pointer (some ⟨T, 0, none⟩), .agg #[.int .u32 a, .int .i64 n]] w fun e w' => e = .returned .nilIface ∧ Tri w' T B N (delM m (a, (n : Int))) ∧ Keeps B N w w' := by
  have HZ := Lib.hid hF
  have HA := Lib.hid ha
  have HL := Lib.hid hl
  have HT := Lib.hid h
  have HLen : Hid (((delM m (a, (n : Int))).length : Int) = (m.length : Int) - 1) := Lib.hid (by
    have := del_length h.ok.nodup (x := (a, (n : Int))) (by rw [hl]; simp); omega)
  have hml : m.length ≤ 64 := h.ok.len
  have hBr := Lib.hid hB
  clear h hF hl
  go_enter Tryz.func49, Tryz.ntmps49
  go_wp2_with fail
  go_at_call 80; (with_reducible refine (there_some (HT.out.alloc _) HA.out HZ.out HL.out (by simp; omega)).mono ?_); rintro e w1 ⟨b, hN, rfl, hb1⟩
  have hT1 := (HT.out.alloc _).below hb1
  obtain ⟨u, hu, ⟨c0, c1, -, -⟩, f0, -⟩ := hT1.cells hN
  obtain ⟨g4, k4⟩ := hT1.top
  have HT1 := Lib.hid hT1
  have HK1 : Hid (Keeps B N w w1) := Lib.hid (Keeps.of_below ((below_1 w _).trans (hb1.mono (by simp))) hBr.out)
  have HN := Lib.hid hN
  clear hb1 hN hu hT1
  go_wp2
  go_ret
  rw [← HLen.out]
  exact ⟨rfl, HT1.out.dropped HN.out (HT1.out.ok.del _) (fun y hy => by rw [look_del, if_neg hy]) (by rw [look_del, if_pos rfl]), (HK1.out.setCell HN.out (HT1.out.base _ _ HN.out) _).setCell HT1.out.root (HT1.out.base _ _ HT1.out.root) _⟩
end
end Go.Proofs.YtgdlkjahlajcpaaGreatDoor
