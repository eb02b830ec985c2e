/- A block of two cells of the call's own: what it reads as, behind calls and behind stores. What strings.Split, Join, Cut and strconv.Itoa, Atoi tell, at worlds that hold the library's tables; addr.Text. What the rows' listed variables give the walks over texts. Masks: how long a number is in bits; what mask.Mask and mask.Len tell. Nets: what pref.Check and the reference's NetFault tell; masks in plain numbers. -/
import Derived.Test.YtgdlkjahlajcpaaGreatDoorKB
import Derived.Test.YtgdlkjahlajcpaaGreatDoorKA
import Derived.Test.YtgdlkjahlajcpaaGreatDoorKC
import Derived.Lib.SmallJoins
import Derived.Lib.AppendIntMem
import Derived.LaidSub
import Derived.MakeChecks
import Derived.Stop.LaidErr
import Derived.Lay
import Derived.Lib.BitFns
import Derived.Lib.Walk
import Derived.Lib.Tables
namespace Go.Proofs.YtgdlkjahlajcpaaGreatDoor
open Go.ChangeShapes Go.WideShapes Go.ChangeAt Go.RowKit
theorem size_of_block {w : World} {g : Nat} {o : Obj} (h : w.heap[g]? = some o) : g < w.heap.size := by
  rcases Nat.lt_or_ge g w.heap.size with h' | h'
  · exact h'
  · rw [Array.getElem?_eq_none h'] at h; cases h
theorem row2 {w : World} {R : Nat} {v0 v1 : Value} {t : TypeId} (h : w.heap[R]? = some (.cells #[v0, v1] t (0, 0))) :
    w.cell? ⟨R, 0, none⟩ = some v0 ∧ w.cell? ⟨R, 1, none⟩ = some v1 ∧ w.frozen? ⟨R, 0, none⟩ = false ∧ w.frozen? ⟨R, 1, none⟩ = false := by
  refine ⟨?_, ?_, frozen_of_row _ R _ _ _ h, frozen_of_row _ R _ _ _ h⟩ <;> rw [cell_of_row _ R _ _ _ (0, 0) h] <;> rfl
theorem set2_block {w : World} {R : Nat} {c0 c1 : Value} (v0 v1 : Value) {t : TypeId} (h : w.heap[R]? = some (.cells #[c0, c1] t (0, 0))) :
    ((w.setCell ⟨R, 0, none⟩ v0).setCell ⟨R, 1, none⟩ v1).heap[R]? = some (.cells #[v0, v1] t (0, 0)) :=
  heap_setCell_same _ R 1 _ _ v1 (heap_setCell_same w R 0 _ _ v0 h)
theorem below_block {B : Nat} {w w' : World} {g : Nat} {o : Obj} (hb : Below B w w') (hg : g < B) (h : w.heap[g]? = some o) : w'.heap[g]? = some o := (hb.block _ hg).trans h
/-- behind two boxes: the second one -/
theorem box2 {w w' : World} {o1 o2 : Obj} (hb : Below ((w.alloc o1).alloc o2).heap.size ((w.alloc o1).alloc o2) w') : w'.heap[w.heap.size]? = some o1 ∧ w'.heap[w.heap.size + 1]? = some o2 := by
  have h2 := heap_alloc_new (w.alloc o1) o2
  rw [World.size_alloc] at h2
  exact ⟨below_block hb (by simp; omega) ((((Below.refl (w.heap.size + 1) (w.alloc o1)).alloc (by simp) o2).block w.heap.size (by omega)).trans (heap_alloc_new w o1)), below_block hb (by simp) h2⟩
theorem box3 {w w' : World} {o1 o2 o3 : Obj} (hb : Below (((w.alloc o1).alloc o2).alloc o3).heap.size (((w.alloc o1).alloc o2).alloc o3) w') : w'.heap[w.heap.size]? = some o1 ∧ w'.heap[w.heap.size + 1]? = some o2 ∧ w'.heap[w.heap.size + 2]? = some o3 := by
  have hb2 : Below ((w.alloc o1).alloc o2).heap.size ((w.alloc o1).alloc o2) w' := ((Below.refl _ _).alloc (Nat.le_refl _) o3).trans (hb.mono (by simp))
  have h3 := heap_alloc_new ((w.alloc o1).alloc o2) o3
  rw [World.size_alloc, World.size_alloc] at h3
  exact ⟨(box2 hb2).1, (box2 hb2).2, below_block hb (by simp) h3⟩
/-- a row of the call's own lies on behind what only makes new blocks -/
theorem own_below {w w' : World} {base : Nat} {e : TypeId} {size : Nat} {v : Value} {n : Nat} {xs : List Value} (h : w.ownsRow base e size v n xs) (hb : Below w.heap.size w w') : w'.ownsRow base e size v n xs :=
  h.kept (row := none) ⟨hb.os, hb.tape, hb.output, hb.size, fun k hk _ => hb.block k hk⟩ (by cases v.ownBlock with
    | none => exact .inl rfl
    | some g => exact .inr (by simp))
/-- a row of the call's own that is not empty: where it lies, and its cells -/
theorem own_pos {w : World} {base : Nat} {e : TypeId} {size : Nat} {v : Value} {n : Nat} {xs : List Value} (h : w.ownsRow base e size v n xs) (hn : 0 < n) :
    ∃ g cap, v = .slice (some ⟨g, 0, none⟩) n cap ∧ base ≤ g ∧ g < w.heap.size ∧ n ≤ cap ∧ ∀ j u, xs[j]? = some u → w.cell? ⟨g, 0 + j, none⟩ = some u := by
  have h' := h
  rcases h'.2 with ⟨_, e2⟩ | ⟨g, cap, cur, e1, hg, hb, hc, _, _, _⟩
  · omega
  · subst e1
    refine ⟨g, cap, rfl, hg, size_of_block hb, hc, fun j u hu => ?_⟩
    have := h.cells (g := g) rfl j u hu
    rwa [addr_add] at this
end Go.Proofs.YtgdlkjahlajcpaaGreatDoor
namespace Go.Proofs.YtgdlkjahlajcpaaGreatDoor
open Go.ChangeShapes Go.WideShapes Go.ChangeAt Go.RowKit
set_option linter.unusedVariables false
set_option linter.unusedSimpArgs false

/-- what a world must hold for texts to be read and written -/
structure HStr (w : World) : Prop where
  tab : Lib.TabIs Tryz.prog w "internal/strconv.uint64pow10" .u64 Lib.pow10Tab
  mx : ∃ m, w.cell? ⟨0, 0, none⟩ = some (.int .i64 m)
  syn : ∃ t p, w.var? Tryz.prog "strconv.ErrSyntax" = some #[.iface t p]
  rng : ∃ t p, w.var? Tryz.prog "strconv.ErrRange" = some #[.iface t p]
theorem block_of_cell {w : World} {p : Addr} {v : Value} (h : w.cell? p = some v) : p.block < w.heap.size := by
  rcases Nat.lt_or_ge p.block w.heap.size with h' | h'
  · exact h'
  · simp [World.cell?, Array.getElem?_eq_none h'] at h
theorem HStr.below {B : Nat} {w w' : World} (h : HStr w) (hb : Below B w w') (hB : w.heap.size ≤ B) : HStr w' := by
  obtain ⟨m, hm⟩ := h.mx
  obtain ⟨t, p, hs⟩ := h.syn
  obtain ⟨t', p', hr⟩ := h.rng
  exact ⟨Joins.tab_stays (by kernel_rfl : Tryz.prog.globalNamed "internal/strconv.uint64pow10" = some 5) h.tab hb hB, ⟨m, (hb.cell (Nat.lt_of_lt_of_le (block_of_cell hm) hB)).trans hm⟩,
    ⟨t, p, Joins.var_stays (by kernel_rfl : Tryz.prog.globalNamed "strconv.ErrSyntax" = some 3) hs hb hB⟩, ⟨t', p', Joins.var_stays (by kernel_rfl : Tryz.prog.globalNamed "strconv.ErrRange" = some 4) hr hb hB⟩⟩
theorem HStr.on {w w' : World} (h : HStr w) (hb : Below w.heap.size w w') : HStr w' := h.below hb (Nat.le_refl _)
theorem HStr.alloc {w : World} (h : HStr w) (o : Obj) : HStr (w.alloc o) := h.on ((Below.refl _ _).alloc (Nat.le_refl _) o)
theorem HStr.drewN {w : World} (h : HStr w) (k : Nat) : HStr (w.drewN k) := h.on (below_drewN (Below.refl _ _) k)

abbrev strV (l : List UInt8) : Value := .string ⟨l.toArray⟩
theorem str_info : (Tryz.prog.info? 9).map (fun i => (i.zero, i.size, i.bytes)) = some (some (.string .empty), 1, 16) := by kernel_rfl
theorem size_data (s : ByteArray) : s.data.toList.length = s.size := by rw [Array.length_toList]; rfl
theorem str_data (s : ByteArray) : (⟨s.data.toList.toArray⟩ : ByteArray) = s := rfl

theorem Itoa_n (n : Nat) (w : World) (h : HStr w) (hn : n ≤ 9223372036854775807) :
    Calls Tryz.prog 51 #[.int .i64 n] w fun e w' => e = .returned (strV (dd n)) ∧ Below w.heap.size w w' :=
  (Tryz.strconv_Itoa n (by omega) (by omega) w h.tab).mono fun e w' ⟨he, k, os, hw⟩ => ⟨by rw [he, itoa_dd], by rw [hw]; exact Lib.below_grow _ w (Nat.le_refl _) k os⟩
theorem Atoi_ok (s : ByteArray) (v : Int) (w : World) (hs : s.size ≤ 1099511627776) (h : Lib.atoiAll s.data.toList = .ok v) :
    Calls Tryz.prog 76 #[.string s] w fun e w' => e = .returned (.tuple #[.int .i64 v, .nilIface]) ∧ Below w.heap.size w w' :=
  (Tryz.strconv_Atoi_ok s (by omega) v h w).mono fun e w' ⟨he, hw⟩ => ⟨he, by rcases hw with rfl | ⟨t, rfl⟩; exact Below.refl _ _; exact Lib.bytesWorld_below w _ t⟩
theorem Atoi_bad (s : ByteArray) (w : World) (hw : HStr w) (hs : s.size ≤ 1099511627776) (h : ∀ v, Lib.atoiAll s.data.toList ≠ .ok v) :
    Calls Tryz.prog 76 #[.string s] w fun e w' => ∃ v t p, e = .returned (.tuple #[.int .i64 v, .iface t p]) ∧ Below w.heap.size w w' := by
  obtain ⟨t, p, h1⟩ := hw.syn
  obtain ⟨t', p', h2⟩ := hw.rng
  have key : ∀ r : Lib.NumEnd Int, Lib.atoiAll s.data.toList = r → Calls Tryz.prog 76 #[.string s] w fun e w' => ∃ v t p, e = .returned (.tuple #[.int .i64 v, .iface t p]) ∧ Below w.heap.size w w' := by
    intro r e
    cases r
    · exact absurd e (h _)
    · exact (Any.strconv_Atoi_syntax_var Tryz.laysC172 s (by omega) e t p w h1).mono fun e w' ⟨N, he, _, _, hb⟩ => ⟨_, _, _, he, hb⟩
    · exact (Any.strconv_Atoi_range_var Tryz.laysC172 s (by omega) e t' p' w h2).mono fun e w' ⟨N, he, _, _, hb⟩ => ⟨_, _, _, he, hb⟩
  exact key _ rfl
/-- strings.Split at a byte: pieces that read so -/
theorem Split_c (c : UInt8) (s : ByteArray) (w : World) (h : HStr w) (hs : s.size ≤ 2097152) :
    Calls Tryz.prog 9 #[.string s, .string ⟨#[c]⟩] w fun e w' => ∃ L : List ByteArray, L.map (·.data.toList) = segs c s.data.toList ∧ e = .returned (.slice (some ⟨w.heap.size, 0, none⟩) L.length L.length) ∧ w' = w.alloc (.cells (L.map Value.string).toArray 9) := by
  obtain ⟨m, hm⟩ := h.mx
  refine (Tryz.strings_Split s ⟨#[c]⟩ m w (by omega) hm (Nat.le_refl 1)).mono fun e w' ⟨he, hw⟩ => ⟨_, splitB_segs c s, ?_, hw⟩
  have h1 : 1 ≤ (⟨#[c]⟩ : ByteArray).size := Nat.le_refl 1
  have h2 := Lib.splitB_all ⟨#[c]⟩ h1 0 _ s rfl
  rw [he, h2]
theorem Cut_c (c : UInt8) (s : ByteArray) (w : World) (h : HStr w) (hs : s.size ≤ 2097152) :
    Calls Tryz.prog 101 #[.string s, .string ⟨#[c]⟩] w fun e w' => e = .returned (.tuple #[strV (Lib.cut s.data.toList [c]).1, strV (Lib.cut s.data.toList [c]).2.1, .bool (Lib.cut s.data.toList [c]).2.2]) ∧ Below w.heap.size w w' := by
  obtain ⟨m, hm⟩ := h.mx
  exact (Tryz.strings_Cut s ⟨#[c]⟩ m w (by omega) hm).mono fun e w' ⟨he, n, hw⟩ => ⟨he, by rw [hw]; exact below_drewN (Below.refl _ _) n⟩

/-! ### addr.Text -/
def quads (a : Nat) : List Nat := [a / 16777216, a / 65536 % 256, a / 256 % 256, a % 256]
def quadV (a k : Nat) : List Value := ((quads a).take k).map fun n => strV (dd n)
theorem and_255 (n : Nat) (h : n < 4294967296) : bits .and .u32 (n : Int) 255 = ((n % 256 : Nat) : Int) := by
  have := u32_and_nat n 255 (by omega) (by omega)
  rw [show ((255 : Nat) : Int) = 255 from rfl] at this
  rw [this, show (255 : Nat) = 2 ^ 8 - 1 from by decide, Nat.and_two_pow_sub_one_eq_mod]
/-- what is written at round k -/
theorem quad_at (a : Nat) (ha : a < 4294967296) : ∀ k : Nat, k < 4 → ∃ n : Nat, n < 256 ∧ (quads a)[k]? = some n ∧ bits .and .u32 ((a : Int) / 2 ^ (24 - 8 * k)) 255 = (n : Int) := by
  intro k hk
  have e : ∀ m : Nat, ((a : Int) / 2 ^ m) = ((a / 2 ^ m : Nat) : Int) := fun m => by simp
  rw [e, and_255 _ (Nat.lt_of_le_of_lt (Nat.div_le_self _ _) ha)]
  match k, hk with
  | 0, _ => exact ⟨_, Nat.mod_lt _ (by omega), by simp [quads]; omega, rfl⟩
  | 1, _ => exact ⟨_, Nat.mod_lt _ (by omega), by simp [quads], rfl⟩
  | 2, _ => exact ⟨_, Nat.mod_lt _ (by omega), by simp [quads], rfl⟩
  | 3, _ => exact ⟨_, Nat.mod_lt _ (by omega), by simp [quads], rfl⟩
theorem quadV_succ {a k n : Nat} (h : (quads a)[k]? = some n) : quadV a (k + 1) = quadV a k ++ [strV (dd n)] := by
  unfold quadV
  rw [List.take_add_one, h, List.map_append]; rfl
theorem quadV_length {a k : Nat} (hk : k ≤ 4) : (quadV a k).length = k := by unfold quadV quads; simp; omega
theorem quad_join (a : Nat) : Lib.join ((quads a).map fun n => dd n) [46] = addrT a := join_addr a

set_option maxRecDepth 100000 in
set_option maxHeartbeats 1000000 in
theorem Text_any (a : Nat) (w : World) (hw : HStr w) (ha : a < 4294967296) :
    Calls Tryz.prog 84 #[.int .u32 a] w fun e w' => e = .returned (strV (addrT a)) ∧ Below w.heap.size w w' := by
  have HQ := Lib.hid (quad_at a ha)
  have HW := Lib.hid hw
  obtain ⟨i0, hi, hz0, hz1, hz2⟩ := info_parts str_info
  have a0 : (0 : Int) ≤ (a : Int) := by omega
  have a1 : (a : Int) ≤ 4294967295 := by omega
  clear hw
  go_enter Tryz.func84, Tryz.ntmps84
  go_wp2
  go_loopw [3, 4] (fun v s wr => ∃ k : Nat, k ≤ 4 ∧ s = .int .i64 (24 - 8 * (k : Int)) ∧ wr.ownsRow w.heap.size 9 1 v k (quadV a k) ∧ Below w.heap.size w wr) (fun _ s _ => (intOf s + 8).toNat)
  case atStart => exact ⟨0, by omega, rfl, World.ownsRow_nil _ _ _ _, Below.refl _ _⟩
  case round =>
    obtain ⟨k, hk, rfl, hown, hbel⟩ := hrel
    by_cases hlt : k < 4
    · obtain ⟨n, hn, hq, hb⟩ := HQ.out k hlt
      have hsz := hbel.size
      have HQK := Lib.hid (quadV_succ hq)
      have HB : Hid (wrap64 (bits .and .u32 ((a : Int) / 2 ^ (24 - 8 * k)) 255) = (n : Int)) := Lib.hid (by rw [hb]; exact IntWalk.wrap64_in _ ⟨by omega, by omega⟩)
      have HBEL := Lib.hid hbel
      clear hq hb hbel
      go_wp2_with (first
        | (go_at_call 51; rw [HB.out]; (with_reducible refine (Itoa_n n _ (HW.out.below HBEL.out (Nat.le_refl _)) (by omega)).mono ?_); rintro e w1 ⟨rfl, hb1⟩; have zw1 := hb1.size; have hown1 := own_below hown hb1; have HB1 := Lib.hid (HBEL.out.trans (hb1.mono hsz)); clear hb1)
        | (at_builtin; refine wpList_append_own _ rfl _ _ 23 rfl w.heap.size 9 i0 (.string .empty) 1 16 Tryz.underlying23 hi hz0 hz1 hz2 rfl (by decide) _ _ _ rfl (hown1.alloc _) ⟨w1.heap.size, 0, none⟩ 1 1 [strV (dd n)] rfl rfl ?c1 ?c2 ?c3 ?c4 ?c5 ?_)
        | fail)
      case c1 => intro j u hu; match j, hu with
        | 0, hu => simp only [List.getElem?_cons_zero, Option.some.injEq] at hu; subst hu; rw [addr_add]; simp
      case c2 => intro u hu; simp only [List.mem_cons, List.not_mem_nil, or_false] at hu; subst hu; rfl
      case c3 => unfold maxLen; omega
      case c4 => omega
      case c5 => simp; omega
      intro v' w2 hown2 hgrow _
      have hb2 : Below w.heap.size w w2 := below_grown (HB1.out.alloc (by omega) _) (hown1.alloc _) hgrow (Nat.le_refl _) (by simp; omega)
      rw [← HQK.out] at hown2
      have HB2 := Lib.hid hb2
      clear hb2 hown hgrow
      go_wp2
      exact ⟨⟨k + 1, by omega, by go_num, hown2, HB2.out⟩, by simp [intOf]; omega⟩
    · have : k = 4 := by omega
      subst this
      obtain ⟨g, cap, rfl, hg, hgs, hnc, hcells⟩ := own_pos hown (by omega)
      have HC : Hid (∀ (j : Nat) x, ((quads a).map fun n => (⟨(dd n).toArray⟩ : ByteArray))[j]? = some x → wr.cell? ⟨g, 0 + j, none⟩ = some (.string x)) := Lib.hid (fun j x hx => hcells j _ (by
        have e : quadV a 4 = ((quads a).map fun n => (⟨(dd n).toArray⟩ : ByteArray)).map Value.string := by unfold quadV quads; simp
        rw [e, List.getElem?_map, hx]; rfl))
      have HJ : Hid (Lib.join (((quads a).map fun n => (⟨(dd n).toArray⟩ : ByteArray)).map (·.data.toList)) [46] = addrT a) := Lib.hid (by rw [← quad_join]; simp [List.map_map, Function.comp_def])
      have hlen := addrT_length a ha
      have HL : Hid ((Lib.join (((quads a).map fun n => (⟨(dd n).toArray⟩ : ByteArray)).map (·.data.toList)) [46]).length ≤ 140737488355328) := Lib.hid (by rw [HJ.out]; omega)
      have HJC : Hid (Calls Tryz.prog 85 #[.slice (some ⟨g, 0, none⟩) 4 cap, .string ⟨#[46]⟩] wr fun e w' => e = .returned (strV (addrT a)) ∧ Below wr.heap.size wr w') := Lib.hid
        ((Tryz.strings_Join g 0 cap ((quads a).map fun n => (⟨(dd n).toArray⟩ : ByteArray)) ⟨#[46]⟩ wr HC.out hgs (by simp [quads]) (by simpa [quads] using hnc) HL.out).mono fun e w' ⟨he, hb⟩ => ⟨by rw [he, HJ.out], hb⟩)
      have HBEL := Lib.hid hbel
      have hsz := hbel.size
      clear hcells hlen hown hbel
      go_wp2_with (first
        | (go_at_call 85; refine HJC.out.mono ?_; rintro e w3 ⟨rfl, hb3⟩; have HB3 := Lib.hid (HBEL.out.trans (hb3.mono hsz)); clear hb3)
        | fail)
      go_ret
      exact ⟨rfl, HB3.out⟩
end Go.Proofs.YtgdlkjahlajcpaaGreatDoor
namespace Go.Proofs.YtgdlkjahlajcpaaGreatDoor
open Go.ChangeShapes Go.WideShapes Go.RowKit
theorem E.star : "*" ++ "errors.errorString" = "*errors.errorString" := by decide
theorem E.rowES (u : TypeId) (h : Tryz.prog.typeName? 3 u = some "*errors.errorString") : u = 193 :=
  typeName_ptr_named (nm := "errors.errorString") (by rw [E.star]; kernel_rfl) (by kernel_rfl) (by decide) u (by rw [E.star]; exact h)
theorem E.cellsES : Tryz.prog.cellsOf 195 = 1 := by kernel_rfl
theorem E.cellsStr : Tryz.prog.cellsOf 9 = 1 := by kernel_rfl
theorem sentinel_of {n : String} {text : List UInt8} {W : World} {g : Nat} (hg : Tryz.prog.globalNamed n = some g) (ht : (Tryz.prog.globals[g]?).map (·.type) = some 94)
    (h : laidMet Tryz.prog [(n, .iface "*errors.errorString" (.ptr (.agg [.lit (.string text)])))] W) : ∃ t p, W.var? Tryz.prog n = some #[.iface t p] := by
  obtain ⟨a, s, hv, _⟩ := laid_sentinel h hg ht Tryz.underlying94 E.rowES Tryz.underlying193 Tryz.underlying195 rfl rfl Tryz.underlying9 E.cellsES E.cellsStr
  exact ⟨_, _, hv⟩
theorem hstr_of_laid {W : World} {l : List (String × DataW Unit)} {t1 t2 : List UInt8} (h : laidMetH Tryz.prog l W) (hS : W.ShapedOpen Tryz.prog) (hp : (l.all fun x => x.2.handleName?.isNone) = true)
    (h1 : (l.filter fun x => x.1 == "internal/strconv.uint64pow10") = [("internal/strconv.uint64pow10", Lib.tabData .u64 Lib.pow10Tab)])
    (h2 : (l.filter fun x => x.1 == "strconv.ErrSyntax") = [("strconv.ErrSyntax", .iface "*errors.errorString" (.ptr (.agg [.lit (.string t1)])))])
    (h3 : (l.filter fun x => x.1 == "strconv.ErrRange") = [("strconv.ErrRange", .iface "*errors.errorString" (.ptr (.agg [.lit (.string t2)])))]) : HStr W := by
  rw [MakeChecks.laidMetH_plain _ _ _ hp] at h
  have f1 := h.filter (fun x => x.1 == "internal/strconv.uint64pow10")
  have f2 := h.filter (fun x => x.1 == "strconv.ErrSyntax")
  have f3 := h.filter (fun x => x.1 == "strconv.ErrRange")
  rw [h1] at f1
  rw [h2] at f2
  rw [h3] at f3
  exact ⟨Lib.tabIs_of_head (by kernel_rfl : Tryz.prog.globalNamed "internal/strconv.uint64pow10" = some 5) (by kernel_rfl) Tryz.underlying178 Tryz.underlying137 (by kernel_rfl) (by kernel_rfl) f1,
    Tryz.laysM145.s1_3 W hS,
    sentinel_of (by kernel_rfl : Tryz.prog.globalNamed "strconv.ErrSyntax" = some 3) (by kernel_rfl) f2,
    sentinel_of (by kernel_rfl : Tryz.prog.globalNamed "strconv.ErrRange" = some 4) (by kernel_rfl) f3⟩
end Go.Proofs.YtgdlkjahlajcpaaGreatDoor
namespace Go.Proofs.YtgdlkjahlajcpaaGreatDoor
open Go.ChangeShapes Go.WideShapes Go.ChangeAt Go.RowKit
set_option linter.unusedVariables false

/-- how many bits a number takes -/
def blen (n : Nat) : Nat := if n = 0 then 0 else n.log2 + 1
theorem blen_zero : blen 0 = 0 := rfl
theorem blen_lt {n k : Nat} : blen n ≤ k ↔ n < 2 ^ k := by
  unfold blen
  split
  · rename_i h; subst h; simp; exact Nat.pow_pos (by omega)
  · rename_i h
    rw [Nat.add_one_le_iff, Nat.log2_lt h]
theorem blen_eq {n k : Nat} (h1 : n < 2 ^ k) (h2 : k = 0 ∨ 2 ^ (k - 1) ≤ n) : blen n = k := by
  have a := blen_lt.2 h1
  rcases h2 with rfl | h2
  · omega
  · rcases Nat.lt_or_ge (blen n) k with h | h
    · have := (blen_lt (n := n) (k := k - 1)).1 (by omega)
      omega
    · omega
theorem blen_spec (n : Nat) : n < 2 ^ blen n ∧ (blen n = 0 ∨ 2 ^ (blen n - 1) ≤ n) := by
  refine ⟨blen_lt.1 (Nat.le_refl _), ?_⟩
  rcases Nat.eq_zero_or_pos (blen n) with h | h
  · exact .inl h
  · refine .inr ?_
    rcases Nat.lt_or_ge n (2 ^ (blen n - 1)) with h' | h'
    · have := blen_lt.2 h'; omega
    · exact h'
theorem blen_div (n s : Nat) (h : 2 ^ s ≤ n) : blen n = blen (n / 2 ^ s) + s := by
  obtain ⟨a, b⟩ := blen_spec (n / 2 ^ s)
  have hp : 0 < 2 ^ s := Nat.pow_pos (by omega)
  have hd : 0 < n / 2 ^ s := Nat.div_pos h hp
  have h0 : blen (n / 2 ^ s) ≠ 0 := fun e => by rw [e] at a; omega
  refine blen_eq ?_ (.inr ?_)
  · rw [Nat.pow_add]; exact Nat.lt_mul_of_div_lt a hp
  · have hb := b.resolve_left h0
    have e : blen (n / 2 ^ s) + s - 1 = (blen (n / 2 ^ s) - 1) + s := by omega
    rw [e, Nat.pow_add]
    exact (Nat.le_div_iff_mul_le hp).1 hb

theorem len8_blen : ∀ n : Fin 256, Lib.len8 (n.val : Int) = (blen n.val : Int) := by decide +kernel
theorem blen_le8 (n : Nat) (h : n ≤ 255) : blen n ≤ 8 := blen_lt.2 (by omega)
theorem len8_at (n : Nat) (h : n ≤ 255) : Lib.len8 (n : Int) = (blen n : Int) := len8_blen ⟨n, by omega⟩

set_option maxHeartbeats 1000000 in
set_option maxRecDepth 100000 in
theorem Len32_A (x v : Int) (w : World) (x0 : 0 ≤ x) (x1 : x ≤ 4294967295) (x2 : (65536 : Int) ≤ x) (x3 : (256 : Int) ≤ x / 65536) (y0 : 0 ≤ x / 65536 / 256) (y1 : x / 65536 / 256 ≤ 255) (l0 : 0 ≤ Lib.len8 (x / 65536 / 256)) (l1 : Lib.len8 (x / 65536 / 256) ≤ 8) (hv : 24 + Lib.len8 (x / 65536 / 256) = v) :
    Calls Tryz.prog 114 #[.int .u32 x] w fun e w' => e = .returned (.int .i64 v) ∧ w = w' := by
  go_enter Tryz.func114, Tryz.ntmps114
  go_wp2
  go_ret
  exact ⟨rfl, rfl⟩
set_option maxHeartbeats 1000000 in
set_option maxRecDepth 100000 in
theorem Len32_B (x v : Int) (w : World) (x0 : 0 ≤ x) (x1 : x ≤ 4294967295) (x2 : (65536 : Int) ≤ x) (x3 : x / 65536 < 256) (y0 : 0 ≤ x / 65536) (y1 : x / 65536 ≤ 255) (l0 : 0 ≤ Lib.len8 (x / 65536)) (l1 : Lib.len8 (x / 65536) ≤ 8) (hv : 16 + Lib.len8 (x / 65536) = v) :
    Calls Tryz.prog 114 #[.int .u32 x] w fun e w' => e = .returned (.int .i64 v) ∧ w = w' := by
  go_enter Tryz.func114, Tryz.ntmps114
  go_wp2
  go_ret
  exact ⟨rfl, rfl⟩
set_option maxHeartbeats 1000000 in
set_option maxRecDepth 100000 in
theorem Len32_C (x v : Int) (w : World) (x0 : 0 ≤ x) (x1 : x ≤ 4294967295) (x2 : x < 65536) (x3 : (256 : Int) ≤ x) (y0 : 0 ≤ x / 256) (y1 : x / 256 ≤ 255) (l0 : 0 ≤ Lib.len8 (x / 256)) (l1 : Lib.len8 (x / 256) ≤ 8) (hv : 8 + Lib.len8 (x / 256) = v) :
    Calls Tryz.prog 114 #[.int .u32 x] w fun e w' => e = .returned (.int .i64 v) ∧ w = w' := by
  go_enter Tryz.func114, Tryz.ntmps114
  go_wp2
  go_ret
  exact ⟨rfl, rfl⟩
set_option maxHeartbeats 1000000 in
set_option maxRecDepth 100000 in
theorem Len32_D (x v : Int) (w : World) (x0 : 0 ≤ x) (x1 : x ≤ 4294967295) (x2 : x < 65536) (x3 : x < 256) (y0 : 0 ≤ x) (y1 : x ≤ 255) (l0 : 0 ≤ Lib.len8 (x)) (l1 : Lib.len8 (x) ≤ 8) (hv : Lib.len8 x = v) :
    Calls Tryz.prog 114 #[.int .u32 x] w fun e w' => e = .returned (.int .i64 v) ∧ w = w' := by
  go_enter Tryz.func114, Tryz.ntmps114
  go_wp2
  go_ret
  exact ⟨rfl, rfl⟩
theorem Len32_any (n : Nat) (w : World) (hn : n < 4294967296) :
    Calls Tryz.prog 114 #[.int .u32 n] w fun e w' => e = .returned (.int .i64 (blen n)) ∧ w = w' := by
  by_cases h1 : 65536 ≤ n
  · have hd := blen_div n 16 h1
    rw [show (2 : Nat) ^ 16 = 65536 from by decide] at hd
    by_cases h2 : 256 ≤ n / 65536
    · have hd2 := blen_div (n / 65536) 8 h2
      rw [show (2 : Nat) ^ 8 = 256 from by decide] at hd2
      have e := len8_at (n / 65536 / 256) (by omega)
      have e2 := blen_le8 (n / 65536 / 256) (by omega)
      have ei : ((n : Int) / 65536 / 256) = ((n / 65536 / 256 : Nat) : Int) := by omega
      exact Len32_A n _ w (by omega) (by omega) (by omega) (by omega) (by omega) (by omega) (by rw [ei, e]; omega) (by rw [ei, e]; omega) (by rw [ei, e]; omega)
    · have e := len8_at (n / 65536) (by omega)
      have e2 := blen_le8 (n / 65536) (by omega)
      have ei : ((n : Int) / 65536) = ((n / 65536 : Nat) : Int) := by omega
      exact Len32_B n _ w (by omega) (by omega) (by omega) (by omega) (by omega) (by omega) (by rw [ei, e]; omega) (by rw [ei, e]; omega) (by rw [ei, e]; omega)
  · by_cases h2 : 256 ≤ n
    · have hd := blen_div n 8 h2
      rw [show (2 : Nat) ^ 8 = 256 from by decide] at hd
      have e := len8_at (n / 256) (by omega)
      have e2 := blen_le8 (n / 256) (by omega)
      have ei : ((n : Int) / 256) = ((n / 256 : Nat) : Int) := by omega
      exact Len32_C n _ w (by omega) (by omega) (by omega) (by omega) (by omega) (by omega) (by rw [ei, e]; omega) (by rw [ei, e]; omega) (by rw [ei, e]; omega)
    · have e := len8_at n (by omega)
      have e2 := blen_le8 n (by omega)
      exact Len32_D n _ w (by omega) (by omega) (by omega) (by omega) (by omega) (by omega) (by rw [e]; omega) (by rw [e]; omega) (by rw [e])

set_option maxHeartbeats 400000 in
theorem LeadingZeros32_any (n : Nat) (w : World) (hn : n < 4294967296) :
    Calls Tryz.prog 94 #[.int .u32 n] w fun e w' => e = .returned (.int .i64 (32 - blen n)) ∧ w = w' := by
  have hl : blen n ≤ 32 := blen_lt.2 hn
  have HN := Lib.hid hn; clear hn
  go_enter Tryz.func94, Tryz.ntmps94
  go_wp2_with (go_at_call 114; refine (Len32_any _ _ HN.out).mono ?_; rintro e w' ⟨rfl, rfl⟩)
  go_ret
  exact ⟨rfl, rfl⟩

/-- the mask of n bits -/
def maskV (n : Nat) : Int := 4294967296 - 2 ^ (32 - n)
theorem maskV_rng_fin : ∀ n : Fin 33, 0 ≤ maskV n.val ∧ maskV n.val ≤ 4294967295 := by decide
theorem maskV_rng (n : Nat) : 0 ≤ maskV n ∧ maskV n ≤ 4294967295 := by
  rcases Nat.lt_or_ge n 33 with h | h
  · exact maskV_rng_fin ⟨n, h⟩
  · have e : maskV n = maskV 32 := by unfold maskV; rw [show 32 - n = 32 - 32 from by omega]
    rw [e]; exact maskV_rng_fin ⟨32, by omega⟩

set_option maxHeartbeats 400000 in
theorem Mask_out (n : Int) (w : World) (h : n < 0 ∨ 32 < n) :
    Calls Tryz.prog 104 #[.int .i64 n] w fun e w' => e = .returned (.tuple #[.int .u32 0, .iface 35 (.int .i64 1)]) ∧ w = w' := by
  rcases h with h | h
  · go_enter Tryz.func104, Tryz.ntmps104
    go_wp2
    go_ret2
    exact ⟨rfl, rfl⟩
  · have h0 : ¬ n < 0 := by omega
    go_enter Tryz.func104, Tryz.ntmps104
    go_wp2
    go_ret2
    exact ⟨rfl, rfl⟩
theorem maskV_fin : ∀ n : Fin 33, (4294967295 : Int) * 2 ^ (32 - n.val) % 4294967296 = maskV n.val := by decide
theorem maskV_eq (n : Nat) (h : n ≤ 32) : (4294967295 : Int) * 2 ^ (32 - n) % 4294967296 = maskV n := maskV_fin ⟨n, by omega⟩
set_option maxHeartbeats 400000 in
theorem Mask_in (n : Nat) (w : World) (h : n ≤ 32) :
    Calls Tryz.prog 104 #[.int .i64 n] w fun e w' => e = .returned (.tuple #[.int .u32 (maskV n), .nilIface]) ∧ w = w' := by
  have he := Lib.hid (maskV_eq n h)
  go_enter Tryz.func104, Tryz.ntmps104
  go_wp2
  go_ret2
  exact ⟨congrArg (fun x => Ending.returned (.tuple #[.int .u32 x, .nilIface])) he.out, rfl⟩

/-- what mask.Len tells: is it the mask of so many bits -/
theorem xor32 (m : Int) (h0 : 0 ≤ m) (h1 : m ≤ 4294967295) : bits BinOp.xor IntKind.u32 IntKind.u32.max m = 4294967295 - m := by
  obtain ⟨n, rfl⟩ := Int.eq_ofNat_of_zero_le h0
  have e := u32_xor_nat 4294967295 n (by omega) (by omega)
  have e2 : IntKind.u32.max = ((4294967295 : Nat) : Int) := by decide
  rw [e2, e]
  have h : n < 2 ^ 32 := by omega
  have e3 : 4294967295 ^^^ n = 4294967295 - n := by
    apply Nat.eq_of_testBit_eq
    intro i
    rw [show (4294967295 : Nat) - n = 2 ^ 32 - (n + 1) from by omega, Nat.testBit_two_pow_sub_succ h, Nat.testBit_xor, show (4294967295 : Nat) = 2 ^ 32 - 1 from by decide, Nat.testBit_two_pow_sub_one]
    by_cases hi : i < 32
    · simp [hi]
    · have : n.testBit i = false := Nat.testBit_lt_two_pow (Nat.lt_of_lt_of_le h (Nat.pow_le_pow_right (by omega) (by omega)))
      simp [hi, this]
  rw [e3]
  omega
/-- the bits ahead of the first 0 of a mask -/
def maskL (m : Int) : Nat := 32 - blen (4294967295 - m).toNat
theorem maskL_le (m : Int) : maskL m ≤ 32 := by unfold maskL; omega
theorem maskL_of : ∀ n : Fin 33, maskL (maskV n.val) = n.val := by decide +kernel

end Go.Proofs.YtgdlkjahlajcpaaGreatDoor
namespace Go.Proofs.YtgdlkjahlajcpaaGreatDoor
open Go.ChangeShapes Go.WideShapes Go.ChangeAt Go.RowKit
set_option linter.unusedVariables false

theorem and_low (a k : Nat) : a &&& (2 ^ k - 1) = a % 2 ^ k := Nat.and_two_pow_sub_one_eq_mod a k
theorem and_high (a k : Nat) (hk : k ≤ 32) (ha : a < 4294967296) : a &&& (4294967296 - 2 ^ k) = a - a % 2 ^ k := by
  have e1 : 4294967296 - 2 ^ k = (2 ^ (32 - k) - 1) <<< k := by
    rw [Nat.shiftLeft_eq, Nat.sub_mul, ← Nat.pow_add, show 32 - k + k = 32 from by omega]; simp
  have e2 : a - a % 2 ^ k = (a >>> k) <<< k := by
    rw [Nat.shiftLeft_eq, Nat.shiftRight_eq_div_pow]
    have := Nat.div_add_mod a (2 ^ k)
    rw [Nat.mul_comm] at this
    omega
  rw [e1, e2]
  apply Nat.eq_of_testBit_eq
  intro i
  rw [Nat.testBit_and, Nat.testBit_shiftLeft, Nat.testBit_shiftLeft, Nat.testBit_two_pow_sub_one, Nat.testBit_shiftRight]
  by_cases h : k ≤ i
  · have e : k + (i - k) = i := by omega
    rw [e]
    by_cases h2 : i < 32
    · have : i - k < 32 - k := by omega
      simp [h, this]
    · have : a.testBit i = false := Nat.testBit_lt_two_pow (Nat.lt_of_lt_of_le ha (show 2 ^ 32 ≤ 2 ^ i from Nat.pow_le_pow_right (by omega) (by omega)))
      simp [this]
  · simp [h]
theorem maskV_nat (n : Nat) : maskV n = ((4294967296 - 2 ^ (32 - n) : Nat) : Int) := by
  have h : 2 ^ (32 - n) ≤ 2 ^ 32 := Nat.pow_le_pow_right (by omega) (by omega)
  unfold maskV
  have e : ((2 ^ (32 - n) : Nat) : Int) = (2 : Int) ^ (32 - n) := by simp
  rw [← e]
  have h2 : (2 : Nat) ^ 32 = 4294967296 := by decide
  omega
/-- the addresses of a net with so many bits -/
def lowI (n : Nat) : Int := 2 ^ (32 - n)
theorem lowI_nat (n : Nat) : lowI n = ((2 ^ (32 - n) : Nat) : Int) := by unfold lowI; simp
theorem lowI_pos (n : Nat) : 0 < lowI n := by rw [lowI_nat]; have : 0 < 2 ^ (32 - n) := Nat.pow_pos (by omega); omega
theorem and_maskI (a : Int) (n : Nat) (h0 : 0 ≤ a) (h1 : a ≤ 4294967295) : bits .and .u32 a (maskV n) = a - a % lowI n := by
  obtain ⟨x, rfl⟩ := Int.eq_ofNat_of_zero_le h0
  have hp : 0 < 2 ^ (32 - n) := Nat.pow_pos (by omega)
  rw [maskV_nat, lowI_nat]
  rw [u32_and_nat x _ (by omega) (by omega), and_high x _ (by omega) (by omega)]
  have := Nat.mod_le x (2 ^ (32 - n))
  omega
theorem andNot_maskI (a : Int) (n : Nat) (h0 : 0 ≤ a) (h1 : a ≤ 4294967295) : bits .andNot .u32 a (maskV n) = a % lowI n := by
  obtain ⟨x, rfl⟩ := Int.eq_ofNat_of_zero_le h0
  have hp : 0 < 2 ^ (32 - n) := Nat.pow_pos (by omega)
  have hle : 2 ^ (32 - n) ≤ 2 ^ 32 := Nat.pow_le_pow_right (by omega) (by omega)
  rw [maskV_nat, lowI_nat]
  rw [u32_andNot_nat x _ (by omega) (by omega), show 4294967295 - (4294967296 - 2 ^ (32 - n)) = 2 ^ (32 - n) - 1 from by omega, and_low]
  omega

/-- what is wrong with a net -/
def netF (x : Int × Int) : Int := if x.2 < 0 ∨ 32 < x.2 then 1 else if x.1 % lowI x.2.toNat = 0 then 0 else 3
def netV (x : Int × Int) : Value := .agg #[.int .u32 x.1, .int .i64 x.2]
set_option maxHeartbeats 400000 in
theorem Check_net (a n : Int) (w : World) (h0 : 0 ≤ a) (h1 : a ≤ 4294967295) :
    Calls Tryz.prog 77 #[.agg #[.int .u32 a, .int .i64 n]] w fun e w' => e = .returned (errV (netF (a, n))) ∧ Below w.heap.size w w' := by
  by_cases hin : 0 ≤ n ∧ n ≤ 32
  · obtain ⟨k, rfl⟩ := Int.eq_ofNat_of_zero_le hin.1
    have hk : k ≤ 32 := by omega
    have hb := andNot_maskI a k h0 h1
    have hr := maskV_rng k
    have hF : netF (a, (k : Int)) = if a % lowI k = 0 then 0 else 3 := by unfold netF; rw [if_neg (by simp; omega)]; rfl
    rw [hF]
    by_cases hz : a % lowI k = 0
    · rw [if_pos hz]
      have ht : (bits .andNot .u32 a (maskV k) != 0) = false := by rw [hb, hz]; rfl
      clear hz hb hF hin
      go_enter Tryz.func77, Tryz.ntmps77
      go_wp2_with (go_at_call 104; refine (Mask_in k _ hk).mono ?_; rintro e w' ⟨rfl, rfl⟩)
      go_ret
      exact ⟨rfl, (Below.refl _ _).alloc (Nat.le_refl _) _⟩
    · rw [if_neg hz]
      have ht : (bits .andNot .u32 a (maskV k) != 0) = true := by rw [hb]; simpa [bne] using hz
      clear hz hb hF hin
      go_enter Tryz.func77, Tryz.ntmps77
      go_wp2_with (go_at_call 104; refine (Mask_in k _ hk).mono ?_; rintro e w' ⟨rfl, rfl⟩)
      go_ret
      exact ⟨rfl, (Below.refl _ _).alloc (Nat.le_refl _) _⟩
  · have hF : netF (a, n) = 1 := by unfold netF; rw [if_pos (by simp; omega)]
    have hn : n < 0 ∨ 32 < n := by omega
    rw [hF]
    have HN := Lib.hid hn
    clear hF hin hn
    go_enter Tryz.func77, Tryz.ntmps77
    go_wp2_with (go_at_call 104; refine (Mask_out n _ HN.out).mono ?_; rintro e w' ⟨rfl, rfl⟩)
    go_ret
    exact ⟨rfl, (Below.refl _ _).alloc (Nat.le_refl _) _⟩
end Go.Proofs.YtgdlkjahlajcpaaGreatDoor
