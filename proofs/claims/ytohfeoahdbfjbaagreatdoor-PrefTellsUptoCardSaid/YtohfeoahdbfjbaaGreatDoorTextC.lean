/- What strings.Split, Join, Cut and strconv.Itoa, Atoi tell, at worlds that hold the library's tables; addr.Text. -/
import Derived.Test.YtohfeoahdbfjbaaGreatDoorShelf
import Derived.Test.YtohfeoahdbfjbaaGreatDoorTextP
import Derived.Test.YtohfeoahdbfjbaaGreatDoorTypes
import Derived.Test.YtohfeoahdbfjbaaGreatDoorGrow
import Derived.Test.YtohfeoahdbfjbaaGreatDoorBlk
import Derived.Lib.SmallJoins
import Derived.Lib.AppendIntMem
namespace Go.Proofs.YtohfeoahdbfjbaaGreatDoor
open Go.ChangeShapes Go.WideShapes Go.ChangeAt Go.RowKit
set_option linter.unusedVariables false
set_option linter.unusedSimpArgs false

/-- what a world must hold for texts to be read and written -/
structure HStr (w : World) : Prop where
  tab : Lib.TabIs Tryz.prog w "internal/strconv.uint64pow10" .u64 Lib.pow10Tab
  mx : ∃ m, w.cell? ⟨1, 0, none⟩ = some (.int .i64 m)
  syn : ∃ t p, w.var? Tryz.prog "strconv.ErrSyntax" = some #[.iface t p]
  rng : ∃ t p, w.var? Tryz.prog "strconv.ErrRange" = some #[.iface t p]
theorem block_of_cell {w : World} {p : Addr} {v : Value} (h : w.cell? p = some v) : p.block < w.heap.size := by
  rcases Nat.lt_or_ge p.block w.heap.size with h' | h'
  · exact h'
  · simp [World.cell?, Array.getElem?_eq_none h'] at h
theorem HStr.below {B : Nat} {w w' : World} (h : HStr w) (hb : Below B w w') (hB : w.heap.size ≤ B) : HStr w' := by
  obtain ⟨m, hm⟩ := h.mx
  obtain ⟨t, p, hs⟩ := h.syn
  obtain ⟨t', p', hr⟩ := h.rng
  exact ⟨Joins.tab_stays (by kernel_rfl : Tryz.prog.globalNamed "internal/strconv.uint64pow10" = some 4) h.tab hb hB, ⟨m, (hb.cell (Nat.lt_of_lt_of_le (block_of_cell hm) hB)).trans hm⟩,
    ⟨t, p, Joins.var_stays (by kernel_rfl : Tryz.prog.globalNamed "strconv.ErrSyntax" = some 2) hs hb hB⟩, ⟨t', p', Joins.var_stays (by kernel_rfl : Tryz.prog.globalNamed "strconv.ErrRange" = some 3) hr hb hB⟩⟩
theorem HStr.on {w w' : World} (h : HStr w) (hb : Below w.heap.size w w') : HStr w' := h.below hb (Nat.le_refl _)
theorem HStr.alloc {w : World} (h : HStr w) (o : Obj) : HStr (w.alloc o) := h.on ((Below.refl _ _).alloc (Nat.le_refl _) o)
theorem HStr.drewN {w : World} (h : HStr w) (k : Nat) : HStr (w.drewN k) := h.on (below_drewN (Below.refl _ _) k)

abbrev strV (l : List UInt8) : Value := .string ⟨l.toArray⟩
theorem str_info : (Tryz.prog.info? 9).map (fun i => (i.zero, i.size, i.bytes)) = some (some (.string .empty), 1, 16) := by kernel_rfl
theorem size_data (s : ByteArray) : s.data.toList.length = s.size := by rw [Array.length_toList]; rfl
theorem str_data (s : ByteArray) : (⟨s.data.toList.toArray⟩ : ByteArray) = s := rfl

theorem Itoa_n (n : Nat) (w : World) (h : HStr w) (hn : n ≤ 9223372036854775807) :
    Calls Tryz.prog 34 #[.int .i64 n] w fun e w' => e = .returned (strV (dd n)) ∧ Below w.heap.size w w' :=
  (Tryz.strconv_Itoa n (by omega) (by omega) w h.tab).mono fun e w' ⟨he, k, os, hw⟩ => ⟨by rw [he, itoa_dd], by rw [hw]; exact Lib.below_grow _ w (Nat.le_refl _) k os⟩
theorem Atoi_ok (s : ByteArray) (v : Int) (w : World) (hs : s.size ≤ 1099511627776) (h : Lib.atoiAll s.data.toList = .ok v) :
    Calls Tryz.prog 32 #[.string s] w fun e w' => e = .returned (.tuple #[.int .i64 v, .nilIface]) ∧ Below w.heap.size w w' :=
  (Tryz.strconv_Atoi_ok s (by omega) v h w).mono fun e w' ⟨he, hw⟩ => ⟨he, by rcases hw with rfl | ⟨t, rfl⟩; exact Below.refl _ _; exact Lib.bytesWorld_below w _ t⟩
theorem Atoi_bad (s : ByteArray) (w : World) (hw : HStr w) (hs : s.size ≤ 1099511627776) (h : ∀ v, Lib.atoiAll s.data.toList ≠ .ok v) :
    Calls Tryz.prog 32 #[.string s] w fun e w' => ∃ v t p, e = .returned (.tuple #[.int .i64 v, .iface t p]) ∧ Below w.heap.size w w' := by
  obtain ⟨t, p, h1⟩ := hw.syn
  obtain ⟨t', p', h2⟩ := hw.rng
  have key : ∀ r : Lib.NumEnd Int, Lib.atoiAll s.data.toList = r → Calls Tryz.prog 32 #[.string s] w fun e w' => ∃ v t p, e = .returned (.tuple #[.int .i64 v, .iface t p]) ∧ Below w.heap.size w w' := by
    intro r e
    cases r
    · exact absurd e (h _)
    · exact (Any.strconv_Atoi_syntax_var Tryz.laysC172 s (by omega) e t p w h1).mono fun e w' ⟨N, he, _, _, hb⟩ => ⟨_, _, _, he, hb⟩
    · exact (Any.strconv_Atoi_range_var Tryz.laysC172 s (by omega) e t' p' w h2).mono fun e w' ⟨N, he, _, _, hb⟩ => ⟨_, _, _, he, hb⟩
  exact key _ rfl
/-- strings.Split at a byte: pieces that read so -/
theorem Split_c (c : UInt8) (s : ByteArray) (w : World) (h : HStr w) (hs : s.size ≤ 1048576) :
    Calls Tryz.prog 41 #[.string s, .string ⟨#[c]⟩] w fun e w' => ∃ L : List ByteArray, L.map (·.data.toList) = segs c s.data.toList ∧ e = .returned (.slice (some ⟨w.heap.size, 0, none⟩) L.length L.length) ∧ w' = w.alloc (.cells (L.map Value.string).toArray 9) := by
  obtain ⟨m, hm⟩ := h.mx
  refine (Tryz.strings_Split s ⟨#[c]⟩ m w (by omega) hm (Nat.le_refl 1)).mono fun e w' ⟨he, hw⟩ => ⟨_, splitB_segs c s, ?_, hw⟩
  have h1 : 1 ≤ (⟨#[c]⟩ : ByteArray).size := Nat.le_refl 1
  have h2 := Lib.splitB_all ⟨#[c]⟩ h1 0 _ s rfl
  rw [he, h2]
theorem Cut_c (c : UInt8) (s : ByteArray) (w : World) (h : HStr w) (hs : s.size ≤ 1048576) :
    Calls Tryz.prog 30 #[.string s, .string ⟨#[c]⟩] w fun e w' => e = .returned (.tuple #[strV (Lib.cut s.data.toList [c]).1, strV (Lib.cut s.data.toList [c]).2.1, .bool (Lib.cut s.data.toList [c]).2.2]) ∧ Below w.heap.size w w' := by
  obtain ⟨m, hm⟩ := h.mx
  exact (Tryz.strings_Cut s ⟨#[c]⟩ m w (by omega) hm).mono fun e w' ⟨he, n, hw⟩ => ⟨he, by rw [hw]; exact below_drewN (Below.refl _ _) n⟩

/-! ### addr.Text -/
def quads (a : Nat) : List Nat := [a / 16777216, a / 65536 % 256, a / 256 % 256, a % 256]
def quadV (a k : Nat) : List Value := ((quads a).take k).map fun n => strV (dd n)
theorem and_255 (n : Nat) (h : n < 4294967296) : bits .and .u32 (n : Int) 255 = ((n % 256 : Nat) : Int) := by
  have := u32_and_nat n 255 (by omega) (by omega)
  rw [show ((255 : Nat) : Int) = 255 from rfl] at this
  rw [this, show (255 : Nat) = 2 ^ 8 - 1 from by decide, Nat.and_two_pow_sub_one_eq_mod]
/-- what is written at round k -/
theorem quad_at (a : Nat) (ha : a < 4294967296) : ∀ k : Nat, k < 4 → ∃ n : Nat, n < 256 ∧ (quads a)[k]? = some n ∧ bits .and .u32 ((a : Int) / 2 ^ (24 - 8 * k)) 255 = (n : Int) := by
  intro k hk
  have e : ∀ m : Nat, ((a : Int) / 2 ^ m) = ((a / 2 ^ m : Nat) : Int) := fun m => by simp
  rw [e, and_255 _ (Nat.lt_of_le_of_lt (Nat.div_le_self _ _) ha)]
  match k, hk with
  | 0, _ => exact ⟨_, Nat.mod_lt _ (by omega), by simp [quads]; omega, rfl⟩
  | 1, _ => exact ⟨_, Nat.mod_lt _ (by omega), by simp [quads], rfl⟩
  | 2, _ => exact ⟨_, Nat.mod_lt _ (by omega), by simp [quads], rfl⟩
  | 3, _ => exact ⟨_, Nat.mod_lt _ (by omega), by simp [quads], rfl⟩
theorem quadV_succ {a k n : Nat} (h : (quads a)[k]? = some n) : quadV a (k + 1) = quadV a k ++ [strV (dd n)] := by
  unfold quadV
  rw [List.take_add_one, h, List.map_append]; rfl
theorem quadV_length {a k : Nat} (hk : k ≤ 4) : (quadV a k).length = k := by unfold quadV quads; simp; omega
theorem quad_join (a : Nat) : Lib.join ((quads a).map fun n => dd n) [46] = addrT a := join_addr a

set_option maxRecDepth 100000 in
set_option maxHeartbeats 1000000 in
theorem Text_any (a : Nat) (w : World) (hw : HStr w) (ha : a < 4294967296) :
    Calls Tryz.prog 33 #[.int .u32 a] w fun e w' => e = .returned (strV (addrT a)) ∧ Below w.heap.size w w' := by
  have HQ := Lib.hid (quad_at a ha)
  have HW := Lib.hid hw
  obtain ⟨i0, hi, hz0, hz1, hz2⟩ := info_parts str_info
  have a0 : (0 : Int) ≤ (a : Int) := by omega
  have a1 : (a : Int) ≤ 4294967295 := by omega
  clear hw
  go_enter Tryz.func33, Tryz.ntmps33
  go_wp2
  go_loopw [3, 4] (fun v s wr => ∃ k : Nat, k ≤ 4 ∧ s = .int .i64 (24 - 8 * (k : Int)) ∧ wr.ownsRow w.heap.size 9 1 v k (quadV a k) ∧ Below w.heap.size w wr) (fun _ s _ => (intOf s + 8).toNat)
  case atStart => exact ⟨0, by omega, rfl, World.ownsRow_nil _ _ _ _, Below.refl _ _⟩
  case round =>
    obtain ⟨k, hk, rfl, hown, hbel⟩ := hrel
    by_cases hlt : k < 4
    · obtain ⟨n, hn, hq, hb⟩ := HQ.out k hlt
      have hsz := hbel.size
      have HQK := Lib.hid (quadV_succ hq)
      have HB : Hid (wrap64 (bits .and .u32 ((a : Int) / 2 ^ (24 - 8 * k)) 255) = (n : Int)) := Lib.hid (by rw [hb]; exact IntWalk.wrap64_in _ ⟨by omega, by omega⟩)
      have HBEL := Lib.hid hbel
      clear hq hb hbel
      go_wp2_with (first
        | (go_at_call 34; rw [HB.out]; (with_reducible refine (Itoa_n n _ (HW.out.below HBEL.out (Nat.le_refl _)) (by omega)).mono ?_); rintro e w1 ⟨rfl, hb1⟩; have zw1 := hb1.size; have hown1 := own_below hown hb1; have HB1 := Lib.hid (HBEL.out.trans (hb1.mono hsz)); clear hb1)
        | (at_builtin; refine wpList_append_own _ rfl _ _ 50 rfl w.heap.size 9 i0 (.string .empty) 1 16 Tryz.underlying50 hi hz0 hz1 hz2 rfl (by decide) _ _ _ rfl (hown1.alloc _) ⟨w1.heap.size, 0, none⟩ 1 1 [strV (dd n)] rfl rfl ?c1 ?c2 ?c3 ?c4 ?c5 ?_)
        | fail)
      case c1 => intro j u hu; match j, hu with
        | 0, hu => simp only [List.getElem?_cons_zero, Option.some.injEq] at hu; subst hu; rw [addr_add]; simp
      case c2 => intro u hu; simp only [List.mem_cons, List.not_mem_nil, or_false] at hu; subst hu; rfl
      case c3 => unfold maxLen; omega
      case c4 => omega
      case c5 => simp; omega
      intro v' w2 hown2 hgrow _
      have hb2 : Below w.heap.size w w2 := below_grown (HB1.out.alloc (by omega) _) (hown1.alloc _) hgrow (Nat.le_refl _) (by simp; omega)
      rw [← HQK.out] at hown2
      have HB2 := Lib.hid hb2
      clear hb2 hown hgrow
      go_wp2
      exact ⟨⟨k + 1, by omega, by go_num, hown2, HB2.out⟩, by simp [intOf]; omega⟩
    · have : k = 4 := by omega
      subst this
      obtain ⟨g, cap, rfl, hg, hgs, hnc, hcells⟩ := own_pos hown (by omega)
      have HC : Hid (∀ (j : Nat) x, ((quads a).map fun n => (⟨(dd n).toArray⟩ : ByteArray))[j]? = some x → wr.cell? ⟨g, 0 + j, none⟩ = some (.string x)) := Lib.hid (fun j x hx => hcells j _ (by
        have e : quadV a 4 = ((quads a).map fun n => (⟨(dd n).toArray⟩ : ByteArray)).map Value.string := by unfold quadV quads; simp
        rw [e, List.getElem?_map, hx]; rfl))
      have HJ : Hid (Lib.join (((quads a).map fun n => (⟨(dd n).toArray⟩ : ByteArray)).map (·.data.toList)) [46] = addrT a) := Lib.hid (by rw [← quad_join]; simp [List.map_map, Function.comp_def])
      have hlen := addrT_length a ha
      have HL : Hid ((Lib.join (((quads a).map fun n => (⟨(dd n).toArray⟩ : ByteArray)).map (·.data.toList)) [46]).length ≤ 140737488355328) := Lib.hid (by rw [HJ.out]; omega)
      have HJC : Hid (Calls Tryz.prog 44 #[.slice (some ⟨g, 0, none⟩) 4 cap, .string ⟨#[46]⟩] wr fun e w' => e = .returned (strV (addrT a)) ∧ Below wr.heap.size wr w') := Lib.hid
        ((Tryz.strings_Join g 0 cap ((quads a).map fun n => (⟨(dd n).toArray⟩ : ByteArray)) ⟨#[46]⟩ wr HC.out hgs (by simp [quads]) (by simpa [quads] using hnc) HL.out).mono fun e w' ⟨he, hb⟩ => ⟨by rw [he, HJ.out], hb⟩)
      have HBEL := Lib.hid hbel
      have hsz := hbel.size
      clear hcells hlen hown hbel
      go_wp2_with (first
        | (go_at_call 44; refine HJC.out.mono ?_; rintro e w3 ⟨rfl, hb3⟩; have HB3 := Lib.hid (HBEL.out.trans (hb3.mono hsz)); clear hb3)
        | fail)
      go_ret
      exact ⟨rfl, HB3.out⟩
end Go.Proofs.YtohfeoahdbfjbaaGreatDoor
