/- Rows of texts of the call's own; a table beside what a law has made. The reference's addresses: of a text, and their text. waywardensame.Texts at equal lists; how lists of texts read. The desk's forms: the map that is made anew for each line, and what is looked up in it. One line of the desk: a line that is none of its forms. -/
import Derived.Test.YtgdlkjahlajcpaaGreatDoorKP
import Derived.Test.YtgdlkjahlajcpaaGreatDoorKC
import Derived.Test.YtgdlkjahlajcpaaGreatDoorKN
import Derived.Test.YtgdlkjahlajcpaaGreatDoorKM
import Derived.Lib.QuietBelow
import Derived.BigQuiet
import Derived.Test.YtgdlkjahlajcpaaGreatDoorKD
import Derived.Test.YtgdlkjahlajcpaaGreatDoorKL
namespace Go.Proofs.YtgdlkjahlajcpaaGreatDoor
open Go.ChangeShapes Go.WideShapes Go.ChangeAt Go.RowKit
set_option linter.unusedVariables false
set_option linter.unusedSimpArgs false

def OwnS (w : World) (base : Nat) (v : Value) (xs : List (List UInt8)) : Prop := w.ownsRow base 9 1 v xs.length (xs.map strV)
theorem OwnS.nil_ (w : World) (base : Nat) : OwnS w base (.slice none 0 0) [] := ⟨rfl, .inl ⟨rfl, rfl⟩⟩
theorem OwnS.alloc {w : World} {base : Nat} {v : Value} {xs : List (List UInt8)} (h : OwnS w base v xs) (o : Obj) : OwnS (w.alloc o) base v xs := World.ownsRow.alloc h o
theorem OwnS.below {w w' : World} {base : Nat} {v : Value} {xs : List (List UInt8)} (h : OwnS w base v xs) (hb : Below w.heap.size w w') : OwnS w' base v xs := own_below h hb
theorem OwnS.form {w : World} {base : Nat} {v : Value} {xs : List (List UInt8)} (h : OwnS w base v xs) : ∃ A c, v = .slice A xs.length c := own_form h
/-- whose block is kept -/
theorem OwnS.kept {w w' : World} {base : Nat} {v : Value} {xs : List (List UInt8)} (h : OwnS w base v xs) (hk : ∀ b, v.ownBlock = some b → w'.heap[b]? = w.heap[b]?) : OwnS w' base v xs := by
  obtain ⟨h1, h2⟩ := h
  refine ⟨h1, ?_⟩
  rcases h2 with h2 | ⟨g, cap, cur, e, h3, h4, h5⟩
  · exact .inl h2
  · exact .inr ⟨g, cap, cur, e, h3, (hk g (by rw [e]; rfl)).trans h4, h5⟩
theorem OwnS.blk {w : World} {base : Nat} {v : Value} {xs : List (List UInt8)} (h : OwnS w base v xs) : ∀ b, v.ownBlock = some b → base ≤ b ∧ b < w.heap.size := own_blk h
/-- append of one text -/
theorem wpList_append_text {w : World} {ops : Array Oper} {rest : List Oper} {o : Oper} {a : Act} {Q : Exit → Act → World → Prop} (hgd : o.guard = none) (s x : Operand) (t : TypeId) (ht : Tryz.prog.underlying t = some (.slice 9))
    (ho : o.op = .call { callee := .builtin .append, args := #[s, x], argTypes := #[t, t] })
    (base : Nat) (v : Value) (xs : List (List UInt8)) (hs : a.eval s = v) (hown : OwnS w base v xs)
    (G : Nat) (y : List UInt8) (t2 : TypeId) (hx : a.eval x = .slice (some ⟨G, 0, none⟩) 1 1) (hG : w.heap[G]? = some (.cells #[strV y] t2 (0, 0)))
    (hl : xs.length ≤ 1000000000) (hbase : base ≤ w.heap.size)
    (h : ∀ v' w', OwnS w' base v' (xs ++ [y]) → Grow w v w' v' → wpList Tryz.prog ops Q rest (a.put o.dst v') w') : wpList Tryz.prog ops Q (o :: rest) a w := by
  have hinfo : (Tryz.prog.info? 9).map (fun i => (i.zero, i.size, i.bytes)) = some (some (.string .empty), 1, 16) := by kernel_rfl
  obtain ⟨i0, hi, hz0, hz1, hz2⟩ := info_parts hinfo
  have hr : Reads w w.heap.size 1 (some ⟨G, 0, none⟩) 1 [strV y] := ⟨rfl, fun _ => ⟨_, rfl, size_of_block hG, fun j u hu => by
    rw [addr_add, cell_of_row _ G _ _ t2 (0, 0) hG]; simpa using hu⟩⟩
  refine wpList_append_any w hgd s x t ho base 9 i0 _ 1 16 ht hi hz0 hz1 hz2 (by rfl) (by omega) v xs.length _ hs hown w.heap.size _ 1 1 [strV y] hx hr (by intro u hu; simp only [List.mem_cons, List.not_mem_nil, or_false] at hu; subst hu; rfl) (by simp only [maxLen]; omega) (by omega) hbase ?_
  intro v' w' h1 h2 h3
  refine h v' w' (show w'.ownsRow base 9 1 v' (xs ++ [y]).length ((xs ++ [y]).map strV) by simpa using h1) ⟨h2, ?_⟩
  rcases h3 with h3 | h3
  · exact .inl h3
  · exact .inr ⟨_, h3, Nat.le_refl _⟩
section
variable {W w w' : World} {T : Nat} {m : Tab} {S : Nat → Prop} {v v' : Value}
/-- a row beside the table has grown -/
theorem Tk.grow (h : Tk W T m S w) (hg : Grow w v w' v') (hv : ∀ b, v.ownBlock = some b → S b ∧ W.heap.size ≤ b) : Tk W T m (fun b => S b ∨ w.heap.size ≤ b ∧ b < w'.heap.size) w' ∧ (∀ b, S b → (∀ k, v.ownBlock = some k → b ≠ k) → w'.heap[b]? = w.heap[b]?) := by
  have hsz := hg.size
  obtain ⟨N, hT, hS⟩ := h.ex
  refine ⟨⟨⟨N, hT.kept fun x b hx => hg.1.block b (hT.lt hx) fun e => ?_, fun g hg' => ?_⟩, ?_⟩, fun b hb hn => hg.1.block b (hS b hb).1 fun e => hn b e.symm rfl⟩
  · exact (hS b (hv b e.symm).1).2 x hx
  · rcases hg' with hg' | hg'
    · exact ⟨Nat.lt_of_lt_of_le (hS g hg').1 hsz, (hS g hg').2⟩
    · exact ⟨hg'.2, hT.fresh hg'.1⟩
  · have hb := h.bel
    exact ⟨by rw [hg.1.os, hb.os], by rw [hg.1.tape, hb.tape], by rw [hg.1.output, hb.output], Nat.le_trans hb.size hsz, fun i hi => (hg.1.block i (Nat.lt_of_lt_of_le hi hb.size) fun e => by have := (hv i e.symm).2; omega).trans (hb.block i hi)⟩
end
end Go.Proofs.YtgdlkjahlajcpaaGreatDoor
namespace Go.Proofs.YtgdlkjahlajcpaaGreatDoor
open Go.ChangeShapes Go.WideShapes Go.ChangeAt Go.RowKit
set_option linter.unusedVariables false
set_option linter.unusedSimpArgs false

theorem RCut_c (s : ByteArray) (c : UInt8) (n : Int) (hn : (c.toNat : Int) = n) (w : World) (hs : s.size ≤ 2097152) : Calls Tryz.prog 7 #[.string s, .int .u8 n] w (CutAt c s w) := by subst hn; exact RCut_any s c w hs
def AddrIs (s : List UInt8) (v : Int) (b : Bool) : Prop := (b = true ∧ ∃ a : Nat, a < 4294967296 ∧ s = addrT a ∧ v = a) ∨ (b = false ∧ v = 0 ∧ ∀ a : Nat, a < 4294967296 → s ≠ addrT a)
/-- what k pieces come to -/
structure AInv (L : List ByteArray) (k x : Nat) : Prop where
  ex : ∃ ns : List Nat, ns.length = k ∧ (∀ n ∈ ns, n < 256) ∧ (L.take k).map (·.data.toList) = ns.map (fun n => dd n) ∧ x = ns.foldl (fun a n => a * 256 + n) 0
  lt : x < 256 ^ k
theorem ainv_zero (L : List ByteArray) : AInv L 0 0 := ⟨⟨[], rfl, by simp, by simp, rfl⟩, by simp⟩
theorem ainv_next {L : List ByteArray} {k x n : Nat} {p : ByteArray} (h : AInv L k x) (hp : L[k]? = some p) (hd : p.data.toList = dd n) (hn : n < 256) : AInv L (k + 1) (x * 256 + n) := by
  obtain ⟨⟨ns, h1, h2, h3, h4⟩, h5⟩ := h
  refine ⟨⟨ns ++ [n], by simp [h1], fun m hm => ?_, ?_, ?_⟩, ?_⟩
  · rcases List.mem_append.1 hm with hm | hm
    · exact h2 m hm
    · simp at hm; omega
  · rw [List.take_add_one, hp, List.map_append, List.map_append, h3]
    simp [hd]
  · rw [List.foldl_append, ← h4]; rfl
  · rw [Nat.pow_succ]; omega
theorem ainv_end {L : List ByteArray} {x : Nat} {s : List UInt8} (h : AInv L 4 x) (hl : L.length = 4) (hL : L.map (·.data.toList) = segs 46 s) : AddrIs s x true := by
  obtain ⟨⟨ns, h1, h2, h3, h4⟩, h5⟩ := h
  rw [List.take_of_length_le (by omega)] at h3
  match ns, h1 with
  | [n0, n1, n2, n3], _ =>
    simp only [List.map_cons, List.map_nil] at h3
    rw [hL] at h3
    have b0 := h2 n0 (by simp); have b1 := h2 n1 (by simp); have b2 := h2 n2 (by simp); have b3 := h2 n3 (by simp)
    have e := addr_of_segs h3 b0 b1 b2 b3
    have ex : x = ((n0 * 256 + n1) * 256 + n2) * 256 + n3 := by rw [h4]; simp
    exact .inl ⟨rfl, x, by omega, by rw [ex]; exact e, rfl⟩
theorem addr_len {L : List ByteArray} {s : List UInt8} (hL : L.map (·.data.toList) = segs 46 s) (hl : L.length ≠ 4) : AddrIs s 0 false :=
  .inr ⟨rfl, rfl, fun a _ e => by rw [e, segs_addr] at hL; have := congrArg List.length hL; simp at this; exact hl this⟩
theorem addr_piece {L : List ByteArray} {s : List UInt8} {k : Nat} {p : ByteArray} {r : Int} (hL : L.map (·.data.toList) = segs 46 s) (hp : L[k]? = some p) (hr : WholeIs p.data.toList r) (hb : r < 0 ∨ 255 < r) : AddrIs s 0 false :=
  .inr ⟨rfl, rfl, fun a ha e => by
    rw [e, segs_addr] at hL
    have h1 := congrArg (·[k]?) hL
    simp only [List.getElem?_map, hp, Option.map_some] at h1
    have key : ∀ n : Nat, n < 256 → p.data.toList = dd n → False := fun n hn ep => by
      rcases hr with ⟨m, _, h3, h4⟩ | ⟨h3, h4⟩
      · rw [ep] at h3; have := dd_inj h3; omega
      · exact h3 n (by omega) ep
    match k with
    | 0 => exact key _ (by omega) (Option.some.inj h1)
    | 1 => exact key _ (by omega) (Option.some.inj h1)
    | 2 => exact key _ (by omega) (Option.some.inj h1)
    | 3 => exact key _ (by omega) (Option.some.inj h1)
    | k + 4 => simp at h1⟩
def AddrOfAt (s : ByteArray) (w : World) (e : Ending) (w' : World) : Prop := ∃ (v : Int) (b : Bool), e = .returned (.tuple #[.int .u32 v, .bool b]) ∧ AddrIs s.data.toList v b ∧ Below w.heap.size w w'
theorem pow_le3 {k : Nat} (h : k < 4) : 256 ^ k ≤ 16777216 := Nat.le_trans (Nat.pow_le_pow_right (by omega) (show k ≤ 3 by omega)) (by decide)
set_option maxRecDepth 100000 in
set_option maxHeartbeats 2000000 in
theorem AddrOf_any (s : ByteArray) (w : World) (hs : s.size ≤ 2097152) :
    Calls Tryz.prog 16 #[.string s] w (AddrOfAt s w) := by
  go_enter Tryz.func16, Tryz.ntmps16
  go_wp2_with fail
  go_at_call 7
  (with_reducible refine (RCut_c s 46 46 rfl w (by omega)).mono ?_); rintro e w1 ⟨L, g, cap, hL, rfl, hc, hg, hb1⟩
  have HL := Lib.hid hL
  have HLS := Lib.hid (fun (k : Nat) (p : ByteArray) (h : L[k]? = some p) => piece_size hL h)
  have HC := Lib.hid hc; have HB1 := Lib.hid hb1; have zw1 := hb1.size
  have hl1 : L.length ≤ 2097153 := by
    have h1 := congrArg List.length hL
    rw [List.length_map, segs_length] at h1
    have h2 := List.count_le_length (a := (46 : UInt8)) (l := s.data.toList)
    rw [size_data] at h2; omega
  clear hL hc hb1
  obtain ⟨N, hN⟩ : ∃ N, L.length = N := ⟨_, rfl⟩
  rw [hN] at hl1 ⊢
  have HN := Lib.hid hN
  clear hN
  by_cases h4 : N = 4
  · subst h4
    go_wp2
    go_loopw [5, 6] (fun v i wr => ∃ k x : Nat, k ≤ 4 ∧ i = .int .i64 k ∧ v = .int .u32 x ∧ AInv L k x ∧ Below w1.heap.size w1 wr) (fun _ i _ => 4 - (intOf i).toNat)
    case atStart => exact ⟨0, 0, by omega, rfl, rfl, ainv_zero L, Below.refl _ _⟩
    case round =>
      obtain ⟨k, x, hk, rfl, rfl, hinv, hbel⟩ := hrel
      have hszr := hbel.size
      have HI := Lib.hid hinv
      by_cases hlt : k < 4
      · obtain ⟨p, hp⟩ : ∃ p, L[k]? = some p := ⟨L[k]'(by rw [HN.out]; exact hlt), List.getElem?_eq_getElem _⟩
        have hcell : wr.cell? ⟨g, k, none⟩ = some (.string p) := (hbel.cell (p := ⟨g, k, none⟩) hg).trans (HC.out k _ hp)
        have hps := HLS.out k p hp
        have HP := Lib.hid hp
        have HBEL := Lib.hid hbel
        have hx : x < 16777216 := Nat.lt_of_lt_of_le hinv.lt (pow_le3 hlt)
        clear hp hbel hinv
        go_wp2_with fail
        go_at_call 26
        (with_reducible refine (Whole_any p wr (by omega)).mono ?_); rintro e w2 ⟨r, rfl, hw, hb2⟩
        have HB2 := Lib.hid (HBEL.out.trans (hb2.mono hszr)); clear hb2
        have HW := Lib.hid hw
        by_cases hr : 0 ≤ r ∧ r ≤ 255
        · obtain ⟨n, hn, hd, e⟩ : ∃ n : Nat, n < 256 ∧ p.data.toList = dd n ∧ r = n := by
            rcases hw with ⟨n, _, h2, h3⟩ | ⟨_, h3⟩
            · exact ⟨n, by omega, h2, h3⟩
            · omega
          subst e
          have HNX := Lib.hid (ainv_next HI.out HP.out hd hn)
          clear hw hd hr
          have c1 : ¬ (n : Int) < 0 := by omega
          have c2 : ¬ 255 < (n : Int) := by omega
          have hm : (256 * (x : Int)) ≤ 4294967295 := by omega
          have hm0 : 0 ≤ 256 * (x : Int) := by omega
          go_wp2
          exact ⟨⟨k + 1, x * 256 + n, by omega, by go_num, by (first | go_num | (congr 1; omega)), HNX.out, HB2.out⟩, by simp [intOf]; omega⟩
        · have HA := Lib.hid (addr_piece HL.out HP.out hw (by omega))
          have hb : r < 0 ∨ 255 < r := by omega
          clear hw hr
          rcases hb with hb | hb
          · go_wp2
            go_ret2
            exact ⟨_, _, rfl, HA.out, HB1.out.trans (HB2.out.mono zw1)⟩
          · have c1 : ¬ r < 0 := by omega
            go_wp2
            go_ret2
            exact ⟨_, _, rfl, HA.out, HB1.out.trans (HB2.out.mono zw1)⟩
      · have : k = 4 := by omega
        subst this
        have HA := Lib.hid (ainv_end HI.out HN.out HL.out)
        clear hinv
        go_wp2
        go_ret2
        exact ⟨_, _, rfl, HA.out, HB1.out.trans (hbel.mono zw1)⟩
  · have h4' : ((N : Int) != 4) = true := by simp; omega
    have HA := Lib.hid (addr_len HL.out (by rw [HN.out]; exact h4))
    go_wp2
    go_ret2
    exact ⟨_, _, rfl, HA.out, HB1.out⟩

theorem str_size' {l : List UInt8} : (⟨l.toArray⟩ : ByteArray).size = l.length := by simp [ByteArray.size]
theorem addr_cat {X0 X1 X2 X3 : ByteArray} {a : Nat} (h0 : X0.data.toList = dd (a / 16777216)) (h1 : X1.data.toList = dd (a / 65536 % 256)) (h2 : X2.data.toList = dd (a / 256 % 256)) (h3 : X3.data.toList = dd (a % 256)) :
    Value.string (X0 ++ ⟨#[46]⟩ ++ X1 ++ ⟨#[46]⟩ ++ X2 ++ ⟨#[46]⟩ ++ X3) = strV (addrT a) := by
  have e : (X0 ++ ⟨#[46]⟩ ++ X1 ++ ⟨#[46]⟩ ++ X2 ++ ⟨#[46]⟩ ++ X3).data.toList = addrT a := by
    simp only [Joins.data_append, h0, h1, h2, h3]
    unfold addrT
    simp
  rw [← e]
set_option maxRecDepth 100000 in
set_option maxHeartbeats 1000000 in
theorem AddrText_any (a : Nat) (w : World) (ha : a < 4294967296) :
    Calls Tryz.prog 37 #[.int .u32 a] w fun e w' => e = .returned (strV (addrT a)) ∧ Below w.heap.size w w' := by
  obtain ⟨X0, h0⟩ : ∃ X : ByteArray, X = ⟨(dd (a / 16777216)).toArray⟩ := ⟨_, rfl⟩
  obtain ⟨X1, h1⟩ : ∃ X : ByteArray, X = ⟨(dd (a / 65536 % 256)).toArray⟩ := ⟨_, rfl⟩
  obtain ⟨X2, h2⟩ : ∃ X : ByteArray, X = ⟨(dd (a / 256 % 256)).toArray⟩ := ⟨_, rfl⟩
  obtain ⟨X3, h3⟩ : ∃ X : ByteArray, X = ⟨(dd (a % 256)).toArray⟩ := ⟨_, rfl⟩
  have l0 : X0.size ≤ 3 := by rw [h0, str_size']; exact dd_length_le (by omega)
  have l1 : X1.size ≤ 3 := by rw [h1, str_size']; exact dd_length_le (by omega)
  have l2 : X2.size ≤ 3 := by rw [h2, str_size']; exact dd_length_le (by omega)
  have l3 : X3.size ≤ 3 := by rw [h3, str_size']; exact dd_length_le (by omega)
  have HC := Lib.hid (addr_cat (X0 := X0) (X1 := X1) (X2 := X2) (X3 := X3) (a := a) (by rw [h0]) (by rw [h1]) (by rw [h2]) (by rw [h3]))
  have H0 := Lib.hid h0; have H1 := Lib.hid h1; have H2 := Lib.hid h2; have H3 := Lib.hid h3
  have e0 : ((a : Int) / 16777216) = ((a / 16777216 : Nat) : Int) := by omega
  have g : ∀ m : Nat, m < 4294967296 → bits .and .u32 ((m : Nat) : Int) 255 = ((m % 256 : Nat) : Int) := fun m hm => and_255 m hm
  have e1 : bits .and .u32 ((a : Int) / 65536) 255 = ((a / 65536 % 256 : Nat) : Int) := by rw [show ((a : Int) / 65536) = ((a / 65536 : Nat) : Int) from by omega]; exact g _ (by omega)
  have e2 : bits .and .u32 ((a : Int) / 256) 255 = ((a / 256 % 256 : Nat) : Int) := by rw [show ((a : Int) / 256) = ((a / 256 : Nat) : Int) from by omega]; exact g _ (by omega)
  have e3 : bits .and .u32 (a : Int) 255 = ((a % 256 : Nat) : Int) := g _ ha
  have E0 := Lib.hid e0; have wr : ∀ n : Nat, n < 256 → wrap64 (n : Int) = n := fun n hn => IntWalk.wrap64_in _ ⟨by omega, by omega⟩
  have E1 := Lib.hid ((congrArg wrap64 e1).trans (wr _ (by omega))); have E2 := Lib.hid ((congrArg wrap64 e2).trans (wr _ (by omega))); have E3 := Lib.hid ((congrArg wrap64 e3).trans (wr _ (by omega)))
  have n1 : ¬ 9223372036854775807 < X0.size + 1 := by omega
  have n2 : ¬ 9223372036854775807 < X0.size + 1 + X1.size := by omega
  have n3 : ¬ 9223372036854775807 < X0.size + 1 + X1.size + 1 := by omega
  have n4 : ¬ 9223372036854775807 < X0.size + 1 + X1.size + 1 + X2.size := by omega
  have n5 : ¬ 9223372036854775807 < X0.size + 1 + X1.size + 1 + X2.size + 1 := by omega
  have n6 : ¬ 9223372036854775807 < X0.size + 1 + X1.size + 1 + X2.size + 1 + X3.size := by omega
  have a0 : (0 : Int) ≤ (a : Int) := by omega
  have a1 : (a : Int) ≤ 4294967295 := by omega
  clear h0 h1 h2 h3 e0 e1 e2 e3 g wr
  go_enter Tryz.func37, Tryz.ntmps37
  go_wp2_with fail
  go_at_call 17
  rw [E0.out]
  (with_reducible refine (Digits_n _ (a / 16777216) w (Nat.le_refl _) (by omega)).mono ?_); rintro e w1 ⟨rfl, hb1⟩
  rw [← H0.out]
  have HB1 := Lib.hid hb1; have zw1 := hb1.size; clear hb1
  go_wp2_with fail
  go_at_call 17
  rw [E1.out]
  (with_reducible refine (Digits_n _ (a / 65536 % 256) w1 (Nat.le_refl _) (by omega)).mono ?_); rintro e w2 ⟨rfl, hb1⟩
  rw [← H1.out]
  have HB2 := Lib.hid (HB1.out.trans (hb1.mono zw1)); have zw2 := HB2.out.size; clear hb1
  go_wp2_with fail
  go_at_call 17
  rw [E2.out]
  (with_reducible refine (Digits_n _ (a / 256 % 256) w2 (Nat.le_refl _) (by omega)).mono ?_); rintro e w3 ⟨rfl, hb1⟩
  rw [← H2.out]
  have HB3 := Lib.hid (HB2.out.trans (hb1.mono zw2)); have zw3 := HB3.out.size; clear hb1
  go_wp2_with fail
  go_at_call 17
  rw [E3.out]
  (with_reducible refine (Digits_n _ (a % 256) w3 (Nat.le_refl _) (by omega)).mono ?_); rintro e w4 ⟨rfl, hb1⟩
  rw [← H3.out]
  have HB4 := Lib.hid (HB3.out.trans (hb1.mono zw3)); have zw4 := HB4.out.size; clear hb1
  go_wp2
  go_ret
  exact ⟨by rw [← HC.out]; rfl, HB4.out⟩

theorem AddrOf_yes (c : Nat) (s : ByteArray) (w : World) (hc : c < 4294967296) (hs : s.data.toList = addrT c) :
    Calls Tryz.prog 16 #[.string s] w fun e w' => e = .returned (.tuple #[.int .u32 c, .bool true]) ∧ Below w.heap.size w w' :=
  (AddrOf_any s w (by rw [← size_data, hs]; exact Nat.le_trans (addrT_length c hc) (by omega))).mono fun e w' ⟨v, b, he, hi, hb⟩ => by
    rcases hi with ⟨rfl, a, ha, e1, e2⟩ | ⟨_, _, h3⟩
    · rw [hs] at e1
      have := addrT_inj e1
      subst this; subst e2
      exact ⟨he, hb⟩
    · exact absurd hs (h3 c hc)
theorem AddrOf_no (s : ByteArray) (w : World) (hsz : s.size ≤ 2097152) (hs : ∀ c : Nat, c < 4294967296 → s.data.toList ≠ addrT c) :
    Calls Tryz.prog 16 #[.string s] w fun e w' => e = .returned (.tuple #[.int .u32 0, .bool false]) ∧ Below w.heap.size w w' :=
  (AddrOf_any s w hsz).mono fun e w' ⟨v, b, he, hi, hb⟩ => by
    rcases hi with ⟨_, a, ha, e1, _⟩ | ⟨rfl, rfl, _⟩
    · exact absurd e1 (hs a ha)
    · exact ⟨he, hb⟩
end Go.Proofs.YtgdlkjahlajcpaaGreatDoor
namespace Go.Proofs.YtgdlkjahlajcpaaGreatDoor
open Go.ChangeShapes Go.WideShapes Go.ChangeAt Go.RowKit
set_option linter.unusedVariables false
set_option linter.unusedSimpArgs false

def RdT (w : World) (A : Option Addr) (n : Nat) (L : List (List UInt8)) : Prop := n = L.length ∧ (0 < n → ∃ g o, A = some ⟨g, o, none⟩ ∧ g < w.heap.size ∧ ∀ k l, L[k]? = some l → w.cell? ⟨g, o + k, none⟩ = some (strV l))
theorem RdT.below {w w' : World} {A : Option Addr} {n : Nat} {L : List (List UInt8)} (h : RdT w A n L) (hb : Below w.heap.size w w') : RdT w' A n L := by
  refine ⟨h.1, fun hn => ?_⟩
  obtain ⟨g, o, e, hg, hc⟩ := h.2 hn
  exact ⟨g, o, e, Nat.lt_of_lt_of_le hg hb.size, fun k l hl => (hb.cell (p := ⟨g, o + k, none⟩) hg).trans (hc k l hl)⟩
theorem OwnS.rd {w : World} {base n c : Nat} {A : Option Addr} {L : List (List UInt8)} (h : OwnS w base (.slice A n c) L) : RdT w A n L ∧ n = L.length ∧ n ≤ c := by
  obtain ⟨A', c', e⟩ := h.form
  simp only [Value.slice.injEq] at e
  obtain ⟨_, e2, _⟩ := e
  have hle : n ≤ c := by
    obtain ⟨_, h2⟩ := h
    rcases h2 with ⟨h2, _⟩ | ⟨g, cap, cur, e, _, _, h4, _⟩
    · simp only [Value.slice.injEq] at h2; omega
    · simp only [Value.slice.injEq] at e; omega
  refine ⟨⟨e2, fun hn => ?_⟩, e2, hle⟩
  obtain ⟨g, cap, e, _, hg, _, hc⟩ := own_pos h (by omega)
  simp only [Value.slice.injEq] at e
  exact ⟨g, 0, e.1, hg, fun k l hl => hc k _ (by rw [List.getElem?_map, hl]; rfl)⟩
theorem RdT.pre {w : World} {A : Option Addr} {n : Nat} {L : List (List UInt8)} (h : RdT w A n L) {k : Nat} (hk : k ≤ n) : RdT w A k (L.take k) := by
  have h1 := h.1
  refine ⟨by rw [List.length_take]; omega, fun hn => ?_⟩
  obtain ⟨g, o, e, hg, hc⟩ := h.2 (by omega)
  refine ⟨g, o, e, hg, fun j l hl => hc j l ?_⟩
  have hj : j < k := by
    have := (List.getElem?_eq_some_iff.1 hl).1
    rw [List.length_take] at this; omega
  rwa [List.getElem?_take_of_lt hj] at hl
theorem RdT.from {w : World} {g o n : Nat} {L : List (List UInt8)} (h : RdT w (some ⟨g, o, none⟩) n L) {k m : Nat} (hk : k + m = n) : RdT w (some ⟨g, o + k, none⟩) m (L.drop k) := by
  have h1 := h.1
  refine ⟨by rw [List.length_drop]; omega, fun hn => ?_⟩
  obtain ⟨g', o', e, hg, hc⟩ := h.2 (by omega)
  simp only [Option.some.injEq, Addr.mk.injEq, and_true] at e
  obtain ⟨rfl, rfl⟩ := e
  refine ⟨g, o + k, rfl, hg, fun j l hl => ?_⟩
  rw [List.getElem?_drop] at hl
  rw [Nat.add_assoc]
  exact hc (k + j) l hl
set_option maxRecDepth 100000 in
set_option maxHeartbeats 2000000 in
theorem Texts_same {w : World} {A A' : Option Addr} {n c c' : Nat} {L : List (List UInt8)} (h : RdT w A n L) (h' : RdT w A' n L) (hn : n ≤ 1000000000) :
    Calls Tryz.prog 5 #[.slice A n c, .slice A' n c'] w fun e w' => e = .returned (.bool true) ∧ Below w.heap.size w w' := by
  have H := Lib.hid h
  have H' := Lib.hid h'
  clear h h'
  go_enter Tryz.func5, Tryz.ntmps5
  go_wp2
  go_loopw [5] (fun i wr => ∃ k : Nat, k ≤ n ∧ i = .int .i64 k ∧ ∃ j, wr = w.drewN j) (fun i _ => n - (intOf i).toNat)
  case atStart => exact ⟨0, Nat.zero_le _, rfl, 0, rfl⟩
  case round =>
    obtain ⟨k, hk, rfl, j, rfl⟩ := hrel
    by_cases hlt : k < n
    · obtain ⟨g, o, rfl, _, hc⟩ := H.out.2 (by omega)
      obtain ⟨g', o', rfl, _, hc'⟩ := H'.out.2 (by omega)
      obtain ⟨l, hl⟩ : ∃ l, L[k]? = some l := ⟨L[k]'(by have := H.out.1; omega), List.getElem?_eq_getElem _⟩
      obtain ⟨X, hX⟩ : ∃ X : ByteArray, X = ⟨l.toArray⟩ := ⟨_, rfl⟩
      have c0 : w.cell? ⟨g, o + k, none⟩ = some (.string X) := by rw [hX]; exact hc k l hl
      have c1 : w.cell? ⟨g', o' + k, none⟩ = some (.string X) := by rw [hX]; exact hc' k l hl
      have i0 : (0 : Int) ≤ (k : Int) := by omega
      have i1 : (k : Int) < (n : Int) := by omega
      clear hc hc' hl hX
      go_wp2
      go_quiet (fail)
      go_wp2
      go_roundw
      case rel => exact ⟨k + 1, by omega, by go_num, _, (by first | rfl | exact World.drewN_drewN _ _ _)⟩
      case measure => simp [intOf]; omega
    · have : k = n := by omega
      subst this
      go_wp2
      go_ret
      exact ⟨rfl, below_drewN (Below.refl _ _) _⟩
end Go.Proofs.YtgdlkjahlajcpaaGreatDoor
namespace Go.Proofs.YtgdlkjahlajcpaaGreatDoor
open Go.ChangeShapes Go.WideShapes Go.ChangeAt Go.RowKit
set_option linter.unusedVariables false
set_option linter.unusedSimpArgs false

/-- a map's entries at keys that are strings -/
def entM (x : ByteArray × Value × Nat) : MapEntry := { key := .string x.1, val := x.2.1, born := x.2.2 }
def seekK (k : ByteArray) : List (ByteArray × Value × Nat) → Nat → Option (Nat × Value)
  | [], _ => none
  | e :: es, i => if k == e.1 then some (i, e.2.1) else seekK k es (i + 1)
theorem findNow_str (k : ByteArray) : ∀ (es : List (ByteArray × Value × Nat)) (i : Nat), Instr.findNow .string (.string k) (es.map entM) i = some (seekK k es i)
  | [], i => rfl
  | e :: es, i => by
    have ih := findNow_str k es (i + 1)
    simp only [List.map_cons, Instr.findNow, seekK, entM, Instr.sameNow] at ih ⊢
    cases h : k == e.1 with
    | true => simp
    | false => simpa using ih
theorem set_last (w : World) (o o' : Obj) : ({ w.alloc o with heap := (w.alloc o).heap.setIfInBounds w.heap.size o' } : World) = w.alloc o' := by
  have e : (w.alloc o).heap.setIfInBounds w.heap.size o' = w.heap.push o' := by
    show (w.heap.push o).setIfInBounds w.heap.size o' = w.heap.push o'
    apply Array.ext_getElem?
    intro i
    simp only [Array.getElem?_setIfInBounds, Array.getElem?_push, Array.size_push]
    by_cases h : i = w.heap.size
    · subst h; simp
    · have h' : w.heap.size ≠ i := fun e => h e.symm
      simp [h, h']
  rw [e]; rfl
theorem insert_run {P : Program} {t kt et : TypeId} (ht : P.underlying t = some (.map kt et)) (hk : P.underlying kt = some .string) (w : World) (es : List (ByteArray × Value × Nat)) (c : Nat) (k : ByteArray) (v : Value) (h : seekK k es 0 = none) :
    (Instr.mapUpdate t (.map (some w.heap.size)) (.string k) v).run P (w.alloc (.map (es.map entM).toArray c)) = .ok () (w.alloc (.map ((es ++ [(k, v, c)]).map entM).toArray (c + 1))) := by
  have hf := findNow_str k es 0
  rw [h] at hf
  have hb : (w.alloc (.map (es.map entM).toArray c)).heap[w.heap.size]? = some (.map (es.map entM).toArray c) := heap_alloc_new _ _
  have hf' : Instr.findNow .string (.string k) (es.map entM).toArray.toList 0 = some none := hf
  unfold Instr.mapUpdate
  simp only [Sem.run_bind, run_underlying ht, MapKept.run_getObj_map hb, MapKept.run_checkKey hk (k := .string k) trivial, MapKept.run_findKey hk hf', MapKept.run_setObj_map _ hb, Result.andThen]
  rw [set_last]
  simp [entM]
/-- 'v, ok := m[k]' -/
theorem lookup_run {P : Program} {t kt et : TypeId} (ht : P.underlying t = some (.map kt et)) (hk : P.underlying kt = some .string) {w : World} {b c : Nat} {es : List (ByteArray × Value × Nat)} (hb : w.heap[b]? = some (.map (es.map entM).toArray c)) (k : ByteArray) {z : Value} (hz : (zeroValue et).run P w = .ok z w) :
    (Instr.lookup t (.map (some b)) (.string k) true).run P w = .ok (match seekK k es 0 with | some (_, v) => .tuple #[v, .bool true] | none => .tuple #[z, .bool false]) w := by
  have hf := findNow_str k es 0
  have hf' : Instr.findNow .string (.string k) (es.map entM).toArray.toList 0 = some (seekK k es 0) := hf
  unfold Instr.lookup
  simp only [Sem.run_bind, run_underlying ht, MapKept.run_getObj_map hb, MapKept.run_checkKey hk (k := .string k) trivial, MapKept.run_findKey hk hf', Result.andThen, Sem.run_pure]
  cases seekK k es 0 with
  | none => simp [hz]
  | some p => simp
/-! ### forms -/
def kPut : ByteArray := ⟨#[112, 117, 116]⟩
def kDrop : ByteArray := ⟨#[100, 114, 111, 112]⟩
def kGet : ByteArray := ⟨#[103, 101, 116]⟩
def kFind : ByteArray := ⟨#[102, 105, 110, 100]⟩
def kList : ByteArray := ⟨#[108, 105, 115, 116]⟩
def kCover : ByteArray := ⟨#[99, 111, 118, 101, 114]⟩
def kCommon : ByteArray := ⟨#[99, 111, 109, 109, 111, 110]⟩
def kSum : ByteArray := ⟨#[115, 117, 109]⟩
abbrev formV (n : Int) (F : Nat) : Value := .agg #[.int .i64 n, .func (.func F) #[] #[]]
def formE : List (ByteArray × Value × Nat) :=
  [(kPut, formV 2 43, 0), (kDrop, formV 1 48, 1), (kGet, formV 1 50, 2), (kFind, formV 1 54, 3),
   (kList, formV 0 59, 4), (kCover, formV 0 62, 5), (kCommon, formV 2 65, 6), (kSum, formV 1 68, 7)]
def formO (i : Nat) : Obj := .map ((formE.take i).map entM).toArray i
theorem form_put (w : World) (i : Nat) (k : ByteArray) (v : Value) (h : formE[i]? = some (k, v, i)) (hf : seekK k (formE.take i) 0 = none) :
    (Instr.mapUpdate 72 (.map (some w.heap.size)) (.string k) v).run Tryz.prog (w.alloc (formO i)) = .ok () (w.alloc (formO (i + 1))) := by
  have e := insert_run Tryz.underlying72 Tryz.underlying9 w (formE.take i) i k v hf
  have e2 : formE.take i ++ [(k, v, i)] = formE.take (i + 1) := by rw [List.take_add_one, h]; rfl
  rw [e2] at e
  exact e
theorem forms_any (w : World) :
    Calls Tryz.prog 30 #[] w fun e w' => e = .returned (.map (some w.heap.size)) ∧ w' = w.alloc (formO 8) := by
  have h0 : ∀ w : World, (Instr.makeMap 72 none).run Tryz.prog w = .ok (.map (some w.heap.size)) (w.alloc (formO 0)) := fun w => rfl
  have h1 := form_put w 0 _ _ rfl (by decide)
  have h2 := form_put w 1 _ _ rfl (by decide)
  have h3 := form_put w 2 _ _ rfl (by decide)
  have h4 := form_put w 3 _ _ rfl (by decide)
  have h5 := form_put w 4 _ _ rfl (by decide)
  have h6 := form_put w 5 _ _ rfl (by decide)
  have h7 := form_put w 6 _ _ rfl (by decide)
  have h8 := form_put w 7 _ _ rfl (by decide)
  simp only [kPut, kDrop, kGet, kFind, kList, kCover, kCommon, kSum, Nat.zero_add, Nat.reduceAdd] at h1 h2 h3 h4 h5 h6 h7 h8
  go_enter Tryz.func30, Tryz.ntmps30
  go_wp2
  go_ret
  exact ⟨rfl, rfl⟩
theorem form_zero (w : World) : (zeroValue 76).run Tryz.prog w = .ok (.agg #[.int .i64 0, .nilFunc]) w := by kernel_rfl
/-- what a word leads to -/
theorem form_hit {w : World} {b : Nat} (hb : w.heap[b]? = some (formO 8)) {k : ByteArray} {i : Nat} {v : Value} (h : seekK k formE 0 = some (i, v)) :
    (Instr.lookup 72 (.map (some b)) (.string k) true).run Tryz.prog w = .ok (.tuple #[v, .bool true]) w := by
  have e := lookup_run Tryz.underlying72 Tryz.underlying9 (es := formE) (c := 8) hb k (form_zero w)
  rw [h] at e
  exact e
theorem form_miss {w : World} {b : Nat} (hb : w.heap[b]? = some (formO 8)) {k : ByteArray} (h : seekK k formE 0 = none) :
    (Instr.lookup 72 (.map (some b)) (.string k) true).run Tryz.prog w = .ok (.tuple #[.agg #[.int .i64 0, .nilFunc], .bool false]) w := by
  have e := lookup_run Tryz.underlying72 Tryz.underlying9 (es := formE) (c := 8) hb k (form_zero w)
  rw [h] at e
  exact e
end Go.Proofs.YtgdlkjahlajcpaaGreatDoor
namespace Go.Proofs.YtgdlkjahlajcpaaGreatDoor
open Go.ChangeShapes Go.WideShapes Go.ChangeAt Go.RowKit
set_option linter.unusedVariables false
set_option linter.unusedSimpArgs false

abbrev LinePost (W : World) (T : Nat) (S : Nat → Prop) (w : World) (r : Ans × Tab) (e : Ending) (w' : World) : Prop := e = .returned (strV (ansT r.1)) ∧ Tk W T r.2 S w' ∧ KeptS S w w'
abbrev doorD (b : Nat) : List Deferred := [{ target := .fn (.func 29) #[.pointer (some ⟨b, 0, none⟩)], args := #[] }]
set_option maxRecDepth 100000 in
theorem door_ret {Q : Ending → World → Prop} {tm : Array Value} {w' : World} {b : Nat} {t : Value} (h4 : tm[4]?.getD undef = .pointer (some ⟨b, 0, none⟩)) (hc : w'.cell? ⟨b, 0, none⟩ = some t) (hQ : Q (.returned t) w') :
    bodyPostD Tryz.prog Tryz.f12 Q Exit.ret { tmps := tm, defers := doorD b } w' := by
  refine leaves_cons (f := 29) (args := #[.pointer (some ⟨b, 0, none⟩)]) (by simp) (by simp [go_sem]) ?_
  refine (catch_idle ⟨b, 0, none⟩ w').mono ?_
  rintro e u' w'' ⟨rfl, rfl, rfl⟩
  exact ⟨t, by simp [results, Tryz.results12, go_sem, h4, hc], hQ⟩
set_option maxRecDepth 100000 in
theorem door_pan {Q : Ending → World → Prop} {tm : Array Value} {w' : World} {b : Nat} {k : Int} {old : Value} (h4 : tm[4]?.getD undef = .pointer (some ⟨b, 0, none⟩)) (h0 : 0 ≤ k) (h7 : k ≤ 7) (hc : w'.cell? ⟨b, 0, none⟩ = some old) (hz : w'.frozen? ⟨b, 0, none⟩ = false)
    (hQ : Q (.returned (bsV (nameE k))) (w'.setCell ⟨b, 0, none⟩ (bsV (nameE k)))) :
    bodyPostD Tryz.prog Tryz.f12 Q (Exit.panic [{ v := .iface 35 (.int .i64 k), recovered := false }]) { tmps := tm, defers := doorD b } w' := by
  refine leaves_cons (f := 29) (args := #[.pointer (some ⟨b, 0, none⟩)]) (by simp) (by simp [go_sem]) ?_
  refine (catch_pan ⟨b, 0, none⟩ k old [] w' h0 h7 hc hz).mono ?_
  rintro e u' w'' ⟨rfl, rfl, rfl⟩
  have hc2 : (w'.setCell ⟨b, 0, none⟩ (bsV (nameE k))).cell? ⟨b, 0, none⟩ = some (bsV (nameE k)) := World.cell?_setCell_same _ _ _ hc
  exact ⟨bsV (nameE k), by simp [results, Tryz.results12, go_sem, h4, hc2], hQ⟩
section
variable {W w : World} {T : Nat} {m : Tab} {S : Nat → Prop} {s c0 : ByteArray} {L : List ByteArray}
set_option maxRecDepth 100000 in
set_option maxHeartbeats 4000000 in
theorem line_miss (h : Tk W T m S w) (hw : HStr W) (hs : s.size ≤ 2097152) (hL : L.map (·.data.toList) = segs 32 s.data.toList) (hc : L[0]? = some c0) (hk : seekK c0 formE 0 = none) :
    Calls Tryz.prog 12 #[deskV T, .string s] w (LinePost W T S w (.error 7, m)) := by
  have hmf : ∀ (fn : Fn) (first cap : Array Value) (w : World), (Instr.makeFunc fn first cap).run Tryz.prog w = .ok (.func fn first cap) w := fun _ _ _ _ => rfl
  have HT := Lib.hid h
  have HW : Hid (HStr w) := Lib.hid (hw.below h.bel (Nat.le_refl _))
  have HL := Lib.hid hL
  have HC := Lib.hid hc
  have HK := Lib.hid hk
  obtain ⟨PP, hPP⟩ : ∃ PP, LinePost W T S w (.error 7, m) = PP := ⟨_, rfl⟩
  have HPP := Lib.hid hPP
  rw [hPP]
  clear h hw hL hc hk hPP
  go_enter_defers Tryz.func12, Tryz.ntmps12
  go_wp2_with fail
  go_at_call 9
  (with_reducible refine (Split_r 32 s _ ((HW.out.alloc _).alloc _) hs).mono ?_)
  rintro e w1 ⟨L', g, hL', rfl, hcs, hg, hb1⟩
  obtain rfl : L' = L := list_bytes (hL'.trans HL.out.symm)
  have hb0 : Below w.heap.size w ((w.alloc (.cells #[.pointer (some ⟨T, 0, none⟩)] 40)).alloc (.cells #[.string ⟨#[]⟩] 9)) := ((Below.refl w.heap.size w).alloc (Nat.le_refl _) _).alloc (by simp) _
  obtain ⟨bx0, ba0⟩ := box2 hb1
  have HB1 := Lib.hid (hb0.trans (hb1.mono hb0.size))
  have BX1 := Lib.hid bx0
  have BA1 := Lib.hid ba0
  have e0 := hcs 0 _ HC.out
  have E0 := Lib.hid e0
  have zw1 := size_of_block ba0
  clear hb0 hb1 bx0 ba0 hcs hL'
  go_wp2_with fail
  go_at_call 30
  (with_reducible refine (forms_any _).mono ?_)
  rintro e w2 ⟨rfl, hw2⟩
  have hb2 : Below w1.heap.size w1 w2 := by rw [hw2]; exact (Below.refl _ _).alloc (Nat.le_refl _) _
  have hm2 : w2.heap[w1.heap.size]? = some (formO 8) := by rw [hw2]; exact heap_alloc_new _ _
  have HB2 := Lib.hid (HB1.out.trans (hb2.mono HB1.out.size))
  have bx2 := below_block hb2 (size_of_block BX1.out) BX1.out
  have ba2 := below_block hb2 (size_of_block BA1.out) BA1.out
  have BX2 := Lib.hid bx2
  have BA2 := Lib.hid ba2
  have e2 := (hb2.cell (p := ⟨g, 0, none⟩) hg).trans E0.out
  have hlk := form_miss hm2 HK.out
  have hNp : 0 < L'.length := (List.getElem?_eq_some_iff.1 HC.out).1
  have hd1 := row1p bx2
  have hd2 := row1p ba2
  have zw2 := HB2.out.size
  have ha2 := size_of_block ba2
  have hf2 : w2.frozen? ⟨w.heap.size + 1, 0, none⟩ = false := frozen_of_row _ _ _ _ _ ba2
  clear hb2 hm2 e0 bx2 ba2 hw2
  obtain ⟨N, hN⟩ : ∃ N, L'.length = N := ⟨_, rfl⟩
  rw [hN] at hNp ⊢
  have HN := Lib.hid hN
  clear hN
  go_wp2_with (first
    | (go_at_call 10; (with_reducible refine (Name_any 7 (by decide) (by decide) _).mono ?_); rintro e w3 ⟨rfl, rfl⟩)
    | fail)
  have hbe : Below w.heap.size w ((w2.setCell ⟨w.heap.size + 1, 0, none⟩ (bsV (nameE 7))).alloc (.cells #[.int .i64 0, .nilFunc] 76)) := (HB2.out.setCell (p := ⟨w.heap.size + 1, 0, none⟩) (by simp) _).alloc (by simp; omega) _
  rw [← HPP.out]
  exact door_ret rfl ((World.cell?_alloc_lt _ _ _ (by simp; omega)).trans (World.cell?_setCell_same _ _ _ hd2)) ⟨rfl, HT.out.below hbe, fun g hg => hbe.block g (HT.out.lt hg)⟩
set_option maxRecDepth 100000 in
set_option maxHeartbeats 4000000 in
theorem line_len {i kk F : Nat} (h : Tk W T m S w) (hw : HStr W) (hs : s.size ≤ 2097152) (hL : L.map (·.data.toList) = segs 32 s.data.toList) (hc : L[0]? = some c0) (hk : seekK c0 formE 0 = some (i, formV (kk : Int) F)) (hkk : kk ≤ 2) (hne : L.length ≠ kk + 1) :
    Calls Tryz.prog 12 #[deskV T, .string s] w (LinePost W T S w (.error 7, m)) := by
  have hmf : ∀ (fn : Fn) (first cap : Array Value) (w : World), (Instr.makeFunc fn first cap).run Tryz.prog w = .ok (.func fn first cap) w := fun _ _ _ _ => rfl
  have HT := Lib.hid h
  have HW : Hid (HStr w) := Lib.hid (hw.below h.bel (Nat.le_refl _))
  have HL := Lib.hid hL
  have HC := Lib.hid hc
  have HK := Lib.hid hk
  obtain ⟨PP, hPP⟩ : ∃ PP, LinePost W T S w (.error 7, m) = PP := ⟨_, rfl⟩
  have HPP := Lib.hid hPP
  rw [hPP]
  clear h hw hL hc hk hPP
  go_enter_defers Tryz.func12, Tryz.ntmps12
  go_wp2_with fail
  go_at_call 9
  (with_reducible refine (Split_r 32 s _ ((HW.out.alloc _).alloc _) hs).mono ?_)
  rintro e w1 ⟨L', g, hL', rfl, hcs, hg, hb1⟩
  obtain rfl : L' = L := list_bytes (hL'.trans HL.out.symm)
  have hb0 : Below w.heap.size w ((w.alloc (.cells #[.pointer (some ⟨T, 0, none⟩)] 40)).alloc (.cells #[.string ⟨#[]⟩] 9)) := ((Below.refl w.heap.size w).alloc (Nat.le_refl _) _).alloc (by simp) _
  obtain ⟨bx0, ba0⟩ := box2 hb1
  have HB1 := Lib.hid (hb0.trans (hb1.mono hb0.size))
  have BX1 := Lib.hid bx0
  have BA1 := Lib.hid ba0
  have e0 := hcs 0 _ HC.out
  have E0 := Lib.hid e0
  have zw1 := size_of_block ba0
  clear hb0 hb1 bx0 ba0 hcs hL'
  go_wp2_with fail
  go_at_call 30
  (with_reducible refine (forms_any _).mono ?_)
  rintro e w2 ⟨rfl, hw2⟩
  have hb2 : Below w1.heap.size w1 w2 := by rw [hw2]; exact (Below.refl _ _).alloc (Nat.le_refl _) _
  have hm2 : w2.heap[w1.heap.size]? = some (formO 8) := by rw [hw2]; exact heap_alloc_new _ _
  have HB2 := Lib.hid (HB1.out.trans (hb2.mono HB1.out.size))
  have bx2 := below_block hb2 (size_of_block BX1.out) BX1.out
  have ba2 := below_block hb2 (size_of_block BA1.out) BA1.out
  have BX2 := Lib.hid bx2
  have BA2 := Lib.hid ba2
  have e2 := (hb2.cell (p := ⟨g, 0, none⟩) hg).trans E0.out
  have hlk := form_hit hm2 HK.out
  have hNp : 0 < L'.length := (List.getElem?_eq_some_iff.1 HC.out).1
  have hd1 := row1p bx2
  have hd2 := row1p ba2
  have zw2 := HB2.out.size
  have ha2 := size_of_block ba2
  have hf2 : w2.frozen? ⟨w.heap.size + 1, 0, none⟩ = false := frozen_of_row _ _ _ _ _ ba2
  clear hb2 hm2 e0 bx2 ba2 hw2
  obtain ⟨N, hN⟩ : ∃ N, L'.length = N := ⟨_, rfl⟩
  rw [hN] at hNp ⊢
  have HN := Lib.hid hN
  clear hN
  have hx : ((N : Int) != (kk : Int) + 1) = true := by simpa using (by have := HN.out; omega : (N : Int) ≠ (kk : Int) + 1)
  have hk0 : (kk : Int) ≤ 2 := by omega
  go_wp2_with (first
    | (go_at_call 10; (with_reducible refine (Name_any 7 (by decide) (by decide) _).mono ?_); rintro e w3 ⟨rfl, rfl⟩)
    | fail)
  have hbe : Below w.heap.size w ((w2.setCell ⟨w.heap.size + 1, 0, none⟩ (bsV (nameE 7))).alloc (.cells #[.int .i64 (kk : Int), .func (.func F) #[] #[]] 76)) := (HB2.out.setCell (p := ⟨w.heap.size + 1, 0, none⟩) (by simp) _).alloc (by simp; omega) _
  rw [← HPP.out]
  exact door_ret rfl ((World.cell?_alloc_lt _ _ _ (by simp; omega)).trans (World.cell?_setCell_same _ _ _ hd2)) ⟨rfl, HT.out.below hbe, fun g hg => hbe.block g (HT.out.lt hg)⟩
end
end Go.Proofs.YtgdlkjahlajcpaaGreatDoor
