/- The reference's addresses: of a text, and their text. -/
import Derived.Test.YtohfeoahdbfjbaaGreatDoorRefT
import Derived.Test.YtohfeoahdbfjbaaGreatDoorParse
import Derived.Lib.QuietBelow
import Derived.BigQuiet
namespace Go.Proofs.YtohfeoahdbfjbaaGreatDoor
open Go.ChangeShapes Go.WideShapes Go.ChangeAt Go.RowKit
set_option linter.unusedVariables false
set_option linter.unusedSimpArgs false

theorem RCut_c (s : ByteArray) (c : UInt8) (n : Int) (hn : (c.toNat : Int) = n) (w : World) (hs : s.size ≤ 1048576) : Calls Tryz.prog 27 #[.string s, .int .u8 n] w (CutAt c s w) := by subst hn; exact RCut_any s c w hs
def AddrIs (s : List UInt8) (v : Int) (b : Bool) : Prop := (b = true ∧ ∃ a : Nat, a < 4294967296 ∧ s = addrT a ∧ v = a) ∨ (b = false ∧ v = 0 ∧ ∀ a : Nat, a < 4294967296 → s ≠ addrT a)
/-- what k pieces come to -/
structure AInv (L : List ByteArray) (k x : Nat) : Prop where
  ex : ∃ ns : List Nat, ns.length = k ∧ (∀ n ∈ ns, n < 256) ∧ (L.take k).map (·.data.toList) = ns.map (fun n => dd n) ∧ x = ns.foldl (fun a n => a * 256 + n) 0
  lt : x < 256 ^ k
theorem ainv_zero (L : List ByteArray) : AInv L 0 0 := ⟨⟨[], rfl, by simp, by simp, rfl⟩, by simp⟩
theorem ainv_next {L : List ByteArray} {k x n : Nat} {p : ByteArray} (h : AInv L k x) (hp : L[k]? = some p) (hd : p.data.toList = dd n) (hn : n < 256) : AInv L (k + 1) (x * 256 + n) := by
  obtain ⟨⟨ns, h1, h2, h3, h4⟩, h5⟩ := h
  refine ⟨⟨ns ++ [n], by simp [h1], fun m hm => ?_, ?_, ?_⟩, ?_⟩
  · rcases List.mem_append.1 hm with hm | hm
    · exact h2 m hm
    · simp at hm; omega
  · rw [List.take_add_one, hp, List.map_append, List.map_append, h3]
    simp [hd]
  · rw [List.foldl_append, ← h4]; rfl
  · rw [Nat.pow_succ]; omega
theorem ainv_end {L : List ByteArray} {x : Nat} {s : List UInt8} (h : AInv L 4 x) (hl : L.length = 4) (hL : L.map (·.data.toList) = segs 46 s) : AddrIs s x true := by
  obtain ⟨⟨ns, h1, h2, h3, h4⟩, h5⟩ := h
  rw [List.take_of_length_le (by omega)] at h3
  match ns, h1 with
  | [n0, n1, n2, n3], _ =>
    simp only [List.map_cons, List.map_nil] at h3
    rw [hL] at h3
    have b0 := h2 n0 (by simp); have b1 := h2 n1 (by simp); have b2 := h2 n2 (by simp); have b3 := h2 n3 (by simp)
    have e := addr_of_segs h3 b0 b1 b2 b3
    have ex : x = ((n0 * 256 + n1) * 256 + n2) * 256 + n3 := by rw [h4]; simp
    exact .inl ⟨rfl, x, by omega, by rw [ex]; exact e, rfl⟩
theorem addr_len {L : List ByteArray} {s : List UInt8} (hL : L.map (·.data.toList) = segs 46 s) (hl : L.length ≠ 4) : AddrIs s 0 false :=
  .inr ⟨rfl, rfl, fun a _ e => by rw [e, segs_addr] at hL; have := congrArg List.length hL; simp at this; exact hl this⟩
theorem addr_piece {L : List ByteArray} {s : List UInt8} {k : Nat} {p : ByteArray} {r : Int} (hL : L.map (·.data.toList) = segs 46 s) (hp : L[k]? = some p) (hr : WholeIs p.data.toList r) (hb : r < 0 ∨ 255 < r) : AddrIs s 0 false :=
  .inr ⟨rfl, rfl, fun a ha e => by
    rw [e, segs_addr] at hL
    have h1 := congrArg (·[k]?) hL
    simp only [List.getElem?_map, hp, Option.map_some] at h1
    have key : ∀ n : Nat, n < 256 → p.data.toList = dd n → False := fun n hn ep => by
      rcases hr with ⟨m, _, h3, h4⟩ | ⟨h3, h4⟩
      · rw [ep] at h3; have := dd_inj h3; omega
      · exact h3 n (by omega) ep
    match k with
    | 0 => exact key _ (by omega) (Option.some.inj h1)
    | 1 => exact key _ (by omega) (Option.some.inj h1)
    | 2 => exact key _ (by omega) (Option.some.inj h1)
    | 3 => exact key _ (by omega) (Option.some.inj h1)
    | k + 4 => simp at h1⟩
def AddrOfAt (s : ByteArray) (w : World) (e : Ending) (w' : World) : Prop := ∃ (v : Int) (b : Bool), e = .returned (.tuple #[.int .u32 v, .bool b]) ∧ AddrIs s.data.toList v b ∧ Below w.heap.size w w'
theorem pow_le3 {k : Nat} (h : k < 4) : 256 ^ k ≤ 16777216 := Nat.le_trans (Nat.pow_le_pow_right (by omega) (show k ≤ 3 by omega)) (by decide)
set_option maxRecDepth 100000 in
set_option maxHeartbeats 2000000 in
theorem AddrOf_any (s : ByteArray) (w : World) (hs : s.size ≤ 1048576) :
    Calls Tryz.prog 28 #[.string s] w (AddrOfAt s w) := by
  go_enter Tryz.func28, Tryz.ntmps28
  go_wp2_with fail
  go_at_call 27
  (with_reducible refine (RCut_c s 46 46 rfl w (by omega)).mono ?_); rintro e w1 ⟨L, g, cap, hL, rfl, hc, hg, hb1⟩
  have HL := Lib.hid hL
  have HLS := Lib.hid (fun (k : Nat) (p : ByteArray) (h : L[k]? = some p) => piece_size hL h)
  have HC := Lib.hid hc; have HB1 := Lib.hid hb1; have zw1 := hb1.size
  have hl1 : L.length ≤ 1048577 := by
    have h1 := congrArg List.length hL
    rw [List.length_map, segs_length] at h1
    have h2 := List.count_le_length (a := (46 : UInt8)) (l := s.data.toList)
    rw [size_data] at h2; omega
  clear hL hc hb1
  obtain ⟨N, hN⟩ : ∃ N, L.length = N := ⟨_, rfl⟩
  rw [hN] at hl1 ⊢
  have HN := Lib.hid hN
  clear hN
  by_cases h4 : N = 4
  · subst h4
    go_wp2
    go_loopw [5, 6] (fun v i wr => ∃ k x : Nat, k ≤ 4 ∧ i = .int .i64 k ∧ v = .int .u32 x ∧ AInv L k x ∧ Below w1.heap.size w1 wr) (fun _ i _ => 4 - (intOf i).toNat)
    case atStart => exact ⟨0, 0, by omega, rfl, rfl, ainv_zero L, Below.refl _ _⟩
    case round =>
      obtain ⟨k, x, hk, rfl, rfl, hinv, hbel⟩ := hrel
      have hszr := hbel.size
      have HI := Lib.hid hinv
      by_cases hlt : k < 4
      · obtain ⟨p, hp⟩ : ∃ p, L[k]? = some p := ⟨L[k]'(by rw [HN.out]; exact hlt), List.getElem?_eq_getElem _⟩
        have hcell : wr.cell? ⟨g, k, none⟩ = some (.string p) := (hbel.cell (p := ⟨g, k, none⟩) hg).trans (HC.out k _ hp)
        have hps := HLS.out k p hp
        have HP := Lib.hid hp
        have HBEL := Lib.hid hbel
        have hx : x < 16777216 := Nat.lt_of_lt_of_le hinv.lt (pow_le3 hlt)
        clear hp hbel hinv
        go_wp2_with fail
        go_at_call 29
        (with_reducible refine (Whole_any p wr (by omega)).mono ?_); rintro e w2 ⟨r, rfl, hw, hb2⟩
        have HB2 := Lib.hid (HBEL.out.trans (hb2.mono hszr)); clear hb2
        have HW := Lib.hid hw
        by_cases hr : 0 ≤ r ∧ r ≤ 255
        · obtain ⟨n, hn, hd, e⟩ : ∃ n : Nat, n < 256 ∧ p.data.toList = dd n ∧ r = n := by
            rcases hw with ⟨n, _, h2, h3⟩ | ⟨_, h3⟩
            · exact ⟨n, by omega, h2, h3⟩
            · omega
          subst e
          have HNX := Lib.hid (ainv_next HI.out HP.out hd hn)
          clear hw hd hr
          have c1 : ¬ (n : Int) < 0 := by omega
          have c2 : ¬ 255 < (n : Int) := by omega
          have hm : (256 * (x : Int)) ≤ 4294967295 := by omega
          have hm0 : 0 ≤ 256 * (x : Int) := by omega
          go_wp2
          exact ⟨⟨k + 1, x * 256 + n, by omega, by go_num, by (first | go_num | (congr 1; omega)), HNX.out, HB2.out⟩, by simp [intOf]; omega⟩
        · have HA := Lib.hid (addr_piece HL.out HP.out hw (by omega))
          have hb : r < 0 ∨ 255 < r := by omega
          clear hw hr
          rcases hb with hb | hb
          · go_wp2
            go_ret2
            exact ⟨_, _, rfl, HA.out, HB1.out.trans (HB2.out.mono zw1)⟩
          · have c1 : ¬ r < 0 := by omega
            go_wp2
            go_ret2
            exact ⟨_, _, rfl, HA.out, HB1.out.trans (HB2.out.mono zw1)⟩
      · have : k = 4 := by omega
        subst this
        have HA := Lib.hid (ainv_end HI.out HN.out HL.out)
        clear hinv
        go_wp2
        go_ret2
        exact ⟨_, _, rfl, HA.out, HB1.out.trans (hbel.mono zw1)⟩
  · have h4' : ((N : Int) != 4) = true := by simp; omega
    have HA := Lib.hid (addr_len HL.out (by rw [HN.out]; exact h4))
    go_wp2
    go_ret2
    exact ⟨_, _, rfl, HA.out, HB1.out⟩

theorem str_size' {l : List UInt8} : (⟨l.toArray⟩ : ByteArray).size = l.length := by simp [ByteArray.size]
theorem addr_cat {X0 X1 X2 X3 : ByteArray} {a : Nat} (h0 : X0.data.toList = dd (a / 16777216)) (h1 : X1.data.toList = dd (a / 65536 % 256)) (h2 : X2.data.toList = dd (a / 256 % 256)) (h3 : X3.data.toList = dd (a % 256)) :
    Value.string (X0 ++ ⟨#[46]⟩ ++ X1 ++ ⟨#[46]⟩ ++ X2 ++ ⟨#[46]⟩ ++ X3) = strV (addrT a) := by
  have e : (X0 ++ ⟨#[46]⟩ ++ X1 ++ ⟨#[46]⟩ ++ X2 ++ ⟨#[46]⟩ ++ X3).data.toList = addrT a := by
    simp only [Joins.data_append, h0, h1, h2, h3]
    unfold addrT
    simp
  rw [← e]
set_option maxRecDepth 100000 in
set_option maxHeartbeats 1000000 in
theorem AddrText_any (a : Nat) (w : World) (ha : a < 4294967296) :
    Calls Tryz.prog 35 #[.int .u32 a] w fun e w' => e = .returned (strV (addrT a)) ∧ Below w.heap.size w w' := by
  obtain ⟨X0, h0⟩ : ∃ X : ByteArray, X = ⟨(dd (a / 16777216)).toArray⟩ := ⟨_, rfl⟩
  obtain ⟨X1, h1⟩ : ∃ X : ByteArray, X = ⟨(dd (a / 65536 % 256)).toArray⟩ := ⟨_, rfl⟩
  obtain ⟨X2, h2⟩ : ∃ X : ByteArray, X = ⟨(dd (a / 256 % 256)).toArray⟩ := ⟨_, rfl⟩
  obtain ⟨X3, h3⟩ : ∃ X : ByteArray, X = ⟨(dd (a % 256)).toArray⟩ := ⟨_, rfl⟩
  have l0 : X0.size ≤ 3 := by rw [h0, str_size']; exact dd_length_le (by omega)
  have l1 : X1.size ≤ 3 := by rw [h1, str_size']; exact dd_length_le (by omega)
  have l2 : X2.size ≤ 3 := by rw [h2, str_size']; exact dd_length_le (by omega)
  have l3 : X3.size ≤ 3 := by rw [h3, str_size']; exact dd_length_le (by omega)
  have HC := Lib.hid (addr_cat (X0 := X0) (X1 := X1) (X2 := X2) (X3 := X3) (a := a) (by rw [h0]) (by rw [h1]) (by rw [h2]) (by rw [h3]))
  have H0 := Lib.hid h0; have H1 := Lib.hid h1; have H2 := Lib.hid h2; have H3 := Lib.hid h3
  have e0 : ((a : Int) / 16777216) = ((a / 16777216 : Nat) : Int) := by omega
  have g : ∀ m : Nat, m < 4294967296 → bits .and .u32 ((m : Nat) : Int) 255 = ((m % 256 : Nat) : Int) := fun m hm => and_255 m hm
  have e1 : bits .and .u32 ((a : Int) / 65536) 255 = ((a / 65536 % 256 : Nat) : Int) := by rw [show ((a : Int) / 65536) = ((a / 65536 : Nat) : Int) from by omega]; exact g _ (by omega)
  have e2 : bits .and .u32 ((a : Int) / 256) 255 = ((a / 256 % 256 : Nat) : Int) := by rw [show ((a : Int) / 256) = ((a / 256 : Nat) : Int) from by omega]; exact g _ (by omega)
  have e3 : bits .and .u32 (a : Int) 255 = ((a % 256 : Nat) : Int) := g _ ha
  have E0 := Lib.hid e0; have wr : ∀ n : Nat, n < 256 → wrap64 (n : Int) = n := fun n hn => IntWalk.wrap64_in _ ⟨by omega, by omega⟩
  have E1 := Lib.hid ((congrArg wrap64 e1).trans (wr _ (by omega))); have E2 := Lib.hid ((congrArg wrap64 e2).trans (wr _ (by omega))); have E3 := Lib.hid ((congrArg wrap64 e3).trans (wr _ (by omega)))
  have n1 : ¬ 9223372036854775807 < X0.size + 1 := by omega
  have n2 : ¬ 9223372036854775807 < X0.size + 1 + X1.size := by omega
  have n3 : ¬ 9223372036854775807 < X0.size + 1 + X1.size + 1 := by omega
  have n4 : ¬ 9223372036854775807 < X0.size + 1 + X1.size + 1 + X2.size := by omega
  have n5 : ¬ 9223372036854775807 < X0.size + 1 + X1.size + 1 + X2.size + 1 := by omega
  have n6 : ¬ 9223372036854775807 < X0.size + 1 + X1.size + 1 + X2.size + 1 + X3.size := by omega
  have a0 : (0 : Int) ≤ (a : Int) := by omega
  have a1 : (a : Int) ≤ 4294967295 := by omega
  clear h0 h1 h2 h3 e0 e1 e2 e3 g wr
  go_enter Tryz.func35, Tryz.ntmps35
  go_wp2_with fail
  go_at_call 36
  rw [E0.out]
  (with_reducible refine (Digits_n _ (a / 16777216) w (Nat.le_refl _) (by omega)).mono ?_); rintro e w1 ⟨rfl, hb1⟩
  rw [← H0.out]
  have HB1 := Lib.hid hb1; have zw1 := hb1.size; clear hb1
  go_wp2_with fail
  go_at_call 36
  rw [E1.out]
  (with_reducible refine (Digits_n _ (a / 65536 % 256) w1 (Nat.le_refl _) (by omega)).mono ?_); rintro e w2 ⟨rfl, hb1⟩
  rw [← H1.out]
  have HB2 := Lib.hid (HB1.out.trans (hb1.mono zw1)); have zw2 := HB2.out.size; clear hb1
  go_wp2_with fail
  go_at_call 36
  rw [E2.out]
  (with_reducible refine (Digits_n _ (a / 256 % 256) w2 (Nat.le_refl _) (by omega)).mono ?_); rintro e w3 ⟨rfl, hb1⟩
  rw [← H2.out]
  have HB3 := Lib.hid (HB2.out.trans (hb1.mono zw2)); have zw3 := HB3.out.size; clear hb1
  go_wp2_with fail
  go_at_call 36
  rw [E3.out]
  (with_reducible refine (Digits_n _ (a % 256) w3 (Nat.le_refl _) (by omega)).mono ?_); rintro e w4 ⟨rfl, hb1⟩
  rw [← H3.out]
  have HB4 := Lib.hid (HB3.out.trans (hb1.mono zw3)); have zw4 := HB4.out.size; clear hb1
  go_wp2
  go_ret
  exact ⟨by rw [← HC.out]; rfl, HB4.out⟩

theorem AddrOf_yes (c : Nat) (s : ByteArray) (w : World) (hc : c < 4294967296) (hs : s.data.toList = addrT c) :
    Calls Tryz.prog 28 #[.string s] w fun e w' => e = .returned (.tuple #[.int .u32 c, .bool true]) ∧ Below w.heap.size w w' :=
  (AddrOf_any s w (by rw [← size_data, hs]; exact Nat.le_trans (addrT_length c hc) (by omega))).mono fun e w' ⟨v, b, he, hi, hb⟩ => by
    rcases hi with ⟨rfl, a, ha, e1, e2⟩ | ⟨_, _, h3⟩
    · rw [hs] at e1
      have := addrT_inj e1
      subst this; subst e2
      exact ⟨he, hb⟩
    · exact absurd hs (h3 c hc)
theorem AddrOf_no (s : ByteArray) (w : World) (hsz : s.size ≤ 1048576) (hs : ∀ c : Nat, c < 4294967296 → s.data.toList ≠ addrT c) :
    Calls Tryz.prog 28 #[.string s] w fun e w' => e = .returned (.tuple #[.int .u32 0, .bool false]) ∧ Below w.heap.size w w' :=
  (AddrOf_any s w hsz).mono fun e w' ⟨v, b, he, hi, hb⟩ => by
    rcases hi with ⟨_, a, ha, e1, _⟩ | ⟨rfl, rfl, _⟩
    · exact absurd e1 (hs a ha)
    · exact ⟨he, hb⟩
end Go.Proofs.YtohfeoahdbfjbaaGreatDoor
