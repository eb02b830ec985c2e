/- What the desk's forms do: cover, sum. The reference's addresses: of a text, and their text. The reference's masks and net faults. The reference's nets: Has, In, Less, Trim, Half, CommonOf, NetText, by contract. The reference's NetOf. What the laws on tables share: blocks of the law's own beside the  -/
import Derived.Test.YtgdlkjahlajcpaaGreatDoorAI
import Derived.Test.YtgdlkjahlajcpaaGreatDoorAJ
import Derived.Test.YtgdlkjahlajcpaaGreatDoorAH
import Derived.Test.YtgdlkjahlajcpaaGreatDoorAG
import Derived.Lib.QuietBelow
import Derived.BigQuiet
import Derived.Test.YtgdlkjahlajcpaaGreatDoorAB
import Derived.Deep.RegionHeld3
import Derived.Test.YtgdlkjahlajcpaaGreatDoorAF
namespace Go.Proofs.YtgdlkjahlajcpaaGreatDoor
open Go.ChangeShapes Go.WideShapes Go.ChangeAt Go.RowKit
set_option linter.unusedVariables false
set_option linter.unusedSimpArgs false
theorem cov_len {l : List Nn} (hv : ∀ x ∈ l, netF x = 0) : (coverV l).length ≤ l.length := (cover_all hv).2.2
section
variable {W w : World} {T g c : Nat} {m : Tab} {S : Nat → Prop} {s : ByteArray} {v : Value}
set_option maxRecDepth 100000 in
theorem Cover_do (h : Tk W T m S w) (hw : HStr W) :
    Calls Tryz.prog 62 #[deskV T, v] w fun e w' => e = endA (.ok (netsT (coverV (allM m)))) ∧ Below w.heap.size w w' := by
  have h1 := h.below ((Below.refl w.heap.size w).alloc (Nat.le_refl _) (.cells #[.pointer (some ⟨T, 0, none⟩)] 40))
  have HL := Lib.hid (List_t h1)
  have HW : Hid (HStr w) := Lib.hid (hw.below h.bel (Nat.le_refl _))
  obtain ⟨hv, hl⟩ := all_nets h.ok
  have hF : covF (allM m) = 0 := covF_zero.2 ⟨fun x hx => (hv x hx).1, hl⟩
  have hcv : ∀ x ∈ coverV (allM m), netF x = 0 ∧ is32 x.1 := fun x hx => ⟨cover_valid (fun x hx => (hv x hx).1) x hx, cover_32 (fun x hx => (hv x hx).2) x hx⟩
  have hcl : (coverV (allM m)).length ≤ 1000 := Nat.le_trans (cov_len fun x hx => (hv x hx).1) (by omega)
  have HC := Lib.hid hcv
  have HCL := Lib.hid hcl
  have HF := Lib.hid hF
  clear h h1 hw hv hl hF hcv hcl
  go_enter Tryz.func62, Tryz.ntmps62
  go_wp2_with (first
    | (go_at_call 61; refine HL.out.mono ?_; rintro e w1 ⟨u, rfl, hown, hb1⟩; have hr := hown.read; obtain ⟨A, c, hu⟩ := hown.form; rw [hu] at hr ⊢; have HR := Lib.hid hr; have HB1 := Lib.hid (((Below.refl w.heap.size w).alloc (Nat.le_refl _) (.cells #[.pointer (some ⟨T, 0, none⟩)] 40)).trans (hb1.mono (by simp))); clear hown hb1 hr hu)
    | (go_at_call 64; (with_reducible refine (Cover_any HR.out).mono ?_); rintro e w2 ⟨q, rfl, _, hown, hb2⟩; have hown := hown HF.out; have hr := hown.read; obtain ⟨A', c', hu⟩ := hown.form; rw [hu] at hr ⊢; rw [HF.out, errV_z]; have HR2 := Lib.hid hr; have HB2 := Lib.hid (HB1.out.trans (hb2.mono HB1.out.size)); clear hown hb2 hr hu)
    | (go_at_call 63; (with_reducible refine (MustL_ok _ _ _ _).mono ?_); rintro e w3 ⟨rfl, rfl⟩)
    | (go_at_call 60; (with_reducible refine (Texts_any HR2.out HCL.out HC.out (HW.out.on HB2.out)).mono ?_); rintro e w4 ⟨rfl, hb4⟩; have HB4 := Lib.hid (HB2.out.trans (hb4.mono HB2.out.size)); clear hb4)
    | fail)
  go_ret
  exact ⟨rfl, HB4.out⟩
theorem sumL_byte (a : Int) (h : is32 a) : ∀ x ∈ sumL a, 0 ≤ x ∧ x ≤ 255 := by
  have h1 := h.1; have h2 := h.2
  intro x hx
  simp only [sumL, List.mem_cons, List.not_mem_nil, or_false] at hx
  rcases hx with rfl | rfl | rfl | rfl <;> omega
theorem sum_cells (a : Int) : (#[.int .u8 (a / 16777216), .int .u8 (a / 65536 % 256), .int .u8 (a / 256 % 256), .int .u8 (a % 256)] : Array Value).toList = (sumL a).map (Value.int .u8) := rfl
set_option maxRecDepth 100000 in
theorem Sum_do (h : Tk W T m S w) (hw : HStr W) (hc : w.cell? ⟨g, 0, none⟩ = some (.string s)) (hs : s.size ≤ 2097152) :
    Calls Tryz.prog 68 #[deskV T, .slice (some ⟨g, 0, none⟩) 1 c] w fun e w' => e = endA (sumX (addrO s.data.toList)) ∧ Below w.heap.size w w' := by
  have hgl := lt_of_cellG hc
  have hng : ¬ w.heap.size = g := by omega
  have hb0 := (Below.refl w.heap.size w).alloc (Nat.le_refl _) (.cells #[.pointer (some ⟨T, 0, none⟩)] 40)
  have c1 : (w.alloc (.cells #[.pointer (some ⟨T, 0, none⟩)] 40)).cell? ⟨g, 0, none⟩ = some (.string s) := (hb0.cell (p := ⟨g, 0, none⟩) hgl).trans hc
  have HB0 := Lib.hid hb0
  have HW : Hid (HStr w) := Lib.hid (hw.below h.bel (Nat.le_refl _))
  clear h hb0 hw
  rcases addrO_cases s.data.toList with ⟨a, ha, hsn, e⟩ | ⟨hno, e⟩
  · rw [e]
    have HSN := Lib.hid hsn
    have HI : Hid (is32 (a : Int)) := Lib.hid ⟨by omega, by omega⟩
    have hr := S16_rng (sumL a)
    obtain ⟨q, hq⟩ := Int.eq_ofNat_of_zero_le hr.1
    have HQ := Lib.hid hq
    have hq2 : q ≤ 65535 := by have := hr.2; omega
    have hX : sumX (some a) = .ok (dd q) := by show Except.ok (dd (S16 (sumL (a : Int))).toNat) = _; rw [hq]; rfl
    rw [hX]
    clear hsn e hr hq hX
    go_enter Tryz.func68, Tryz.ntmps68
    go_wp2_with (first
      | (go_at_call 56; (with_reducible refine (WAddr_ok a s _ (HW.out.on HB0.out) ha HSN.out).mono ?_); rintro e w1 ⟨rfl, hb1⟩; have HB1 := Lib.hid (HB0.out.trans (hb1.mono HB0.out.size)); clear hb1)
      | (go_at_call 69; (with_reducible refine (Sum_any _ 4 4 (sumL (a : Int)) _ _ (Bytes.new w1 5 _ (sumL (a : Int)) (sum_cells (a : Int)) (sumL_byte (a : Int) HI.out)) rfl (by omega)).mono ?_); rintro e w2 ⟨rfl, rfl⟩; rw [HQ.out])
      | (go_at_call 51; (with_reducible refine (Itoa_n q _ ((HW.out.on HB1.out).alloc _) (by omega)).mono ?_); rintro e w3 ⟨rfl, hb3⟩; have HB3 := Lib.hid ((HB1.out.alloc HB1.out.size _).trans (hb3.mono (by have := HB1.out.size; simp; omega))); clear hb3)
      | fail)
    go_ret
    exact ⟨rfl, HB3.out⟩
  · rw [e]
    have HNO := Lib.hid hno
    clear hno e
    go_enter Tryz.func68, Tryz.ntmps68
    go_wp2_with (first
      | (go_at_call 56; (with_reducible refine (WAddr_bad s _ (HW.out.on HB0.out) hs HNO.out).mono ?_); rintro e w1 ⟨rfl, hb1⟩; have HB1 := Lib.hid (HB0.out.trans (hb1.mono HB0.out.size)); clear hb1)
      | fail)
    exact ⟨rfl, rfl, HB1.out⟩
end
end Go.Proofs.YtgdlkjahlajcpaaGreatDoor
namespace Go.Proofs.YtgdlkjahlajcpaaGreatDoor
open Go.ChangeShapes Go.WideShapes Go.ChangeAt Go.RowKit
set_option linter.unusedVariables false
set_option linter.unusedSimpArgs false

theorem RCut_c (s : ByteArray) (c : UInt8) (n : Int) (hn : (c.toNat : Int) = n) (w : World) (hs : s.size ≤ 2097152) : Calls Tryz.prog 7 #[.string s, .int .u8 n] w (CutAt c s w) := by subst hn; exact RCut_any s c w hs
def AddrIs (s : List UInt8) (v : Int) (b : Bool) : Prop := (b = true ∧ ∃ a : Nat, a < 4294967296 ∧ s = addrT a ∧ v = a) ∨ (b = false ∧ v = 0 ∧ ∀ a : Nat, a < 4294967296 → s ≠ addrT a)
structure AInv (L : List ByteArray) (k x : Nat) : Prop where
  ex : ∃ ns : List Nat, ns.length = k ∧ (∀ n ∈ ns, n < 256) ∧ (L.take k).map (·.data.toList) = ns.map (fun n => dd n) ∧ x = ns.foldl (fun a n => a * 256 + n) 0
  lt : x < 256 ^ k
theorem ainv_zero (L : List ByteArray) : AInv L 0 0 := ⟨⟨[], rfl, by simp, by simp, rfl⟩, by simp⟩
theorem ainv_next {L : List ByteArray} {k x n : Nat} {p : ByteArray} (h : AInv L k x) (hp : L[k]? = some p) (hd : p.data.toList = dd n) (hn : n < 256) : AInv L (k + 1) (x * 256 + n) := by
  obtain ⟨⟨ns, h1, h2, h3, h4⟩, h5⟩ := h
  refine ⟨⟨ns ++ [n], by simp [h1], fun m hm => ?_, ?_, ?_⟩, ?_⟩
  · rcases List.mem_append.1 hm with hm | hm
    · exact h2 m hm
    · simp at hm; omega
  · rw [List.take_add_one, hp, List.map_append, List.map_append, h3]
    simp [hd]
  · rw [List.foldl_append, ← h4]; rfl
  · rw [Nat.pow_succ]; omega
theorem ainv_end {L : List ByteArray} {x : Nat} {s : List UInt8} (h : AInv L 4 x) (hl : L.length = 4) (hL : L.map (·.data.toList) = segs 46 s) : AddrIs s x true := by
  obtain ⟨⟨ns, h1, h2, h3, h4⟩, h5⟩ := h
  rw [List.take_of_length_le (by omega)] at h3
  match ns, h1 with
  | [n0, n1, n2, n3], _ =>
    simp only [List.map_cons, List.map_nil] at h3
    rw [hL] at h3
    have b0 := h2 n0 (by simp); have b1 := h2 n1 (by simp); have b2 := h2 n2 (by simp); have b3 := h2 n3 (by simp)
    have e := addr_of_segs h3 b0 b1 b2 b3
    have ex : x = ((n0 * 256 + n1) * 256 + n2) * 256 + n3 := by rw [h4]; simp
    exact .inl ⟨rfl, x, by omega, by rw [ex]; exact e, rfl⟩
theorem addr_len {L : List ByteArray} {s : List UInt8} (hL : L.map (·.data.toList) = segs 46 s) (hl : L.length ≠ 4) : AddrIs s 0 false :=
  .inr ⟨rfl, rfl, fun a _ e => by rw [e, segs_addr] at hL; have := congrArg List.length hL; simp at this; exact hl this⟩
theorem addr_piece {L : List ByteArray} {s : List UInt8} {k : Nat} {p : ByteArray} {r : Int} (hL : L.map (·.data.toList) = segs 46 s) (hp : L[k]? = some p) (hr : WholeIs p.data.toList r) (hb : r < 0 ∨ 255 < r) : AddrIs s 0 false :=
  .inr ⟨rfl, rfl, fun a ha e => by
    rw [e, segs_addr] at hL
    have h1 := congrArg (·[k]?) hL
    simp only [List.getElem?_map, hp, Option.map_some] at h1
    have key : ∀ n : Nat, n < 256 → p.data.toList = dd n → False := fun n hn ep => by
      rcases hr with ⟨m, _, h3, h4⟩ | ⟨h3, h4⟩
      · rw [ep] at h3; have := dd_inj h3; omega
      · exact h3 n (by omega) ep
    match k with
    | 0 => exact key _ (by omega) (Option.some.inj h1)
    | 1 => exact key _ (by omega) (Option.some.inj h1)
    | 2 => exact key _ (by omega) (Option.some.inj h1)
    | 3 => exact key _ (by omega) (Option.some.inj h1)
    | k + 4 => simp at h1⟩
def AddrOfAt (s : ByteArray) (w : World) (e : Ending) (w' : World) : Prop := ∃ (v : Int) (b : Bool), e = .returned (.tuple #[.int .u32 v, .bool b]) ∧ AddrIs s.data.toList v b ∧ Below w.heap.size w w'
theorem pow_le3 {k : Nat} (h : k < 4) : 256 ^ k ≤ 16777216 := Nat.le_trans (Nat.pow_le_pow_right (by omega) (show k ≤ 3 by omega)) (by decide)
set_option maxRecDepth 100000 in
set_option maxHeartbeats 2000000 in
theorem AddrOf_any (s : ByteArray) (w : World) (hs : s.size ≤ 2097152) :
    Calls Tryz.prog 16 #[.string s] w (AddrOfAt s w) := by
  go_enter Tryz.func16, Tryz.ntmps16
  go_wp2_with fail
  go_at_call 7
  (with_reducible refine (RCut_c s 46 46 rfl w (by omega)).mono ?_); rintro e w1 ⟨L, g, cap, hL, rfl, hc, hg, hb1⟩
  have HL := Lib.hid hL
  have HLS := Lib.hid (fun (k : Nat) (p : ByteArray) (h : L[k]? = some p) => piece_size hL h)
  have HC := Lib.hid hc; have HB1 := Lib.hid hb1; have zw1 := hb1.size
  have hl1 : L.length ≤ 2097153 := by
    have h1 := congrArg List.length hL
    rw [List.length_map, segs_length] at h1
    have h2 := List.count_le_length (a := (46 : UInt8)) (l := s.data.toList)
    rw [size_data] at h2; omega
  clear hL hc hb1
  obtain ⟨N, hN⟩ : ∃ N, L.length = N := ⟨_, rfl⟩
  rw [hN] at hl1 ⊢
  have HN := Lib.hid hN
  clear hN
  by_cases h4 : N = 4
  · subst h4
    go_wp2
    go_loopw [5, 6] (fun v i wr => ∃ k x : Nat, k ≤ 4 ∧ i = .int .i64 k ∧ v = .int .u32 x ∧ AInv L k x ∧ Below w1.heap.size w1 wr) (fun _ i _ => 4 - (intOf i).toNat)
    case atStart => exact ⟨0, 0, by omega, rfl, rfl, ainv_zero L, Below.refl _ _⟩
    case round =>
      obtain ⟨k, x, hk, rfl, rfl, hinv, hbel⟩ := hrel
      have hszr := hbel.size
      have HI := Lib.hid hinv
      by_cases hlt : k < 4
      · obtain ⟨p, hp⟩ : ∃ p, L[k]? = some p := ⟨L[k]'(by rw [HN.out]; exact hlt), List.getElem?_eq_getElem _⟩
        have hcell : wr.cell? ⟨g, k, none⟩ = some (.string p) := (hbel.cell (p := ⟨g, k, none⟩) hg).trans (HC.out k _ hp)
        have hps := HLS.out k p hp
        have HP := Lib.hid hp
        have HBEL := Lib.hid hbel
        have hx : x < 16777216 := Nat.lt_of_lt_of_le hinv.lt (pow_le3 hlt)
        clear hp hbel hinv
        go_wp2_with fail
        go_at_call 26
        (with_reducible refine (Whole_any p wr (by omega)).mono ?_); rintro e w2 ⟨r, rfl, hw, hb2⟩
        have HB2 := Lib.hid (HBEL.out.trans (hb2.mono hszr)); clear hb2
        have HW := Lib.hid hw
        by_cases hr : 0 ≤ r ∧ r ≤ 255
        · obtain ⟨n, hn, hd, e⟩ : ∃ n : Nat, n < 256 ∧ p.data.toList = dd n ∧ r = n := by
            rcases hw with ⟨n, _, h2, h3⟩ | ⟨_, h3⟩
            · exact ⟨n, by omega, h2, h3⟩
            · omega
          subst e
          have HNX := Lib.hid (ainv_next HI.out HP.out hd hn)
          clear hw hd hr
          have c1 : ¬ (n : Int) < 0 := by omega
          have c2 : ¬ 255 < (n : Int) := by omega
          have hm : (256 * (x : Int)) ≤ 4294967295 := by omega
          have hm0 : 0 ≤ 256 * (x : Int) := by omega
          go_wp2
          exact ⟨⟨k + 1, x * 256 + n, by omega, by go_num, by (first | go_num | (congr 1; omega)), HNX.out, HB2.out⟩, by simp [intOf]; omega⟩
        · have HA := Lib.hid (addr_piece HL.out HP.out hw (by omega))
          have hb : r < 0 ∨ 255 < r := by omega
          clear hw hr
          rcases hb with hb | hb
          · go_wp2
            go_ret2
            exact ⟨_, _, rfl, HA.out, HB1.out.trans (HB2.out.mono zw1)⟩
          · have c1 : ¬ r < 0 := by omega
            go_wp2
            go_ret2
            exact ⟨_, _, rfl, HA.out, HB1.out.trans (HB2.out.mono zw1)⟩
      · have : k = 4 := by omega
        subst this
        have HA := Lib.hid (ainv_end HI.out HN.out HL.out)
        clear hinv
        go_wp2
        go_ret2
        exact ⟨_, _, rfl, HA.out, HB1.out.trans (hbel.mono zw1)⟩
  · have h4' : ((N : Int) != 4) = true := by simp; omega
    have HA := Lib.hid (addr_len HL.out (by rw [HN.out]; exact h4))
    go_wp2
    go_ret2
    exact ⟨_, _, rfl, HA.out, HB1.out⟩

theorem str_size' {l : List UInt8} : (⟨l.toArray⟩ : ByteArray).size = l.length := by simp [ByteArray.size]
theorem addr_cat {X0 X1 X2 X3 : ByteArray} {a : Nat} (h0 : X0.data.toList = dd (a / 16777216)) (h1 : X1.data.toList = dd (a / 65536 % 256)) (h2 : X2.data.toList = dd (a / 256 % 256)) (h3 : X3.data.toList = dd (a % 256)) :
    Value.string (X0 ++ ⟨#[46]⟩ ++ X1 ++ ⟨#[46]⟩ ++ X2 ++ ⟨#[46]⟩ ++ X3) = strV (addrT a) := by
  have e : (X0 ++ ⟨#[46]⟩ ++ X1 ++ ⟨#[46]⟩ ++ X2 ++ ⟨#[46]⟩ ++ X3).data.toList = addrT a := by
    simp only [Joins.data_append, h0, h1, h2, h3]
    unfold addrT
    simp
  rw [← e]
set_option maxRecDepth 100000 in
set_option maxHeartbeats 1000000 in
theorem AddrText_any (a : Nat) (w : World) (ha : a < 4294967296) :
    Calls Tryz.prog 37 #[.int .u32 a] w fun e w' => e = .returned (strV (addrT a)) ∧ Below w.heap.size w w' := by
  obtain ⟨X0, h0⟩ : ∃ X : ByteArray, X = ⟨(dd (a / 16777216)).toArray⟩ := ⟨_, rfl⟩
  obtain ⟨X1, h1⟩ : ∃ X : ByteArray, X = ⟨(dd (a / 65536 % 256)).toArray⟩ := ⟨_, rfl⟩
  obtain ⟨X2, h2⟩ : ∃ X : ByteArray, X = ⟨(dd (a / 256 % 256)).toArray⟩ := ⟨_, rfl⟩
  obtain ⟨X3, h3⟩ : ∃ X : ByteArray, X = ⟨(dd (a % 256)).toArray⟩ := ⟨_, rfl⟩
  have l0 : X0.size ≤ 3 := by rw [h0, str_size']; exact dd_length_le (by omega)
  have l1 : X1.size ≤ 3 := by rw [h1, str_size']; exact dd_length_le (by omega)
  have l2 : X2.size ≤ 3 := by rw [h2, str_size']; exact dd_length_le (by omega)
  have l3 : X3.size ≤ 3 := by rw [h3, str_size']; exact dd_length_le (by omega)
  have HC := Lib.hid (addr_cat (X0 := X0) (X1 := X1) (X2 := X2) (X3 := X3) (a := a) (by rw [h0]) (by rw [h1]) (by rw [h2]) (by rw [h3]))
  have H0 := Lib.hid h0; have H1 := Lib.hid h1; have H2 := Lib.hid h2; have H3 := Lib.hid h3
  have e0 : ((a : Int) / 16777216) = ((a / 16777216 : Nat) : Int) := by omega
  have g : ∀ m : Nat, m < 4294967296 → bits .and .u32 ((m : Nat) : Int) 255 = ((m % 256 : Nat) : Int) := fun m hm => and_255 m hm
  have e1 : bits .and .u32 ((a : Int) / 65536) 255 = ((a / 65536 % 256 : Nat) : Int) := by rw [show ((a : Int) / 65536) = ((a / 65536 : Nat) : Int) from by omega]; exact g _ (by omega)
  have e2 : bits .and .u32 ((a : Int) / 256) 255 = ((a / 256 % 256 : Nat) : Int) := by rw [show ((a : Int) / 256) = ((a / 256 : Nat) : Int) from by omega]; exact g _ (by omega)
  have e3 : bits .and .u32 (a : Int) 255 = ((a % 256 : Nat) : Int) := g _ ha
  have E0 := Lib.hid e0; have wr : ∀ n : Nat, n < 256 → wrap64 (n : Int) = n := fun n hn => IntWalk.wrap64_in _ ⟨by omega, by omega⟩
  have E1 := Lib.hid ((congrArg wrap64 e1).trans (wr _ (by omega))); have E2 := Lib.hid ((congrArg wrap64 e2).trans (wr _ (by omega))); have E3 := Lib.hid ((congrArg wrap64 e3).trans (wr _ (by omega)))
  have n1 : ¬ 9223372036854775807 < X0.size + 1 := by omega
  have n2 : ¬ 9223372036854775807 < X0.size + 1 + X1.size := by omega
  have n3 : ¬ 9223372036854775807 < X0.size + 1 + X1.size + 1 := by omega
  have n4 : ¬ 9223372036854775807 < X0.size + 1 + X1.size + 1 + X2.size := by omega
  have n5 : ¬ 9223372036854775807 < X0.size + 1 + X1.size + 1 + X2.size + 1 := by omega
  have n6 : ¬ 9223372036854775807 < X0.size + 1 + X1.size + 1 + X2.size + 1 + X3.size := by omega
  have a0 : (0 : Int) ≤ (a : Int) := by omega
  have a1 : (a : Int) ≤ 4294967295 := by omega
  clear h0 h1 h2 h3 e0 e1 e2 e3 g wr
  go_enter Tryz.func37, Tryz.ntmps37
  go_wp2_with fail
  go_at_call 17
  rw [E0.out]
  (with_reducible refine (Digits_n _ (a / 16777216) w (Nat.le_refl _) (by omega)).mono ?_); rintro e w1 ⟨rfl, hb1⟩
  rw [← H0.out]
  have HB1 := Lib.hid hb1; have zw1 := hb1.size; clear hb1
  go_wp2_with fail
  go_at_call 17
  rw [E1.out]
  (with_reducible refine (Digits_n _ (a / 65536 % 256) w1 (Nat.le_refl _) (by omega)).mono ?_); rintro e w2 ⟨rfl, hb1⟩
  rw [← H1.out]
  have HB2 := Lib.hid (HB1.out.trans (hb1.mono zw1)); have zw2 := HB2.out.size; clear hb1
  go_wp2_with fail
  go_at_call 17
  rw [E2.out]
  (with_reducible refine (Digits_n _ (a / 256 % 256) w2 (Nat.le_refl _) (by omega)).mono ?_); rintro e w3 ⟨rfl, hb1⟩
  rw [← H2.out]
  have HB3 := Lib.hid (HB2.out.trans (hb1.mono zw2)); have zw3 := HB3.out.size; clear hb1
  go_wp2_with fail
  go_at_call 17
  rw [E3.out]
  (with_reducible refine (Digits_n _ (a % 256) w3 (Nat.le_refl _) (by omega)).mono ?_); rintro e w4 ⟨rfl, hb1⟩
  rw [← H3.out]
  have HB4 := Lib.hid (HB3.out.trans (hb1.mono zw3)); have zw4 := HB4.out.size; clear hb1
  go_wp2
  go_ret
  exact ⟨by rw [← HC.out]; rfl, HB4.out⟩

theorem AddrOf_yes (c : Nat) (s : ByteArray) (w : World) (hc : c < 4294967296) (hs : s.data.toList = addrT c) :
    Calls Tryz.prog 16 #[.string s] w fun e w' => e = .returned (.tuple #[.int .u32 c, .bool true]) ∧ Below w.heap.size w w' :=
  (AddrOf_any s w (by rw [← size_data, hs]; exact Nat.le_trans (addrT_length c hc) (by omega))).mono fun e w' ⟨v, b, he, hi, hb⟩ => by
    rcases hi with ⟨rfl, a, ha, e1, e2⟩ | ⟨_, _, h3⟩
    · rw [hs] at e1
      have := addrT_inj e1
      subst this; subst e2
      exact ⟨he, hb⟩
    · exact absurd hs (h3 c hc)
theorem AddrOf_no (s : ByteArray) (w : World) (hsz : s.size ≤ 2097152) (hs : ∀ c : Nat, c < 4294967296 → s.data.toList ≠ addrT c) :
    Calls Tryz.prog 16 #[.string s] w fun e w' => e = .returned (.tuple #[.int .u32 0, .bool false]) ∧ Below w.heap.size w w' :=
  (AddrOf_any s w hsz).mono fun e w' ⟨v, b, he, hi, hb⟩ => by
    rcases hi with ⟨_, a, ha, e1, _⟩ | ⟨rfl, rfl, _⟩
    · exact absurd e1 (hs a ha)
    · exact ⟨he, hb⟩
end Go.Proofs.YtgdlkjahlajcpaaGreatDoor
namespace Go.Proofs.YtgdlkjahlajcpaaGreatDoor
open Go.ChangeShapes Go.WideShapes Go.ChangeAt Go.RowKit
set_option linter.unusedVariables false

theorem maskR_step_fin : ∀ k : Fin 32, bits BinOp.or IntKind.u32 (maskV k.val) (2 ^ (31 - k.val)) = maskV (k.val + 1) := by decide +kernel
theorem maskR_step (k : Nat) (h : k < 32) : bits BinOp.or IntKind.u32 (maskV k) (2 ^ (31 - k)) = maskV (k + 1) := maskR_step_fin ⟨k, h⟩
theorem maskR_pow_fin : ∀ k : Fin 32, (2 : Int) ^ (31 - k.val) % 4294967296 = 2 ^ (31 - k.val) := by decide
theorem maskR_pow (k : Nat) (h : k < 32) : (2 : Int) ^ (31 - k) % 4294967296 = 2 ^ (31 - k) := maskR_pow_fin ⟨k, h⟩
set_option maxHeartbeats 400000 in
theorem MaskOf_n (n : Nat) (w : World) (hn : n ≤ 32) :
    Calls Tryz.prog 70 #[.int .i64 n] w fun e w' => e = .returned (.int .u32 (maskV n)) ∧ w = w' := by
  go_enter Tryz.func70, Tryz.ntmps70
  go_wp2
  go_loop [3, 4] (fun m i => ∃ k : Nat, k ≤ n ∧ i = .int .i64 k ∧ m = .int .u32 (maskV k)) (fun _ i => n - (intOf i).toNat)
  case atStart => exact ⟨0, Nat.zero_le _, rfl, by rfl⟩
  case round =>
    obtain ⟨k, hk, rfl, rfl⟩ := hrel
    by_cases hlt : k < n
    · have hs := maskR_step k (by omega)
      have hp := maskR_pow k (by omega)
      have hu : IntKind.u64.wrap (31 - (k : Int)) = 31 - k := IntWalk.u64_in _ ⟨by omega, by omega⟩
      have hS := Lib.hid hs; have hP := Lib.hid hp; clear hs hp
      go_wp2
      refine ⟨⟨k + 1, by omega, by go_num, ?_⟩, by simp [intOf]; omega⟩
      rw [hP.out, hS.out]
    · have e : k = n := by omega
      subst e
      go_wp2
      go_ret
      exact ⟨rfl, rfl⟩
set_option maxHeartbeats 400000 in
theorem NetFault_n (a n : Int) (w : World) (h0 : 0 ≤ a) (h1 : a ≤ 4294967295) :
    Calls Tryz.prog 38 #[.agg #[.int .u32 a, .int .i64 n]] w fun e w' => e = .returned (.int .i64 (netF (a, n))) ∧ Below w.heap.size w w' := by
  by_cases hin : 0 ≤ n ∧ n ≤ 32
  · obtain ⟨k, rfl⟩ := Int.eq_ofNat_of_zero_le hin.1
    have hk : k ≤ 32 := by omega
    have hk' : ¬ (k : Int) < 0 := by omega
    have hk2 : ¬ 32 < (k : Int) := by omega
    have hb := and_maskI a k h0 h1
    have hF : netF (a, (k : Int)) = if a % lowI k = 0 then 0 else 3 := by unfold netF; rw [if_neg (by simp; omega)]; rfl
    rw [hF]
    by_cases hz : a % lowI k = 0
    · rw [if_pos hz]
      have ht : (bits .and .u32 a (maskV k) != a) = false := by rw [hb, hz]; simp
      clear hz hb hF hin
      go_enter Tryz.func38, Tryz.ntmps38
      go_wp2
      go_quiet ((go_at_call 70; exact quiet_left (MaskOf_n k _ hk)))
      go_wp2
      go_ret
      exact ⟨rfl, below_drewN ((Below.refl _ _).alloc (Nat.le_refl _) _) _⟩
    · rw [if_neg hz]
      have ht : (bits .and .u32 a (maskV k) != a) = true := by rw [hb]; simp [bne]; omega
      clear hz hb hF hin
      go_enter Tryz.func38, Tryz.ntmps38
      go_wp2
      go_quiet ((go_at_call 70; exact quiet_left (MaskOf_n k _ hk)))
      go_wp2
      go_ret
      exact ⟨rfl, below_drewN ((Below.refl _ _).alloc (Nat.le_refl _) _) _⟩
  · have hF : netF (a, n) = 1 := by unfold netF; rw [if_pos (by simp; omega)]
    have hn : n < 0 ∨ 32 < n := by omega
    rw [hF]
    clear hF hin
    rcases hn with hn | hn
    · go_enter Tryz.func38, Tryz.ntmps38
      go_wp2
      go_ret
      exact ⟨rfl, (Below.refl _ _).alloc (Nat.le_refl _) _⟩
    · have hn' : ¬ n < 0 := by omega
      go_enter Tryz.func38, Tryz.ntmps38
      go_wp2
      go_ret
      exact ⟨rfl, (Below.refl _ _).alloc (Nat.le_refl _) _⟩
end Go.Proofs.YtgdlkjahlajcpaaGreatDoor
namespace Go.Proofs.YtgdlkjahlajcpaaGreatDoor
open Go.ChangeShapes Go.WideShapes Go.ChangeAt Go.RowKit
set_option linter.unusedVariables false
set_option linter.unusedSimpArgs false

abbrev nb (a l : Int) : Obj := .cells #[.int .u32 a, .int .i64 l] 47 (0, 0)
theorem fault_c {w : World} {a l r : Int} (h : netF (a, l) = r) (ha : is32 a) (d : Nat) (os : Array Obj) :
    Calls Tryz.prog 38 #[.agg #[.int .u32 a, .int .i64 l]] (Sort.grow (redrawn w d) os) fun e w'' => e = .returned (.int .i64 r) ∧ ∃ p : Regrown, w'' = Sort.grow (redrawn w p.d) p.os :=
  Calls.regrown_of ((NetFault_n a l _ ha.1 ha.2).mono fun e w' ⟨he, hb⟩ => ⟨by rw [he, h], hb⟩)
theorem mask_c {w : World} {k : Nat} (hk : k ≤ 32) (d : Nat) (os : Array Obj) :
    Calls Tryz.prog 70 #[.int .i64 k] (Sort.grow (redrawn w d) os) fun e w'' => e = .returned (.int .u32 (maskV k)) ∧ ∃ p : Regrown, w'' = Sort.grow (redrawn w p.d) p.os :=
  Calls.regrown_of ((MaskOf_n k _ hk).mono fun e w' ⟨he, hb⟩ => ⟨he, by rw [← hb]; exact Below.refl _ _⟩)
theorem fault_is {a l r : Int} (h : netF (a, l) = r) (ha : is32 a) (w : World) :
    Calls Tryz.prog 38 #[.agg #[.int .u32 a, .int .i64 l]] w fun e w' => e = .returned (.int .i64 r) ∧ Below w.heap.size w w' :=
  (NetFault_n a l _ ha.1 ha.2).mono fun e w' ⟨he, hb⟩ => ⟨by rw [he, h], hb⟩
set_option maxRecDepth 100000 in
set_option maxHeartbeats 1000000 in
theorem RHas_any (a n x : Int) (w : World) (ha : is32 a) (hx : is32 x) :
    Calls Tryz.prog 36 #[.agg #[.int .u32 a, .int .i64 n], .int .u32 x] w fun e w' => e = .returned (.bool (hasB (a, n) x)) ∧ Below w.heap.size w w' := by
  have k0 := fun d os => cell_regrown (w := w.alloc (nb a n)) (a := ⟨w.heap.size, 0, none⟩) (v := .int .u32 a) (by simp) d os
  have k1 := fun d os => cell_regrown (w := w.alloc (nb a n)) (a := ⟨w.heap.size, 1, none⟩) (v := .int .i64 n) (by simp) d os
  by_cases hz : netF (a, n) = 0
  · obtain ⟨k, hk, ek, _⟩ := net_ok hz
    simp only at ek
    subst ek
    have hb := and_maskI x k hx.1 hx.2
    rw [hasB_of hz, Int.toNat_natCast]
    have hfl : x - x % lowI k = fl (lowI k) x := rfl
    rw [hfl] at hb
    have HB := Lib.hid hb
    have HZ := Lib.hid hz
    have HA := Lib.hid ha
    clear hb hfl hz hx ha
    go_enter Tryz.func36, Tryz.ntmps36
    go_wp2
    refine wp_region_quiet_below (by kernel_rfl) (by kernel_rfl) ?_
    repeat (go_big_quiet_step (first | (with_reducible exact fault_c HZ.out HA.out _ _) | (with_reducible exact mask_c hk _ _) | fail))
    refine wpQuiet_nil ?_
    intro _ hw'
    obtain ⟨⟨dq, osq⟩, hw''⟩ := hw'
    subst hw''
    go_wp2
    go_ret
    exact ⟨by rw [HB.out]; rfl, ((Below.refl _ _).alloc (Nat.le_refl _) _).trans ((below_regrown _ dq osq).mono (by simp))⟩
  · have hF : hasB (a, n) x = false := by unfold hasB; simp [hz]
    have hne : (netF (a, n) == 0) = false := by simpa using hz
    rw [hF]
    obtain ⟨r, hr⟩ : ∃ r, netF (a, n) = r := ⟨_, rfl⟩
    rw [hr] at hne
    have HR := Lib.hid hr
    have HA := Lib.hid ha
    clear hF hz hr ha hx
    go_enter Tryz.func36, Tryz.ntmps36
    go_wp2
    refine wp_region_quiet_below (by kernel_rfl) (by kernel_rfl) ?_
    repeat (go_big_quiet_step (first | (with_reducible exact fault_c HR.out HA.out _ _) | fail))
    refine wpQuiet_nil ?_
    intro _ hw'
    obtain ⟨⟨dq, osq⟩, hw''⟩ := hw'
    subst hw''
    go_wp2
    go_ret
    exact ⟨rfl, ((Below.refl _ _).alloc (Nat.le_refl _) _).trans ((below_regrown _ dq osq).mono (by simp))⟩
set_option maxHeartbeats 400000 in
theorem RIn_any (a n b m : Int) (w : World) (ha : is32 a) (hb : is32 b) :
    Calls Tryz.prog 32 #[.agg #[.int .u32 a, .int .i64 n], .agg #[.int .u32 b, .int .i64 m]] w fun e w' => e = .returned (.bool (inB (a, n) (b, m))) ∧ Below w.heap.size w w' := by
  obtain ⟨h0, h1⟩ := ha
  have HB := Lib.hid hb
  by_cases hz : netF (a, n) = 0
  · have HZ := Lib.hid hz
    by_cases hl : m ≤ n
    · rw [inB_has hz hl]
      clear hz
      go_enter Tryz.func32, Tryz.ntmps32
      go_wp2_with (first
        | (go_at_call 38; refine (fault_is HZ.out ⟨h0, h1⟩ _).mono ?_; rintro e w1 ⟨rfl, hb1⟩; have d0 : w1.cell? ⟨w.heap.size, 0, none⟩ = some (.int .u32 a) := (hb1.cell (by simp; omega)).trans (by simp); have d1 : w1.cell? ⟨w.heap.size, 1, none⟩ = some (.int .i64 n) := (hb1.cell (by simp; omega)).trans (by simp); have d2 : w1.cell? ⟨w.heap.size + 1, 0, none⟩ = some (.int .u32 b) := (hb1.cell (by simp)).trans (by simp); have d3 : w1.cell? ⟨w.heap.size + 1, 1, none⟩ = some (.int .i64 m) := (hb1.cell (by simp)).trans (by simp); have hz1 := hb1.size; simp only [World.size_alloc] at hz1; have HB1 := Lib.hid ((((Below.refl w.heap.size w).alloc (Nat.le_refl _) _).alloc (by simp) _).trans (hb1.mono (by simp; omega))); clear hb1)
        | (go_at_call 36; refine (RHas_any b m a _ HB.out ⟨h0, h1⟩).mono ?_; rintro e w2 ⟨rfl, hb2⟩; have HB2 := Lib.hid (HB1.out.trans (hb2.mono (by omega))); clear hb2)
        | fail)
      go_ret
      exact ⟨rfl, HB2.out⟩
    · have hlt : n < m := by omega
      rw [inB_len (a := (a, n)) (b := (b, m)) hlt]
      clear hz
      go_enter Tryz.func32, Tryz.ntmps32
      go_wp2_with (first
        | (go_at_call 38; refine (fault_is HZ.out ⟨h0, h1⟩ _).mono ?_; rintro e w1 ⟨rfl, hb1⟩; have d0 : w1.cell? ⟨w.heap.size, 0, none⟩ = some (.int .u32 a) := (hb1.cell (by simp; omega)).trans (by simp); have d1 : w1.cell? ⟨w.heap.size, 1, none⟩ = some (.int .i64 n) := (hb1.cell (by simp; omega)).trans (by simp); have d2 : w1.cell? ⟨w.heap.size + 1, 0, none⟩ = some (.int .u32 b) := (hb1.cell (by simp)).trans (by simp); have d3 : w1.cell? ⟨w.heap.size + 1, 1, none⟩ = some (.int .i64 m) := (hb1.cell (by simp)).trans (by simp); have HB1 := Lib.hid ((((Below.refl w.heap.size w).alloc (Nat.le_refl _) _).alloc (by simp) _).trans (hb1.mono (by simp; omega))); clear hb1)
        | fail)
      go_ret
      exact ⟨rfl, HB1.out⟩
  · rw [inB_no hz]
    have hne : (netF (a, n) == 0) = false := by simpa using hz
    obtain ⟨r, hr⟩ : ∃ r, netF (a, n) = r := ⟨_, rfl⟩
    rw [hr] at hne
    have HR := Lib.hid hr
    clear hz hr
    go_enter Tryz.func32, Tryz.ntmps32
    go_wp2_with (first
      | (go_at_call 38; refine (fault_is HR.out ⟨h0, h1⟩ _).mono ?_; rintro e w1 ⟨rfl, hb1⟩; have HB1 := Lib.hid ((((Below.refl w.heap.size w).alloc (Nat.le_refl _) _).alloc (by simp) _).trans (hb1.mono (by simp; omega))); clear hb1)
      | fail)
    go_ret
    exact ⟨rfl, HB1.out⟩
set_option maxHeartbeats 400000 in
theorem RLess_any (a n b m : Int) (w : World) :
    Calls Tryz.prog 31 #[.agg #[.int .u32 a, .int .i64 n], .agg #[.int .u32 b, .int .i64 m]] w fun e w' => e = .returned (.bool (lessB (a, n) (b, m))) ∧ Below w.heap.size w w' := by
  by_cases h1 : a < b
  · have hL : lessB (a, n) (b, m) = true := lessB_iff.2 (.inl h1)
    rw [hL]
    clear hL
    go_enter Tryz.func31, Tryz.ntmps31
    go_wp2
    go_ret
    exact ⟨rfl, ((Below.refl _ _).alloc (Nat.le_refl _) _).alloc (by simp) _⟩
  · by_cases h2 : a = b
    · subst h2
      have hL : lessB (a, n) (a, m) = decide (n < m) := by unfold lessB; simp
      rw [hL]
      clear hL
      go_enter Tryz.func31, Tryz.ntmps31
      go_wp2
      go_ret
      exact ⟨rfl, ((Below.refl _ _).alloc (Nat.le_refl _) _).alloc (by simp) _⟩
    · have hL : lessB (a, n) (b, m) = false := by unfold lessB; simp; omega
      have t1 : (a == b) = false := by simpa using h2
      rw [hL]
      clear hL h2
      go_enter Tryz.func31, Tryz.ntmps31
      go_wp2
      go_ret
      exact ⟨rfl, ((Below.refl _ _).alloc (Nat.le_refl _) _).alloc (by simp) _⟩

theorem cell_end {f : Func} {W : World} {R : Nat} {a : Act} {v0 v1 : Value} {t : TypeId} {K : Ending → World → Prop} (hf : f.results = #[.cell 4 47]) (h : W.heap[R]? = some (.cells #[v0, v1] t (0, 0))) (h2 : a.tmps[4]?.getD undef = .pointer (some ⟨R, 0, none⟩)) (hd : a.defers = [])
    (hK : K (.returned (.agg #[v0, v1])) W) : bodyPost Tryz.prog f K .ret a W := by
  have e0 : W.cell? ⟨R, 0, none⟩ = some v0 := by rw [cell_of_row _ R _ _ _ (0, 0) h]; rfl
  have e1 : W.cell? ⟨R, 1, none⟩ = some v1 := by rw [cell_of_row _ R _ _ _ (0, 0) h]; rfl
  exact bodyPost_ret (by simp [results, hf, go_sem, h2, e0, e1]) hd hK
set_option maxRecDepth 100000 in
set_option maxHeartbeats 1000000 in
theorem Trim_any (a n : Int) (k : Nat) (w : World) (ha : is32 a) (hk : k ≤ 32) :
    Calls Tryz.prog 39 #[.agg #[.int .u32 a, .int .i64 n], .int .i64 k] w fun e w' => e = .returned (.agg #[.int .u32 (fl (lowI k) a), .int .i64 k]) ∧ Below w.heap.size w w' := by
  have hb := and_maskI a k ha.1 ha.2
  have hfl : a - a % lowI k = fl (lowI k) a := rfl
  rw [hfl] at hb
  have HB := Lib.hid hb
  have hblk := box2 (Below.refl _ ((w.alloc (nb a n)).alloc (nb 0 0)))
  obtain ⟨d0, d1, _, _⟩ := row2 hblk.1
  obtain ⟨r0, r1, f0, f1⟩ := row2 hblk.2
  have BLK := Lib.hid hblk.2
  have HBE := Lib.hid (below_2 w (nb a n) (nb 0 0))
  clear hb hfl ha hblk
  go_enter Tryz.func39, Tryz.ntmps39
  go_wp2
  refine wp_region_noPanic ?_
  refine wp_region_held_drew (S := (fun w' => w'.cell? ⟨w.heap.size, 0, none⟩ = some (.int .u32 a))) (by kernel_rfl) (by go_keep) (fun hHeld => ?_)
  refine' wpAnyH_take (i := 0) ?hia0 ?hsa0 ?hfa0 ?hra0 ?hQa0 ?hya0 ?hSa0 ?ha0
  case hia0 => (simp only [List.getElem?_toArray, List.getElem?_cons_succ, List.getElem?_cons_zero]; exact rfl)
  case hsa0 => kernel_rfl
  case hfa0 => kernel_rfl
  case hra0 => kernel_rfl
  case hQa0 => exact fun _ _ _ h => h
  case hya0 => (first | (refine Or.inr ⟨by rfl, ?_⟩; rfl) | (refine Or.inl ⟨by rfl, ?_⟩; (intro w hSw; (try dsimp only at hSw); go_simp); try with_reducible rfl))
  case hSa0 => assumption
  try simp only [Act.put, List.setIfInBounds_toArray, List.set_cons_zero, List.set_cons_succ]
  refine' wpAnyH_take (i := 1) ?hia1 ?hsa1 ?hfa1 ?hra1 ?hQa1 ?hya1 ?hSa1 ?ha1
  case hia1 => (simp only [List.getElem?_toArray, List.getElem?_cons_succ, List.getElem?_cons_zero]; exact rfl)
  case hsa1 => kernel_rfl
  case hfa1 => kernel_rfl
  case hra1 => kernel_rfl
  case hQa1 => exact fun _ _ _ h => h
  case hya1 => (first | (refine Or.inr ⟨by rfl, ?_⟩; rfl) | (refine Or.inl ⟨by rfl, ?_⟩; (intro w hSw; (try dsimp only at hSw); go_simp); try with_reducible rfl))
  case hSa1 => assumption
  try simp only [Act.put, List.setIfInBounds_toArray, List.set_cons_zero, List.set_cons_succ]
  refine' wpAnyH_take (i := 2) ?hia2 ?hsa2 ?hfa2 ?hra2 ?hQa2 ?hya2 ?hSa2 ?ha2
  case hia2 => (simp only [List.getElem?_toArray, List.getElem?_cons_succ, List.getElem?_cons_zero]; exact rfl)
  case hsa2 => kernel_rfl
  case hfa2 => kernel_rfl
  case hra2 => kernel_rfl
  case hQa2 => exact fun _ _ _ h => h
  case hya2 => (first | (refine Or.inr ⟨by rfl, ?_⟩; rfl) | (refine Or.inl ⟨by rfl, ?_⟩; (intro w hSw; (try dsimp only at hSw); go_simp); try with_reducible rfl))
  case hSa2 => assumption
  try simp only [Act.put, List.setIfInBounds_toArray, List.set_cons_zero, List.set_cons_succ]
  refine' wpAnyH_take (i := 5) ?hia5 ?hsa5 ?hfa5 ?hra5 ?hQa5 ?hya5 ?hSa5 ?ha5
  case hia5 => (simp only [List.getElem?_toArray, List.getElem?_cons_succ, List.getElem?_cons_zero]; exact rfl)
  case hsa5 => kernel_rfl
  case hfa5 => kernel_rfl
  case hra5 => kernel_rfl
  case hQa5 => exact fun _ _ _ h => h
  case hya5 => (first | (refine Or.inr ⟨by rfl, ?_⟩; rfl) | (refine Or.inl ⟨by rfl, ?_⟩; (intro w hSw; (try dsimp only at hSw); go_simp); try with_reducible rfl))
  case hSa5 => assumption
  try simp only [Act.put, List.setIfInBounds_toArray, List.set_cons_zero, List.set_cons_succ]
  refine wpAnyH_ready (rs := [3]) (by kernel_rfl) (by simp) ?_
  refine' AllReadyH.cons ?hia3 (fun K hK => ?ha3) AllReadyH.nil
  case hia3 => (simp only [List.getElem?_toArray, List.getElem?_cons_succ, List.getElem?_cons_zero]; exact rfl)
  (go_simp; go_at_call 70; refine (MaskOf_n k _ hk).mono ?_; rintro e w' ⟨rfl, rfl⟩)
  refine hK.out _ _ (by go_keep) (fun hHeld => ?_)
  clear hK K
  refine' wpAnyH_take (i := 4) ?hia4 ?hsa4 ?hfa4 ?hra4 ?hQa4 ?hya4 ?hSa4 ?ha4
  case hia4 => (simp only [List.getElem?_toArray, List.getElem?_cons_succ, List.getElem?_cons_zero]; exact rfl)
  case hsa4 => kernel_rfl
  case hfa4 => kernel_rfl
  case hra4 => kernel_rfl
  case hQa4 => exact fun _ _ _ h => h
  case hya4 => (first | (refine Or.inr ⟨by rfl, ?_⟩; rfl) | (refine Or.inl ⟨by rfl, ?_⟩; (intro w hSw; (try dsimp only at hSw); go_simp); try with_reducible rfl))
  case hSa4 => assumption
  try simp only [Act.put, List.setIfInBounds_toArray, List.set_cons_zero, List.set_cons_succ]
  refine' wpAnyH_take (i := 6) ?hia6 ?hsa6 ?hfa6 ?hra6 ?hQa6 ?hya6 ?hSa6 ?ha6
  case hia6 => (simp only [List.getElem?_toArray, List.getElem?_cons_succ, List.getElem?_cons_zero]; exact rfl)
  case hsa6 => kernel_rfl
  case hfa6 => kernel_rfl
  case hra6 => kernel_rfl
  case hQa6 => exact fun _ _ _ h => h
  case hya6 => (first | (refine Or.inr ⟨by rfl, ?_⟩; rfl) | (refine Or.inl ⟨by rfl, ?_⟩; (intro w hSw; (try dsimp only at hSw); go_simp); try with_reducible rfl))
  case hSa6 => assumption
  try simp only [Act.put, List.setIfInBounds_toArray, List.set_cons_zero, List.set_cons_succ]
  refine wpAnyH_ready (rs := [7]) (by kernel_rfl) (by simp) ?_
  refine' AllReadyH.cons ?hia7 (fun K hK => ?ha7) AllReadyH.nil
  case hia7 => (simp only [List.getElem?_toArray, List.getElem?_cons_succ, List.getElem?_cons_zero]; exact rfl)
  go_simp
  refine hK.out _ _ (by go_keep) (fun hHeld => ?_)
  clear hK K
  refine wpAnyH_done (by kernel_rfl) ?_ _
  refine NoPanic.normal ?_
  go_wp2
  exact cell_end rfl (box2 (Below.refl _ ((w.alloc (nb a n)).alloc (nb (bits .and .u32 a (maskV k)) k)))).2 rfl rfl ⟨by rw [HB.out], below_drewN (below_2 w _ _) 1⟩
set_option maxRecDepth 100000 in
set_option maxHeartbeats 400000 in
theorem RNetText_any (a k : Nat) (w : World) (ha : a < 4294967296) (hk : k ≤ 32) :
    Calls Tryz.prog 21 #[.agg #[.int .u32 a, .int .i64 k]] w fun e w' => e = .returned (strV (netT a k)) ∧ Below w.heap.size w w' := by
  obtain ⟨X, hX⟩ : ∃ X : ByteArray, X = ⟨(addrT a).toArray⟩ := ⟨_, rfl⟩
  obtain ⟨Y, hY⟩ : ∃ Y : ByteArray, Y = ⟨(dd k).toArray⟩ := ⟨_, rfl⟩
  have hXl : X.size ≤ 15 := by rw [hX, str_size]; exact addrT_length a ha
  have hYl : Y.size ≤ 3 := by rw [hY, str_size]; exact dd_length_le (by omega)
  have hR : Value.string (X ++ ⟨#[47]⟩ ++ Y) = strV (netT a k) := netT_str (by rw [hX]) (by rw [hY])
  have cT := fun d os => Calls.regrown_of (AddrText_any a (Sort.grow (redrawn (w.alloc (.cells #[.int .u32 a, .int .i64 k] 47)) d) os) ha)
  have cI := fun d os => Calls.regrown_of (Digits_n k k (Sort.grow (redrawn (w.alloc (.cells #[.int .u32 a, .int .i64 k] 47)) d) os) (Nat.le_refl _) (by omega))
  have c0 := fun d os => cell_regrown (w := w.alloc (.cells #[.int .u32 a, .int .i64 k] 47)) (a := ⟨w.heap.size, 0, none⟩) (v := .int .u32 a) (by simp) d os
  have c1 := fun d os => cell_regrown (w := w.alloc (.cells #[.int .u32 a, .int .i64 k] 47)) (a := ⟨w.heap.size, 1, none⟩) (v := .int .i64 k) (by simp) d os
  unfold strV at cT cI
  rw [← hX] at cT
  rw [← hY] at cI
  have CT := Lib.hid cT
  have CI := Lib.hid cI
  have HR := Lib.hid hR
  have n1 : ¬ 9223372036854775807 < X.size + 1 := by omega
  have n2 : ¬ 9223372036854775807 < X.size + 1 + Y.size := by omega
  clear cT cI hX hY hR
  go_enter Tryz.func21, Tryz.ntmps21
  go_wp2
  refine wp_region_quiet_below (by kernel_rfl) (by kernel_rfl) ?_
  repeat (quiet_step (first | exact CT.out _ _ | exact CI.out _ _))
  refine wpQuiet_nil ?_
  intro _ hw'
  obtain ⟨⟨dq, osq⟩, hw''⟩ := hw'
  subst hw''
  go_wp2
  go_ret
  exact ⟨by rw [HR.out]; rfl, ((Below.refl _ _).alloc (Nat.le_refl _) _).trans ((below_regrown _ dq osq).mono (by simp))⟩
theorem half_run_fin : ∀ k : Fin 32, (2 : Int) ^ (31 - k.val) % 4294967296 = lowI (k.val + 1) := by decide +kernel
set_option maxRecDepth 100000 in
set_option maxHeartbeats 1000000 in
theorem Half0 (a : Int) (k : Nat) (w : World) (hk : k < 32) :
    Calls Tryz.prog 34 #[.agg #[.int .u32 a, .int .i64 k], .int .i64 0] w fun e w' => e = .returned (.agg #[.int .u32 a, .int .i64 ((k : Int) + 1)]) ∧ Below w.heap.size w w' := by
  go_enter Tryz.func34, Tryz.ntmps34
  go_wp2
  exact cell_end rfl (box2 (Below.refl _ ((w.alloc (nb a k)).alloc (nb a ((k : Int) + 1))))).2 rfl rfl ⟨rfl, below_2 w _ _⟩
set_option maxRecDepth 100000 in
set_option maxHeartbeats 1000000 in
theorem Half1 (a : Int) (k : Nat) (w : World) (hk : k < 32) (ha : is32 a) (hz : netF (a, (k : Int)) = 0) :
    Calls Tryz.prog 34 #[.agg #[.int .u32 a, .int .i64 k], .int .i64 1] w fun e w' => e = .returned (.agg #[.int .u32 (a + lowI (k + 1)), .int .i64 ((k : Int) + 1)]) ∧ Below w.heap.size w w' := by
  have HOR := Lib.hid (or_low hk ha (half_zero hk hz))
  have HSH : Hid ((2 : Int) ^ (31 - k) % 4294967296 = lowI (k + 1)) := Lib.hid (half_run_fin ⟨k, hk⟩)
  have hu : IntKind.u64.wrap (31 - (k : Int)) = 31 - k := IntWalk.u64_in _ ⟨by omega, by omega⟩
  clear hz ha
  go_enter Tryz.func34, Tryz.ntmps34
  go_wp2
  exact cell_end rfl (box2 (Below.refl _ ((w.alloc (nb a k)).alloc (nb (bits .or .u32 a (2 ^ (31 - k) % 4294967296)) ((k : Int) + 1))))).2 rfl rfl ⟨by rw [HSH.out, HOR.out], below_2 w _ _⟩
theorem trim_c {w : World} {a n : Int} {k : Nat} {x : Int} (hx : fl (lowI k) a = x) (ha : is32 a) (hk : k ≤ 32) (d : Nat) (os : Array Obj) :
    Calls Tryz.prog 39 #[.agg #[.int .u32 a, .int .i64 n], .int .i64 k] (Sort.grow (redrawn w d) os) fun e w'' => e = .returned (.agg #[.int .u32 x, .int .i64 k]) ∧ ∃ p : Regrown, w'' = Sort.grow (redrawn w p.d) p.os :=
  Calls.regrown_of ((Trim_any a n k _ ha hk).mono fun e w' ⟨he, hb⟩ => ⟨by rw [he, hx], hb⟩)
structure C3 (W : World) (a n b m : Int) (w : World) : Prop where
  bel : Below W.heap.size W w
  h1 : w.heap[W.heap.size]? = some (nb a n)
  h2 : w.heap[W.heap.size + 1]? = some (nb b m)
  h3 : w.heap[W.heap.size + 2]? = some (nb 0 0)
theorem C3.below {W w w' : World} {a n b m : Int} (h : C3 W a n b m w) (hb : Below w.heap.size w w') : C3 W a n b m w' :=
  ⟨h.bel.trans (hb.mono h.bel.size), below_block hb (size_of_block h.h1) h.h1, below_block hb (size_of_block h.h2) h.h2, below_block hb (size_of_block h.h3) h.h3⟩
theorem C3.start (W : World) (a n b m : Int) : C3 W a n b m (((W.alloc (nb a n)).alloc (nb b m)).alloc (nb 0 0)) := by
  obtain ⟨e1, e2, e3⟩ := box3 (Below.refl _ (((W.alloc (nb a n)).alloc (nb b m)).alloc (nb 0 0)))
  exact ⟨below_3 W _ _ _, e1, e2, e3⟩
set_option maxRecDepth 100000 in
set_option maxHeartbeats 2000000 in
theorem CommonOf_any (a b : Int) (n m : Nat) (w : World) (ha : is32 a) (hb : is32 b) (hn : n ≤ 32) (hm : m ≤ 32) :
    Calls Tryz.prog 25 #[.agg #[.int .u32 a, .int .i64 n], .agg #[.int .u32 b, .int .i64 m]] w fun e w' => e = .returned (netV (comN (a, (n : Int)) (b, (m : Int)))) ∧ Below w.heap.size w w' := by
  have hst := C3.start w a n b m
  have HST := Lib.hid hst
  obtain ⟨K, hK⟩ : ∃ K, comL (a, (n : Int)) (b, (m : Int)) = K := ⟨_, rfl⟩
  have hKl : K = min (min n m) (lzN a b) := hK.symm
  have HFE := Lib.hid (fun k (hk : k ≤ 32) => fl_eq_iff ha hb k hk)
  have hR : netV (comN (a, (n : Int)) (b, (m : Int))) = .agg #[.int .u32 (fl (lowI K) a), .int .i64 K] := by unfold comN trimN netV; rw [hK]
  rw [hR]
  have HK := Lib.hid hKl
  have HA := Lib.hid ha
  have HBB := Lib.hid hb
  have hmin : (if m < n then (m : Int) else (n : Int)) = ((min n m : Nat) : Int) := by split <;> omega
  have HMIN := Lib.hid hmin
  clear hst hK hKl hR ha hb hmin
  go_enter Tryz.func25, Tryz.ntmps25
  go_wp2
  go_loopw [5] (fun i wr => ∃ k : Nat, i = .int .i64 k ∧ K ≤ k ∧ k ≤ min n m ∧ C3 w a n b m wr) (fun i _ => (intOf i).toNat)
  case atStart => exact ⟨min n m, by congr 1; omega, by have := HK.out; omega, Nat.le_refl _, HST.out⟩
  case round =>
    obtain ⟨k, rfl, hk1, hk2, hC⟩ := hrel
    have HC := Lib.hid hC
    have hk32 : k ≤ 32 := by omega
    clear hC
    have k0 := fun d os => (row2 (below_block (below_regrown wr d os) (size_of_block HC.out.h1) HC.out.h1)).1
    have k1 := fun d os => (row2 (below_block (below_regrown wr d os) (size_of_block HC.out.h1) HC.out.h1)).2.1
    have k2 := fun d os => (row2 (below_block (below_regrown wr d os) (size_of_block HC.out.h2) HC.out.h2)).1
    have k3 := fun d os => (row2 (below_block (below_regrown wr d os) (size_of_block HC.out.h2) HC.out.h2)).2.1
    obtain ⟨x, hx⟩ : ∃ x, fl (lowI k) a = x := ⟨_, rfl⟩
    obtain ⟨y, hy⟩ : ∃ y, fl (lowI k) b = y := ⟨_, rfl⟩
    have hfe := HFE.out k hk32
    rw [hx, hy] at hfe
    have HFK := Lib.hid hfe
    have HX := Lib.hid hx
    have HY := Lib.hid hy
    clear hx hy hfe
    by_cases hxy : x = y
    · have hkK : k = K := by have h1 := HFK.out.1 hxy; have h2 := HK.out; omega
      subst hxy
      subst hkK
      go_wp2
      refine wp_region_quiet_below (by kernel_rfl) (by kernel_rfl) ?_
      repeat (go_big_quiet_step (first | (with_reducible exact trim_c HX.out HA.out hk32 _ _) | (with_reducible exact trim_c HY.out HBB.out hk32 _ _) | fail))
      refine wpQuiet_nil ?_
      intro _ hw'
      obtain ⟨⟨dq, osq⟩, hw''⟩ := hw'
      have hD := HC.out.below (below_regrown wr dq osq)
      rw [← hw''] at hD
      clear hw'' k0 k1 k2 k3
      obtain ⟨d0, d1, _, _⟩ := row2 hD.h1
      obtain ⟨q0, q1, g0, g1⟩ := row2 hD.h3
      have HD := Lib.hid hD
      have zz := hD.bel.size
      clear hD
      go_wp2_with (first
        | (go_at_call 39; (with_reducible refine (Trim_any a n k _ HA.out hk32).mono ?_); rintro e w2 ⟨rfl, hb2⟩; rw [HX.out]; have hE := HD.out.below hb2; obtain ⟨r0, r1, f0, f1⟩ := row2 hE.h3; have HE := Lib.hid hE; clear hE hb2)
        | fail)
      exact cell_end rfl (set2_block _ _ HE.out.h3) rfl rfl ⟨by rw [HX.out], (HE.out.bel.setCell (by simp; omega) _).setCell (by simp; omega) _⟩
    · have t1 : (x == y) = false := by simpa using hxy
      have hk0 : K < k := by
        rcases Nat.lt_or_ge K k with h | h
        · exact h
        · exact absurd (HFK.out.2 (by have := HK.out; omega)) hxy
      clear hxy
      go_wp2
      refine wp_region_quiet_below (by kernel_rfl) (by kernel_rfl) ?_
      repeat (go_big_quiet_step (first | (with_reducible exact trim_c HX.out HA.out hk32 _ _) | (with_reducible exact trim_c HY.out HBB.out hk32 _ _) | fail))
      refine wpQuiet_nil ?_
      intro _ hw'
      obtain ⟨⟨dq, osq⟩, hw''⟩ := hw'
      have hD := HC.out.below (below_regrown wr dq osq)
      rw [← hw''] at hD
      clear hw'' k0 k1 k2 k3
      obtain ⟨d0, d1, _, _⟩ := row2 hD.h1
      obtain ⟨q0, q1, g0, g1⟩ := row2 hD.h3
      have HD := Lib.hid hD
      have zz := hD.bel.size
      clear hD
      go_wp2
      exact ⟨⟨k - 1, by congr 1; omega, by omega, by omega, HD.out⟩, by simp [intOf]; omega⟩
end Go.Proofs.YtgdlkjahlajcpaaGreatDoor
namespace Go.Proofs.YtgdlkjahlajcpaaGreatDoor
open Go.ChangeShapes Go.WideShapes Go.ChangeAt Go.RowKit
set_option linter.unusedVariables false
set_option linter.unusedSimpArgs false

theorem netof_end {W : World} {R : Nat} {a : Act} {v0 v1 e : Value} {t : TypeId} {K : Ending → World → Prop} (h : W.heap[R]? = some (.cells #[v0, v1] t (0, 0))) (h2 : a.tmps[2]?.getD undef = .pointer (some ⟨R, 0, none⟩)) (h3 : a.tmps[3]?.getD undef = e) (hd : a.defers = [])
    (hK : K (.returned (.tuple #[.agg #[v0, v1], e])) W) : bodyPost Tryz.prog Tryz.f22 K .ret a W := by
  have e0 : W.cell? ⟨R, 0, none⟩ = some v0 := by rw [cell_of_row _ R _ _ _ (0, 0) h]; rfl
  have e1 : W.cell? ⟨R, 1, none⟩ = some v1 := by rw [cell_of_row _ R _ _ _ (0, 0) h]; rfl
  exact bodyPost_ret (by simp [results, Tryz.results22, go_sem, h2, h3, e0, e1]) hd hK
theorem netof_len {L : List ByteArray} {s : List UInt8} {a k : Nat} (hL : L.map (·.data.toList) = segs 47 s) (he : s = netT a k) : L = [⟨(addrT a).toArray⟩, ⟨(dd k).toArray⟩] := by
  refine list_bytes ?_
  rw [hL, he, segs_net]
  rfl
theorem netof_is {p q : ByteArray} {s : List UInt8} {a k : Nat} (hL : [p, q].map (·.data.toList) = segs 47 s) (hp : p.data.toList = addrT a) (hq : q.data.toList = dd k) : s = netT a k := by
  refine net_of_segs ?_
  rw [← hL]
  simp only [List.map_cons, List.map_nil, hp, hq]
def NetOfAt (s : ByteArray) (w : World) (e : Ending) (w' : World) : Prop :=
  ((∃ a k : Nat, a < 4294967296 ∧ netF ((a : Int), (k : Int)) = 0 ∧ s.data.toList = netT a k ∧ e = .returned (.tuple #[.agg #[.int .u32 a, .int .i64 k], .bool true])) ∨
   ((∀ a k : Nat, a < 4294967296 → netF ((a : Int), (k : Int)) = 0 → s.data.toList ≠ netT a k) ∧ e = .returned (.tuple #[.agg #[.int .u32 0, .int .i64 0], .bool false]))) ∧ Below w.heap.size w w'
set_option maxRecDepth 100000 in
set_option maxHeartbeats 4000000 in
theorem NetOf_any (s : ByteArray) (w : World) (hs : s.size ≤ 2097152) :
    Calls Tryz.prog 22 #[.string s] w (NetOfAt s w) := by
  go_enter Tryz.func22, Tryz.ntmps22
  go_wp2_with fail
  go_at_call 7
  (with_reducible refine (RCut_c s 47 47 rfl _ (by omega)).mono ?_); rintro e w1 ⟨L, g, cap, hL, rfl, hc, hg, hb1⟩
  have HL := Lib.hid hL
  have HLS := Lib.hid (fun (k : Nat) (p : ByteArray) (h : L[k]? = some p) => piece_size hL h)
  have blk1 := below_block hb1 (by simp) (heap_alloc_new w _)
  obtain ⟨r0, r1, f0, f1⟩ := row2 blk1
  have BLK1 := Lib.hid blk1
  have HB1 := Lib.hid (((Below.refl w.heap.size w).alloc (Nat.le_refl _) _).trans (hb1.mono (by simp)))
  have zw1 := size_of_block blk1
  have HC := Lib.hid hc
  have hl1 : L.length ≤ 2097153 := by
    have h1 := congrArg List.length hL
    rw [List.length_map, segs_length] at h1
    have h2 := List.count_le_length (a := (47 : UInt8)) (l := s.data.toList)
    rw [size_data] at h2; omega
  clear hL hc hb1 blk1
  obtain ⟨N, hN⟩ : ∃ N, L.length = N := ⟨_, rfl⟩
  rw [hN] at hl1 ⊢
  have HN := Lib.hid hN
  clear hN
  by_cases h2 : N = 2
  · subst h2
    obtain ⟨p, q, hpq⟩ : ∃ p q, L = [p, q] := by
      have := HN.out
      match L, this with
      | [p, q], _ => exact ⟨p, q, rfl⟩
    have hcp : w1.cell? ⟨g, 0, none⟩ = some (.string p) := HC.out 0 p (by rw [hpq]; rfl)
    have hcq : w1.cell? ⟨g, 1, none⟩ = some (.string q) := HC.out 1 q (by rw [hpq]; rfl)
    have hps := HLS.out 0 p (by rw [hpq]; rfl)
    have hqs := HLS.out 1 q (by rw [hpq]; rfl)
    have HPQ : Hid ([p, q].map (·.data.toList) = segs 47 s.data.toList) := Lib.hid (by rw [← hpq]; exact HL.out)
    clear hpq HC HLS HL HN
    go_wp2_with fail
    go_at_call 16
    (with_reducible refine (AddrOf_any p w1 (by omega)).mono ?_); rintro e w2 ⟨v, b, rfl, hab, hb2⟩
    have hcq2 := (hb2.cell (p := ⟨g, 1, none⟩) hg).trans hcq
    have blk2 := below_block hb2 (size_of_block BLK1.out) BLK1.out
    obtain ⟨r0, r1, f0, f1⟩ := row2 blk2
    have BLK2 := Lib.hid blk2
    have HB2 := Lib.hid (HB1.out.trans (hb2.mono (Nat.le_of_lt zw1)))
    have zw2 := size_of_block blk2
    have HAB := Lib.hid hab
    clear hb2 blk2 hcp hcq hab
    go_wp2_with fail
    go_at_call 26
    (with_reducible refine (Whole_any q w2 (by omega)).mono ?_); rintro e w3 ⟨r, rfl, hr, hb3⟩
    have blk3 := below_block hb3 (size_of_block BLK2.out) BLK2.out
    obtain ⟨r0, r1, f0, f1⟩ := row2 blk3
    have BLK3 := Lib.hid blk3
    have HB3 := Lib.hid (HB2.out.trans (hb3.mono (Nat.le_of_lt zw2)))
    have zw3 := size_of_block blk3
    have HR := Lib.hid hr
    clear hb3 blk3
    cases b with
    | false =>
      have HNO : Hid (∀ a k : Nat, a < 4294967296 → netF ((a : Int), (k : Int)) = 0 → s.data.toList ≠ netT a k) := Lib.hid (fun a k ha _ e => by
        rcases HAB.out with ⟨h, _⟩ | ⟨_, _, h⟩
        · cases h
        · have := netof_len HPQ.out e
          simp only [List.cons.injEq] at this
          exact h a ha (by rw [this.1]))
      clear hr
      go_wp2
      exact netof_end (e := .bool false) (below_block ((Below.refl _ _).alloc (Nat.le_refl _) _) (by simpa using zw3) (set2_block _ _ BLK3.out)) rfl rfl rfl ⟨.inr ⟨HNO.out, rfl⟩, ((HB3.out.setCell (by simp) _).setCell (by simp) _).alloc (by simp; omega) _⟩
    | true =>
      obtain ⟨a, ha, hpa, hva⟩ : ∃ a : Nat, a < 4294967296 ∧ p.data.toList = addrT a ∧ v = a := by
        rcases HAB.out with ⟨_, h⟩ | ⟨h, _⟩
        · exact h
        · cases h
      subst hva
      have HPA := Lib.hid hpa
      clear hpa
      by_cases hr0 : r < 0
      · have HNO : Hid (∀ a k : Nat, a < 4294967296 → netF ((a : Int), (k : Int)) = 0 → s.data.toList ≠ netT a k) := Lib.hid (fun a k ha hz e => by
          have := netof_len HPQ.out e
          simp only [List.cons.injEq, and_true] at this
          have hk := (netF_zero.1 hz).2.1
          rcases HR.out with ⟨n, _, _, h⟩ | ⟨h, _⟩
          · omega
          · exact h k (by omega) (by rw [this.2]))
        clear hr
        go_wp2
        exact netof_end (e := .bool false) (below_block ((Below.refl _ _).alloc (Nat.le_refl _) _) (by simpa using zw3) (set2_block _ _ BLK3.out)) rfl rfl rfl ⟨.inr ⟨HNO.out, rfl⟩, ((HB3.out.setCell (by simp) _).setCell (by simp) _).alloc (by simp; omega) _⟩
      · obtain ⟨n, hn, hqn, e⟩ : ∃ n : Nat, n ≤ 1073741824 ∧ q.data.toList = dd n ∧ r = n := by
          rcases hr with h | ⟨_, h⟩
          · exact h
          · omega
        subst e
        have HNT := Lib.hid (netof_is HPQ.out HPA.out hqn)
        have HAI : Hid (is32 (a : Int)) := Lib.hid ⟨by omega, by omega⟩
        clear hr hqn
        by_cases hz : netF ((a : Int), (n : Int)) = 0
        · have HZ := Lib.hid hz
          clear hz
          go_wp2_with (first
            | (go_at_call 38; (with_reducible refine (fault_is HZ.out HAI.out _).mono ?_); rintro e w4 ⟨rfl, hb4⟩; have nlk := below_block hb4 (by simp) (heap_alloc_new w3 _); obtain ⟨d0, d1, _, _⟩ := row2 nlk; have hb5 : Below w3.heap.size w3 w4 := ((Below.refl _ _).alloc (Nat.le_refl _) _).trans (hb4.mono (by simp)); have blk4 := below_block hb5 (size_of_block BLK3.out) BLK3.out; obtain ⟨r0, r1, f0, f1⟩ := row2 blk4; have BLK4 := Lib.hid blk4; have HB4 := Lib.hid (HB3.out.trans (hb5.mono (Nat.le_of_lt zw3))); have zw4 := size_of_block blk4; clear hb4 hb5 nlk blk4)
            | fail)
          exact netof_end (e := .bool true) (set2_block _ _ BLK4.out) rfl rfl rfl ⟨.inl ⟨a, n, ha, HZ.out, HNT.out, rfl⟩, (HB4.out.setCell (by simp) _).setCell (by simp) _⟩
        · have HNO : Hid (∀ a' k : Nat, a' < 4294967296 → netF ((a' : Int), (k : Int)) = 0 → s.data.toList ≠ netT a' k) := Lib.hid (fun a' k ha' hz' e => by
            rw [HNT.out] at e
            obtain ⟨e1, e2⟩ := netT_inj e
            subst e1; subst e2
            exact hz hz')
          have hne : (netF ((a : Int), (n : Int)) != 0) = true := by simpa using hz
          obtain ⟨f, hf⟩ : ∃ f, netF ((a : Int), (n : Int)) = f := ⟨_, rfl⟩
          rw [hf] at hne
          have HF := Lib.hid hf
          clear hz hf
          go_wp2_with (first
            | (go_at_call 38; (with_reducible refine (fault_is HF.out HAI.out _).mono ?_); rintro e w4 ⟨rfl, hb4⟩; have hb5 : Below w3.heap.size w3 w4 := ((Below.refl _ _).alloc (Nat.le_refl _) _).trans (hb4.mono (by simp)); have blk4 := below_block hb5 (size_of_block BLK3.out) BLK3.out; obtain ⟨r0, r1, f0, f1⟩ := row2 blk4; have BLK4 := Lib.hid blk4; have HB4 := Lib.hid (HB3.out.trans (hb5.mono (Nat.le_of_lt zw3))); have zw4 := size_of_block blk4; clear hb4 hb5 blk4)
            | fail)
          exact netof_end (e := .bool false) (set2_block _ _ BLK4.out) rfl rfl rfl ⟨.inr ⟨HNO.out, rfl⟩, (HB4.out.setCell (by simp) _).setCell (by simp) _⟩
  · have h2' : ((N : Int) != 2) = true := by simp; omega
    have HNO : Hid (∀ a k : Nat, a < 4294967296 → netF ((a : Int), (k : Int)) = 0 → s.data.toList ≠ netT a k) := Lib.hid (fun a k _ _ e => by
      have := netof_len HL.out e
      have h3 := HN.out
      rw [this] at h3
      exact h2 h3.symm)
    go_wp2
    exact netof_end (e := .bool false) (set2_block _ _ BLK1.out) rfl rfl rfl ⟨.inr ⟨HNO.out, rfl⟩, (HB1.out.setCell (by simp) _).setCell (by simp) _⟩
end Go.Proofs.YtgdlkjahlajcpaaGreatDoor
namespace Go.Proofs.YtgdlkjahlajcpaaGreatDoor
open Go.ChangeShapes Go.WideShapes Go.ChangeAt Go.RowKit
set_option linter.unusedVariables false
theorem KeptS.blk {S : Nat → Prop} {w w' : World} (h : KeptS S w w') {g : Nat} {o : Obj} (hg : S g) (ho : w.heap[g]? = some o) : w'.heap[g]? = some o := (h g hg).trans ho
theorem KeptS.rd {S : Nat → Prop} {w w' : World} (h : KeptS S w w') {α : Type} {rd : Rdr α} [RdLaw rd] {cs : List Value} {x : α} (hr : rd w S cs x) : rd w' S cs x :=
  RdLaw.keep hr fun p hp => World.cell?_of_block (h p.block hp)
theorem OwnN.readS {w : World} {base : Nat} {v : Value} {xs : List Nt} (h : OwnN w base v xs) {S : Nat → Prop} (hS : ∀ g, base ≤ g → g < w.heap.size → S g) : rdNets w S [v] xs := by
  obtain ⟨A, c, rfl⟩ := h.form
  refine RdSlice.of_own (xs := xs) h.1 rfl (fun g hg => hS g (own_blk h.1 g hg).1 (own_blk h.1 g hg).2) (fun i x hi => ⟨nC x, rfl, rd_nC (h.2 x (List.mem_of_getElem? hi)), fun j u hu => ?_⟩)
  have hj : j < 2 := by have := (List.getElem?_eq_some_iff.1 hu).1; simpa [nC] using this
  rw [nC_at xs i j x hi hj]; exact hu
theorem sl_form {w : World} {ok : Nat → Prop} {A : Option Addr} {n c : Nat} {l : List Nt} (h : rdNets w ok [.slice A n c] l) : l.length = n := (RdSlice.len h).1.symm
end Go.Proofs.YtgdlkjahlajcpaaGreatDoor
namespace Go.Proofs.YtgdlkjahlajcpaaGreatDoor
open Go.ChangeShapes Go.WideShapes Go.ChangeAt Go.RowKit
set_option linter.unusedVariables false
set_option linter.unusedSimpArgs false
def placeI (x : Nt) : List Nt → Int → Int
  | [], _ => -1
  | y :: r, i => if y = x then i else placeI x r (i + 1)
set_option maxHeartbeats 1000000 in
theorem Places_any {w : World} {A : Option Addr} {n c : Nat} {l : List Nt} {a m : Int} (hr : R1 rdNets w (.slice A n c) l) :
    Calls Tryz.prog 23 #[.slice A n c, .agg #[.int .u32 a, .int .i64 m]] w fun e w' => e = .returned (.int .i64 (placeI (a, m) l 0)) ∧ Below w.heap.size w w' := by
  obtain ⟨hn, hnc, hcm⟩ := RdSlice.len hr
  have hnm : n ≤ 9223372036854775807 := by unfold maxLen at hcm; omega
  have HR := Lib.hid hr
  have HN := Lib.hid hn
  have HB0 := Lib.hid (below_1 w (.cells #[.int .u32 a, .int .i64 m] 47))
  obtain ⟨P, hP⟩ : ∃ P, placeI (a, m) l 0 = P := ⟨_, rfl⟩
  have HP := Lib.hid hP
  rw [hP]
  clear hcm hnc hr hn hP
  go_enter Tryz.func23, Tryz.ntmps23
  go_wp2
  go_loopw [5] (fun i wr => ∃ k : Nat, k ≤ n ∧ i = .int .i64 k ∧ Hid (placeI (a, m) (l.drop k) k = P) ∧ ∃ j, wr = (w.alloc (.cells #[.int .u32 a, .int .i64 m] 47)).drewN j) (fun i _ => n - (intOf i).toNat)
  case atStart => exact ⟨0, Nat.zero_le _, rfl, Lib.hid HP.out, 0, rfl⟩
  case round =>
    obtain ⟨k, hk, rfl, HK, j, rfl⟩ := hrel
    by_cases hlt : k < n
    · obtain ⟨b, o, ⟨x, x'⟩, rfl, hb, HX, _, c0, c1⟩ := RdSlice.atN HR.out hlt
      have d0 := (HB0.out.cell (p := ⟨b, o + k * 2, none⟩) hb).trans c0
      have d1 := (HB0.out.cell (p := ⟨b, o + k * 2 + 1, none⟩) hb).trans c1
      obtain ⟨z0, z1, _, _⟩ := row2 (heap_alloc_new w (.cells #[.int .u32 a, .int .i64 m] 47))
      have i0 : (0 : Int) ≤ (k : Int) := by omega
      have i1 : (k : Int) < (n : Int) := by omega
      have HD : Hid (l.drop k = (x, x') :: l.drop (k + 1)) := Lib.hid (by
        have h := HX.out
        obtain ⟨hk', e⟩ := List.getElem?_eq_some_iff.1 h
        rw [List.drop_eq_getElem_cons hk', e])
      clear c0 c1
      by_cases h1 : x = a
      · subst h1
        by_cases h2 : x' = m
        · subst h2
          have HQ : Hid (P = (k : Int)) := Lib.hid (by rw [← HK.out, HD.out]; simp [placeI])
          go_wp2
          go_quiet (fail)
          go_wp2
          go_ret
          exact ⟨by rw [HQ.out]; rfl, below_drewN (below_drewN HB0.out _) _⟩
        · have t1 : (x' == m) = false := by simpa using h2
          have HQ : Hid (placeI (x, m) (l.drop (k + 1)) ((k + 1 : Nat) : Int) = P) := Lib.hid (by
            have h := HK.out
            rw [HD.out] at h
            simp only [placeI] at h
            rw [if_neg (by simp; exact h2)] at h
            exact h)
          clear h2
          go_wp2
          go_quiet (fail)
          go_wp2
          go_roundw
          case rel => exact ⟨k + 1, by omega, by go_num, HQ, _, (by first | rfl | exact World.drewN_drewN _ _ _)⟩
          case measure => simp [intOf]; omega
      · have t1 : (x == a) = false := by simpa using h1
        have HQ : Hid (placeI (a, m) (l.drop (k + 1)) ((k + 1 : Nat) : Int) = P) := Lib.hid (by
          have h := HK.out
          rw [HD.out] at h
          simp only [placeI] at h
          rw [if_neg (by simp; intro e; exact absurd e h1)] at h
          exact h)
        clear h1
        go_wp2
        go_quiet (fail)
        go_wp2
        go_roundw
        case rel => exact ⟨k + 1, by omega, by go_num, HQ, _, (by first | rfl | exact World.drewN_drewN _ _ _)⟩
        case measure => simp [intOf]; omega
    · have HQ : Hid (P = -1) := Lib.hid (by
        rw [← HK.out, List.drop_eq_nil_of_le (by rw [← HN.out]; omega)]; rfl)
      go_wp2
      go_ret
      exact ⟨by rw [HQ.out]; rfl, below_drewN HB0.out _⟩
end Go.Proofs.YtgdlkjahlajcpaaGreatDoor
namespace Go.Proofs.YtgdlkjahlajcpaaGreatDoor
open Go.ChangeShapes Go.WideShapes Go.ChangeAt Go.RowKit
set_option linter.unusedVariables false
set_option linter.unusedSimpArgs false
end Go.Proofs.YtgdlkjahlajcpaaGreatDoor
