/- The reference's digits, pieces and texts, by contract. The desk's words: a net, an address, a number; else the panic of ErrSyntax. The desk's texts of nets: one behind the other, a space between. What the desk's forms do: list, cover. -/
import Derived.Test.YtgdlkjahlajcpaaGreatDoorAA
import Derived.Test.YtgdlkjahlajcpaaGreatDoorAB
import Derived.Lib.SmallJoins
import Derived.WalkLawsBesides
import Derived.Test.YtgdlkjahlajcpaaGreatDoorAG
import Derived.Test.YtgdlkjahlajcpaaGreatDoorAE
import Derived.Lib.AppendIntMem
import Derived.Test.YtgdlkjahlajcpaaGreatDoorAF
namespace Go.Proofs.YtgdlkjahlajcpaaGreatDoor
open Go.ChangeShapes Go.WideShapes Go.ChangeAt Go.RowKit
set_option linter.unusedVariables false
set_option linter.unusedSimpArgs false

theorem byte_run (n : Nat) (w : World) (h : n < 10) :
    (convert 52 9 (.slice (some ⟨w.heap.size, 0, none⟩) 1 1)).run Tryz.prog (w.alloc (.cells #[.int .u8 (48 + (n : Int))] 5)) = .ok (.string ⟨(dd n).toArray⟩) (w.alloc (.cells #[.int .u8 (48 + (n : Int))] 5)) := by
  rw [dd_small h]
  exact run_convert_bytes_back (P := Tryz.prog) (w.alloc (.cells #[.int .u8 (48 + (n : Int))] 5)) 52 9 5 ⟨w.heap.size, 0, none⟩ 1 [UInt8.ofNat (48 + n)] Tryz.underlying52 Tryz.underlying5 Tryz.underlying9
    (fun j hj => match j, hj with
      | 0, _ => by
        have e := digit_nat h
        show (w.alloc _).cell? ((⟨w.heap.size, 0, none⟩ : Addr).add 0) = some (.int .u8 ((UInt8.ofNat (48 + n)).toNat : Int))
        rw [addr_add, e, World.cell?_alloc_at _ _ _ _ rfl]
        simp)
theorem dd_cat {X Y : ByteArray} {n : Nat} (h : ¬ n < 10) (hX : X.data.toList = dd (n / 10)) (hY : Y.data.toList = dd (n % 10)) : Value.string (X ++ Y) = .string ⟨(dd n).toArray⟩ := by
  have e : (X ++ Y).data.toList = dd n := by rw [Joins.data_append, hX, hY, dd_big h, dd_small (n := n % 10) (by omega)]
  rw [← e]
theorem dd_len_bound (n : Nat) : (dd n).length ≤ n + 1 := by
  induction n using Nat.strongRecOn with
  | _ n ih =>
    by_cases h : n < 10
    · rw [dd_small h]; simp
    · rw [dd_big h]
      have := ih (n / 10) (by omega)
      simp only [List.length_append, List.length_cons, List.length_nil]; omega
set_option maxRecDepth 100000 in
set_option maxHeartbeats 1000000 in
theorem Digits_small (n : Nat) (w : World) (h : n < 10) :
    Calls Tryz.prog 17 #[.int .i64 n] w fun e w' => e = .returned (.string ⟨(dd n).toArray⟩) ∧ Below w.heap.size w w' := by
  have hcv := byte_run n w h
  have h' : (n : Int) < 10 := by omega
  go_enter Tryz.func17, Tryz.ntmps17
  go_wp2
  go_ret
  exact ⟨rfl, (Below.refl _ _).alloc (Nat.le_refl _) _⟩
set_option maxRecDepth 100000 in
set_option maxHeartbeats 1000000 in
theorem Digits_n : ∀ (m n : Nat) (w : World), n ≤ m → n ≤ 1000000000000 →
    Calls Tryz.prog 17 #[.int .i64 n] w fun e w' => e = .returned (.string ⟨(dd n).toArray⟩) ∧ Below w.heap.size w w' := by
  intro m
  induction m with
  | zero => intro n w hm hn; exact Digits_small n w (by omega)
  | succ m ih =>
    intro n w hm hn
    by_cases h : n < 10
    · exact Digits_small n w h
    · have h' : ¬ (n : Int) < 10 := by omega
      have hq : ((n : Int) / 10) = ((n / 10 : Nat) : Int) := by omega
      have hr : ((n : Int) % 10) = ((n % 10 : Nat) : Int) := by omega
      obtain ⟨X, hX⟩ : ∃ X : ByteArray, X = ⟨(dd (n / 10)).toArray⟩ := ⟨_, rfl⟩
      obtain ⟨Y, hY⟩ : ∃ Y : ByteArray, Y = ⟨(dd (n % 10)).toArray⟩ := ⟨_, rfl⟩
      have hXl : X.size ≤ 100000000001 := by rw [hX]; have := dd_len_bound (n / 10); simp only [ByteArray.size]; simp; omega
      have hYl : Y.size ≤ 11 := by rw [hY]; have := dd_len_bound (n % 10); simp only [ByteArray.size]; simp; omega
      have HC := Lib.hid (dd_cat (X := X) (Y := Y) h (by rw [hX]) (by rw [hY]))
      have HX := Lib.hid hX
      have HY := Lib.hid hY
      have HQ := Lib.hid hq
      have HR := Lib.hid hr
      have HI := Lib.hid ih
      have n1 : ¬ 9223372036854775807 < X.size + Y.size := by omega
      clear hq hr ih hX hY
      go_enter Tryz.func17, Tryz.ntmps17
      go_wp2_with fail
      go_at_call 17
      rw [HQ.out]
      (with_reducible refine (HI.out (n / 10) w (by omega) (by omega)).mono ?_); rintro e w1 ⟨rfl, hb1⟩
      rw [← HX.out]
      have HB1 := Lib.hid hb1; have zw1 := hb1.size; clear hb1
      go_wp2_with fail
      go_at_call 17
      rw [HR.out]
      (with_reducible refine (HI.out (n % 10) w1 (by omega) (by omega)).mono ?_); rintro e w2 ⟨rfl, hb2⟩
      rw [← HY.out]
      have HB2 := Lib.hid (HB1.out.trans (hb2.mono zw1)); clear hb2
      go_wp2
      go_ret
      exact ⟨by rw [← HC.out]; rfl, HB2.out⟩

theorem size_data' (s : ByteArray) : s.data.toList.length = s.size := by rw [Array.length_toList]; rfl
/-! ### Whole -/
def WholeIs (s : List UInt8) (r : Int) : Prop := (∃ n : Nat, n ≤ 1073741824 ∧ s = dd n ∧ r = n) ∨ ((∀ n : Nat, n ≤ 1073741824 → s ≠ dd n) ∧ r = -1)
def digs (l : List UInt8) : Prop := ∀ c ∈ l, 48 ≤ c.toNat ∧ c.toNat ≤ 57
theorem dd_len_pow : ∀ (k n : Nat), n < 10 ^ (k + 1) → (dd n).length ≤ k + 1
  | 0, n, h => by rw [dd_small (by simpa using h)]; simp
  | k + 1, n, h => by
    by_cases h1 : n < 10
    · rw [dd_small h1]; simp
    · rw [dd_big h1]
      have := dd_len_pow k (n / 10) (by rw [Nat.pow_succ] at h; omega)
      simp only [List.length_append, List.length_cons, List.length_nil]; omega
theorem dd_len10 {n : Nat} (h : n ≤ 1073741824) : 1 ≤ (dd n).length ∧ (dd n).length ≤ 10 := by
  refine ⟨?_, dd_len_pow 9 n (by omega)⟩
  cases e : dd n with
  | nil => exact absurd e (dd_ne n)
  | cons c r => simp
theorem whole_len {s : List UInt8} (h : s.length = 0 ∨ 10 < s.length) : WholeIs s (-1) := .inr ⟨fun n hn e => by have := dd_len10 hn; rw [← e] at this; omega, rfl⟩
theorem whole_byte {s : List UInt8} {c : UInt8} (hc : c ∈ s) (h : c.toNat < 48 ∨ 57 < c.toNat) : WholeIs s (-1) := .inr ⟨fun n hn e => by subst e; have := dd_digits n c hc; omega, rfl⟩
theorem whole_much {s : List UInt8} (h : 1073741824 < spell s 0) : WholeIs s (-1) := .inr ⟨fun n hn e => by rw [e, spell_dd] at h; omega, rfl⟩
theorem whole_other {s : List UInt8} (h : dd (spell s 0) ≠ s) : WholeIs s (-1) := .inr ⟨fun n hn e => by rw [e, spell_dd] at h; exact h rfl, rfl⟩
theorem whole_is {s : List UInt8} (h : spell s 0 ≤ 1073741824) (h2 : dd (spell s 0) = s) : WholeIs s (spell s 0 : Nat) := .inl ⟨_, h, h2.symm, rfl⟩
theorem spell_le : ∀ (l : List UInt8) (a : Nat), digs l → spell l a + 1 ≤ (a + 1) * 10 ^ l.length
  | [], a, _ => by simp [spell]
  | c :: r, a, h => by
    have hc := h c (by simp)
    have ih := spell_le r (a * 10 + dv c) (fun x hx => h x (by simp [hx]))
    have hd : dv c ≤ 9 := by unfold dv; omega
    show spell r (a * 10 + dv c) + 1 ≤ _
    have h2 : (a * 10 + dv c + 1) * 10 ^ r.length ≤ ((a + 1) * 10) * 10 ^ r.length := Nat.mul_le_mul_right _ (by omega)
    rw [List.length_cons, Nat.pow_succ, Nat.mul_comm (10 ^ r.length) 10, ← Nat.mul_assoc]
    omega
theorem spell_take {s : List UInt8} {k : Nat} (hk : k < s.length) (h : digs (s.take k)) (hl : s.length ≤ 10) : spell (s.take (k + 1)) 0 = spell (s.take k) 0 * 10 + dv s[k] ∧ spell (s.take k) 0 ≤ 10000000000 := by
  refine ⟨?_, ?_⟩
  · rw [List.take_succ_eq_append_getElem hk, spell_append, spell_one]
  · have := spell_le (s.take k) 0 h
    have h2 : (s.take k).length ≤ 10 := by rw [List.length_take]; omega
    have h3 : 10 ^ (s.take k).length ≤ 10 ^ 10 := Nat.pow_le_pow_right (by omega) h2
    omega
def WholeAt (s : List UInt8) (w : World) (e : Ending) (w' : World) : Prop := ∃ r : Int, e = .returned (.int .i64 r) ∧ WholeIs s r ∧ Below w.heap.size w w'
set_option maxRecDepth 100000 in
set_option maxHeartbeats 2000000 in
theorem Whole_any (s : ByteArray) (w : World) (hs : s.size ≤ 2097152) :
    Calls Tryz.prog 26 #[.string s] w (WholeAt s.data.toList w) := by
  have hl := size_data' s
  by_cases h0 : s.size = 0
  · have HW := Lib.hid (whole_len (s := s.data.toList) (by omega))
    clear hl
    go_enter Tryz.func26, Tryz.ntmps26
    go_wp2
    go_ret
    exact ⟨_, rfl, HW.out, Below.refl _ _⟩
  · by_cases h10 : 10 < s.size
    · have HW := Lib.hid (whole_len (s := s.data.toList) (by omega))
      have h0' : ((s.size : Int) == 0) = false := beq_eq_false_iff_ne.2 (by omega)
      have h10' : 10 < (s.size : Int) := by omega
      clear hl
      go_enter Tryz.func26, Tryz.ntmps26
      go_wp2
      go_ret
      exact ⟨_, rfl, HW.out, Below.refl _ _⟩
    · have h0' : ((s.size : Int) == 0) = false := beq_eq_false_iff_ne.2 (by omega)
      have h10' : ¬ 10 < (s.size : Int) := by omega
      have HL := Lib.hid hl
      clear hl
      go_enter Tryz.func26, Tryz.ntmps26
      go_wp2
      go_loop [3, 4] (fun v i => ∃ k : Nat, k ≤ s.size ∧ i = .int .i64 k ∧ v = .int .i64 ((spell (s.data.toList.take k) 0 : Nat) : Int) ∧ digs (s.data.toList.take k)) (fun _ i => s.size - (intOf i).toNat)
      case atStart => exact ⟨0, by omega, rfl, rfl, by intro c hc; simp at hc⟩
      case round =>
        obtain ⟨k, hk, rfl, rfl, hd⟩ := hrel
        by_cases hlt : k < s.size
        · obtain ⟨hst, hb⟩ := spell_take (s := s.data.toList) (k := k) (by rw [HL.out]; exact hlt) hd (by rw [HL.out]; omega)
          have HST := Lib.hid hst
          have HD := Lib.hid hd
          have e : s.data.toList[k]'(by rw [HL.out]; exact hlt) = s[k] := rfl
          have HE := Lib.hid e
          have hmem : s[k] ∈ s.data.toList := by rw [← e]; exact List.getElem_mem _
          have hdv : ((dv s[k] : Nat) : Int) = (s[k].toNat : Int) - 48 ∨ s[k].toNat < 48 := by unfold dv; omega
          have hdig : 48 ≤ s[k].toNat → s[k].toNat ≤ 57 → digs (s.data.toList.take (k + 1)) := fun h1 h2 c hc => by
            rw [List.take_succ_eq_append_getElem (by rw [HL.out]; exact hlt)] at hc
            rcases List.mem_append.1 hc with hc | hc
            · exact HD.out c hc
            · simp only [List.mem_cons, List.not_mem_nil, or_false] at hc
              rw [hc, e]; exact ⟨h1, h2⟩
          have HDIG := Lib.hid hdig
          have HM := Lib.hid hmem
          have HDV := Lib.hid hdv
          clear hst hd e hmem hdv hdig
          obtain ⟨v, hv⟩ : ∃ v, spell (s.data.toList.take k) 0 = v := ⟨_, rfl⟩
          rw [hv] at hb HST ⊢
          have HV := Lib.hid hv
          clear hv
          have hb' : (v : Int) ≤ 10000000000 := by omega
          rcases Nat.lt_or_ge s[k].toNat 48 with hc | hc
          · have hc' : (s[k].toNat : Int) < 48 := by omega
            have HW := Lib.hid (whole_byte HM.out (.inl hc))
            go_wp2
            go_ret
            exact ⟨_, rfl, HW.out, Below.refl _ _⟩
          · rcases Nat.lt_or_ge 57 s[k].toNat with hc2 | hc2
            · have hc' : ¬ (s[k].toNat : Int) < 48 := by omega
              have hc2' : 57 < (s[k].toNat : Int) := by omega
              have HW := Lib.hid (whole_byte HM.out (.inr hc2))
              go_wp2
              go_ret
              exact ⟨_, rfl, HW.out, Below.refl _ _⟩
            · have hc' : ¬ (s[k].toNat : Int) < 48 := by omega
              have hc2' : ¬ 57 < (s[k].toNat : Int) := by omega
              have HN : Hid (((spell (s.data.toList.take (k + 1)) 0 : Nat) : Int) = 10 * v + ((s[k].toNat : Int) - 48)) := Lib.hid (by
                have h1 := HST.out; have h2 := HE.out; have h3 := HDV.out
                rw [h1, h2]; omega)
              go_wp2
              exact ⟨⟨k + 1, by omega, by go_num, by rw [HN.out], HDIG.out hc hc2⟩, by simp [intOf]; omega⟩
        · have : k = s.size := by omega
          subst this
          have ht : s.data.toList.take s.size = s.data.toList := List.take_of_length_le (by rw [HL.out]; exact Nat.le_refl _)
          rw [ht] at hd ⊢
          have hb : spell s.data.toList 0 + 1 ≤ 10000000000 := by
            have h1 := spell_le s.data.toList 0 hd
            have h3 : 10 ^ s.data.toList.length ≤ 10 ^ 10 := Nat.pow_le_pow_right (by omega) (by rw [HL.out]; omega)
            omega
          have HM := Lib.hid (@whole_much s.data.toList)
          have HO := Lib.hid (@whole_other s.data.toList)
          have HI := Lib.hid (@whole_is s.data.toList)
          clear hd ht
          obtain ⟨v, hv⟩ : ∃ v, spell s.data.toList 0 = v := ⟨_, rfl⟩
          rw [hv] at hb HM HO HI ⊢
          clear hv
          by_cases hbig : 1073741824 < v
          · have hbig' : 1073741824 < (v : Int) := by omega
            go_wp2
            go_ret
            exact ⟨_, rfl, HM.out hbig, Below.refl _ _⟩
          · have hbig' : ¬ 1073741824 < (v : Int) := by omega
            by_cases he : dd v = s.data.toList
            · have hes : (⟨(dd v).toArray⟩ : ByteArray) = s := by rw [he]
              have HES := Lib.hid hes
              have HE := Lib.hid he
              clear hes he
              go_wp2_with (first
                | (go_at_call 17; (with_reducible refine (Digits_n v v w (Nat.le_refl _) (by omega)).mono ?_); rintro e w1 ⟨rfl, hb1⟩; rw [HES.out]; have HB1 := Lib.hid hb1; clear hb1)
                | fail)
              go_ret
              exact ⟨_, rfl, HI.out (by omega) HE.out, HB1.out⟩
            · have tne : (dd v == s.toList) = false := by
                rw [ByteArray.toList_eq]; exact beq_eq_false_iff_ne.2 he
              have HE := Lib.hid he
              clear he
              go_wp2_with (first
                | (go_at_call 17; (with_reducible refine (Digits_n v v w (Nat.le_refl _) (by omega)).mono ?_); rintro e w1 ⟨rfl, hb1⟩; have HB1 := Lib.hid hb1; clear hb1)
                | fail)
              go_ret
              exact ⟨_, rfl, HO.out HE.out, HB1.out⟩

/-! ### Cut -/
theorem strR_info : (Tryz.prog.info? 9).map (fun i => (i.zero, i.size, i.bytes)) = some (some (.string .empty), 1, 16) := by kernel_rfl
structure CutInv (c : UInt8) (s : ByteArray) (k from_ : Nat) (L : List ByteArray) : Prop where
  le : from_ ≤ k
  len : L.length ≤ from_
  segs : segs c s.data.toList = L.map (·.data.toList) ++ segs c (s.data.toList.drop from_)
  no : c ∉ (s.data.toList.drop from_).take (k - from_)
theorem cutinv_zero (c : UInt8) (s : ByteArray) : CutInv c s 0 0 [] := ⟨Nat.le_refl _, Nat.le_refl _, by simp, by simp⟩
theorem cutinv_skip {c : UInt8} {s : ByteArray} {k f : Nat} {L : List ByteArray} (h : CutInv c s k f L) (hk : k < s.size) (hne : s[k] ≠ c) : CutInv c s (k + 1) f L := by
  have hl := size_data' s
  have hle := h.le
  refine ⟨by omega, h.len, h.segs, fun hm => ?_⟩
  have hlt : k - f < (s.data.toList.drop f).length := by rw [List.length_drop]; omega
  rw [show k + 1 - f = (k - f) + 1 from by omega, List.take_succ_eq_append_getElem hlt] at hm
  rcases List.mem_append.1 hm with hm | hm
  · exact h.no hm
  · simp only [List.mem_cons, List.not_mem_nil, or_false] at hm
    have e : (s.data.toList.drop f)[k - f] = s[k] := by
      rw [List.getElem_drop]
      have : f + (k - f) = k := by omega
      simp only [this]; rfl
    exact hne (by rw [← e, hm])
theorem cutinv_hit {c : UInt8} {s : ByteArray} {k f : Nat} {L : List ByteArray} (h : CutInv c s k f L) (hk : k < s.size) (he : s[k] = c) : CutInv c s (k + 1) (k + 1) (L ++ [s.extract f k]) := by
  have hl := size_data' s
  have hle := h.le
  have hlt : k - f < (s.data.toList.drop f).length := by rw [List.length_drop]; omega
  have e : (s.data.toList.drop f)[k - f] = c := by
    rw [List.getElem_drop]
    have : f + (k - f) = k := by omega
    simp only [this]; exact he
  have hsplit : s.data.toList.drop f = (s.data.toList.drop f).take (k - f) ++ c :: s.data.toList.drop (k + 1) := by
    have h1 := List.take_append_drop (k - f) (s.data.toList.drop f)
    rw [List.drop_eq_getElem_cons hlt, e, List.drop_drop, show f + (k - f + 1) = k + 1 from by omega] at h1
    exact h1.symm
  refine ⟨Nat.le_refl _, by simp only [List.length_append, List.length_cons, List.length_nil]; have := h.len; omega, ?_, by simp⟩
  have hx : (s.extract f k).data.toList = (s.data.toList.drop f).take (k - f) := Lib.extract_data s f k
  rw [h.segs, hsplit, segs_hit _ h.no, List.map_append, List.map_cons, List.map_nil, hx, List.append_assoc]
  rfl
theorem cutinv_end {c : UInt8} {s : ByteArray} {f : Nat} {L : List ByteArray} (h : CutInv c s s.size f L) : (L ++ [s.extract f s.size]).map (·.data.toList) = segs c s.data.toList := by
  have hl := size_data' s
  have hle := h.le
  have hx : (s.extract f s.size).data.toList = s.data.toList.drop f := Lib.extract_to_end s f
  have hno := h.no
  rw [List.take_of_length_le (by rw [List.length_drop]; omega)] at hno
  rw [h.segs, List.map_append, List.map_cons, List.map_nil, hx, segs_miss hno]
def CutAt (c : UInt8) (s : ByteArray) (w : World) (e : Ending) (w' : World) : Prop :=
  ∃ (L : List ByteArray) (g cap : Nat), L.map (·.data.toList) = segs c s.data.toList ∧ e = .returned (.slice (some ⟨g, 0, none⟩) L.length cap) ∧ (∀ (k : Nat) p, L[k]? = some p → w'.cell? ⟨g, k, none⟩ = some (.string p)) ∧ g < w'.heap.size ∧ Below w.heap.size w w'
set_option maxRecDepth 100000 in
set_option maxHeartbeats 2000000 in
theorem RCut_any (s : ByteArray) (c : UInt8) (w : World) (hs : s.size ≤ 2097152) :
    Calls Tryz.prog 7 #[.string s, .int .u8 (c.toNat : Int)] w (CutAt c s w) := by
  obtain ⟨i0, hi, hz0, hz1, hz2⟩ := info_parts strR_info
  go_enter Tryz.func7, Tryz.ntmps7
  go_wp2
  go_loopw [5, 6, 7] (fun v f i wr => ∃ (k from_ : Nat) (L : List ByteArray), k ≤ s.size ∧ i = .int .i64 k ∧ f = .int .i64 from_ ∧ CutInv c s k from_ L ∧ wr.ownsRow w.heap.size 9 1 v L.length (L.map Value.string) ∧ Below w.heap.size w wr) (fun _ _ i _ => s.size - (intOf i).toNat)
  case atStart => exact ⟨0, 0, [], by omega, rfl, rfl, cutinv_zero c s, World.ownsRow_nil _ _ _ _, Below.refl _ _⟩
  case round =>
    obtain ⟨k, f, L, hk, rfl, rfl, hinv, hown, hbel⟩ := hrel
    have hle := hinv.le
    have hlen := hinv.len
    have hsz := hbel.size
    have HI := Lib.hid hinv
    have HBEL := Lib.hid hbel
    clear hinv hbel
    by_cases hlt : k < s.size
    · by_cases hc : s[k] = c
      · have hb : ((s[k].toNat : Int) == (c.toNat : Int)) = true := by rw [hc]; simp
        have HN := Lib.hid (cutinv_hit HI.out hlt hc)
        clear hc
        go_wp2_with (first
          | (at_builtin; refine wpList_append_own _ rfl _ _ 23 rfl w.heap.size 9 i0 (.string .empty) 1 16 Tryz.underlying23 hi hz0 hz1 hz2 rfl (by decide) _ _ _ rfl (hown.alloc _) ⟨wr.heap.size, 0, none⟩ 1 1 [.string (s.extract f k)] rfl rfl ?c1 ?c2 ?c3 ?c4 ?c5 ?_)
          | fail)
        case c1 => intro j u hu; match j, hu with
          | 0, hu => simp only [List.getElem?_cons_zero, Option.some.injEq] at hu; subst hu; rw [addr_add]; simp
        case c2 => intro u hu; simp only [List.mem_cons, List.not_mem_nil, or_false] at hu; subst hu; rfl
        case c3 => unfold maxLen; omega
        case c4 => omega
        case c5 => simp; omega
        intro v' w2 hown2 hgrow _
        have HB2 := Lib.hid (below_grown (HBEL.out.alloc hsz _) (hown.alloc _) hgrow (Nat.le_refl _) (by simp; omega) : Below w.heap.size w w2)
        have HO : Hid (w2.ownsRow w.heap.size 9 1 v' (L ++ [s.extract f k]).length ((L ++ [s.extract f k]).map Value.string)) := Lib.hid (by simpa using hown2)
        clear hown hown2 hgrow
        go_wp2
        exact ⟨⟨k + 1, k + 1, _, by omega, by go_num, by go_num, HN.out, HO.out, HB2.out⟩, by simp [intOf]; omega⟩
      · have hb : ((s[k].toNat : Int) == (c.toNat : Int)) = false := beq_eq_false_iff_ne.2 (fun e => hc (UInt8.toNat_inj.1 (by omega)))
        have HN := Lib.hid (cutinv_skip HI.out hlt hc)
        have HO := Lib.hid hown
        clear hc hown
        go_wp2
        exact ⟨⟨k + 1, f, L, by omega, by go_num, rfl, HN.out, HO.out, HBEL.out⟩, by simp [intOf]; omega⟩
    · have : k = s.size := by omega
      subst this
      have HN := Lib.hid (cutinv_end HI.out)
      go_wp2_with (first
        | (at_builtin; refine wpList_append_own _ rfl _ _ 23 rfl w.heap.size 9 i0 (.string .empty) 1 16 Tryz.underlying23 hi hz0 hz1 hz2 rfl (by decide) _ _ _ rfl (hown.alloc _) ⟨wr.heap.size, 0, none⟩ 1 1 [.string (s.extract f s.size)] rfl rfl ?e1 ?e2 ?e3 ?e4 ?e5 ?_)
        | fail)
      case e1 => intro j u hu; match j, hu with
        | 0, hu => simp only [List.getElem?_cons_zero, Option.some.injEq] at hu; subst hu; rw [addr_add]; simp
      case e2 => intro u hu; simp only [List.mem_cons, List.not_mem_nil, or_false] at hu; subst hu; rfl
      case e3 => unfold maxLen; omega
      case e4 => omega
      case e5 => simp; omega
      intro v' w2 hown2 hgrow _
      have HB2 := Lib.hid (below_grown (HBEL.out.alloc hsz _) (hown.alloc _) hgrow (Nat.le_refl _) (by simp; omega) : Below w.heap.size w w2)
      have hO : w2.ownsRow w.heap.size 9 1 v' (L ++ [s.extract f s.size]).length ((L ++ [s.extract f s.size]).map Value.string) := by simpa using hown2
      obtain ⟨g, cap, rfl, hg, hgs, hnc, hcells⟩ := own_pos hO (by simp)
      have HC := Lib.hid hcells
      clear hown hown2 hgrow hO hcells
      go_wp2
      go_ret
      refine ⟨_, g, cap, HN.out, rfl, fun j p hp => ?_, hgs, HB2.out⟩
      have := HC.out j (.string p) (by rw [List.getElem?_map, hp]; rfl)
      rwa [Nat.zero_add] at this
end Go.Proofs.YtgdlkjahlajcpaaGreatDoor
namespace Go.Proofs.YtgdlkjahlajcpaaGreatDoor
open Go.ChangeShapes Go.WideShapes Go.ChangeAt Go.RowKit
set_option linter.unusedVariables false
set_option linter.unusedSimpArgs false

theorem wnet_end {W : World} {R : Nat} {a : Act} {v0 v1 : Value} {t : TypeId} {K : Ending → World → Prop} (h : W.heap[R]? = some (.cells #[v0, v1] t (0, 0))) (h2 : a.tmps[2]?.getD undef = .pointer (some ⟨R, 0, none⟩)) (hd : a.defers = [])
    (hK : K (.returned (.agg #[v0, v1])) W) : bodyPost Tryz.prog Tryz.f44 K .ret a W := by
  have e0 : W.cell? ⟨R, 0, none⟩ = some v0 := by rw [cell_of_row _ R _ _ _ (0, 0) h]; rfl
  have e1 : W.cell? ⟨R, 1, none⟩ = some v1 := by rw [cell_of_row _ R _ _ _ (0, 0) h]; rfl
  exact bodyPost_ret (by simp [results, Tryz.results44, go_sem, h2, e0, e1]) hd hK
set_option maxRecDepth 100000 in
theorem WNet_ok (a k : Nat) (s : ByteArray) (w : World) (hw : HStr w) (ha : a < 4294967296) (hn : netF ((a : Int), (k : Int)) = 0) (hs : s.data.toList = netT a k) :
    Calls Tryz.prog 44 #[.string s] w fun e w' => e = .returned (.agg #[.int .u32 a, .int .i64 k]) ∧ Below w.heap.size w w' := by
  have HW := Lib.hid hw
  have HN := Lib.hid hn
  have HS := Lib.hid hs
  clear hw hn hs
  go_enter Tryz.func44, Tryz.ntmps44
  go_wp2_with (first
    | (go_at_call 75; (with_reducible refine (NParse_ok a k s _ (HW.out.alloc _) ha HN.out HS.out).mono ?_); rintro e w1 ⟨rfl, hb1⟩; have blk1 := below_block hb1 (by simp) (heap_alloc_new w _); obtain ⟨r0, r1, f0, f1⟩ := row2 blk1; have BLK1 := Lib.hid blk1; have HB1 := Lib.hid (((Below.refl w.heap.size w).alloc (Nat.le_refl _) _).trans (hb1.mono (by simp))); have zw1 := HB1.out.size; have hR := size_of_block blk1; clear hb1 blk1)
    | fail)
  exact wnet_end (below_block ((Below.refl _ _).alloc (Nat.le_refl _) _) (by simpa using hR) (set2_block _ _ BLK1.out)) rfl rfl ⟨rfl, ((HB1.out.setCell (by simp) _).setCell (by simp) _).alloc (by simp; omega) _⟩
set_option maxRecDepth 100000 in
theorem WNet_bad (s : ByteArray) (w : World) (hw : HStr w) (hsz : s.size ≤ 2097152) (hs : ∀ a k : Nat, a < 4294967296 → netF ((a : Int), (k : Int)) = 0 → s.data.toList ≠ netT a k) :
    Calls Tryz.prog 44 #[.string s] w fun e w' => e = panE 7 ∧ Below w.heap.size w w' := by
  have HW := Lib.hid hw
  have HS := Lib.hid hs
  clear hw hs
  go_enter Tryz.func44, Tryz.ntmps44
  go_wp2_with (first
    | (go_at_call 75; (with_reducible refine (NParse_bad s _ (HW.out.alloc _) hsz HS.out).mono ?_); rintro e w1 ⟨rfl, hb1⟩; have HB1 := Lib.hid (((Below.refl w.heap.size w).alloc (Nat.le_refl _) _).trans (hb1.mono (by simp))); have zw1 := HB1.out.size; clear hb1)
    | fail)
  exact ⟨rfl, rfl, HB1.out.alloc (by omega) _⟩
set_option maxRecDepth 100000 in
theorem WAddr_ok (a : Nat) (s : ByteArray) (w : World) (hw : HStr w) (ha : a < 4294967296) (hs : s.data.toList = addrT a) :
    Calls Tryz.prog 56 #[.string s] w fun e w' => e = .returned (.int .u32 a) ∧ Below w.heap.size w w' := by
  have HW := Lib.hid hw
  have HS := Lib.hid hs
  clear hw hs
  go_enter Tryz.func56, Tryz.ntmps56
  go_wp2_with (first
    | (go_at_call 83; (with_reducible refine (Parse_ok a s _ HW.out ha HS.out).mono ?_); rintro e w1 ⟨rfl, hb1⟩; have HB1 := Lib.hid hb1; clear hb1)
    | fail)
  go_ret
  exact ⟨rfl, HB1.out⟩
set_option maxRecDepth 100000 in
theorem WAddr_bad (s : ByteArray) (w : World) (hw : HStr w) (hsz : s.size ≤ 2097152) (hs : ∀ a : Nat, a < 4294967296 → s.data.toList ≠ addrT a) :
    Calls Tryz.prog 56 #[.string s] w fun e w' => e = panE 7 ∧ Below w.heap.size w w' := by
  have HW := Lib.hid hw
  have HS := Lib.hid hs
  clear hw hs
  go_enter Tryz.func56, Tryz.ntmps56
  go_wp2_with (first
    | (go_at_call 83; (with_reducible refine (Parse_bad s _ HW.out hsz HS.out).mono ?_); rintro e w1 ⟨rfl, hb1⟩; have HB1 := Lib.hid hb1; clear hb1)
    | fail)
  exact ⟨rfl, rfl, HB1.out⟩
set_option maxRecDepth 100000 in
theorem WNum_ok (n : Nat) (s : ByteArray) (w : World) (hw : HStr w) (hn : n ≤ 1073741824) (hs : s.data.toList = dd n) :
    Calls Tryz.prog 45 #[.string s] w fun e w' => e = .returned (.int .i64 n) ∧ Below w.heap.size w w' := by
  have HA := Lib.hid (show Lib.atoiAll s.data.toList = .ok (n : Int) by rw [hs]; exact atoi_dd n (by omega))
  have hsz : s.size ≤ 10 := by
    have e1 := dd_len10 hn
    rw [← size_data, hs]; exact e1.2
  have HES : Hid ((⟨(dd n).toArray⟩ : ByteArray) = s) := Lib.hid (by rw [← hs])
  have HW := Lib.hid hw
  have h1 : ¬ (n : Int) < 0 := by omega
  have h2 : ¬ 1073741824 < (n : Int) := by omega
  clear hw hs
  go_enter Tryz.func45, Tryz.ntmps45
  go_wp2_with (first
    | (go_at_call 76; (with_reducible refine (Atoi_ok s (n : Int) _ (by omega) HA.out).mono ?_); rintro e w1 ⟨rfl, hb1⟩; have HB1 := Lib.hid hb1; clear hb1)
    | (go_at_call 51; (with_reducible refine (Itoa_n n _ (HW.out.on HB1.out) (by omega)).mono ?_); rintro e w2 ⟨rfl, hb2⟩; rw [show strV (dd n) = .string s from by rw [← HES.out]]; have HB2 := Lib.hid (HB1.out.trans (hb2.mono HB1.out.size)); clear hb2)
    | fail)
  go_ret
  exact ⟨rfl, HB2.out⟩
set_option maxRecDepth 100000 in
theorem WNum_bad (s : ByteArray) (w : World) (hw : HStr w) (hsz : s.size ≤ 2097152) (hs : ∀ n : Nat, n ≤ 1073741824 → s.data.toList ≠ dd n) :
    Calls Tryz.prog 45 #[.string s] w fun e w' => e = panE 7 ∧ Below w.heap.size w w' := by
  have HW := Lib.hid hw
  have HS := Lib.hid hs
  clear hw hs
  by_cases hv : ∃ v, Lib.atoiAll s.data.toList = .ok v
  · obtain ⟨v, hv⟩ := hv
    have HV := Lib.hid hv
    have hvb := Lib.atoiAll_bounds hv
    clear hv
    by_cases h1 : v < 0
    · go_enter Tryz.func45, Tryz.ntmps45
      go_wp2_with (first
        | (go_at_call 76; (with_reducible refine (Atoi_ok s v _ (by omega) HV.out).mono ?_); rintro e w1 ⟨rfl, hb1⟩; have HB1 := Lib.hid hb1; clear hb1)
        | fail)
      exact ⟨rfl, rfl, HB1.out⟩
    · by_cases h2 : 1073741824 < v
      · go_enter Tryz.func45, Tryz.ntmps45
        go_wp2_with (first
          | (go_at_call 76; (with_reducible refine (Atoi_ok s v _ (by omega) HV.out).mono ?_); rintro e w1 ⟨rfl, hb1⟩; have HB1 := Lib.hid hb1; clear hb1)
          | fail)
        exact ⟨rfl, rfl, HB1.out⟩
      · obtain ⟨n, rfl⟩ := Int.eq_ofNat_of_zero_le (show 0 ≤ v by omega)
        have tne : (dd n == s.toList) = false := by
          have := HS.out n (by omega)
          rw [← ByteArray.toList_eq] at this
          exact beq_eq_false_iff_ne.2 (fun e => this e.symm)
        go_enter Tryz.func45, Tryz.ntmps45
        go_wp2_with (first
          | (go_at_call 76; (with_reducible refine (Atoi_ok s (n : Int) _ (by omega) HV.out).mono ?_); rintro e w1 ⟨rfl, hb1⟩; have HB1 := Lib.hid hb1; clear hb1)
          | (go_at_call 51; (with_reducible refine (Itoa_n n _ (HW.out.on HB1.out) (by omega)).mono ?_); rintro e w2 ⟨rfl, hb2⟩; have HB2 := Lib.hid (HB1.out.trans (hb2.mono HB1.out.size)); clear hb2)
          | fail)
        exact ⟨rfl, rfl, HB2.out⟩
  · have HV : Hid (∀ v, Lib.atoiAll s.data.toList ≠ .ok v) := Lib.hid (fun v e => hv ⟨v, e⟩)
    clear hv
    go_enter Tryz.func45, Tryz.ntmps45
    go_wp2_with (first
      | (go_at_call 76; (with_reducible refine (Atoi_bad s _ HW.out (by omega) HV.out).mono ?_); rintro e w1 ⟨v, t, q, rfl, hb1⟩; have HB1 := Lib.hid hb1; clear hb1)
      | fail)
    exact ⟨rfl, rfl, HB1.out⟩
end Go.Proofs.YtgdlkjahlajcpaaGreatDoor
namespace Go.Proofs.YtgdlkjahlajcpaaGreatDoor
open Go.ChangeShapes Go.WideShapes Go.ChangeAt Go.RowKit
set_option linter.unusedVariables false
set_option linter.unusedSimpArgs false

theorem strT_info : (Tryz.prog.info? 9).map (fun i => (i.zero, i.size, i.bytes)) = some (some (.string .empty), 1, 16) := by kernel_rfl
def netsV (l : List Nt) (k : Nat) : List Value := (l.take k).map fun x => strV (netX x)
theorem netsV_succ {l : List Nt} {k : Nat} {x : Nt} (h : l[k]? = some x) : netsV l (k + 1) = netsV l k ++ [strV (netX x)] := by
  unfold netsV; rw [List.take_add_one, h, List.map_append]; rfl
theorem join_len (l : List (List UInt8)) (b : Nat) (h : ∀ x ∈ l, x.length ≤ b) : (Lib.join l [32]).length ≤ l.length * (b + 1) := by
  unfold Lib.join
  induction l with
  | nil => simp [List.intercalate]
  | cons x r ih =>
    have h1 := h x (by simp)
    have h2 := ih fun y hy => h y (by simp [hy])
    cases r with
    | nil => simp [List.intercalate]; omega
    | cons y r =>
      have e : List.intercalate [32] (x :: y :: r) = x ++ ([32] ++ List.intercalate [32] (y :: r)) := by simp [List.intercalate, List.intersperse]
      rw [e]
      simp only [List.length_append, List.length_cons, List.length_nil] at h2 ⊢
      have : (r.length + 1 + 1) * (b + 1) = (r.length + 1) * (b + 1) + (b + 1) := by rw [Nat.succ_mul]
      omega
theorem netX_len {x : Nt} (h : netF x = 0) (h32 : is32 x.1) : (netX x).length ≤ 19 := by
  have h1 := h32.1; have h2 := h32.2
  have h3 := (netF_zero.1 h).2.1
  exact netT_length _ _ (by omega) (by omega)
theorem netsT_len {l : List Nt} (hl : l.length ≤ 1000) (hv : ∀ x ∈ l, netF x = 0 ∧ is32 x.1) : (netsT l).length ≤ 20000 := by
  have h := join_len (l.map netX) 19 (by
    intro y hy
    obtain ⟨x, hx, rfl⟩ := List.mem_map.1 hy
    exact netX_len (hv x hx).1 (hv x hx).2)
  unfold netsT
  rw [List.length_map] at h
  omega
set_option maxRecDepth 100000 in
set_option maxHeartbeats 4000000 in
theorem Texts_any {w : World} {A : Option Addr} {n c : Nat} {l : List Nt} (hr : R1 rdNets w (.slice A n c) l) (hl : l.length ≤ 1000) (hv : ∀ x ∈ l, netF x = 0 ∧ is32 x.1) (hw : HStr w) :
    Calls Tryz.prog 60 #[.slice A n c] w fun e w' => e = .returned (strV (netsT l)) ∧ Below w.heap.size w w' := by
  obtain ⟨hn, hnc, hcm⟩ := RdSlice.len hr
  have hn1 : n ≤ 1000 := by omega
  obtain ⟨i0, hi, hz0, hz1, hz2⟩ := info_parts strT_info
  have HR := Lib.hid hr
  have HN := Lib.hid hn
  have HV := Lib.hid hv
  have HW := Lib.hid hw
  have HLEN := Lib.hid (netsT_len hl hv)
  clear hr hcm hnc hn hv hw hl
  go_enter Tryz.func60, Tryz.ntmps60
  go_wp2
  go_loopw [3, 8] (fun v s wr => ∃ k : Nat, k ≤ n ∧ s = .int .i64 k ∧ wr.ownsRow w.heap.size 9 1 v k (netsV l k) ∧ Below w.heap.size w wr) (fun _ s _ => n - (intOf s).toNat)
  case atStart => exact ⟨0, by omega, rfl, World.ownsRow_nil _ _ _ _, Below.refl _ _⟩
  case round =>
    obtain ⟨k, hk, rfl, hown, hbel⟩ := hrel
    have hsz := hbel.size
    by_cases hlt : k < n
    · obtain ⟨b, o, ⟨x, x'⟩, rfl, hb, HX, ⟨wx, wy⟩, c0, c1⟩ := RdSlice.atN HR.out hlt
      have d0 := (hbel.cell (p := ⟨b, o + k * 2, none⟩) hb).trans c0
      have d1 := (hbel.cell (p := ⟨b, o + k * 2 + 1, none⟩) hb).trans c1
      obtain ⟨hz, h32⟩ := HV.out (x, x') (List.mem_of_getElem? HX.out)
      obtain ⟨p, rfl⟩ := Int.eq_ofNat_of_zero_le h32.1
      obtain ⟨q, hq, e, _⟩ := net_ok hz
      simp only at e h32
      subst e
      have hp : p < 4294967296 := by have := h32.2; omega
      have HS : Hid (netX ((p : Int), (q : Int)) = netT p q) := Lib.hid rfl
      have HQK := Lib.hid (netsV_succ HX.out)
      have HBEL := Lib.hid hbel
      clear c0 c1 wx wy hbel hz h32
      go_wp2_with (first
        | (go_at_call 58; (with_reducible refine (NText_any p q _ ((HW.out.below HBEL.out (Nat.le_refl _)).alloc _) hp hq).mono ?_); rintro e w1 ⟨rfl, hb1⟩; have hb0 := ((Below.refl wr.heap.size wr).alloc (Nat.le_refl _) (.cells #[.int .u32 (p : Int), .int .i64 (q : Int)] 47)).trans (hb1.mono (by simp)); have zw1 := hb0.size; have hown1 := own_below hown hb0; have HB1 := Lib.hid (HBEL.out.trans (hb0.mono hsz)); clear hb1 hb0)
        | (at_builtin; refine wpList_append_own _ rfl _ _ 23 rfl w.heap.size 9 i0 (.string .empty) 1 16 Tryz.underlying23 hi hz0 hz1 hz2 rfl (by decide) _ _ _ rfl (hown1.alloc _) ⟨w1.heap.size, 0, none⟩ 1 1 [strV (netT p q)] rfl rfl ?c1 ?c2 ?c3 ?c4 ?c5 ?_)
        | fail)
      case c1 => intro j u hu; match j, hu with
        | 0, hu => simp only [List.getElem?_cons_zero, Option.some.injEq] at hu; subst hu; rw [addr_add]; simp
      case c2 => intro u hu; simp only [List.mem_cons, List.not_mem_nil, or_false] at hu; subst hu; rfl
      case c3 => unfold maxLen; omega
      case c4 => omega
      case c5 => simp; omega
      intro v' w2 hown2 hgrow _
      have hb2 : Below w.heap.size w w2 := below_grown (HB1.out.alloc (by omega) _) (hown1.alloc _) hgrow (Nat.le_refl _) (by simp; omega)
      rw [← HS.out, ← HQK.out] at hown2
      have HB2 := Lib.hid hb2
      clear hb2 hown hgrow
      go_wp2
      exact ⟨⟨k + 1, by omega, by go_num, hown2, HB2.out⟩, by simp [intOf]; omega⟩
    · have : k = n := by omega
      subst this
      have HBEL := Lib.hid hbel
      have HJC : Hid (Calls Tryz.prog 85 #[u3, .string ⟨#[32]⟩] wr fun e w' => e = .returned (strV (netsT l)) ∧ Below wr.heap.size wr w') := Lib.hid (by
        by_cases h0 : k = 0
        · subst h0
          have hl0 : l = [] := List.length_eq_zero_iff.1 HN.out.symm
          obtain ⟨A', c', e⟩ := own_form hown
          rw [e, hl0]
          exact (Tryz.strings_Join_none A' c' ⟨#[32]⟩ wr).mono fun e w' ⟨he, hw⟩ => ⟨he, by rw [hw]; exact Below.refl _ _⟩
        · obtain ⟨g, cap, e, hg, hgs, hnc, hcells⟩ := own_pos hown (by omega)
          rw [e]
          have hL : (l.map fun x => (⟨(netX x).toArray⟩ : ByteArray)).length = k := by rw [List.length_map]; exact HN.out.symm
          have hd : (l.map fun x => (⟨(netX x).toArray⟩ : ByteArray)).map (·.data.toList) = l.map netX := by simp [List.map_map, Function.comp_def]
          have hj := Tryz.strings_Join g 0 cap (l.map fun x => (⟨(netX x).toArray⟩ : ByteArray)) ⟨#[32]⟩ wr (fun j x hx => hcells j _ (by
            have e2 : netsV l k = (l.map fun x => (⟨(netX x).toArray⟩ : ByteArray)).map Value.string := by
              unfold netsV
              rw [List.take_of_length_le (by rw [← HN.out]; exact Nat.le_refl _), List.map_map]; rfl
            rw [e2, List.getElem?_map, hx]; rfl)) hgs (by omega) (by omega) (by rw [hd]; have := HLEN.out; unfold netsT at this; exact Nat.le_trans this (by omega))
          rw [hL, hd] at hj
          exact hj)
      clear hown hbel
      go_wp2_with (first
        | (go_at_call 85; refine HJC.out.mono ?_; rintro e w3 ⟨rfl, hb3⟩; have HB3 := Lib.hid (HBEL.out.trans (hb3.mono hsz)); clear hb3)
        | fail)
      go_ret
      exact ⟨rfl, HB3.out⟩
end Go.Proofs.YtgdlkjahlajcpaaGreatDoor
namespace Go.Proofs.YtgdlkjahlajcpaaGreatDoor
open Go.ChangeShapes Go.WideShapes Go.ChangeAt Go.RowKit
set_option linter.unusedVariables false
set_option linter.unusedSimpArgs false

def endA : Ans → Ending
  | .ok t => .returned (strV t)
  | .error k => panE k
abbrev deskV (T : Nat) : Value := .agg #[.pointer (some ⟨T, 0, none⟩)]
theorem all_nets {m : Tab} (h : MOk m) : (∀ x ∈ allM m, netF x = 0 ∧ is32 x.1) ∧ (allM m).length ≤ 64 := by
  refine ⟨fun x hx => h.net ((mem_all h x).1 hx), ?_⟩
  rw [all_length h]; exact h.len
theorem row1p {w : World} {R : Nat} {v0 : Value} {t : TypeId} (h : w.heap[R]? = some (.cells #[v0] t (0, 0))) : w.cell? ⟨R, 0, none⟩ = some v0 := by
  rw [cell_of_row _ R _ _ _ (0, 0) h]; rfl
section
variable {W w : World} {T : Nat} {m : Tab} {S : Nat → Prop} {v : Value}
theorem List_do (h : Tk W T m S w) (hw : HStr W) :
    Calls Tryz.prog 59 #[deskV T, v] w fun e w' => e = endA (.ok (netsT (allM m))) ∧ Below w.heap.size w w' := by
  have h1 := h.below ((Below.refl w.heap.size w).alloc (Nat.le_refl _) (.cells #[.pointer (some ⟨T, 0, none⟩)] 40))
  have HL := Lib.hid (List_t h1)
  have HW : Hid (HStr w) := Lib.hid (hw.below h.bel (Nat.le_refl _))
  have HA := Lib.hid (all_nets h.ok)
  clear h h1 hw
  go_enter Tryz.func59, Tryz.ntmps59
  go_wp2_with (first
    | (go_at_call 61; refine HL.out.mono ?_; rintro e w1 ⟨u, rfl, hown, hb1⟩; have hr := hown.read; obtain ⟨A, c, hu⟩ := hown.form; rw [hu] at hr ⊢; have HR := Lib.hid hr; have HB1 := Lib.hid (((Below.refl w.heap.size w).alloc (Nat.le_refl _) (.cells #[.pointer (some ⟨T, 0, none⟩)] 40)).trans (hb1.mono (by simp))); clear hown hb1 hr hu)
    | (go_at_call 60; (with_reducible refine (Texts_any HR.out (by have := HA.out.2; omega) HA.out.1 (HW.out.on HB1.out)).mono ?_); rintro e w2 ⟨rfl, hb2⟩; have HB2 := Lib.hid (HB1.out.trans (hb2.mono HB1.out.size)); clear hb2)
    | fail)
  trace_state
  go_ret
  exact ⟨rfl, HB2.out⟩
end
end Go.Proofs.YtgdlkjahlajcpaaGreatDoor
