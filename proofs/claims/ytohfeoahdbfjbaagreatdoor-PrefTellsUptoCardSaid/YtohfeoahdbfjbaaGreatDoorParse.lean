/- addr.Parse: of an address's text that address, of every other text ErrForm. -/
import Derived.Test.YtohfeoahdbfjbaaGreatDoorTextC
namespace Go.Proofs.YtohfeoahdbfjbaaGreatDoor
open Go.ChangeShapes Go.WideShapes Go.ChangeAt Go.RowKit
set_option linter.unusedVariables false
set_option linter.unusedSimpArgs false

theorem Split_r (c : UInt8) (s : ByteArray) (w : World) (h : HStr w) (hs : s.size ≤ 1048576) :
    Calls Tryz.prog 41 #[.string s, .string ⟨#[c]⟩] w fun e w' => ∃ (L : List ByteArray) (g : Nat), L.map (·.data.toList) = segs c s.data.toList ∧ e = .returned (.slice (some ⟨g, 0, none⟩) L.length L.length) ∧
      (∀ (k : Nat) p, L[k]? = some p → w'.cell? ⟨g, k, none⟩ = some (.string p)) ∧ g < w'.heap.size ∧ Below w.heap.size w w' :=
  (Split_c c s w h hs).mono fun e w' ⟨L, h1, h2, h3⟩ => ⟨L, _, h1, h2, by subst h3; exact fun k p hk => by rw [World.cell?_alloc_at _ _ _ _ rfl, List.getElem?_toArray, List.getElem?_map, hk]; rfl, by subst h3; simp, by subst h3; exact (Below.refl _ _).alloc (Nat.le_refl _) _⟩
/-- pieces are no longer than the text -/
theorem segs_len_le (c : UInt8) : ∀ s : List UInt8, ∀ p ∈ segs c s, p.length ≤ s.length
  | [], p, hp => by simp [segs] at hp; simp [hp]
  | x :: r, p, hp => by
    have ih := segs_len_le c r
    rw [segs_split] at ih
    unfold segs at hp
    by_cases h : x = c
    · rw [if_pos h] at hp
      rcases List.mem_cons.1 hp with rfl | hp
      · simp
      · have := segs_len_le c r p hp; simp; omega
    · rw [if_neg h] at hp
      rcases List.mem_cons.1 hp with rfl | hp
      · have := ih _ (List.mem_cons_self ..); simp only [List.length_cons]; omega
      · have := ih p (by simp [hp]); simp; omega
theorem piece_size {c : UInt8} {s : ByteArray} {L : List ByteArray} (h : L.map (·.data.toList) = segs c s.data.toList) {k : Nat} {p : ByteArray} (hp : L[k]? = some p) : p.size ≤ s.size := by
  rw [← size_data, ← size_data]
  refine segs_len_le c _ _ ?_
  rw [← h]
  exact List.mem_map.2 ⟨p, List.mem_of_getElem? hp, rfl⟩
/-- what is told when k pieces are read -/
def accN (a k : Nat) : Nat := a / 2 ^ (32 - 8 * k)
theorem acc_rng {a k : Nat} (ha : a < 4294967296) (hk : k ≤ 4) : accN a k < 4294967296 := Nat.lt_of_le_of_lt (Nat.div_le_self _ _) ha
theorem acc_succ {a k n : Nat} (ha : a < 4294967296) (hk : k < 4) (hn : (quads a)[k]? = some n) : accN a k * 256 + n = accN a (k + 1) ∧ n < 256 := by
  have e0 : accN a 0 = a / 4294967296 := rfl
  have e1 : accN a 1 = a / 16777216 := rfl
  have e2 : accN a 2 = a / 65536 := rfl
  have e3 : accN a 3 = a / 256 := rfl
  have e4 : accN a 4 = a / 1 := rfl
  match k, hk with
  | 0, _ => have hn : a / 16777216 = n := Option.some.inj hn
            rw [e0, e1]; omega
  | 1, _ => have hn : a / 65536 % 256 = n := Option.some.inj hn
            rw [e1, e2]; omega
  | 2, _ => have hn : a / 256 % 256 = n := Option.some.inj hn
            rw [e2, e3]; omega
  | 3, _ => have hn : a % 256 = n := Option.some.inj hn
            rw [e3, e4]; omega
theorem or_byte (x n : Nat) (hx : x * 256 + n < 4294967296) (hn : n < 256) : bits .or .u32 ((x * 256 : Nat) : Int) (n : Int) = ((x * 256 + n : Nat) : Int) := by
  obtain ⟨m, hm⟩ : ∃ m, m = x * 256 := ⟨_, rfl⟩
  rw [← hm] at hx ⊢
  have h0 : m < 4294967296 := by omega
  have h1 : n < 4294967296 := by omega
  have e := u32_or_nat m n h0 h1
  rw [e]
  have h8 : n < 2 ^ 8 := by rw [show (2 : Nat) ^ 8 = 256 from by decide]; exact hn
  have h := Nat.two_pow_add_eq_or_of_lt h8 x
  rw [show (2 : Nat) ^ 8 = 256 from by decide, Nat.mul_comm, ← hm] at h
  rw [h]
theorem list_bytes {L M : List ByteArray} (h : L.map (·.data.toList) = M.map (·.data.toList)) : L = M := by
  have inj : ∀ a b : ByteArray, a.data.toList = b.data.toList → a = b := fun a b h => by
    cases a; cases b; simp at h; simp [h]
  induction L generalizing M with
  | nil => cases M with
    | nil => rfl
    | cons _ _ => simp at h
  | cons x L ih => cases M with
    | nil => simp at h
    | cons y M =>
      simp only [List.map_cons, List.cons.injEq] at h
      rw [inj _ _ h.1, ih h.2]
def quadB (a : Nat) : List ByteArray := (quads a).map fun n => ⟨(dd n).toArray⟩
theorem quadB_at {a k : Nat} (hk : k < 4) : ∃ n, (quads a)[k]? = some n ∧ (quadB a)[k]? = some ⟨(dd n).toArray⟩ := by
  have : k < (quads a).length := by simpa [quads] using hk
  refine ⟨(quads a)[k], List.getElem?_eq_getElem this, ?_⟩
  unfold quadB; rw [List.getElem?_map, List.getElem?_eq_getElem this]; rfl
theorem quadB_of {a : Nat} {L : List ByteArray} (h : L.map (·.data.toList) = segs 46 (addrT a)) : L = quadB a := by
  refine list_bytes ?_
  rw [h, segs_addr]
  simp [quadB, quads]
set_option maxRecDepth 100000 in
set_option maxHeartbeats 1000000 in
theorem Parse_ok (a : Nat) (s : ByteArray) (w : World) (hw : HStr w) (ha : a < 4294967296) (hs : s.data.toList = addrT a) :
    Calls Tryz.prog 31 #[.string s] w fun e w' => e = .returned (.tuple #[.int .u32 a, .nilIface]) ∧ Below w.heap.size w w' := by
  have hsz : s.size ≤ 15 := by rw [← size_data, hs]; exact addrT_length a ha
  have HS := Lib.hid hs
  have HW := Lib.hid hw
  have es : strV (addrT a) = .string s := by rw [← hs]
  have HES := Lib.hid es
  clear hs hw es
  go_enter Tryz.func31, Tryz.ntmps31
  go_wp2_with (first
    | (go_at_call 41; (with_reducible refine (Split_r 46 s w HW.out (by omega)).mono ?_); rintro e w1 ⟨L, g, hL, rfl, hc, hg, hb1⟩; rw [HS.out] at hL; obtain rfl := quadB_of hL; have HC := Lib.hid hc; have HB1 := Lib.hid hb1; have zw1 := hb1.size; have hlen : (quadB a).length = 4 := rfl; rw [hlen]; clear hc hb1 hL hlen)
    | fail)
  generalize hqb : quadB a = Q at *
  have HQB := Lib.hid hqb
  clear hqb
  go_loopw [5, 18] (fun v i wr => ∃ k : Nat, k ≤ 4 ∧ i = .int .i64 k ∧ v = .int .u32 ((accN a k : Nat) : Int) ∧ Below w1.heap.size w1 wr) (fun _ i _ => 4 - (intOf i).toNat)
  case atStart => exact ⟨0, by omega, rfl, by unfold accN; rw [Nat.div_eq_of_lt (by omega)]; rfl, Below.refl _ _⟩
  case round =>
    obtain ⟨k, hk, rfl, rfl, hbel⟩ := hrel
    by_cases hlt : k < 4
    · obtain ⟨n, hn, hq⟩ := quadB_at (a := a) hlt
      obtain ⟨hac, hn256⟩ := acc_succ ha hlt hn
      have hr := acc_rng ha (show k + 1 ≤ 4 by omega)
      have hcell : wr.cell? ⟨g, k, none⟩ = some (.string ⟨(dd n).toArray⟩) := (hbel.cell (p := ⟨g, k, none⟩) hg).trans (HC.out k _ (by rw [← HQB.out]; exact hq))
      have HA := Lib.hid hac
      have HOR : Hid (bits .or .u32 ((accN a k * 256 : Nat) : Int) (n : Int) = ((accN a (k + 1) : Nat) : Int)) := Lib.hid (by rw [or_byte _ _ (by omega) hn256, hac])
      have HBEL := Lib.hid hbel
      have hszr := hbel.size
      have HAT := Lib.hid (atoi_dd n (by omega))
      have hz3 := dd_length_le (n := n) (by omega)
      have hx0 : accN a k * 256 < 4294967296 := by omega
      clear hn hq hac hbel
      go_wp2_with (first
        | (go_at_call 32; (with_reducible refine (Atoi_ok ⟨(dd n).toArray⟩ (n : Int) _ (by have := size_data ⟨(dd n).toArray⟩; simp only at this; omega) HAT.out).mono ?_); rintro e w2 ⟨rfl, hb2⟩; have HB2 := Lib.hid (HBEL.out.trans (hb2.mono hszr)); clear hb2)
        | fail)
      refine ⟨⟨k + 1, by omega, by go_num, ?_, HB2.out⟩, by simp [intOf]; omega⟩
      have e : ((accN a k : Nat) : Int) * 256 = ((accN a k * 256 : Nat) : Int) := by omega
      rw [e, HOR.out]
    · have : k = 4 := by omega
      subst this
      have HA4 : Hid (accN a 4 = a) := Lib.hid (Nat.div_one a)
      go_wp2_with (first
        | (go_at_call 33; rw [HA4.out]; (with_reducible refine (Text_any a _ ((HW.out.on HB1.out).below hbel (Nat.le_refl _)) ha).mono ?_); rintro e w2 ⟨rfl, hb2⟩; rw [HES.out]; have HB2 := Lib.hid (hbel.trans (hb2.mono hbel.size)); clear hb2)
        | fail)
      go_ret2
      exact ⟨rfl, HB1.out.trans (HB2.out.mono zw1)⟩
/-- the least that is told of a piece -/
theorem or_any (x n : Int) (hx : 0 ≤ x ∧ x < 4294967296) (hn : 0 ≤ n ∧ n ≤ 255) : ∃ y : Nat, y < 4294967296 ∧ bits .or .u32 (x * 256 % 4294967296) n = (y : Int) := by
  obtain ⟨m, rfl⟩ := Int.eq_ofNat_of_zero_le hn.1
  have hw : 0 ≤ x * 256 % 4294967296 ∧ x * 256 % 4294967296 < 4294967296 := by omega
  obtain ⟨k, hk⟩ := Int.eq_ofNat_of_zero_le hw.1
  rw [hk] at hw ⊢
  have h0 : k < 4294967296 := by omega
  have h1 : m < 4294967296 := by omega
  refine ⟨k ||| m, Nat.or_lt_two_pow (n := 32) (by omega) (by omega), ?_⟩
  exact u32_or_nat k m h0 h1
set_option maxRecDepth 100000 in
set_option maxHeartbeats 1000000 in
theorem Parse_bad (s : ByteArray) (w : World) (hw : HStr w) (hsz : s.size ≤ 1048576) (hs : ∀ a : Nat, a < 4294967296 → s.data.toList ≠ addrT a) :
    Calls Tryz.prog 31 #[.string s] w fun e w' => e = .returned (.tuple #[.int .u32 0, .iface 26 (.int .i64 3)]) ∧ Below w.heap.size w w' := by
  have HS := Lib.hid hs
  have HW := Lib.hid hw
  clear hs hw
  go_enter Tryz.func31, Tryz.ntmps31
  go_wp2_with fail
  go_at_call 41; (with_reducible refine (Split_r 46 s w HW.out (by omega)).mono ?_); rintro e w1 ⟨L, g, hL, rfl, hc, hg, hb1⟩
  have HLS := Lib.hid (fun (k : Nat) (p : ByteArray) (h : L[k]? = some p) => piece_size hL h)
  have HC := Lib.hid hc; have HB1 := Lib.hid hb1; have zw1 := hb1.size
  have hl1 : L.length ≤ 1048577 := by
    have h1 := congrArg List.length hL
    rw [List.length_map, segs_length] at h1
    have h2 := List.count_le_length (a := (46 : UInt8)) (l := s.data.toList)
    rw [size_data] at h2; omega
  clear hL hc hb1
  obtain ⟨N, hN⟩ : ∃ N, L.length = N := ⟨_, rfl⟩
  rw [hN] at hl1 ⊢
  have HN := Lib.hid hN
  clear hN
  by_cases h4 : N = 4
  · subst h4
    go_wp2
    go_loopw [5, 18] (fun v i wr => ∃ k x : Nat, k ≤ 4 ∧ x < 4294967296 ∧ i = .int .i64 k ∧ v = .int .u32 x ∧ Below w1.heap.size w1 wr) (fun _ i _ => 4 - (intOf i).toNat)
    case atStart => exact ⟨0, 0, by omega, by omega, rfl, rfl, Below.refl _ _⟩
    case round =>
      obtain ⟨k, x, hk, hx, rfl, rfl, hbel⟩ := hrel
      have hszr := hbel.size
      by_cases hlt : k < 4
      · obtain ⟨p, hp⟩ : ∃ p, L[k]? = some p := ⟨L[k]'(by rw [HN.out]; exact hlt), List.getElem?_eq_getElem _⟩
        have hcell : wr.cell? ⟨g, k, none⟩ = some (.string p) := (hbel.cell (p := ⟨g, k, none⟩) hg).trans (HC.out k _ hp)
        have hps := HLS.out k p hp
        have HBEL := Lib.hid hbel
        clear hp hbel
        by_cases hv : ∃ v, Lib.atoiAll p.data.toList = .ok v
        · obtain ⟨v, hv⟩ := hv
          have HV := Lib.hid hv
          have hvb := Lib.atoiAll_bounds hv
          clear hv
          by_cases hr : 0 ≤ v ∧ v ≤ 255
          · obtain ⟨y, hy, ho⟩ := or_any x v (by omega) hr
            have HO := Lib.hid ho
            obtain ⟨hr0, hr1⟩ := hr
            clear ho
            go_wp2_with (first
              | (go_at_call 32; (with_reducible refine (Atoi_ok p v _ (by omega) HV.out).mono ?_); rintro e w2 ⟨rfl, hb2⟩; have HB2 := Lib.hid (HBEL.out.trans (hb2.mono hszr)); clear hb2)
              | fail)
            exact ⟨⟨k + 1, y, by omega, hy, by go_num, by rw [HO.out], HB2.out⟩, by simp [intOf]; omega⟩
          · have hr2 : v < 0 ∨ 255 < v := by omega
            clear hr
            rcases hr2 with hr2 | hr2
            · go_wp2_with (first
                | (go_at_call 32; (with_reducible refine (Atoi_ok p v _ (by omega) HV.out).mono ?_); rintro e w2 ⟨rfl, hb2⟩; have HB2 := Lib.hid (HBEL.out.trans (hb2.mono hszr)); clear hb2)
                | fail)
              go_ret2
              exact ⟨rfl, HB1.out.trans (HB2.out.mono zw1)⟩
            · have hr3 : ¬ v < 0 := by omega
              go_wp2_with (first
                | (go_at_call 32; (with_reducible refine (Atoi_ok p v _ (by omega) HV.out).mono ?_); rintro e w2 ⟨rfl, hb2⟩; have HB2 := Lib.hid (HBEL.out.trans (hb2.mono hszr)); clear hb2)
                | fail)
              go_ret2
              exact ⟨rfl, HB1.out.trans (HB2.out.mono zw1)⟩
        · have HV : Hid (∀ v, Lib.atoiAll p.data.toList ≠ .ok v) := Lib.hid (fun v e => hv ⟨v, e⟩)
          clear hv
          go_wp2_with (first
            | (go_at_call 32; (with_reducible refine (Atoi_bad p _ ((HW.out.on HB1.out).below HBEL.out (Nat.le_refl _)) (by omega) HV.out).mono ?_); rintro e w2 ⟨v, t, q, rfl, hb2⟩; have HB2 := Lib.hid (HBEL.out.trans (hb2.mono hszr)); clear hb2)
            | fail)
          go_ret2
          exact ⟨rfl, HB1.out.trans (HB2.out.mono zw1)⟩
      · have : k = 4 := by omega
        subst this
        have tne : (addrT x == s.toList) = false := by
          have := HS.out x hx
          rw [← ByteArray.toList_eq] at this
          exact beq_eq_false_iff_ne.2 (fun e => this e.symm)
        go_wp2_with (first
          | (go_at_call 33; (with_reducible refine (Text_any x _ ((HW.out.on HB1.out).below hbel (Nat.le_refl _)) hx).mono ?_); rintro e w2 ⟨rfl, hb2⟩; have HB2 := Lib.hid (hbel.trans (hb2.mono hszr)); clear hb2)
          | fail)
        go_ret2
        exact ⟨rfl, HB1.out.trans (HB2.out.mono zw1)⟩
  · have h4' : ((N : Int) != 4) = true := by simp; omega
    go_wp2
    go_ret2
    exact ⟨rfl, HB1.out⟩
end Go.Proofs.YtohfeoahdbfjbaaGreatDoor
