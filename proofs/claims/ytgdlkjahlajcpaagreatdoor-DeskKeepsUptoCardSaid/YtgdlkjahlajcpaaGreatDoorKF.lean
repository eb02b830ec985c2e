/- pref.Has, In, Less, Up, Halves and Common, as contracts in plain numbers. -/
import Derived.Test.YtgdlkjahlajcpaaGreatDoorKE
import Derived.Test.YtgdlkjahlajcpaaGreatDoorKD
import Derived.WalkLawsBesides
import Derived.Deep.RegionHeld3
namespace Go.Proofs.YtgdlkjahlajcpaaGreatDoor
open Go.ChangeShapes Go.WideShapes Go.ChangeAt Go.RowKit
set_option linter.unusedVariables false
set_option linter.unusedSimpArgs false

theorem Check_ok {a n : Int} (w : World) (h0 : 0 ≤ a) (h1 : a ≤ 4294967295) (h : netF (a, n) = 0) :
    Calls Tryz.prog 77 #[.agg #[.int .u32 a, .int .i64 n]] w fun e w' => e = .returned .nilIface ∧ Below w.heap.size w w' :=
  (Check_net a n w h0 h1).mono fun e w' ⟨he, hb⟩ => ⟨by rw [he, h]; rfl, hb⟩
theorem Check_bad {a n : Int} (w : World) (h0 : 0 ≤ a) (h1 : a ≤ 4294967295) (h : netF (a, n) ≠ 0) :
    Calls Tryz.prog 77 #[.agg #[.int .u32 a, .int .i64 n]] w fun e w' => e = .returned (.iface 35 (.int .i64 (netF (a, n)))) ∧ Below w.heap.size w w' :=
  (Check_net a n w h0 h1).mono fun e w' ⟨he, hb⟩ => ⟨by rw [he, errV_ne h], hb⟩
theorem below_2 (w : World) (o1 o2 : Obj) : Below w.heap.size w ((w.alloc o1).alloc o2) := ((Below.refl _ _).alloc (Nat.le_refl _) _).alloc (by simp) _
theorem below_3 (w : World) (o1 o2 o3 : Obj) : Below w.heap.size w (((w.alloc o1).alloc o2).alloc o3) := (below_2 w o1 o2).alloc (by simp; omega) _
theorem below_4 (w : World) (o1 o2 o3 o4 : Obj) : Below w.heap.size w ((((w.alloc o1).alloc o2).alloc o3).alloc o4) := (below_3 w o1 o2 o3).alloc (by simp; omega) _
theorem hasB_of {a l x : Int} (h : netF (a, l) = 0) : hasB (a, l) x = (fl (lowI l.toNat) x == a) := by
  unfold hasB; simp only [h, true_and]; rfl

set_option maxHeartbeats 400000 in
theorem Has_any (a n x : Int) (w : World) (ha : is32 a) (hx : is32 x) :
    Calls Tryz.prog 113 #[.agg #[.int .u32 a, .int .i64 n], .int .u32 x] w fun e w' => e = .returned (.bool (hasB (a, n) x)) ∧ Below w.heap.size w w' := by
  obtain ⟨h0, h1⟩ := ha
  by_cases hz : netF (a, n) = 0
  · obtain ⟨k, hk, ek, _⟩ := net_ok hz
    simp only at ek
    subst ek
    have hb := and_maskI x k hx.1 hx.2
    rw [hasB_of hz, Int.toNat_natCast]
    have hfl : x - x % lowI k = fl (lowI k) x := rfl
    rw [hfl] at hb
    have HB := Lib.hid hb
    have HZ := Lib.hid hz
    clear hb hfl hz hx
    go_enter Tryz.func113, Tryz.ntmps113
    go_wp2_with (first
      | (go_at_call 104; refine (Mask_in k _ hk).mono ?_; rintro e w' ⟨rfl, rfl⟩)
      | (go_at_call 77; refine (Check_ok _ h0 h1 HZ.out).mono ?_; rintro e w1 ⟨rfl, hb1⟩; have d0 : w1.cell? ⟨w.heap.size, 0, none⟩ = some (.int .u32 a) := (hb1.cell (by simp)).trans (by simp); have HB1 := Lib.hid hb1; clear hb1)
      | fail)
    go_ret
    exact ⟨by rw [HB.out]; rfl, ((Below.refl _ _).alloc (Nat.le_refl _) _).trans (HB1.out.mono (by simp))⟩
  · have hF : hasB (a, n) x = false := by unfold hasB; simp [hz]
    rw [hF]
    have HZ := Lib.hid hz
    clear hF hz
    by_cases hin : 0 ≤ n ∧ n ≤ 32
    · obtain ⟨k, rfl⟩ := Int.eq_ofNat_of_zero_le hin.1
      have hk : k ≤ 32 := by omega
      clear hin
      go_enter Tryz.func113, Tryz.ntmps113
      go_wp2_with (first
        | (go_at_call 104; refine (Mask_in k _ hk).mono ?_; rintro e w' ⟨rfl, rfl⟩)
        | (go_at_call 77; refine (Check_bad _ h0 h1 HZ.out).mono ?_; rintro e w1 ⟨rfl, hb1⟩; have HB1 := Lib.hid hb1; clear hb1)
        | fail)
      go_ret
      exact ⟨rfl, ((Below.refl _ _).alloc (Nat.le_refl _) _).trans (HB1.out.mono (by simp))⟩
    · have HN := Lib.hid (show n < 0 ∨ 32 < n by omega)
      clear hin
      go_enter Tryz.func113, Tryz.ntmps113
      go_wp2_with (first
        | (go_at_call 104; refine (Mask_out n _ HN.out).mono ?_; rintro e w' ⟨rfl, rfl⟩)
        | fail)
      go_ret
      exact ⟨rfl, (Below.refl _ _).alloc (Nat.le_refl _) _⟩

theorem inB_no {a b : Int × Int} (h : netF a ≠ 0) : inB a b = false := by unfold inB; simp [h]
theorem inB_len {a b : Int × Int} (h : a.2 < b.2) : inB a b = false := by unfold inB; simp; intro _ h2; omega
theorem inB_has {a b : Int × Int} (h : netF a = 0) (h2 : b.2 ≤ a.2) : inB a b = hasB b a.1 := by unfold inB; simp [h, h2]
set_option maxHeartbeats 400000 in
theorem In_any (a n b m : Int) (w : World) (ha : is32 a) (hb : is32 b) :
    Calls Tryz.prog 91 #[.agg #[.int .u32 a, .int .i64 n], .agg #[.int .u32 b, .int .i64 m]] w fun e w' => e = .returned (.bool (inB (a, n) (b, m))) ∧ Below w.heap.size w w' := by
  obtain ⟨h0, h1⟩ := ha
  have HB := Lib.hid hb
  by_cases hz : netF (a, n) = 0
  · have HZ := Lib.hid hz
    by_cases hl : m ≤ n
    · rw [inB_has hz hl]
      clear hz
      go_enter Tryz.func91, Tryz.ntmps91
      go_wp2_with (first
        | (go_at_call 77; refine (Check_ok _ h0 h1 HZ.out).mono ?_; rintro e w1 ⟨rfl, hb1⟩; have d0 : w1.cell? ⟨w.heap.size, 0, none⟩ = some (.int .u32 a) := (hb1.cell (by simp; omega)).trans (by simp); have d1 : w1.cell? ⟨w.heap.size, 1, none⟩ = some (.int .i64 n) := (hb1.cell (by simp; omega)).trans (by simp); have d2 : w1.cell? ⟨w.heap.size + 1, 0, none⟩ = some (.int .u32 b) := (hb1.cell (by simp)).trans (by simp); have d3 : w1.cell? ⟨w.heap.size + 1, 1, none⟩ = some (.int .i64 m) := (hb1.cell (by simp)).trans (by simp); have hz1 := hb1.size; simp only [World.size_alloc] at hz1; have HB1 := Lib.hid ((((Below.refl w.heap.size w).alloc (Nat.le_refl _) _).alloc (by simp) _).trans (hb1.mono (by simp; omega))); clear hb1)
        | (go_at_call 113; refine (Has_any b m a _ HB.out ⟨h0, h1⟩).mono ?_; rintro e w2 ⟨rfl, hb2⟩; have HB2 := Lib.hid (HB1.out.trans (hb2.mono (by omega))); clear hb2)
        | fail)
      go_ret
      exact ⟨rfl, HB2.out⟩
    · have hlt : n < m := by omega
      rw [inB_len (a := (a, n)) (b := (b, m)) hlt]
      clear hz
      go_enter Tryz.func91, Tryz.ntmps91
      go_wp2_with (first
        | (go_at_call 77; refine (Check_ok _ h0 h1 HZ.out).mono ?_; rintro e w1 ⟨rfl, hb1⟩; have d0 : w1.cell? ⟨w.heap.size, 0, none⟩ = some (.int .u32 a) := (hb1.cell (by simp; omega)).trans (by simp); have d1 : w1.cell? ⟨w.heap.size, 1, none⟩ = some (.int .i64 n) := (hb1.cell (by simp; omega)).trans (by simp); have d2 : w1.cell? ⟨w.heap.size + 1, 0, none⟩ = some (.int .u32 b) := (hb1.cell (by simp)).trans (by simp); have d3 : w1.cell? ⟨w.heap.size + 1, 1, none⟩ = some (.int .i64 m) := (hb1.cell (by simp)).trans (by simp); have HB1 := Lib.hid ((((Below.refl w.heap.size w).alloc (Nat.le_refl _) _).alloc (by simp) _).trans (hb1.mono (by simp; omega))); clear hb1)
        | fail)
      go_ret
      exact ⟨rfl, HB1.out⟩
  · rw [inB_no hz]
    have HZ := Lib.hid hz
    clear hz
    go_enter Tryz.func91, Tryz.ntmps91
    go_wp2_with (first
      | (go_at_call 77; refine (Check_bad _ h0 h1 HZ.out).mono ?_; rintro e w1 ⟨rfl, hb1⟩; have HB1 := Lib.hid ((((Below.refl w.heap.size w).alloc (Nat.le_refl _) _).alloc (by simp) _).trans (hb1.mono (by simp; omega))); clear hb1)
      | fail)
    go_ret
    exact ⟨rfl, HB1.out⟩
set_option maxHeartbeats 400000 in
theorem Less_any (a n b m : Int) (w : World) :
    Calls Tryz.prog 112 #[.agg #[.int .u32 a, .int .i64 n], .agg #[.int .u32 b, .int .i64 m]] w fun e w' => e = .returned (.bool (lessB (a, n) (b, m))) ∧ Below w.heap.size w w' := by
  by_cases h1 : a < b
  · have hL : lessB (a, n) (b, m) = true := lessB_iff.2 (.inl h1)
    rw [hL]
    clear hL
    go_enter Tryz.func112, Tryz.ntmps112
    go_wp2
    go_ret
    exact ⟨rfl, ((Below.refl _ _).alloc (Nat.le_refl _) _).alloc (by simp) _⟩
  · by_cases h2 : a = b
    · subst h2
      have hL : lessB (a, n) (a, m) = decide (n < m) := by unfold lessB; simp
      rw [hL]
      clear hL
      go_enter Tryz.func112, Tryz.ntmps112
      go_wp2
      go_ret
      exact ⟨rfl, ((Below.refl _ _).alloc (Nat.le_refl _) _).alloc (by simp) _⟩
    · have hL : lessB (a, n) (b, m) = false := by unfold lessB; simp; omega
      have t1 : (a == b) = false := by simpa using h2
      rw [hL]
      clear hL h2
      go_enter Tryz.func112, Tryz.ntmps112
      go_wp2
      go_ret
      exact ⟨rfl, ((Below.refl _ _).alloc (Nat.le_refl _) _).alloc (by simp) _⟩

set_option maxHeartbeats 400000 in
theorem cut_any (a n : Int) (k : Nat) (w : World) (ha : is32 a) (hk : k ≤ 32) :
    Calls Tryz.prog 93 #[.agg #[.int .u32 a, .int .i64 n], .int .i64 k] w fun e w' => e = .returned (.agg #[.int .u32 (fl (lowI k) a), .int .i64 k]) ∧ Below w.heap.size w w' := by
  have hb := and_maskI a k ha.1 ha.2
  have hfl : a - a % lowI k = fl (lowI k) a := rfl
  rw [hfl] at hb
  have HB := Lib.hid hb
  clear hb hfl ha
  go_enter Tryz.func93, Tryz.ntmps93
  go_wp2_with (first
    | (go_at_call 104; refine (Mask_in k _ hk).mono ?_; rintro e w' ⟨rfl, rfl⟩)
    | fail)
  refine bodyPost_ret (v := .agg #[.int .u32 (bits .and .u32 a (maskV k)), .int .i64 k]) (by simp [results, Tryz.results93, go_sem]) rfl ⟨by rw [HB.out], ?_⟩
  exact ((Below.refl _ _).alloc (Nat.le_refl _) _).alloc (by simp) _
/-- the end of a function of two results, the first one a net in a cell -/
theorem up_end {W : World} {R : Nat} {a : Act} {v0 v1 e : Value} {t : TypeId} {K : Ending → World → Prop} (h : W.heap[R]? = some (.cells #[v0, v1] t (0, 0))) (h2 : a.tmps[2]?.getD undef = .pointer (some ⟨R, 0, none⟩)) (h3 : a.tmps[3]?.getD undef = e) (hd : a.defers = [])
    (hK : K (.returned (.tuple #[.agg #[v0, v1], e])) W) : bodyPost Tryz.prog Tryz.f82 K .ret a W := by
  have e0 : W.cell? ⟨R, 0, none⟩ = some v0 := by rw [cell_of_row _ R _ _ _ (0, 0) h]; rfl
  have e1 : W.cell? ⟨R, 1, none⟩ = some v1 := by rw [cell_of_row _ R _ _ _ (0, 0) h]; rfl
  exact bodyPost_ret (by simp [results, Tryz.results82, go_sem, h2, h3, e0, e1]) hd hK
set_option maxHeartbeats 400000 in
theorem Up_bad {a n : Int} (w : World) (ha : is32 a) (h : netF (a, n) ≠ 0) :
    Calls Tryz.prog 82 #[.agg #[.int .u32 a, .int .i64 n]] w fun e w' => e = .returned (.tuple #[.agg #[.int .u32 0, .int .i64 0], .iface 35 (.int .i64 (netF (a, n)))]) ∧ Below w.heap.size w w' := by
  obtain ⟨h0, h1⟩ := ha
  have HZ := Lib.hid h
  clear h
  go_enter Tryz.func82, Tryz.ntmps82
  go_wp2_with (first
    | (go_at_call 77; refine (Check_bad _ h0 h1 HZ.out).mono ?_; rintro e w1 ⟨rfl, hb1⟩; obtain ⟨blk0, blk1⟩ := box2 hb1; obtain ⟨r0, r1, f0, f1⟩ := row2 blk1; have BLK := Lib.hid blk1; clear blk0 blk1; have HB1 := Lib.hid ((below_2 w _ _).trans (hb1.mono (by simp; omega))); have hz1 := HB1.out.size; clear hb1)
    | fail)
  exact up_end (set2_block _ _ BLK.out) rfl rfl rfl ⟨rfl, (HB1.out.setCell (by simp) _).setCell (by simp) _⟩
set_option maxHeartbeats 400000 in
theorem Up_top {a : Int} (w : World) (ha : is32 a) (h : netF (a, 0) = 0) :
    Calls Tryz.prog 82 #[.agg #[.int .u32 a, .int .i64 0]] w fun e w' => e = .returned (.tuple #[.agg #[.int .u32 0, .int .i64 0], .iface 35 (.int .i64 2)]) ∧ Below w.heap.size w w' := by
  obtain ⟨h0, h1⟩ := ha
  have HZ := Lib.hid h
  clear h
  go_enter Tryz.func82, Tryz.ntmps82
  go_wp2_with (first
    | (go_at_call 77; refine (Check_ok _ h0 h1 HZ.out).mono ?_; rintro e w1 ⟨rfl, hb1⟩; have d0 : w1.cell? ⟨w.heap.size, 0, none⟩ = some (.int .u32 a) := (hb1.cell (by simp; omega)).trans (by simp); have d1 : w1.cell? ⟨w.heap.size, 1, none⟩ = some (.int .i64 0) := (hb1.cell (by simp; omega)).trans (by simp); obtain ⟨blk0, blk1⟩ := box2 hb1; obtain ⟨r0, r1, f0, f1⟩ := row2 blk1; have BLK := Lib.hid blk1; clear blk0 blk1; have HB1 := Lib.hid ((below_2 w _ _).trans (hb1.mono (by simp; omega))); have hz1 := HB1.out.size; clear hb1)
    | fail)
  exact up_end (set2_block _ _ BLK.out) rfl rfl rfl ⟨rfl, (HB1.out.setCell (by simp) _).setCell (by simp) _⟩
set_option maxHeartbeats 400000 in
theorem Up_ok {a : Int} {k : Nat} (w : World) (ha : is32 a) (hk : k < 32) (h : netF (a, (k : Int) + 1) = 0) :
    Calls Tryz.prog 82 #[.agg #[.int .u32 a, .int .i64 ((k : Int) + 1)]] w fun e w' => e = .returned (.tuple #[.agg #[.int .u32 (fl (lowI k) a), .int .i64 k], .nilIface]) ∧ Below w.heap.size w w' := by
  have HA := Lib.hid ha
  obtain ⟨h0, h1⟩ := ha
  have HZ := Lib.hid h
  have hk1 : IntKind.i64.wrap ((k : Int) + 1 - 1) = k := by rw [show (k : Int) + 1 - 1 = k from by omega]; exact IntWalk.i64_in _ ⟨by omega, by omega⟩
  have t0 : ((k : Int) + 1 == 0) = false := by simp; omega
  clear h
  go_enter Tryz.func82, Tryz.ntmps82
  go_wp2_with (first
    | (go_at_call 77; refine (Check_ok _ h0 h1 HZ.out).mono ?_; rintro e w1 ⟨rfl, hb1⟩; have d0 : w1.cell? ⟨w.heap.size, 0, none⟩ = some (.int .u32 a) := (hb1.cell (by simp; omega)).trans (by simp); have d1 : w1.cell? ⟨w.heap.size, 1, none⟩ = some (.int .i64 ((k : Int) + 1)) := (hb1.cell (by simp; omega)).trans (by simp); obtain ⟨blk0, blk1⟩ := box2 hb1; obtain ⟨r0, r1, f0, f1⟩ := row2 blk1; have BLK := Lib.hid blk1; clear blk0 blk1; have HB1 := Lib.hid ((below_2 w _ _).trans (hb1.mono (by simp; omega))); have hz1 := HB1.out.size; clear hb1)
    | (go_at_call 93; refine (cut_any a _ k _ HA.out (by omega)).mono ?_; rintro e w2 ⟨rfl, hb2⟩; have blk2 := below_block hb2 (size_of_block BLK.out) BLK.out; obtain ⟨q0, q1, g0, g1⟩ := row2 blk2; have BLK2 := Lib.hid blk2; clear blk2; have HB2 := Lib.hid (HB1.out.trans (hb2.mono (by omega))); have hz2 := HB2.out.size; clear hb2)
    | fail)
  exact up_end (set2_block _ _ BLK2.out) rfl rfl rfl ⟨rfl, (HB2.out.setCell (by simp) _).setCell (by simp) _⟩

theorem or_low {a : Int} {k : Nat} (hk : k < 32) (ha : is32 a) (h : a % (lowI (k + 1) * 2) = 0) : bits .or .u32 a (lowI (k + 1)) = a + lowI (k + 1) := by
  obtain ⟨x, rfl⟩ := Int.eq_ofNat_of_zero_le ha.1
  have hx := ha.2
  have e1 : lowI (k + 1) * 2 = ((2 ^ (32 - k) : Nat) : Int) := by rw [← low_succ hk, lowI_nat]
  rw [e1] at h
  have h' : x % 2 ^ (32 - k) = 0 := by
    have : ((x % 2 ^ (32 - k) : Nat) : Int) = 0 := by rw [Int.natCast_emod]; exact h
    omega
  obtain ⟨q, rfl⟩ := Nat.dvd_of_mod_eq_zero h'
  have hb : 2 ^ (32 - (k + 1)) < 2 ^ (32 - k) := Nat.pow_lt_pow_right (by omega) (by omega)
  have h32 : 2 ^ (32 - (k + 1)) ≤ 2 ^ 31 := Nat.pow_le_pow_right (by omega) (by omega)
  have := Nat.two_pow_add_eq_or_of_lt hb q
  rw [lowI_nat, u32_or_nat _ _ (by omega) (by omega), ← this]
  omega
theorem low_shl_fin : ∀ k : Fin 32, IntKind.u32.wrap ((2 : Int) ^ (31 - k.val)) = lowI (k.val + 1) := by decide +kernel
/-- the end of a function of three results, the first two nets in cells -/
theorem halves_end {W : World} {R : Nat} {a : Act} {v0 v1 u0 u1 e : Value} {t t' : TypeId} {K : Ending → World → Prop} (h : W.heap[R]? = some (.cells #[v0, v1] t (0, 0))) (h' : W.heap[R + 1]? = some (.cells #[u0, u1] t' (0, 0)))
    (h2 : a.tmps[2]?.getD undef = .pointer (some ⟨R, 0, none⟩)) (h3 : a.tmps[3]?.getD undef = .pointer (some ⟨R + 1, 0, none⟩)) (h4 : a.tmps[4]?.getD undef = e) (hd : a.defers = [])
    (hK : K (.returned (.tuple #[.agg #[v0, v1], .agg #[u0, u1], e])) W) : bodyPost Tryz.prog Tryz.f87 K .ret a W := by
  have e0 : W.cell? ⟨R, 0, none⟩ = some v0 := by rw [cell_of_row _ R _ _ _ (0, 0) h]; rfl
  have e1 : W.cell? ⟨R, 1, none⟩ = some v1 := by rw [cell_of_row _ R _ _ _ (0, 0) h]; rfl
  have e2 : W.cell? ⟨R + 1, 0, none⟩ = some u0 := by rw [cell_of_row _ _ _ _ _ (0, 0) h']; rfl
  have e3 : W.cell? ⟨R + 1, 1, none⟩ = some u1 := by rw [cell_of_row _ _ _ _ _ (0, 0) h']; rfl
  exact bodyPost_ret (by simp [results, Tryz.results87, go_sem, h2, h3, h4, e0, e1, e2, e3]) hd hK
theorem set22_block {w : World} {R S : Nat} {c0 c1 d0 d1 : Value} (v0 v1 u0 u1 : Value) {t t' : TypeId} (h : w.heap[R]? = some (.cells #[c0, c1] t (0, 0))) (h' : w.heap[S]? = some (.cells #[d0, d1] t' (0, 0))) (hne : R ≠ S) :
    ((((w.setCell ⟨R, 0, none⟩ v0).setCell ⟨R, 1, none⟩ v1).setCell ⟨S, 0, none⟩ u0).setCell ⟨S, 1, none⟩ u1).heap[R]? = some (.cells #[v0, v1] t (0, 0)) ∧
    ((((w.setCell ⟨R, 0, none⟩ v0).setCell ⟨R, 1, none⟩ v1).setCell ⟨S, 0, none⟩ u0).setCell ⟨S, 1, none⟩ u1).heap[S]? = some (.cells #[u0, u1] t' (0, 0)) := by
  have h1 := set2_block v0 v1 h
  have o : ∀ (w : World) (v : Value) (k : Nat), (w.setCell ⟨S, k, none⟩ v).heap[R]? = w.heap[R]? := fun w v k => heap_setCell_other w ⟨S, k, none⟩ R v (by simpa using hne)
  have o' : ∀ (w : World) (v : Value) (k : Nat), (w.setCell ⟨R, k, none⟩ v).heap[S]? = w.heap[S]? := fun w v k => heap_setCell_other w ⟨R, k, none⟩ S v (by simpa using Ne.symm hne)
  refine ⟨by rw [o, o]; exact h1, set2_block u0 u1 (by rw [o', o']; exact h')⟩
set_option maxHeartbeats 400000 in
theorem Halves_bad {a n : Int} (w : World) (ha : is32 a) (h : netF (a, n) ≠ 0) :
    Calls Tryz.prog 87 #[.agg #[.int .u32 a, .int .i64 n]] w fun e w' => e = .returned (.tuple #[.agg #[.int .u32 0, .int .i64 0], .agg #[.int .u32 0, .int .i64 0], .iface 35 (.int .i64 (netF (a, n)))]) ∧ Below w.heap.size w w' := by
  obtain ⟨h0, h1⟩ := ha
  have HZ := Lib.hid h
  clear h
  go_enter Tryz.func87, Tryz.ntmps87
  go_wp2_with (first
    | (go_at_call 77; refine (Check_bad _ h0 h1 HZ.out).mono ?_; rintro e w1 ⟨rfl, hb1⟩; obtain ⟨blk0, blk1, blk2⟩ := box3 hb1; obtain ⟨r0, r1, f0, f1⟩ := row2 blk1; obtain ⟨q0, q1, g0, g1⟩ := row2 blk2; have BLK := Lib.hid blk1; have BLK2 := Lib.hid blk2; clear blk0 blk1 blk2; have HB1 := Lib.hid ((below_3 w _ _ _).trans (hb1.mono (by simp; omega))); have hz1 := HB1.out.size; clear hb1)
    | fail)
  obtain ⟨k1, k2⟩ := set22_block (.int .u32 0) (.int .i64 0) (.int .u32 0) (.int .i64 0) BLK.out BLK2.out (by omega)
  exact halves_end k1 k2 rfl rfl rfl rfl ⟨rfl, (((HB1.out.setCell (by simp) _).setCell (by simp) _).setCell (by simp; omega) _).setCell (by simp; omega) _⟩
set_option maxHeartbeats 400000 in
theorem Halves_one {a : Int} (w : World) (ha : is32 a) (h : netF (a, 32) = 0) :
    Calls Tryz.prog 87 #[.agg #[.int .u32 a, .int .i64 32]] w fun e w' => e = .returned (.tuple #[.agg #[.int .u32 0, .int .i64 0], .agg #[.int .u32 0, .int .i64 0], .iface 35 (.int .i64 2)]) ∧ Below w.heap.size w w' := by
  obtain ⟨h0, h1⟩ := ha
  have HZ := Lib.hid h
  clear h
  go_enter Tryz.func87, Tryz.ntmps87
  go_wp2_with (first
    | (go_at_call 77; refine (Check_ok _ h0 h1 HZ.out).mono ?_; rintro e w1 ⟨rfl, hb1⟩; obtain ⟨blk0, blk1, blk2⟩ := box3 hb1; obtain ⟨d0, d1, _, _⟩ := row2 blk0; obtain ⟨r0, r1, f0, f1⟩ := row2 blk1; obtain ⟨q0, q1, g0, g1⟩ := row2 blk2; have BLK := Lib.hid blk1; have BLK2 := Lib.hid blk2; clear blk0 blk1 blk2; have HB1 := Lib.hid ((below_3 w _ _ _).trans (hb1.mono (by simp; omega))); have hz1 := HB1.out.size; clear hb1)
    | fail)
  obtain ⟨k1, k2⟩ := set22_block (.int .u32 0) (.int .i64 0) (.int .u32 0) (.int .i64 0) BLK.out BLK2.out (by omega)
  exact halves_end k1 k2 rfl rfl rfl rfl ⟨rfl, (((HB1.out.setCell (by simp) _).setCell (by simp) _).setCell (by simp; omega) _).setCell (by simp; omega) _⟩
set_option maxHeartbeats 1000000 in
theorem Halves_ok {a : Int} {k : Nat} (w : World) (ha : is32 a) (hk : k < 32) (h : netF (a, (k : Int)) = 0) :
    Calls Tryz.prog 87 #[.agg #[.int .u32 a, .int .i64 k]] w fun e w' => e = .returned (.tuple #[.agg #[.int .u32 a, .int .i64 ((k : Int) + 1)], .agg #[.int .u32 (a + lowI (k + 1)), .int .i64 ((k : Int) + 1)], .nilIface]) ∧ Below w.heap.size w w' := by
  have HOR := Lib.hid (or_low hk ha (half_zero hk h))
  have HSH : Hid (IntKind.u32.wrap ((2 : Int) ^ (31 - k)) = lowI (k + 1)) := Lib.hid (low_shl_fin ⟨k, hk⟩)
  obtain ⟨h0, h1⟩ := ha
  have HZ := Lib.hid h
  have hk1 : IntKind.i64.wrap ((k : Int) + 1) = (k : Int) + 1 := IntWalk.i64_in _ ⟨by omega, by omega⟩
  have hk2 : IntKind.i64.wrap (32 - ((k : Int) + 1)) = 31 - (k : Int) := by rw [show (32 : Int) - ((k : Int) + 1) = 31 - k from by omega]; exact IntWalk.i64_in _ ⟨by omega, by omega⟩
  have hk3 : 0 ≤ 31 - (k : Int) := by omega
  have hk4 : (31 - (k : Int)).toNat = 31 - k := by omega
  have t0 : ((k : Int) == 32) = false := by simp; omega
  clear h
  go_enter Tryz.func87, Tryz.ntmps87
  go_wp2_with (first
    | (go_at_call 77; refine (Check_ok _ h0 h1 HZ.out).mono ?_; rintro e w1 ⟨rfl, hb1⟩; obtain ⟨blk0, blk1, blk2⟩ := box3 hb1; obtain ⟨d0, d1, _, _⟩ := row2 blk0; obtain ⟨r0, r1, f0, f1⟩ := row2 blk1; obtain ⟨q0, q1, g0, g1⟩ := row2 blk2; have BLK := Lib.hid blk1; have BLK2 := Lib.hid blk2; clear blk0 blk1 blk2; have HB1 := Lib.hid ((below_3 w _ _ _).trans (hb1.mono (by simp; omega))); have hz1 := HB1.out.size; clear hb1)
    | fail)
  have hn2 : ¬ (w.heap.size + 1 + 1 = w.heap.size) := by omega
  have hn3 : ¬ (w.heap.size = w.heap.size + 1 + 1) := by omega
  refine wp_region_noPanic ?_
  refine wp_region_held_drew (S := (fun w' => w'.cell? ⟨w.heap.size, 0, none⟩ = some (.int .u32 a))) (by kernel_rfl) (by go_keep) (fun hHeld => ?_)
  refine' wpAnyH_take (i := 0) ?hia0 ?hsa0 ?hfa0 ?hra0 ?hQa0 ?hya0 ?hSa0 ?ha0
  case hia0 => (simp only [List.getElem?_toArray, List.getElem?_cons_succ, List.getElem?_cons_zero]; exact rfl)
  case hsa0 => kernel_rfl
  case hfa0 => kernel_rfl
  case hra0 => kernel_rfl
  case hQa0 => exact fun _ _ _ h => h
  case hya0 => (first | (refine Or.inr ⟨by rfl, ?_⟩; rfl) | (refine Or.inl ⟨by rfl, ?_⟩; (intro w hSw; (try dsimp only at hSw); go_simp); try with_reducible rfl))
  case hSa0 => assumption
  try simp only [Act.put, List.setIfInBounds_toArray, List.set_cons_zero, List.set_cons_succ]
  refine' wpAnyH_take (i := 1) ?hia1 ?hsa1 ?hfa1 ?hra1 ?hQa1 ?hya1 ?hSa1 ?ha1
  case hia1 => (simp only [List.getElem?_toArray, List.getElem?_cons_succ, List.getElem?_cons_zero]; exact rfl)
  case hsa1 => kernel_rfl
  case hfa1 => kernel_rfl
  case hra1 => kernel_rfl
  case hQa1 => exact fun _ _ _ h => h
  case hya1 => (first | (refine Or.inr ⟨by rfl, ?_⟩; rfl) | (refine Or.inl ⟨by rfl, ?_⟩; (intro w hSw; (try dsimp only at hSw); go_simp); try with_reducible rfl))
  case hSa1 => assumption
  try simp only [Act.put, List.setIfInBounds_toArray, List.set_cons_zero, List.set_cons_succ]
  refine' wpAnyH_take (i := 2) ?hia2 ?hsa2 ?hfa2 ?hra2 ?hQa2 ?hya2 ?hSa2 ?ha2
  case hia2 => (simp only [List.getElem?_toArray, List.getElem?_cons_succ, List.getElem?_cons_zero]; exact rfl)
  case hsa2 => kernel_rfl
  case hfa2 => kernel_rfl
  case hra2 => kernel_rfl
  case hQa2 => exact fun _ _ _ h => h
  case hya2 => (first | (refine Or.inr ⟨by rfl, ?_⟩; rfl) | (refine Or.inl ⟨by rfl, ?_⟩; (intro w hSw; (try dsimp only at hSw); go_simp); try with_reducible rfl))
  case hSa2 => assumption
  try simp only [Act.put, List.setIfInBounds_toArray, List.set_cons_zero, List.set_cons_succ]
  refine' wpAnyH_take (i := 3) ?hia3 ?hsa3 ?hfa3 ?hra3 ?hQa3 ?hya3 ?hSa3 ?ha3
  case hia3 => (simp only [List.getElem?_toArray, List.getElem?_cons_succ, List.getElem?_cons_zero]; exact rfl)
  case hsa3 => kernel_rfl
  case hfa3 => kernel_rfl
  case hra3 => kernel_rfl
  case hQa3 => exact fun _ _ _ h => h
  case hya3 => (first | (refine Or.inr ⟨by rfl, ?_⟩; rfl) | (refine Or.inl ⟨by rfl, ?_⟩; (intro w hSw; (try dsimp only at hSw); go_simp); try with_reducible rfl))
  case hSa3 => assumption
  try simp only [Act.put, List.setIfInBounds_toArray, List.set_cons_zero, List.set_cons_succ]
  refine' wpAnyH_take (i := 4) ?hia4 ?hsa4 ?hfa4 ?hra4 ?hQa4 ?hya4 ?hSa4 ?ha4
  case hia4 => (simp only [List.getElem?_toArray, List.getElem?_cons_succ, List.getElem?_cons_zero]; exact rfl)
  case hsa4 => kernel_rfl
  case hfa4 => kernel_rfl
  case hra4 => kernel_rfl
  case hQa4 => exact fun _ _ _ h => h
  case hya4 => (first | (refine Or.inr ⟨by rfl, ?_⟩; rfl) | (refine Or.inl ⟨by rfl, ?_⟩; (intro w hSw; (try dsimp only at hSw); go_simp); try with_reducible rfl))
  case hSa4 => assumption
  try simp only [Act.put, List.setIfInBounds_toArray, List.set_cons_zero, List.set_cons_succ]
  refine' wpAnyH_take (i := 5) ?hia5 ?hsa5 ?hfa5 ?hra5 ?hQa5 ?hya5 ?hSa5 ?ha5
  case hia5 => (simp only [List.getElem?_toArray, List.getElem?_cons_succ, List.getElem?_cons_zero]; exact rfl)
  case hsa5 => kernel_rfl
  case hfa5 => kernel_rfl
  case hra5 => kernel_rfl
  case hQa5 => exact fun _ _ _ h => h
  case hya5 => (first | (refine Or.inr ⟨by rfl, ?_⟩; rfl) | (refine Or.inl ⟨by rfl, ?_⟩; (intro w hSw; (try dsimp only at hSw); go_simp); try with_reducible rfl))
  case hSa5 => assumption
  try simp only [Act.put, List.setIfInBounds_toArray, List.set_cons_zero, List.set_cons_succ]
  refine' wpAnyH_take (i := 6) ?hia6 ?hsa6 ?hfa6 ?hra6 ?hQa6 ?hya6 ?hSa6 ?ha6
  case hia6 => (simp only [List.getElem?_toArray, List.getElem?_cons_succ, List.getElem?_cons_zero]; exact rfl)
  case hsa6 => kernel_rfl
  case hfa6 => kernel_rfl
  case hra6 => kernel_rfl
  case hQa6 => exact fun _ _ _ h => h
  case hya6 => (first | (refine Or.inr ⟨by rfl, ?_⟩; rfl) | (refine Or.inl ⟨by rfl, ?_⟩; (intro w hSw; (try dsimp only at hSw); go_simp); try with_reducible rfl))
  case hSa6 => assumption
  try simp only [Act.put, List.setIfInBounds_toArray, List.set_cons_zero, List.set_cons_succ]
  refine' wpAnyH_take (i := 7) ?hia7 ?hsa7 ?hfa7 ?hra7 ?hQa7 ?hya7 ?hSa7 ?ha7
  case hia7 => (simp only [List.getElem?_toArray, List.getElem?_cons_succ, List.getElem?_cons_zero]; exact rfl)
  case hsa7 => kernel_rfl
  case hfa7 => kernel_rfl
  case hra7 => kernel_rfl
  case hQa7 => exact fun _ _ _ h => h
  case hya7 => (first | (refine Or.inr ⟨by rfl, ?_⟩; rfl) | (refine Or.inl ⟨by rfl, ?_⟩; (intro w hSw; (try dsimp only at hSw); go_simp); try with_reducible rfl))
  case hSa7 => assumption
  try simp only [Act.put, List.setIfInBounds_toArray, List.set_cons_zero, List.set_cons_succ]
  refine' wpAnyH_take (i := 8) ?hia8 ?hsa8 ?hfa8 ?hra8 ?hQa8 ?hya8 ?hSa8 ?ha8
  case hia8 => (simp only [List.getElem?_toArray, List.getElem?_cons_succ, List.getElem?_cons_zero]; exact rfl)
  case hsa8 => kernel_rfl
  case hfa8 => kernel_rfl
  case hra8 => kernel_rfl
  case hQa8 => exact fun _ _ _ h => h
  case hya8 => (first | (refine Or.inr ⟨by rfl, ?_⟩; rfl) | (refine Or.inl ⟨by rfl, ?_⟩; (intro w hSw; (try dsimp only at hSw); go_simp); try with_reducible rfl))
  case hSa8 => assumption
  try simp only [Act.put, List.setIfInBounds_toArray, List.set_cons_zero, List.set_cons_succ]
  refine' wpAnyH_take (i := 9) ?hia9 ?hsa9 ?hfa9 ?hra9 ?hQa9 ?hya9 ?hSa9 ?ha9
  case hia9 => (simp only [List.getElem?_toArray, List.getElem?_cons_succ, List.getElem?_cons_zero]; exact rfl)
  case hsa9 => kernel_rfl
  case hfa9 => kernel_rfl
  case hra9 => kernel_rfl
  case hQa9 => exact fun _ _ _ h => h
  case hya9 => (first | (refine Or.inr ⟨by rfl, ?_⟩; rfl) | (refine Or.inl ⟨by rfl, ?_⟩; (intro w hSw; (try dsimp only at hSw); go_simp); try with_reducible rfl))
  case hSa9 => assumption
  try simp only [Act.put, List.setIfInBounds_toArray, List.set_cons_zero, List.set_cons_succ]
  refine' wpAnyH_take (i := 10) ?hia10 ?hsa10 ?hfa10 ?hra10 ?hQa10 ?hya10 ?hSa10 ?ha10
  case hia10 => (simp only [List.getElem?_toArray, List.getElem?_cons_succ, List.getElem?_cons_zero]; exact rfl)
  case hsa10 => kernel_rfl
  case hfa10 => kernel_rfl
  case hra10 => kernel_rfl
  case hQa10 => exact fun _ _ _ h => h
  case hya10 => (first | (refine Or.inr ⟨by rfl, ?_⟩; rfl) | (refine Or.inl ⟨by rfl, ?_⟩; (intro w hSw; (try dsimp only at hSw); go_simp); try with_reducible rfl))
  case hSa10 => assumption
  try simp only [Act.put, List.setIfInBounds_toArray, List.set_cons_zero, List.set_cons_succ]
  refine' wpAnyH_take (i := 11) ?hia11 ?hsa11 ?hfa11 ?hra11 ?hQa11 ?hya11 ?hSa11 ?ha11
  case hia11 => (simp only [List.getElem?_toArray, List.getElem?_cons_succ, List.getElem?_cons_zero]; exact rfl)
  case hsa11 => kernel_rfl
  case hfa11 => kernel_rfl
  case hra11 => kernel_rfl
  case hQa11 => exact fun _ _ _ h => h
  case hya11 => (first | (refine Or.inr ⟨by rfl, ?_⟩; rfl) | (refine Or.inl ⟨by rfl, ?_⟩; (intro w hSw; (try dsimp only at hSw); go_simp); try with_reducible rfl))
  case hSa11 => assumption
  try simp only [Act.put, List.setIfInBounds_toArray, List.set_cons_zero, List.set_cons_succ]
  refine wpAnyH_ready (rs := [12]) (by kernel_rfl) (by simp) ?_
  refine' AllReadyH.cons ?hia12 (fun K hK => ?ha12) AllReadyH.nil
  case hia12 => (simp only [List.getElem?_toArray, List.getElem?_cons_succ, List.getElem?_cons_zero]; exact rfl)
  go_simp
  refine hK.out _ _ (by go_keep) (fun hHeld => ?_)
  clear hK K
  refine wpAnyH_ready (rs := [13]) (by kernel_rfl) (by simp) ?_
  refine' AllReadyH.cons ?hia13 (fun K hK => ?ha13) AllReadyH.nil
  case hia13 => (simp only [List.getElem?_toArray, List.getElem?_cons_succ, List.getElem?_cons_zero]; exact rfl)
  go_simp
  refine hK.out _ _ (by go_keep) (fun hHeld => ?_)
  clear hK K
  refine' wpAnyH_take (i := 14) ?hia14 ?hsa14 ?hfa14 ?hra14 ?hQa14 ?hya14 ?hSa14 ?ha14
  case hia14 => (simp only [List.getElem?_toArray, List.getElem?_cons_succ, List.getElem?_cons_zero]; exact rfl)
  case hsa14 => kernel_rfl
  case hfa14 => kernel_rfl
  case hra14 => kernel_rfl
  case hQa14 => exact fun _ _ _ h => h
  case hya14 => (first | (refine Or.inr ⟨by rfl, ?_⟩; rfl) | (refine Or.inl ⟨by rfl, ?_⟩; (intro w hSw; (try dsimp only at hSw); go_simp); try with_reducible rfl))
  case hSa14 => assumption
  try simp only [Act.put, List.setIfInBounds_toArray, List.set_cons_zero, List.set_cons_succ]
  refine wpAnyH_done (by kernel_rfl) ?_ _
  refine NoPanic.normal ?_
  go_wp2
  obtain ⟨e1, e2⟩ := set22_block (.int .u32 a) (.int .i64 ((k : Int) + 1)) (.int .u32 (bits .or .u32 a (IntKind.u32.wrap (2 ^ (31 - k))))) (.int .i64 ((k : Int) + 1)) BLK.out BLK2.out (by omega)
  exact halves_end (e := .nilIface) e1 e2 rfl rfl rfl rfl ⟨by rw [HSH.out, HOR.out], below_drewN ((((HB1.out.setCell (by simp) _).setCell (by simp) _).setCell (by simp; omega) _).setCell (by simp; omega) _) 1⟩

end Go.Proofs.YtgdlkjahlajcpaaGreatDoor
