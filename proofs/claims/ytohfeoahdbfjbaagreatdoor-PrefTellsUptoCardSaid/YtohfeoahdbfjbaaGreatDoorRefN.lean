/- The reference's nets: Has, In, Less, Trim, Half, CommonOf, NetText, by contract. -/
import Derived.Test.YtohfeoahdbfjbaaGreatDoorRefA
import Derived.Test.YtohfeoahdbfjbaaGreatDoorNetR
import Derived.Test.YtohfeoahdbfjbaaGreatDoorPrefT
import Derived.Lib.QuietBelow
import Derived.BigQuiet
import Derived.Deep.RegionHeld3
namespace Go.Proofs.YtohfeoahdbfjbaaGreatDoor
open Go.ChangeShapes Go.WideShapes Go.ChangeAt Go.RowKit
set_option linter.unusedVariables false
set_option linter.unusedSimpArgs false

abbrev nb (a l : Int) : Obj := .cells #[.int .u32 a, .int .i64 l] 24 (0, 0)
theorem fault_c {w : World} {a l r : Int} (h : netF (a, l) = r) (ha : is32 a) (d : Nat) (os : Array Obj) :
    Calls Tryz.prog 5 #[.agg #[.int .u32 a, .int .i64 l]] (Sort.grow (redrawn w d) os) fun e w'' => e = .returned (.int .i64 r) ∧ ∃ p : Regrown, w'' = Sort.grow (redrawn w p.d) p.os :=
  Calls.regrown_of ((NetFault_n a l _ ha.1 ha.2).mono fun e w' ⟨he, hb⟩ => ⟨by rw [he, h], hb⟩)
theorem mask_c {w : World} {k : Nat} (hk : k ≤ 32) (d : Nat) (os : Array Obj) :
    Calls Tryz.prog 24 #[.int .i64 k] (Sort.grow (redrawn w d) os) fun e w'' => e = .returned (.int .u32 (maskV k)) ∧ ∃ p : Regrown, w'' = Sort.grow (redrawn w p.d) p.os :=
  Calls.regrown_of ((MaskOf_n k _ hk).mono fun e w' ⟨he, hb⟩ => ⟨he, by rw [← hb]; exact Below.refl _ _⟩)
theorem fault_is {a l r : Int} (h : netF (a, l) = r) (ha : is32 a) (w : World) :
    Calls Tryz.prog 5 #[.agg #[.int .u32 a, .int .i64 l]] w fun e w' => e = .returned (.int .i64 r) ∧ Below w.heap.size w w' :=
  (NetFault_n a l _ ha.1 ha.2).mono fun e w' ⟨he, hb⟩ => ⟨by rw [he, h], hb⟩
set_option maxRecDepth 100000 in
set_option maxHeartbeats 1000000 in
theorem RHas_any (a n x : Int) (w : World) (ha : is32 a) (hx : is32 x) :
    Calls Tryz.prog 11 #[.agg #[.int .u32 a, .int .i64 n], .int .u32 x] w fun e w' => e = .returned (.bool (hasB (a, n) x)) ∧ Below w.heap.size w w' := by
  have k0 := fun d os => cell_regrown (w := w.alloc (nb a n)) (a := ⟨w.heap.size, 0, none⟩) (v := .int .u32 a) (by simp) d os
  have k1 := fun d os => cell_regrown (w := w.alloc (nb a n)) (a := ⟨w.heap.size, 1, none⟩) (v := .int .i64 n) (by simp) d os
  by_cases hz : netF (a, n) = 0
  · obtain ⟨k, hk, ek, _⟩ := net_ok hz
    simp only at ek
    subst ek
    have hb := and_maskI x k hx.1 hx.2
    rw [hasB_of hz, Int.toNat_natCast]
    have hfl : x - x % lowI k = fl (lowI k) x := rfl
    rw [hfl] at hb
    have HB := Lib.hid hb
    have HZ := Lib.hid hz
    have HA := Lib.hid ha
    clear hb hfl hz hx ha
    go_enter Tryz.func11, Tryz.ntmps11
    go_wp2
    refine wp_region_quiet_below (by kernel_rfl) (by kernel_rfl) ?_
    repeat (go_big_quiet_step (first | (with_reducible exact fault_c HZ.out HA.out _ _) | (with_reducible exact mask_c hk _ _) | fail))
    refine wpQuiet_nil ?_
    intro _ hw'
    obtain ⟨⟨dq, osq⟩, hw''⟩ := hw'
    subst hw''
    go_wp2
    go_ret
    exact ⟨by rw [HB.out]; rfl, ((Below.refl _ _).alloc (Nat.le_refl _) _).trans ((below_regrown _ dq osq).mono (by simp))⟩
  · have hF : hasB (a, n) x = false := by unfold hasB; simp [hz]
    have hne : (netF (a, n) == 0) = false := by simpa using hz
    rw [hF]
    obtain ⟨r, hr⟩ : ∃ r, netF (a, n) = r := ⟨_, rfl⟩
    rw [hr] at hne
    have HR := Lib.hid hr
    have HA := Lib.hid ha
    clear hF hz hr ha hx
    go_enter Tryz.func11, Tryz.ntmps11
    go_wp2
    refine wp_region_quiet_below (by kernel_rfl) (by kernel_rfl) ?_
    repeat (go_big_quiet_step (first | (with_reducible exact fault_c HR.out HA.out _ _) | fail))
    refine wpQuiet_nil ?_
    intro _ hw'
    obtain ⟨⟨dq, osq⟩, hw''⟩ := hw'
    subst hw''
    go_wp2
    go_ret
    exact ⟨rfl, ((Below.refl _ _).alloc (Nat.le_refl _) _).trans ((below_regrown _ dq osq).mono (by simp))⟩
set_option maxHeartbeats 400000 in
theorem RIn_any (a n b m : Int) (w : World) (ha : is32 a) (hb : is32 b) :
    Calls Tryz.prog 13 #[.agg #[.int .u32 a, .int .i64 n], .agg #[.int .u32 b, .int .i64 m]] w fun e w' => e = .returned (.bool (inB (a, n) (b, m))) ∧ Below w.heap.size w w' := by
  obtain ⟨h0, h1⟩ := ha
  have HB := Lib.hid hb
  by_cases hz : netF (a, n) = 0
  · have HZ := Lib.hid hz
    by_cases hl : m ≤ n
    · rw [inB_has hz hl]
      clear hz
      go_enter Tryz.func13, Tryz.ntmps13
      go_wp2_with (first
        | (go_at_call 5; refine (fault_is HZ.out ⟨h0, h1⟩ _).mono ?_; rintro e w1 ⟨rfl, hb1⟩; have d0 : w1.cell? ⟨w.heap.size, 0, none⟩ = some (.int .u32 a) := (hb1.cell (by simp; omega)).trans (by simp); have d1 : w1.cell? ⟨w.heap.size, 1, none⟩ = some (.int .i64 n) := (hb1.cell (by simp; omega)).trans (by simp); have d2 : w1.cell? ⟨w.heap.size + 1, 0, none⟩ = some (.int .u32 b) := (hb1.cell (by simp)).trans (by simp); have d3 : w1.cell? ⟨w.heap.size + 1, 1, none⟩ = some (.int .i64 m) := (hb1.cell (by simp)).trans (by simp); have hz1 := hb1.size; simp only [World.size_alloc] at hz1; have HB1 := Lib.hid ((((Below.refl w.heap.size w).alloc (Nat.le_refl _) _).alloc (by simp) _).trans (hb1.mono (by simp; omega))); clear hb1)
        | (go_at_call 11; refine (RHas_any b m a _ HB.out ⟨h0, h1⟩).mono ?_; rintro e w2 ⟨rfl, hb2⟩; have HB2 := Lib.hid (HB1.out.trans (hb2.mono (by omega))); clear hb2)
        | fail)
      go_ret
      exact ⟨rfl, HB2.out⟩
    · have hlt : n < m := by omega
      rw [inB_len (a := (a, n)) (b := (b, m)) hlt]
      clear hz
      go_enter Tryz.func13, Tryz.ntmps13
      go_wp2_with (first
        | (go_at_call 5; refine (fault_is HZ.out ⟨h0, h1⟩ _).mono ?_; rintro e w1 ⟨rfl, hb1⟩; have d0 : w1.cell? ⟨w.heap.size, 0, none⟩ = some (.int .u32 a) := (hb1.cell (by simp; omega)).trans (by simp); have d1 : w1.cell? ⟨w.heap.size, 1, none⟩ = some (.int .i64 n) := (hb1.cell (by simp; omega)).trans (by simp); have d2 : w1.cell? ⟨w.heap.size + 1, 0, none⟩ = some (.int .u32 b) := (hb1.cell (by simp)).trans (by simp); have d3 : w1.cell? ⟨w.heap.size + 1, 1, none⟩ = some (.int .i64 m) := (hb1.cell (by simp)).trans (by simp); have HB1 := Lib.hid ((((Below.refl w.heap.size w).alloc (Nat.le_refl _) _).alloc (by simp) _).trans (hb1.mono (by simp; omega))); clear hb1)
        | fail)
      go_ret
      exact ⟨rfl, HB1.out⟩
  · rw [inB_no hz]
    have hne : (netF (a, n) == 0) = false := by simpa using hz
    obtain ⟨r, hr⟩ : ∃ r, netF (a, n) = r := ⟨_, rfl⟩
    rw [hr] at hne
    have HR := Lib.hid hr
    clear hz hr
    go_enter Tryz.func13, Tryz.ntmps13
    go_wp2_with (first
      | (go_at_call 5; refine (fault_is HR.out ⟨h0, h1⟩ _).mono ?_; rintro e w1 ⟨rfl, hb1⟩; have HB1 := Lib.hid ((((Below.refl w.heap.size w).alloc (Nat.le_refl _) _).alloc (by simp) _).trans (hb1.mono (by simp; omega))); clear hb1)
      | fail)
    go_ret
    exact ⟨rfl, HB1.out⟩
set_option maxHeartbeats 400000 in
theorem RLess_any (a n b m : Int) (w : World) :
    Calls Tryz.prog 15 #[.agg #[.int .u32 a, .int .i64 n], .agg #[.int .u32 b, .int .i64 m]] w fun e w' => e = .returned (.bool (lessB (a, n) (b, m))) ∧ Below w.heap.size w w' := by
  by_cases h1 : a < b
  · have hL : lessB (a, n) (b, m) = true := lessB_iff.2 (.inl h1)
    rw [hL]
    clear hL
    go_enter Tryz.func15, Tryz.ntmps15
    go_wp2
    go_ret
    exact ⟨rfl, ((Below.refl _ _).alloc (Nat.le_refl _) _).alloc (by simp) _⟩
  · by_cases h2 : a = b
    · subst h2
      have hL : lessB (a, n) (a, m) = decide (n < m) := by unfold lessB; simp
      rw [hL]
      clear hL
      go_enter Tryz.func15, Tryz.ntmps15
      go_wp2
      go_ret
      exact ⟨rfl, ((Below.refl _ _).alloc (Nat.le_refl _) _).alloc (by simp) _⟩
    · have hL : lessB (a, n) (b, m) = false := by unfold lessB; simp; omega
      have t1 : (a == b) = false := by simpa using h2
      rw [hL]
      clear hL h2
      go_enter Tryz.func15, Tryz.ntmps15
      go_wp2
      go_ret
      exact ⟨rfl, ((Below.refl _ _).alloc (Nat.le_refl _) _).alloc (by simp) _⟩

/-- the end of a function whose result is a net in a cell -/
theorem cell_end {f : Func} {W : World} {R : Nat} {a : Act} {v0 v1 : Value} {t : TypeId} {K : Ending → World → Prop} (hf : f.results = #[.cell 4 24]) (h : W.heap[R]? = some (.cells #[v0, v1] t (0, 0))) (h2 : a.tmps[4]?.getD undef = .pointer (some ⟨R, 0, none⟩)) (hd : a.defers = [])
    (hK : K (.returned (.agg #[v0, v1])) W) : bodyPost Tryz.prog f K .ret a W := by
  have e0 : W.cell? ⟨R, 0, none⟩ = some v0 := by rw [cell_of_row _ R _ _ _ (0, 0) h]; rfl
  have e1 : W.cell? ⟨R, 1, none⟩ = some v1 := by rw [cell_of_row _ R _ _ _ (0, 0) h]; rfl
  exact bodyPost_ret (by simp [results, hf, go_sem, h2, e0, e1]) hd hK
set_option maxRecDepth 100000 in
set_option maxHeartbeats 1000000 in
theorem Trim_any (a n : Int) (k : Nat) (w : World) (ha : is32 a) (hk : k ≤ 32) :
    Calls Tryz.prog 18 #[.agg #[.int .u32 a, .int .i64 n], .int .i64 k] w fun e w' => e = .returned (.agg #[.int .u32 (fl (lowI k) a), .int .i64 k]) ∧ Below w.heap.size w w' := by
  have hb := and_maskI a k ha.1 ha.2
  have hfl : a - a % lowI k = fl (lowI k) a := rfl
  rw [hfl] at hb
  have HB := Lib.hid hb
  have hblk := box2 (Below.refl _ ((w.alloc (nb a n)).alloc (nb 0 0)))
  obtain ⟨d0, d1, _, _⟩ := row2 hblk.1
  obtain ⟨r0, r1, f0, f1⟩ := row2 hblk.2
  have BLK := Lib.hid hblk.2
  have HBE := Lib.hid (below_2 w (nb a n) (nb 0 0))
  clear hb hfl ha hblk
  go_enter Tryz.func18, Tryz.ntmps18
  go_wp2
  refine wp_region_noPanic ?_
  refine wp_region_held_drew (S := (fun w' => w'.cell? ⟨w.heap.size, 0, none⟩ = some (.int .u32 a))) (by kernel_rfl) (by go_keep) (fun hHeld => ?_)
  refine' wpAnyH_take (i := 0) ?hia0 ?hsa0 ?hfa0 ?hra0 ?hQa0 ?hya0 ?hSa0 ?ha0
  case hia0 => (simp only [List.getElem?_toArray, List.getElem?_cons_succ, List.getElem?_cons_zero]; exact rfl)
  case hsa0 => kernel_rfl
  case hfa0 => kernel_rfl
  case hra0 => kernel_rfl
  case hQa0 => exact fun _ _ _ h => h
  case hya0 => (first | (refine Or.inr ⟨by rfl, ?_⟩; rfl) | (refine Or.inl ⟨by rfl, ?_⟩; (intro w hSw; (try dsimp only at hSw); go_simp); try with_reducible rfl))
  case hSa0 => assumption
  try simp only [Act.put, List.setIfInBounds_toArray, List.set_cons_zero, List.set_cons_succ]
  refine' wpAnyH_take (i := 1) ?hia1 ?hsa1 ?hfa1 ?hra1 ?hQa1 ?hya1 ?hSa1 ?ha1
  case hia1 => (simp only [List.getElem?_toArray, List.getElem?_cons_succ, List.getElem?_cons_zero]; exact rfl)
  case hsa1 => kernel_rfl
  case hfa1 => kernel_rfl
  case hra1 => kernel_rfl
  case hQa1 => exact fun _ _ _ h => h
  case hya1 => (first | (refine Or.inr ⟨by rfl, ?_⟩; rfl) | (refine Or.inl ⟨by rfl, ?_⟩; (intro w hSw; (try dsimp only at hSw); go_simp); try with_reducible rfl))
  case hSa1 => assumption
  try simp only [Act.put, List.setIfInBounds_toArray, List.set_cons_zero, List.set_cons_succ]
  refine' wpAnyH_take (i := 2) ?hia2 ?hsa2 ?hfa2 ?hra2 ?hQa2 ?hya2 ?hSa2 ?ha2
  case hia2 => (simp only [List.getElem?_toArray, List.getElem?_cons_succ, List.getElem?_cons_zero]; exact rfl)
  case hsa2 => kernel_rfl
  case hfa2 => kernel_rfl
  case hra2 => kernel_rfl
  case hQa2 => exact fun _ _ _ h => h
  case hya2 => (first | (refine Or.inr ⟨by rfl, ?_⟩; rfl) | (refine Or.inl ⟨by rfl, ?_⟩; (intro w hSw; (try dsimp only at hSw); go_simp); try with_reducible rfl))
  case hSa2 => assumption
  try simp only [Act.put, List.setIfInBounds_toArray, List.set_cons_zero, List.set_cons_succ]
  refine' wpAnyH_take (i := 5) ?hia5 ?hsa5 ?hfa5 ?hra5 ?hQa5 ?hya5 ?hSa5 ?ha5
  case hia5 => (simp only [List.getElem?_toArray, List.getElem?_cons_succ, List.getElem?_cons_zero]; exact rfl)
  case hsa5 => kernel_rfl
  case hfa5 => kernel_rfl
  case hra5 => kernel_rfl
  case hQa5 => exact fun _ _ _ h => h
  case hya5 => (first | (refine Or.inr ⟨by rfl, ?_⟩; rfl) | (refine Or.inl ⟨by rfl, ?_⟩; (intro w hSw; (try dsimp only at hSw); go_simp); try with_reducible rfl))
  case hSa5 => assumption
  try simp only [Act.put, List.setIfInBounds_toArray, List.set_cons_zero, List.set_cons_succ]
  refine wpAnyH_ready (rs := [3]) (by kernel_rfl) (by simp) ?_
  refine' AllReadyH.cons ?hia3 (fun K hK => ?ha3) AllReadyH.nil
  case hia3 => (simp only [List.getElem?_toArray, List.getElem?_cons_succ, List.getElem?_cons_zero]; exact rfl)
  (go_simp; go_at_call 24; refine (MaskOf_n k _ hk).mono ?_; rintro e w' ⟨rfl, rfl⟩)
  refine hK.out _ _ (by go_keep) (fun hHeld => ?_)
  clear hK K
  refine' wpAnyH_take (i := 4) ?hia4 ?hsa4 ?hfa4 ?hra4 ?hQa4 ?hya4 ?hSa4 ?ha4
  case hia4 => (simp only [List.getElem?_toArray, List.getElem?_cons_succ, List.getElem?_cons_zero]; exact rfl)
  case hsa4 => kernel_rfl
  case hfa4 => kernel_rfl
  case hra4 => kernel_rfl
  case hQa4 => exact fun _ _ _ h => h
  case hya4 => (first | (refine Or.inr ⟨by rfl, ?_⟩; rfl) | (refine Or.inl ⟨by rfl, ?_⟩; (intro w hSw; (try dsimp only at hSw); go_simp); try with_reducible rfl))
  case hSa4 => assumption
  try simp only [Act.put, List.setIfInBounds_toArray, List.set_cons_zero, List.set_cons_succ]
  refine' wpAnyH_take (i := 6) ?hia6 ?hsa6 ?hfa6 ?hra6 ?hQa6 ?hya6 ?hSa6 ?ha6
  case hia6 => (simp only [List.getElem?_toArray, List.getElem?_cons_succ, List.getElem?_cons_zero]; exact rfl)
  case hsa6 => kernel_rfl
  case hfa6 => kernel_rfl
  case hra6 => kernel_rfl
  case hQa6 => exact fun _ _ _ h => h
  case hya6 => (first | (refine Or.inr ⟨by rfl, ?_⟩; rfl) | (refine Or.inl ⟨by rfl, ?_⟩; (intro w hSw; (try dsimp only at hSw); go_simp); try with_reducible rfl))
  case hSa6 => assumption
  try simp only [Act.put, List.setIfInBounds_toArray, List.set_cons_zero, List.set_cons_succ]
  refine wpAnyH_ready (rs := [7]) (by kernel_rfl) (by simp) ?_
  refine' AllReadyH.cons ?hia7 (fun K hK => ?ha7) AllReadyH.nil
  case hia7 => (simp only [List.getElem?_toArray, List.getElem?_cons_succ, List.getElem?_cons_zero]; exact rfl)
  go_simp
  refine hK.out _ _ (by go_keep) (fun hHeld => ?_)
  clear hK K
  refine wpAnyH_done (by kernel_rfl) ?_ _
  refine NoPanic.normal ?_
  go_wp2
  exact cell_end rfl (box2 (Below.refl _ ((w.alloc (nb a n)).alloc (nb (bits .and .u32 a (maskV k)) k)))).2 rfl rfl ⟨by rw [HB.out], below_drewN (below_2 w _ _) 1⟩
set_option maxRecDepth 100000 in
set_option maxHeartbeats 400000 in
theorem RNetText_any (a k : Nat) (w : World) (ha : a < 4294967296) (hk : k ≤ 32) :
    Calls Tryz.prog 17 #[.agg #[.int .u32 a, .int .i64 k]] w fun e w' => e = .returned (strV (netT a k)) ∧ Below w.heap.size w w' := by
  obtain ⟨X, hX⟩ : ∃ X : ByteArray, X = ⟨(addrT a).toArray⟩ := ⟨_, rfl⟩
  obtain ⟨Y, hY⟩ : ∃ Y : ByteArray, Y = ⟨(dd k).toArray⟩ := ⟨_, rfl⟩
  have hXl : X.size ≤ 15 := by rw [hX, str_size]; exact addrT_length a ha
  have hYl : Y.size ≤ 3 := by rw [hY, str_size]; exact dd_length_le (by omega)
  have hR : Value.string (X ++ ⟨#[47]⟩ ++ Y) = strV (netT a k) := netT_str (by rw [hX]) (by rw [hY])
  have cT := fun d os => Calls.regrown_of (AddrText_any a (Sort.grow (redrawn (w.alloc (.cells #[.int .u32 a, .int .i64 k] 24)) d) os) ha)
  have cI := fun d os => Calls.regrown_of (Digits_n k k (Sort.grow (redrawn (w.alloc (.cells #[.int .u32 a, .int .i64 k] 24)) d) os) (Nat.le_refl _) (by omega))
  have c0 := fun d os => cell_regrown (w := w.alloc (.cells #[.int .u32 a, .int .i64 k] 24)) (a := ⟨w.heap.size, 0, none⟩) (v := .int .u32 a) (by simp) d os
  have c1 := fun d os => cell_regrown (w := w.alloc (.cells #[.int .u32 a, .int .i64 k] 24)) (a := ⟨w.heap.size, 1, none⟩) (v := .int .i64 k) (by simp) d os
  unfold strV at cT cI
  rw [← hX] at cT
  rw [← hY] at cI
  have CT := Lib.hid cT
  have CI := Lib.hid cI
  have HR := Lib.hid hR
  have n1 : ¬ 9223372036854775807 < X.size + 1 := by omega
  have n2 : ¬ 9223372036854775807 < X.size + 1 + Y.size := by omega
  clear cT cI hX hY hR
  go_enter Tryz.func17, Tryz.ntmps17
  go_wp2
  refine wp_region_quiet_below (by kernel_rfl) (by kernel_rfl) ?_
  repeat (quiet_step (first | exact CT.out _ _ | exact CI.out _ _))
  refine wpQuiet_nil ?_
  intro _ hw'
  obtain ⟨⟨dq, osq⟩, hw''⟩ := hw'
  subst hw''
  go_wp2
  go_ret
  exact ⟨by rw [HR.out]; rfl, ((Below.refl _ _).alloc (Nat.le_refl _) _).trans ((below_regrown _ dq osq).mono (by simp))⟩
theorem half_run_fin : ∀ k : Fin 32, (2 : Int) ^ (31 - k.val) % 4294967296 = lowI (k.val + 1) := by decide +kernel
set_option maxRecDepth 100000 in
set_option maxHeartbeats 1000000 in
theorem Half0 (a : Int) (k : Nat) (w : World) (hk : k < 32) :
    Calls Tryz.prog 19 #[.agg #[.int .u32 a, .int .i64 k], .int .i64 0] w fun e w' => e = .returned (.agg #[.int .u32 a, .int .i64 ((k : Int) + 1)]) ∧ Below w.heap.size w w' := by
  go_enter Tryz.func19, Tryz.ntmps19
  go_wp2
  exact cell_end rfl (box2 (Below.refl _ ((w.alloc (nb a k)).alloc (nb a ((k : Int) + 1))))).2 rfl rfl ⟨rfl, below_2 w _ _⟩
set_option maxRecDepth 100000 in
set_option maxHeartbeats 1000000 in
theorem Half1 (a : Int) (k : Nat) (w : World) (hk : k < 32) (ha : is32 a) (hz : netF (a, (k : Int)) = 0) :
    Calls Tryz.prog 19 #[.agg #[.int .u32 a, .int .i64 k], .int .i64 1] w fun e w' => e = .returned (.agg #[.int .u32 (a + lowI (k + 1)), .int .i64 ((k : Int) + 1)]) ∧ Below w.heap.size w w' := by
  have HOR := Lib.hid (or_low hk ha (half_zero hk hz))
  have HSH : Hid ((2 : Int) ^ (31 - k) % 4294967296 = lowI (k + 1)) := Lib.hid (half_run_fin ⟨k, hk⟩)
  have hu : IntKind.u64.wrap (31 - (k : Int)) = 31 - k := IntWalk.u64_in _ ⟨by omega, by omega⟩
  clear hz ha
  go_enter Tryz.func19, Tryz.ntmps19
  go_wp2
  exact cell_end rfl (box2 (Below.refl _ ((w.alloc (nb a k)).alloc (nb (bits .or .u32 a (2 ^ (31 - k) % 4294967296)) ((k : Int) + 1))))).2 rfl rfl ⟨by rw [HSH.out, HOR.out], below_2 w _ _⟩
theorem trim_c {w : World} {a n : Int} {k : Nat} {x : Int} (hx : fl (lowI k) a = x) (ha : is32 a) (hk : k ≤ 32) (d : Nat) (os : Array Obj) :
    Calls Tryz.prog 18 #[.agg #[.int .u32 a, .int .i64 n], .int .i64 k] (Sort.grow (redrawn w d) os) fun e w'' => e = .returned (.agg #[.int .u32 x, .int .i64 k]) ∧ ∃ p : Regrown, w'' = Sort.grow (redrawn w p.d) p.os :=
  Calls.regrown_of ((Trim_any a n k _ ha hk).mono fun e w' ⟨he, hb⟩ => ⟨by rw [he, hx], hb⟩)
structure C3 (W : World) (a n b m : Int) (w : World) : Prop where
  bel : Below W.heap.size W w
  h1 : w.heap[W.heap.size]? = some (nb a n)
  h2 : w.heap[W.heap.size + 1]? = some (nb b m)
  h3 : w.heap[W.heap.size + 2]? = some (nb 0 0)
theorem C3.below {W w w' : World} {a n b m : Int} (h : C3 W a n b m w) (hb : Below w.heap.size w w') : C3 W a n b m w' :=
  ⟨h.bel.trans (hb.mono h.bel.size), below_block hb (size_of_block h.h1) h.h1, below_block hb (size_of_block h.h2) h.h2, below_block hb (size_of_block h.h3) h.h3⟩
theorem C3.start (W : World) (a n b m : Int) : C3 W a n b m (((W.alloc (nb a n)).alloc (nb b m)).alloc (nb 0 0)) := by
  obtain ⟨e1, e2, e3⟩ := box3 (Below.refl _ (((W.alloc (nb a n)).alloc (nb b m)).alloc (nb 0 0)))
  exact ⟨below_3 W _ _ _, e1, e2, e3⟩
set_option maxRecDepth 100000 in
set_option maxHeartbeats 2000000 in
theorem CommonOf_any (a b : Int) (n m : Nat) (w : World) (ha : is32 a) (hb : is32 b) (hn : n ≤ 32) (hm : m ≤ 32) :
    Calls Tryz.prog 20 #[.agg #[.int .u32 a, .int .i64 n], .agg #[.int .u32 b, .int .i64 m]] w fun e w' => e = .returned (netV (comN (a, (n : Int)) (b, (m : Int)))) ∧ Below w.heap.size w w' := by
  have hst := C3.start w a n b m
  have HST := Lib.hid hst
  obtain ⟨K, hK⟩ : ∃ K, comL (a, (n : Int)) (b, (m : Int)) = K := ⟨_, rfl⟩
  have hKl : K = min (min n m) (lzN a b) := hK.symm
  have HFE := Lib.hid (fun k (hk : k ≤ 32) => fl_eq_iff ha hb k hk)
  have hR : netV (comN (a, (n : Int)) (b, (m : Int))) = .agg #[.int .u32 (fl (lowI K) a), .int .i64 K] := by unfold comN trimN netV; rw [hK]
  rw [hR]
  have HK := Lib.hid hKl
  have HA := Lib.hid ha
  have HBB := Lib.hid hb
  have hmin : (if m < n then (m : Int) else (n : Int)) = ((min n m : Nat) : Int) := by split <;> omega
  have HMIN := Lib.hid hmin
  clear hst hK hKl hR ha hb hmin
  go_enter Tryz.func20, Tryz.ntmps20
  go_wp2
  go_loopw [5] (fun i wr => ∃ k : Nat, i = .int .i64 k ∧ K ≤ k ∧ k ≤ min n m ∧ C3 w a n b m wr) (fun i _ => (intOf i).toNat)
  case atStart => exact ⟨min n m, by congr 1; omega, by have := HK.out; omega, Nat.le_refl _, HST.out⟩
  case round =>
    obtain ⟨k, rfl, hk1, hk2, hC⟩ := hrel
    have HC := Lib.hid hC
    have hk32 : k ≤ 32 := by omega
    clear hC
    have k0 := fun d os => (row2 (below_block (below_regrown wr d os) (size_of_block HC.out.h1) HC.out.h1)).1
    have k1 := fun d os => (row2 (below_block (below_regrown wr d os) (size_of_block HC.out.h1) HC.out.h1)).2.1
    have k2 := fun d os => (row2 (below_block (below_regrown wr d os) (size_of_block HC.out.h2) HC.out.h2)).1
    have k3 := fun d os => (row2 (below_block (below_regrown wr d os) (size_of_block HC.out.h2) HC.out.h2)).2.1
    obtain ⟨x, hx⟩ : ∃ x, fl (lowI k) a = x := ⟨_, rfl⟩
    obtain ⟨y, hy⟩ : ∃ y, fl (lowI k) b = y := ⟨_, rfl⟩
    have hfe := HFE.out k hk32
    rw [hx, hy] at hfe
    have HFK := Lib.hid hfe
    have HX := Lib.hid hx
    have HY := Lib.hid hy
    clear hx hy hfe
    by_cases hxy : x = y
    · have hkK : k = K := by have h1 := HFK.out.1 hxy; have h2 := HK.out; omega
      subst hxy
      subst hkK
      go_wp2
      refine wp_region_quiet_below (by kernel_rfl) (by kernel_rfl) ?_
      repeat (go_big_quiet_step (first | (with_reducible exact trim_c HX.out HA.out hk32 _ _) | (with_reducible exact trim_c HY.out HBB.out hk32 _ _) | fail))
      refine wpQuiet_nil ?_
      intro _ hw'
      obtain ⟨⟨dq, osq⟩, hw''⟩ := hw'
      have hD := HC.out.below (below_regrown wr dq osq)
      rw [← hw''] at hD
      clear hw'' k0 k1 k2 k3
      obtain ⟨d0, d1, _, _⟩ := row2 hD.h1
      obtain ⟨q0, q1, g0, g1⟩ := row2 hD.h3
      have HD := Lib.hid hD
      have zz := hD.bel.size
      clear hD
      go_wp2_with (first
        | (go_at_call 18; (with_reducible refine (Trim_any a n k _ HA.out hk32).mono ?_); rintro e w2 ⟨rfl, hb2⟩; rw [HX.out]; have hE := HD.out.below hb2; obtain ⟨r0, r1, f0, f1⟩ := row2 hE.h3; have HE := Lib.hid hE; clear hE hb2)
        | fail)
      exact cell_end rfl (set2_block _ _ HE.out.h3) rfl rfl ⟨by rw [HX.out], (HE.out.bel.setCell (by simp; omega) _).setCell (by simp; omega) _⟩
    · have t1 : (x == y) = false := by simpa using hxy
      have hk0 : K < k := by
        rcases Nat.lt_or_ge K k with h | h
        · exact h
        · exact absurd (HFK.out.2 (by have := HK.out; omega)) hxy
      clear hxy
      go_wp2
      refine wp_region_quiet_below (by kernel_rfl) (by kernel_rfl) ?_
      repeat (go_big_quiet_step (first | (with_reducible exact trim_c HX.out HA.out hk32 _ _) | (with_reducible exact trim_c HY.out HBB.out hk32 _ _) | fail))
      refine wpQuiet_nil ?_
      intro _ hw'
      obtain ⟨⟨dq, osq⟩, hw''⟩ := hw'
      have hD := HC.out.below (below_regrown wr dq osq)
      rw [← hw''] at hD
      clear hw'' k0 k1 k2 k3
      obtain ⟨d0, d1, _, _⟩ := row2 hD.h1
      obtain ⟨q0, q1, g0, g1⟩ := row2 hD.h3
      have HD := Lib.hid hD
      have zz := hD.bel.size
      clear hD
      go_wp2
      exact ⟨⟨k - 1, by congr 1; omega, by omega, by omega, HD.out⟩, by simp [intOf]; omega⟩
end Go.Proofs.YtohfeoahdbfjbaaGreatDoor
