/- The reference's tables: FindIn. The reference's table is the list that the table holds: places, the longest one, the order; no program in sight. Rows of the call's own of integers. -/
import Derived.Test.YtgdlkjahlajcpaaGreatDoorAK
import Derived.Test.YtgdlkjahlajcpaaGreatDoorAB
namespace Go.Proofs.YtgdlkjahlajcpaaGreatDoor
open Go.ChangeShapes Go.WideShapes Go.ChangeAt Go.RowKit
set_option linter.unusedVariables false
set_option linter.unusedSimpArgs false
theorem rhas_c {w : World} {a n x : Int} {r : Bool} (ha : is32 a) (hx : is32 x) (hr : hasB (a, n) x = r) (d : Nat) (os : Array Obj) :
    Calls Tryz.prog 36 #[.agg #[.int .u32 a, .int .i64 n], .int .u32 x] (Sort.grow (redrawn w d) os) fun e w'' => e = .returned (.bool r) ∧ ∃ p : Regrown, w'' = Sort.grow (redrawn w p.d) p.os :=
  Calls.regrown_of ((RHas_any a n x _ ha hx).mono fun e w' ⟨he, hb⟩ => ⟨by rw [he, hr], hb⟩)
def findS (a : Int) (y : Nt) (i : Nat) : Option (Nat × Nt) → Option (Nat × Nt)
  | none => if hasB y a = true then some (i, y) else none
  | some (j, z) => if hasB y a = true ∧ z.2 < y.2 then some (i, y) else some (j, z)
def findL (a : Int) : List Nt → Nat → Option (Nat × Nt) → Option (Nat × Nt)
  | [], _, b => b
  | y :: r, i, b => findL a r (i + 1) (findS a y i b)
def idxV : Option (Nat × Nt) → Int
  | none => -1
  | some (j, _) => j
set_option maxRecDepth 100000 in
set_option maxHeartbeats 4000000 in
theorem FindIn_any {w : World} {A A' : Option Addr} {n c n' c' : Nat} {l : List Nt} {a : Int} (hr : R1 rdNets w (.slice A n c) l) (ha : is32 a) :
    Calls Tryz.prog 20 #[.agg #[.slice A n c, .slice A' n' c'], .int .u32 a] w fun e w' => e = .returned (.int .i64 (idxV (findL a l 0 none))) ∧ Below w.heap.size w w' := by
  obtain ⟨hn, hnc, hcm⟩ := RdSlice.len hr
  have hnm : n ≤ 9223372036854775807 := by unfold maxLen at hcm; omega
  have HR := Lib.hid hr
  have HA := Lib.hid ha
  have HN := Lib.hid hn
  obtain ⟨F, hF⟩ : ∃ F, findL a l 0 none = F := ⟨_, rfl⟩
  have HF := Lib.hid hF
  rw [hF]
  obtain ⟨F', hF'⟩ : ∃ F', idxV F = F' := ⟨_, rfl⟩
  have HF' := Lib.hid hF'
  rw [hF']
  clear hcm hnc hr hn hF hF' ha
  go_enter Tryz.func20, Tryz.ntmps20
  go_upto_region 1 with (fail)
  have HB0 := Lib.hid (below_1 w (.cells #[.slice A n c, .slice A' n' c'] 29))
  have HO := Lib.hid (heap_alloc_new w (.cells #[.slice A n c, .slice A' n' c'] 29))
  have hz : w.heap.size < (w.alloc (.cells #[.slice A n c, .slice A' n' c'] 29)).heap.size := by simp
  generalize w.alloc (.cells #[.slice A n c, .slice A' n' c'] 29) = w1 at *
  go_wp2
  go_loopw [5, 6] (fun bv iv wr => ∃ (k : Nat) (b : Option (Nat × Nt)), k ≤ n ∧ iv = .int .i64 k ∧ bv = .int .i64 (idxV b) ∧ Hid (findL a (l.drop k) k b = F) ∧ Hid (∀ c ∈ b, c.1 < k ∧ l[c.1]? = some c.2) ∧ Below w1.heap.size w1 wr) (fun _ iv _ => n - (intOf iv).toNat)
  case atStart => exact ⟨0, none, Nat.zero_le _, rfl, rfl, Lib.hid HF.out, Lib.hid (by simp), Below.refl _ _⟩
  case round =>
    obtain ⟨k, best, hk, rfl, rfl, HK, HBst, hbr⟩ := hrel
    have HBR := Lib.hid hbr
    have HWR := Lib.hid (HB0.out.trans (hbr.mono (by omega)))
    have hzr := hbr.size
    obtain ⟨z0, z1, _, _⟩ := row2 (below_block hbr hz HO.out)
    have j2 := fun d os => cell_regrown z0 d os
    clear hbr
    by_cases hlt : k < n
    · obtain ⟨b, o, ⟨x, x'⟩, rfl, hb, HX, ⟨wx, wy⟩, c0, c1⟩ := RdSlice.atN HR.out hlt
      have d0 := (HWR.out.cell (p := ⟨b, o + k * 2, none⟩) hb).trans c0
      have d1 := (HWR.out.cell (p := ⟨b, o + k * 2 + 1, none⟩) hb).trans c1
      have j0 := fun d os => cell_regrown d0 d os
      have j1 := fun d os => cell_regrown d1 d os
      have HIx : Hid (is32 x) := Lib.hid (bounds_u32 wx)
      have i0 : (0 : Int) ≤ (k : Int) := by omega
      have i1 : (k : Int) < (n : Int) := by omega
      have HD : Hid (l.drop k = (x, x') :: l.drop (k + 1)) := Lib.hid (by
        have h := HX.out
        obtain ⟨hk', e⟩ := List.getElem?_eq_some_iff.1 h
        rw [List.drop_eq_getElem_cons hk', e])
      have HNx : Hid (findL a (l.drop (k + 1)) (k + 1) (findS a (x, x') k best) = F) := Lib.hid (by
        have h := HK.out
        rw [HD.out] at h
        exact h)
      obtain ⟨r, hr⟩ : ∃ r, hasB (x, x') a = r := ⟨_, rfl⟩
      have HH := Lib.hid hr
      clear hr c0 c1 wx wy d0 d1 HK HD
      cases r with
      | false =>
        have HS : Hid (findS a (x, x') k best = best) := Lib.hid (by unfold findS; cases best <;> simp [HH.out])
        go_wp2
        refine wp_region_quiet_below (by kernel_rfl) (by kernel_rfl) ?_
        repeat (go_big_quiet_step (first | (with_reducible exact rhas_c HIx.out HA.out HH.out _ _) | fail))
        refine wpQuiet_nil ?_
        intro w6 hw'
        obtain ⟨⟨dq, osq⟩, hw''⟩ := hw'
        have HB6 := Lib.hid (HBR.out.trans (((show Below wr.heap.size wr w6 by rw [hw'']; exact below_regrown wr dq osq)).mono hzr))
        clear j0 j1 j2 hw''
        go_wp2
        go_roundw
        case rel => exact ⟨k + 1, best, by omega, by go_num, rfl, Lib.hid (by rw [← HS.out]; exact HNx.out), Lib.hid (fun c hc => ⟨by have := (HBst.out c hc).1; omega, (HBst.out c hc).2⟩), HB6.out⟩
        case measure => simp [intOf]; omega
      | true =>
        cases best with
        | none =>
          have HS : Hid (findS a (x, x') k none = some (k, (x, x'))) := Lib.hid (by unfold findS; simp [HH.out])
          have e1 : idxV none = -1 := rfl
          rw [e1]
          clear e1
          go_wp2
          refine wp_region_quiet_below (by kernel_rfl) (by kernel_rfl) ?_
          repeat (go_big_quiet_step (first | (with_reducible exact rhas_c HIx.out HA.out HH.out _ _) | fail))
          refine wpQuiet_nil ?_
          intro w6 hw'
          obtain ⟨⟨dq, osq⟩, hw''⟩ := hw'
          have HB6 := Lib.hid (HBR.out.trans (((show Below wr.heap.size wr w6 by rw [hw'']; exact below_regrown wr dq osq)).mono hzr))
          clear j0 j1 j2 hw''
          go_wp2
          go_roundw
          case rel => exact ⟨k + 1, some (k, (x, x')), by omega, by go_num, rfl, Lib.hid (by rw [← HS.out]; exact HNx.out), Lib.hid (fun c hc => by cases hc; exact ⟨by simp only; omega, HX.out⟩), HB6.out⟩
          case measure => simp [intOf]; omega
        | some p =>
          obtain ⟨j, y, y'⟩ := p
          have hj := HBst.out (j, (y, y')) rfl
          have hjn : j < n := by omega
          have e1 : idxV (some (j, (y, y'))) = (j : Int) := rfl
          rw [e1]
          clear e1
          obtain ⟨b2, o2, ⟨u, u'⟩, eA, hb2, HX2, _, c2, c3⟩ := RdSlice.atN HR.out hjn
          simp only [Option.some.injEq, Addr.mk.injEq, and_true] at eA
          obtain ⟨rfl, rfl⟩ := eA
          have eu := HX2.out
          rw [hj.2] at eu
          simp only [Option.some.injEq, Prod.mk.injEq] at eu
          obtain ⟨rfl, rfl⟩ := eu
          have d3 := (HWR.out.cell (p := ⟨b, o + j * 2 + 1, none⟩) hb2).trans c3
          have j3 := fun d os => cell_regrown d3 d os
          have i2 : (0 : Int) ≤ (j : Int) := by omega
          have i3 : (j : Int) < (n : Int) := by omega
          have t0 : decide ((j : Int) < 0) = false := by simp
          clear c2 c3 d3 hj
          by_cases hgt : y' < x'
          · have HS : Hid (findS a (x, x') k (some (j, (y, y'))) = some (k, (x, x'))) := Lib.hid (by unfold findS; simp [HH.out, hgt])
            go_wp2
            refine wp_region_quiet_below (by kernel_rfl) (by kernel_rfl) ?_
            repeat (go_big_quiet_step (first | (with_reducible exact rhas_c HIx.out HA.out HH.out _ _) | fail))
            refine wpQuiet_nil ?_
            intro w6 hw'
            obtain ⟨⟨dq, osq⟩, hw''⟩ := hw'
            have HB6 := Lib.hid (HBR.out.trans (((show Below wr.heap.size wr w6 by rw [hw'']; exact below_regrown wr dq osq)).mono hzr))
            clear j0 j1 j2 j3 hw''
            go_wp2
            go_roundw
            case rel => exact ⟨k + 1, some (k, (x, x')), by omega, by go_num, rfl, Lib.hid (by rw [← HS.out]; exact HNx.out), Lib.hid (fun c hc => by cases hc; exact ⟨by simp only; omega, HX.out⟩), HB6.out⟩
            case measure => simp [intOf]; omega
          · have t1 : decide (y' < x') = false := by simp; omega
            have HS : Hid (findS a (x, x') k (some (j, (y, y'))) = some (j, (y, y'))) := Lib.hid (by unfold findS; simp [HH.out, hgt])
            go_wp2
            refine wp_region_quiet_below (by kernel_rfl) (by kernel_rfl) ?_
            repeat (go_big_quiet_step (first | (with_reducible exact rhas_c HIx.out HA.out HH.out _ _) | fail))
            refine wpQuiet_nil ?_
            intro w6 hw'
            obtain ⟨⟨dq, osq⟩, hw''⟩ := hw'
            have HB6 := Lib.hid (HBR.out.trans (((show Below wr.heap.size wr w6 by rw [hw'']; exact below_regrown wr dq osq)).mono hzr))
            clear j0 j1 j2 j3 hw''
            go_wp2
            go_roundw
            case rel => exact ⟨k + 1, some (j, (y, y')), by omega, by go_num, rfl, Lib.hid (by rw [← HS.out]; exact HNx.out), Lib.hid (fun c hc => ⟨by have := (HBst.out c hc).1; omega, (HBst.out c hc).2⟩), HB6.out⟩
            case measure => simp [intOf]; omega
    · have HQ : Hid (F' = idxV best) := Lib.hid (by
        have h := HK.out
        rw [List.drop_eq_nil_of_le (by rw [← HN.out]; omega)] at h
        rw [← HF'.out, ← h]; rfl)
      go_wp2
      go_ret
      exact ⟨by rw [HQ.out]; rfl, HWR.out⟩
end Go.Proofs.YtgdlkjahlajcpaaGreatDoor
namespace Go.Proofs.YtgdlkjahlajcpaaGreatDoor
open Go.ChangeShapes Go.WideShapes Go.ChangeAt Go.RowKit
set_option linter.unusedVariables false

def valsM (m : List (Nt × Int)) : List Int := m.map Prod.snd
theorem place_none {m : List (Nt × Int)} {x : Nt} (h : look m x = none) : ∀ i : Int, placeI x (keysM m) i = -1 := by
  induction m with
  | nil => intro i; rfl
  | cons e r ih =>
    intro i
    simp only [look] at h
    by_cases he : e.1 = x
    · rw [if_pos he] at h; cases h
    · rw [if_neg he] at h
      show (if e.1 = x then i else placeI x (keysM r) (i + 1)) = -1
      rw [if_neg he, ih h]
theorem place_some {m : List (Nt × Int)} {x : Nt} {v : Int} (h : look m x = some v) : ∀ i : Int, ∃ k : Nat, placeI x (keysM m) i = i + k ∧ m[k]? = some (x, v) := by
  induction m with
  | nil => simp [look] at h
  | cons e r ih =>
    intro i
    simp only [look] at h
    by_cases he : e.1 = x
    · rw [if_pos he] at h
      simp only [Option.some.injEq] at h
      refine ⟨0, ?_, ?_⟩
      · show (if e.1 = x then i else placeI x (keysM r) (i + 1)) = i + ((0 : Nat) : Int)
        rw [if_pos he]; simp
      · subst h; subst he; rfl
    · rw [if_neg he] at h
      obtain ⟨k, h1, h2⟩ := ih h (i + 1)
      refine ⟨k + 1, ?_, by simpa using h2⟩
      show (if e.1 = x then i else placeI x (keysM r) (i + 1)) = i + ((k + 1 : Nat) : Int)
      rw [if_neg he, h1]; omega
theorem keys_at {m : List (Nt × Int)} {k : Nat} {x : Nt} {v : Int} (h : m[k]? = some (x, v)) : (keysM m)[k]? = some x ∧ (valsM m)[k]? = some v := by
  unfold keysM valsM; rw [List.getElem?_map, List.getElem?_map, h]; exact ⟨rfl, rfl⟩
theorem findL_none (a : Int) : ∀ (l : List Nt) (i : Nat) (b : Option (Nat × Nt)), findL a l i b = none → b = none ∧ ∀ z ∈ l, hasB z a = false
  | [], _, _, h => ⟨h, fun _ h => by cases h⟩
  | y :: r, i, b, h => by
    obtain ⟨h1, h2⟩ := findL_none a r (i + 1) _ h
    cases b with
    | some p =>
      obtain ⟨j, z⟩ := p
      unfold findS at h1; simp only at h1; split at h1 <;> cases h1
    | none =>
      refine ⟨rfl, fun z hz => ?_⟩
      rcases List.mem_cons.1 hz with rfl | hz
      · unfold findS at h1; simp only at h1
        cases hh : hasB z a
        · rfl
        · rw [if_pos hh] at h1; cases h1
      · exact h2 z hz
theorem findL_some (a : Int) : ∀ (l : List Nt) (i : Nat) (b : Option (Nat × Nt)) {j : Nat} {y : Nt}, findL a l i b = some (j, y) →
    (b = some (j, y) ∨ ∃ k, j = i + k ∧ l[k]? = some y ∧ hasB y a = true) ∧ (∀ z ∈ l, hasB z a = true → z.2 ≤ y.2) ∧ (∀ c ∈ b, c.2.2 ≤ y.2)
  | [], _, b, j, y, h => by
    have hb : b = some (j, y) := h
    refine ⟨.inl hb, (fun z hz => by cases hz), fun c hc => ?_⟩
    rw [hb] at hc; cases hc; exact Int.le_refl _
  | x :: r, i, b, j, y, h => by
    obtain ⟨h1, h2, h3⟩ := findL_some a r (i + 1) _ h
    have hS : (findS a x i b = b ∧ (hasB x a = true → ∀ c ∈ b, x.2 ≤ c.2.2) ∧ (hasB x a = true → b ≠ none)) ∨ (findS a x i b = some (i, x) ∧ hasB x a = true ∧ ∀ c ∈ b, c.2.2 ≤ x.2) := by
      cases b with
      | none =>
        unfold findS
        by_cases hh : hasB x a = true
        · right; simp only; rw [if_pos hh]; exact ⟨rfl, hh, fun c hc => by cases hc⟩
        · left; simp only; rw [if_neg hh]; exact ⟨rfl, fun e => absurd e hh, fun e => absurd e hh⟩
      | some p =>
        obtain ⟨k, z⟩ := p
        unfold findS
        by_cases hh : hasB x a = true ∧ z.2 < x.2
        · right; simp only; rw [if_pos hh]; exact ⟨rfl, hh.1, fun c hc => by cases hc; simp only; omega⟩
        · left; simp only; rw [if_neg hh]
          exact ⟨rfl, fun e c hc => by cases hc; simp only; exact Int.not_lt.1 fun e2 => hh ⟨e, e2⟩, fun _ => by simp⟩
    rcases hS with ⟨e, hs, hs2⟩ | ⟨e, hx, hs⟩
    · rw [e] at h1 h3
      refine ⟨h1.imp_right fun ⟨k, e1, e2, e3⟩ => ⟨k + 1, by omega, by simpa using e2, e3⟩, fun z hz hza => ?_, h3⟩
      rcases List.mem_cons.1 hz with rfl | hz
      · obtain ⟨c, hc⟩ := Option.ne_none_iff_exists'.1 (hs2 hza)
        have := hs hza c hc
        have := h3 c hc
        omega
      · exact h2 z hz hza
    · rw [e] at h1 h3
      have hxy := h3 (i, x) rfl
      refine ⟨.inr ?_, fun z hz hza => ?_, fun c hc => by have := hs c hc; simp only at hxy; omega⟩
      · rcases h1 with h1 | ⟨k, e1, e2, e3⟩
        · simp only [Option.some.injEq, Prod.mk.injEq] at h1
          obtain ⟨rfl, rfl⟩ := h1
          exact ⟨0, rfl, rfl, hx⟩
        · exact ⟨k + 1, by omega, by simpa using e2, e3⟩
      · rcases List.mem_cons.1 hz with rfl | hz
        · exact hxy
        · exact h2 z hz hza
theorem find_same {m : List (Nt × Int)} (hm : MOk m) {a : Int} :
    (fnd m a 33 = none ∧ findL a (keysM m) 0 none = none) ∨ ∃ j v i, fnd m a 33 = some (j, v) ∧ findL a (keysM m) 0 none = some (i, trimN (a, 32) j) ∧ m[i]? = some (trimN (a, 32) j, v) := by
  cases hF : findL a (keysM m) 0 none with
  | none =>
    left
    refine ⟨?_, rfl⟩
    obtain ⟨_, h2⟩ := findL_none a _ _ _ hF
    cases hf : fnd m a 33 with
    | none => rfl
    | some p =>
      obtain ⟨j, v⟩ := p
      obtain ⟨h3, h4, _⟩ := fnd_some hf
      have hmem : trimN (a, 32) j ∈ keysM m := Classical.not_not.1 fun h => by rw [look_none.2 h] at h4; cases h4
      have := h2 _ hmem
      rw [trim_has a (by omega)] at this; cases this
  | some p =>
    obtain ⟨i, y⟩ := p
    right
    obtain ⟨h1, h2, _⟩ := findL_some a _ _ _ hF
    rcases h1 with h1 | ⟨k, e1, e2, e3⟩
    · cases h1
    obtain rfl : i = k := by omega
    obtain ⟨jj, hj, ey⟩ := has_trim e3
    have hy : y ∈ keysM m := List.mem_of_getElem? e2
    have hl : look m y ≠ none := fun h => look_none.1 h hy
    cases hf : fnd m a 33 with
    | none =>
      have := fnd_none hf jj (by omega)
      rw [← ey] at this; exact absurd this hl
    | some p =>
      obtain ⟨j, v⟩ := p
      obtain ⟨h3, h4, h5⟩ := fnd_some hf
      have hle : jj ≤ j := by
        rcases Nat.lt_or_ge j jj with h | h
        · exact absurd (by rw [ey]; exact h5 jj h (by omega)) hl
        · exact h
      have hmem : trimN (a, 32) j ∈ keysM m := Classical.not_not.1 fun h => by rw [look_none.2 h] at h4; cases h4
      have := h2 _ hmem (trim_has a (by omega))
      have e4 : y.2 = (jj : Int) := by rw [ey]; rfl
      have e5 : (trimN (a, 32) j).2 = (j : Int) := rfl
      obtain rfl : jj = j := by omega
      refine ⟨jj, v, i, rfl, by rw [← ey], ?_⟩
      -- the place of y in m
      obtain ⟨e, he⟩ : ∃ e, m[i]? = some e := by
        unfold keysM at e2; rw [List.getElem?_map] at e2
        cases hmi : m[i]? with
        | none => rw [hmi] at e2; cases e2
        | some e => exact ⟨e, rfl⟩
      have he1 : e.1 = y := by
        unfold keysM at e2; rw [List.getElem?_map, he] at e2; simpa using e2
      have he2 : look m e.1 = some e.2 := by
        have : ∀ {m : List (Nt × Int)}, (keysM m).Nodup → e ∈ m → look m e.1 = some e.2 := by
          intro m hn hmem
          induction m with
          | nil => cases hmem
          | cons b r ih =>
            simp only [keysM, List.map_cons, List.nodup_cons] at hn
            simp only [look]
            rcases List.mem_cons.1 hmem with rfl | hr
            · rw [if_pos rfl]
            · rw [if_neg (fun h => hn.1 (by rw [h]; exact List.mem_map_of_mem hr))]
              exact ih hn.2 hr
        exact this hm.nodup (List.mem_of_getElem? he)
      rw [he1, ey, h4] at he2
      rw [he]
      have : e = (e.1, e.2) := rfl
      rw [this, he1, ey]
      simp only [Option.some.injEq] at he2
      rw [he2]

/-! ### in order -/
def insN (x : Nt) : List Nt → List Nt
  | [] => [x]
  | y :: r => if lessB y x = true then y :: insN x r else x :: y :: r
theorem mem_ins (x y : Nt) : ∀ l : List Nt, y ∈ insN x l ↔ y = x ∨ y ∈ l
  | [] => by simp [insN]
  | z :: r => by
    unfold insN
    split
    · rw [List.mem_cons, mem_ins x y r, List.mem_cons]
      exact ⟨fun h => h.elim (fun h => .inr (.inl h)) (fun h => h.imp_right .inr), fun h => h.elim (fun h => .inr (.inl h)) (fun h => h.imp_right .inr)⟩
    · rw [List.mem_cons]
theorem ins_sorted {x : Nt} : ∀ {l : List Nt}, l.Pairwise (fun a b => lessB a b = true) → x ∉ l → (insN x l).Pairwise fun a b => lessB a b = true
  | [], _, _ => List.pairwise_singleton _ _
  | z :: r, h, hx => by
    obtain ⟨h1, h2⟩ := List.pairwise_cons.1 h
    simp only [List.mem_cons, not_or] at hx
    unfold insN
    by_cases hz : lessB z x = true
    · rw [if_pos hz]
      refine List.pairwise_cons.2 ⟨fun y hy => ?_, ins_sorted h2 hx.2⟩
      rcases (mem_ins x y r).1 hy with rfl | hy
      · exact hz
      · exact h1 y hy
    · rw [if_neg hz]
      have hxz : lessB x z = true := by
        have := less_one (a := x) (b := z) hx.1
        cases hq : lessB x z
        · rw [hq] at this; exact absurd this hz
        · rfl
      refine List.pairwise_cons.2 ⟨fun y hy => ?_, h⟩
      rcases List.mem_cons.1 hy with rfl | hy
      · exact hxz
      · exact less_trans hxz (h1 y hy)
def ordL (l : List Nt) : List Nt := l.foldl (fun o x => insN x o) []
theorem ord_go : ∀ (l o : List Nt), l.Nodup → (∀ x ∈ l, x ∉ o) → o.Pairwise (fun a b => lessB a b = true) → (l.foldl (fun o x => insN x o) o).Pairwise (fun a b => lessB a b = true) ∧ ∀ x, x ∈ l.foldl (fun o x => insN x o) o ↔ x ∈ l ∨ x ∈ o
  | [], o, _, _, h => ⟨h, fun x => by simp⟩
  | y :: r, o, hn, hd, h => by
    obtain ⟨n1, n2⟩ := List.nodup_cons.1 hn
    obtain ⟨a, b⟩ := ord_go r (insN y o) n2 (fun x hx hx2 => by
      rcases (mem_ins y x o).1 hx2 with rfl | h3
      · exact n1 hx
      · exact hd x (List.mem_cons_of_mem _ hx) h3) (ins_sorted h (hd y (by simp)))
    refine ⟨a, fun x => ?_⟩
    rw [List.foldl_cons, b, mem_ins, List.mem_cons]
    exact ⟨fun h => h.elim (fun h => .inl (.inr h)) (fun h => h.elim (fun h => .inl (.inl h)) .inr), fun h => h.elim (fun h => h.elim (fun h => .inr (.inl h)) .inl) (fun h => .inr (.inr h))⟩
theorem ord_all {m : List (Nt × Int)} (hm : MOk m) : ordL (keysM m) = allM m := by
  obtain ⟨a, b⟩ := ord_go (keysM m) [] hm.nodup (fun _ _ h => by cases h) List.Pairwise.nil
  refine sorted_ext a (all_sorted hm) fun x => ?_
  rw [ordL, b, mem_all hm, ne_eq, look_none, Classical.not_not]
  simp
def aheadN (x : Nt) : List Nt → Nat
  | [] => 0
  | y :: r => if lessB y x = true then aheadN x r + 1 else 0
theorem ins_at (x : Nt) : ∀ l : List Nt, insN x l = l.take (aheadN x l) ++ x :: l.drop (aheadN x l)
  | [] => rfl
  | y :: r => by
    unfold insN aheadN
    split
    · rw [ins_at x r]; simp
    · simp
theorem ahead_le (x : Nt) : ∀ l : List Nt, aheadN x l ≤ l.length
  | [] => Nat.le_refl _
  | y :: r => by
    unfold aheadN
    split
    · have := ahead_le x r; simp only [List.length_cons]; omega
    · omega
theorem keys_put (m : List (Nt × Int)) (x : Nt) (v : Int) : keysM (putM m x v) = keysM (delM m x) ++ [x] := by unfold putM keysM; simp
theorem vals_put (m : List (Nt × Int)) (x : Nt) (v : Int) : valsM (putM m x v) = valsM (delM m x) ++ [v] := by unfold putM valsM; simp
end Go.Proofs.YtgdlkjahlajcpaaGreatDoor
namespace Go.Proofs.YtgdlkjahlajcpaaGreatDoor
open Go.ChangeShapes Go.WideShapes Go.ChangeAt Go.RowKit
set_option linter.unusedVariables false
def OwnI (e : TypeId) (w : World) (base : Nat) (v : Value) (xs : List Int) : Prop := w.ownsRow base e 1 v xs.length (xs.map (Value.int .i64)) ∧ ∀ x ∈ xs, (Lit.int .i64 x).wf = true
theorem OwnI.read {e : TypeId} {w : World} {base : Nat} {v : Value} {xs : List Int} (h : OwnI e w base v xs) : R1 (RdSlice 1 (rdInt .i64)) w v xs := R1.of_own_ints h.1 h.2
theorem OwnI.nil_ (e : TypeId) (w : World) (base : Nat) : OwnI e w base (.slice none 0 0) [] := ⟨⟨rfl, .inl ⟨rfl, rfl⟩⟩, by simp⟩
theorem OwnI.alloc {e : TypeId} {w : World} {base : Nat} {v : Value} {xs : List Int} (h : OwnI e w base v xs) (o : Obj) : OwnI e (w.alloc o) base v xs := ⟨h.1.alloc o, h.2⟩
theorem OwnI.below {e : TypeId} {w w' : World} {base : Nat} {v : Value} {xs : List Int} (h : OwnI e w base v xs) (hb : Below w.heap.size w w') : OwnI e w' base v xs := ⟨own_below h.1 hb, h.2⟩
theorem OwnI.form {e : TypeId} {w : World} {base : Nat} {v : Value} {xs : List Int} (h : OwnI e w base v xs) : ∃ A c, v = .slice A xs.length c := own_form h.1
theorem wpList_append_int {P : Program} {w : World} {ops : Array Oper} {rest : List Oper} {o : Oper} {a : Act} {Q : Exit → Act → World → Prop} (hgd : o.guard = none) (s x : Operand) (t e : TypeId) (ht : P.underlying t = some (.slice e))
    (hinfo : (P.info? e).map (fun i => (i.zero, i.size, i.bytes)) = some (some (.int .i64 0), 1, 8))
    (ho : o.op = .call { callee := .builtin .append, args := #[s, x], argTypes := #[t, t] })
    (base : Nat) (v : Value) (xs : List Int) (hs : a.eval s = v) (hown : OwnI e w base v xs)
    (G : Nat) (y : Int) (t2 : TypeId) (hx : a.eval x = .slice (some ⟨G, 0, none⟩) 1 1) (hG : w.heap[G]? = some (.cells #[.int .i64 y] t2 (0, 0))) (hwf : (Lit.int .i64 y).wf = true)
    (hl : xs.length ≤ 5864062014000) (hbase : base ≤ w.heap.size)
    (h : ∀ v' w', OwnI e w' base v' (xs ++ [y]) → Grow w v w' v' → wpList P ops Q rest (a.put o.dst v') w') : wpList P ops Q (o :: rest) a w := by
  obtain ⟨i0, hi, hz0, hz1, hz2⟩ := info_parts hinfo
  have hr : Reads w w.heap.size 1 (some ⟨G, 0, none⟩) 1 [.int .i64 y] := ⟨rfl, fun _ => ⟨_, rfl, size_of_block hG, fun j u hu => by
    rw [addr_add, cell_of_row _ G _ _ t2 (0, 0) hG]; simpa using hu⟩⟩
  refine wpList_append_any w hgd s x t ho base e i0 _ 1 8 ht hi hz0 hz1 hz2 (by rfl) (by omega) v xs.length _ hs hown.1 w.heap.size _ 1 1 [.int .i64 y] hx hr (by intro u hu; simp only [List.mem_cons, List.not_mem_nil, or_false] at hu; subst hu; rfl) (by simp only [maxLen]; omega) (by omega) hbase ?_
  intro v' w' h1 h2 h3
  refine h v' w' ⟨by simpa using h1, fun q hq => ?_⟩ ⟨h2, ?_⟩
  · rcases List.mem_append.1 hq with hq | hq
    · exact hown.2 q hq
    · simp only [List.mem_cons, List.not_mem_nil, or_false] at hq; subst hq; exact hwf
  · rcases h3 with h3 | h3
    · exact .inl h3
    · exact .inr ⟨_, h3, Nat.le_refl _⟩
end Go.Proofs.YtgdlkjahlajcpaaGreatDoor
