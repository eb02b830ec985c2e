/- wire.Encode, by contracts. -/
import Derived.Test.YtimdnfakgobadaaDoorWireC
import Derived.Deep.RegionHeld3
namespace Go.Proofs.YtimdnfakgobadaaDoor
open Go.ChangeShapes Go.WideShapes Go.ChangeAt Go.RowKit
set_option linter.unusedVariables false
set_option linter.unusedSimpArgs false

set_option maxHeartbeats 400000 in
theorem Encode_bad {w : World} {q : Bool} {A : Option Addr} {n c : Nat} {es : List Entry} (hr : R1 rdEntries w (.slice A n c) es) (hF : msgF (q, es) ≠ 0) :
    Calls Tryd.prog 15 #[.agg #[.bool q, .slice A n c]] w fun e w' => e = .returned (.tuple #[.slice none 0 0, errV (msgF (q, es))]) ∧ Below w.heap.size w w' := by
  have HF := Lib.hid (errV_ne hF)
  clear hF
  go_enter Tryd.func15, Tryd.ntmps15
  go_wp2_with (go_at_call 13; refine (Check_msg (q := q) (R1.alloc hr _)).mono ?_; rintro e w5 ⟨rfl, hb5⟩; rw [HF.out])
  go_ret2
  exact ⟨congrArg (fun x => Ending.returned (.tuple #[.slice none 0 0, x])) HF.out.symm, ((Below.refl _ _).alloc (Nat.le_refl _) _).trans (hb5.mono (by simp))⟩
theorem OwnB.made {E : TypeId} {w : World} {g : Nat} (cs : Array Value) (l : List Int) (hg : w.heap.size = g) (hcs : cs.toList = l.map (Value.int .u8)) (hr : ∀ x ∈ l, 0 ≤ x ∧ x ≤ 255) (hl : l.length ≤ maxLen) :
    OwnB E (w.alloc (.cells cs E)) g (.slice (some ⟨g, 0, none⟩) l.length l.length) l := by
  subst hg
  have hs : cs.size = l.length := by have := congrArg List.length hcs; simpa using this
  exact ⟨⟨by simp, .inr ⟨w.heap.size, l.length, cs, rfl, Nat.le_refl _, heap_alloc_new w _, Nat.le_refl _, hl, by omega, by rw [List.take_of_length_le (by simp; omega), hcs]⟩⟩, hr⟩
theorem lb_grow {G : Nat} {w w' : World} {v v' : Value} (hG : G < w.heap.size) (h : ∀ g, v.ownBlock = some g → G ≠ g) (hg : Grow w v w' v') : ∀ g, v'.ownBlock = some g → G ≠ g := by
  intro g e
  rcases hg.2 with h2 | ⟨g', h2, h3⟩
  · exact h g (by rw [← h2]; exact e)
  · rw [h2] at e; injection e with e; omega
/-- the state of a message's bytes under way: the row, and the entry's variable at block G -/
structure St (w5 : World) (G : Nat) (a t hp m : Int) (w : World) (v : Value) (L : List Int) : Prop where
  own : OwnB 5 w w5.heap.size v L
  lb : ∀ g, v.ownBlock = some g → G ≠ g
  lt : G < w.heap.size
  bel : Below w5.heap.size w5 w
  len : L.length ≤ 100000
  cells : w.cell? ⟨G, 0, none⟩ = some (.int .u32 a) ∧ w.cell? ⟨G, 2, none⟩ = some (.int .i64 t) ∧ w.cell? ⟨G, 3, none⟩ = some (.int .u32 hp) ∧ w.cell? ⟨G, 4, none⟩ = some (.int .i64 m)
theorem St.drew {w5 : World} {G : Nat} {a t hp m : Int} {w : World} {v : Value} {L : List Int} (h : St w5 G a t hp m w v L) : St w5 G a t hp m w.drew v L :=
  ⟨h.own, h.lb, h.lt, below_drewN h.bel 1, h.len, h.cells⟩
theorem St.step {w5 : World} {G : Nat} {a t hp m : Int} {w w' : World} {v v' : Value} {L L' : List Int} (h : St w5 G a t hp m w v L) (ho : OwnB 5 w' w5.heap.size v' L') (hg : Grow w v w' v') (hl : L'.length ≤ 100000) : St w5 G a t hp m w' v' L' :=
  ⟨ho, lb_grow h.lt h.lb hg, Nat.lt_of_lt_of_le h.lt hg.size, hg.below h.bel h.own.1 (Nat.le_refl _) h.bel.size, hl,
    (hg.cell h.own.1 (p := ⟨G, 0, none⟩) (B := 0) h.lt h.lb).trans h.cells.1, (hg.cell h.own.1 (p := ⟨G, 2, none⟩) (B := 0) h.lt h.lb).trans h.cells.2.1,
    (hg.cell h.own.1 (p := ⟨G, 3, none⟩) (B := 0) h.lt h.lb).trans h.cells.2.2.1, (hg.cell h.own.1 (p := ⟨G, 4, none⟩) (B := 0) h.lt h.lb).trans h.cells.2.2.2⟩
theorem put2_st {w5 : World} {G : Nat} {a t hp m : Int} {w : World} {v : Value} {L : List Int} (n : Int) (h : St w5 G a t hp m w v L) (hl : L.length ≤ 10000) (h0 : 0 ≤ n) (h1 : n ≤ 4294967295) :
    Calls Tryd.prog 26 #[v, .int .u32 n, .int .i64 2] w fun e w' => ∃ v', e = .returned v' ∧ St w5 G a t hp m w' v' (L ++ [n / 256 % 256, n % 256]) :=
  (put2_any h.own h0 h1 (by omega) h.bel.size).mono fun _ _ ⟨v', he, ho, hg⟩ => ⟨v', he, h.step ho hg (by simp; omega)⟩
theorem put4_st {w5 : World} {G : Nat} {a t hp m : Int} {w : World} {v : Value} {L : List Int} (n : Int) (h : St w5 G a t hp m w v L) (hl : L.length ≤ 10000) (h0 : 0 ≤ n) (h1 : n ≤ 4294967295) :
    Calls Tryd.prog 26 #[v, .int .u32 n, .int .i64 4] w fun e w' => ∃ v', e = .returned v' ∧ St w5 G a t hp m w' v' (L ++ be4 n) :=
  (put4_any h.own h0 h1 (by omega) h.bel.size).mono fun _ _ ⟨v', he, ho, hg⟩ => ⟨v', he, h.step ho hg (by simp [be4]; omega)⟩
set_option maxRecDepth 100000 in
set_option maxHeartbeats 2000000 in
theorem Encode_ok {w : World} {q : Bool} {A : Option Addr} {n c : Nat} {es : List Entry} (hr : R1 rdEntries w (.slice A n c) es) (hF : msgF (q, es) = 0) :
    Calls Tryd.prog 15 #[.agg #[.bool q, .slice A n c]] w fun e w' => ∃ v, e = .returned (.tuple #[v, .nilIface]) ∧ R1 rdBytes w' v (msgB (q, es)) ∧ Below w.heap.size w w' := by
  obtain ⟨hn, hnc, hcm⟩ := RdSlice.len hr
  have hnm : n ≤ 9223372036854775807 := by unfold maxLen at hcm; omega
  obtain ⟨hn25, hall⟩ := msgF_zero.1 hF
  simp only at hn25 hall
  have HN := Lib.hid hn
  have h25 : n ≤ 25 := by omega
  have HF := Lib.hid hF
  have HALL := Lib.hid hall
  clear hn hcm hn25 hF hall
  go_enter Tryd.func15, Tryd.ntmps15
  obtain ⟨h0, hh0⟩ : ∃ h0 : Int, h0 = if q then 1 else 2 := ⟨_, rfl⟩
  have HH := Lib.hid hh0; clear hh0
  cases q
  all_goals
    go_wp2_with (go_at_call 13; refine (Check_msg (R1.alloc hr _)).mono ?_; rintro e w5 ⟨rfl, hb5⟩; rw [HF.out, errV_zero]; have d0 : w5.cell? ⟨w.heap.size, 0, none⟩ = some _ := (hb5.cell (by simp)).trans (by simp; rfl); have d1 : w5.cell? ⟨w.heap.size, 1, none⟩ = some (.slice A n c) := (hb5.cell (by simp)).trans (by simp); have hz5 : w.heap.size < w5.heap.size := by have := hb5.size; simp at this; omega)
    have hb6 : Below w.heap.size w w5 := ((Below.refl _ _).alloc (Nat.le_refl _) _).trans (hb5.mono (by simp))
    have HR5 := Lib.hid (R1.below hr hb6)
    clear hb5 hr
    go_loopw [5, 23] (fun u i wr => ∃ (k : Nat) (L : List Int), k ≤ n ∧ i = .int .i64 k ∧ L = [h0, 2, 0, 0] ++ (es.take k).flatMap entB ∧ OwnB 5 wr w5.heap.size u L ∧ Below w5.heap.size w5 wr) (fun _ i _ => n - (intOf i).toNat)
    case atStart =>
      refine ⟨0, [h0, 2, 0, 0], Nat.zero_le _, rfl, by simp, OwnB.made _ _ rfl ?_ ?_ ?_, (Below.refl _ _).alloc (Nat.le_refl _) _⟩
      · have := HH.out; simp at this; rw [this]; rfl
      · have := HH.out; simp at this; subst this; simp
      · unfold maxLen; simp
    case round =>
      obtain ⟨k, L, hk, rfl, hL, hown, hbel⟩ := hrel
      have HL := Lib.hid hL; clear hL
      obtain ⟨A1, cL, rfl⟩ := own_form hown.1
      have hz := hbel.size
      by_cases hlt : k < n
      · obtain ⟨b, o, a, l, t, hp, m, rfl, hb, HX, ⟨w0, w1, w2, w3, w4⟩, c0, c1, c2, c3, c4⟩ := RdSlice.atE (R1.below HR5.out hbel) hlt
        have hef := HALL.out _ (List.mem_of_getElem? HX.out)
        obtain ⟨⟨l0, l1, hlow⟩, t0, t1, m0, m1⟩ := entF_zero.1 hef
        obtain ⟨ln, rfl⟩ := Int.eq_ofNat_of_zero_le l0
        have ba := bounds_u32 w0
        have bh := bounds_u32 w3
        have bm := maskV_rng ln
        have HLB : Hid (∀ g, (Value.slice A1 L.length cL).ownBlock = some g → wr.heap.size ≠ g) := Lib.hid (fun g hg => Nat.ne_of_gt (hown.1.lt g hg).2)
        have hLl : L.length ≤ 1000 := by
          rw [HL.out]
          have hl : ∀ es : List Entry, (es.flatMap entB).length = 20 * es.length := fun es => by
            induction es with
            | nil => rfl
            | cons e r ih => rw [List.flatMap_cons, List.length_append, ih, entB_length]; simp; omega
          have : (es.take k).length ≤ k := List.length_take_le _ _
          rw [List.length_append, hl]; simp; omega
        clear hef hlow w0 w1 w2 w3 w4 d0 d1
        go_wp2_with (go_at_call 8; refine (Mask_in _ _ (by omega)).mono ?_; rintro e w' ⟨rfl, rfl⟩)
        have st0 : St w5 wr.heap.size a t hp m (wr.alloc (.cells #[.int .u32 a, .int .i64 (ln : Int), .int .i64 t, .int .u32 hp, .int .i64 m] 58)) (.slice A1 L.length cL) L := ⟨hown.alloc_ _, HLB.out, by simp, hbel.alloc hbel.size _, by omega, by simp, by simp, by simp, by simp⟩
        obtain ⟨g0, g2, g3, g4⟩ := st0.cells
        have ST0 := Lib.hid st0
        generalize wr.alloc (.cells #[.int .u32 a, .int .i64 (ln : Int), .int .i64 t, .int .u32 hp, .int .i64 m] 58) = W0 at *
        clear hown hbel c0 c1 c2 c3 c4 st0
        have wt : IntKind.u32.wrap t = t := IntWalk.u32_in _ ⟨by omega, by omega⟩
        have wm : IntKind.u32.wrap m = m := IntWalk.u32_in _ ⟨by omega, by omega⟩
        go_region_held3 (fun w' => w'.cell? ⟨wr.heap.size, 0, none⟩ = some (.int .u32 a) ∧ w'.cell? ⟨wr.heap.size, 2, none⟩ = some (.int .i64 t) ∧ w'.cell? ⟨wr.heap.size, 3, none⟩ = some (.int .u32 hp) ∧ w'.cell? ⟨wr.heap.size, 4, none⟩ = some (.int .i64 m)) (go_keep)
          (first
            | (go_at_call 26; (with_reducible refine (put2_st 2 ST0.out.drew (by first | omega | (simp only [List.length_append, List.length_cons, List.length_nil, be4]; omega)) (by omega) (by omega)).mono ?_); rintro e w6 ⟨v6, rfl, st6⟩; obtain ⟨g60, g62, g63, g64⟩ := st6.cells; have ST6 := Lib.hid st6; clear st6)
            | (go_at_call 26; (with_reducible refine (put2_st t ST6.out (by first | omega | (simp only [List.length_append, List.length_cons, List.length_nil, be4]; omega)) (by omega) (by omega)).mono ?_); rintro e w7 ⟨v7, rfl, st7⟩; obtain ⟨g70, g72, g73, g74⟩ := st7.cells; have ST7 := Lib.hid st7; clear st7)
            | fail)
        go_wp2
        go_region_held3 (fun w' => w'.cell? ⟨wr.heap.size, 0, none⟩ = some (.int .u32 a) ∧ w'.cell? ⟨wr.heap.size, 2, none⟩ = some (.int .i64 t) ∧ w'.cell? ⟨wr.heap.size, 3, none⟩ = some (.int .u32 hp) ∧ w'.cell? ⟨wr.heap.size, 4, none⟩ = some (.int .i64 m)) (go_keep)
          (first
            | (go_at_call 26; (with_reducible refine (put4_st a ST7.out.drew (by first | omega | (simp only [List.length_append, List.length_cons, List.length_nil, be4]; omega)) (by omega) (by omega)).mono ?_); rintro e w8 ⟨v8, rfl, st8⟩; obtain ⟨g80, g82, g83, g84⟩ := st8.cells; have ST8 := Lib.hid st8; clear st8)
            | (go_at_call 26; (with_reducible refine (put4_st (maskV ln) ST8.out (by first | omega | (simp only [List.length_append, List.length_cons, List.length_nil, be4]; omega)) (by omega) (by omega)).mono ?_); rintro e w9 ⟨v9, rfl, st9⟩; obtain ⟨g90, g92, g93, g94⟩ := st9.cells; have ST9 := Lib.hid st9; clear st9)
            | (go_at_call 26; (with_reducible refine (put4_st hp ST9.out (by first | omega | (simp only [List.length_append, List.length_cons, List.length_nil, be4]; omega)) (by omega) (by omega)).mono ?_); rintro e w10 ⟨v10, rfl, st10⟩; obtain ⟨g100, g102, g103, g104⟩ := st10.cells; have ST10 := Lib.hid st10; clear st10)
            | (go_at_call 26; (with_reducible refine (put4_st m ST10.out (by first | omega | (simp only [List.length_append, List.length_cons, List.length_nil, be4]; omega)) (by omega) (by omega)).mono ?_); rintro e w11 ⟨v11, rfl, st11⟩; obtain ⟨g110, g112, g113, g114⟩ := st11.cells; have ST11 := Lib.hid st11; clear st11)
            | fail)
        go_wp2
        clear wt wm
        have hlast : L ++ [2 / 256 % 256, 2 % 256] ++ [t / 256 % 256, t % 256] ++ be4 a ++ be4 (maskV ln) ++ be4 hp ++ be4 m = [h0, 2, 0, 0] ++ (es.take (k + 1)).flatMap entB := by
          rw [List.take_add_one, HX.out, HL.out]
          simp [entB]
        exact ⟨⟨k + 1, _, by omega, by go_num, hlast, ST11.out.own, ST11.out.bel⟩, by simp [intOf]; omega⟩
      · have e : k = n := by omega
        subst e
        have HO := Lib.hid hown
        clear hown
        have h2 := HH.out
        simp at h2
        subst h2
        go_wp2
        go_ret2
        refine ⟨_, rfl, ?_, hb6.trans (hbel.mono (by omega))⟩
        have h1 := HO.out
        rw [HL.out, List.take_of_length_le (by have := HN.out; omega)] at h1
        exact R1.of_own_ints (e := 5) (base := w5.heap.size) (n := L.length) (by rw [HL.out, List.take_of_length_le (by have := HN.out; omega)]; exact h1.1) (fun x hx => WalkArith.wf_u8 (h1.2 x hx))
end Go.Proofs.YtimdnfakgobadaaDoor
