/- The reference's BytesOf. -/
import Derived.Test.YtimdnfakgobadaaDoorWireR
namespace Go.Proofs.YtimdnfakgobadaaDoor
open Go.ChangeShapes Go.WideShapes Go.ChangeAt Go.RowKit
set_option linter.unusedVariables false
set_option linter.unusedSimpArgs false

/-- the bytes under way, and the entry's variable at block G -/
structure SB (W5 : World) (G : Nat) (a l t hp m : Int) (w : World) (v : Value) (L : List Int) : Prop where
  own : OwnB 5 w W5.heap.size v L
  lb : ∀ g, v.ownBlock = some g → G ≠ g
  bel : Below W5.heap.size W5 w
  blk : w.heap[G]? = some (.cells #[.int .u32 a, .int .i64 l, .int .i64 t, .int .u32 hp, .int .i64 m] 58 (0, 0))
theorem SB.step {W5 : World} {G : Nat} {a l t hp m : Int} {w w' : World} {v v' : Value} {L L' : List Int} (h : SB W5 G a l t hp m w v L) (ho : OwnB 5 w' W5.heap.size v' L') (hg : Grow w v w' v') : SB W5 G a l t hp m w' v' L' :=
  ⟨ho, lb_grow (size_of_block h.blk) h.lb hg, hg.below h.bel h.own.1 (Nat.le_refl _) h.bel.size, (hg.1.block G (size_of_block h.blk) (fun e => h.lb _ e.symm rfl)).trans h.blk⟩
theorem OwnB.below_ {E : TypeId} {w w' : World} {base : Nat} {v : Value} {l : List Int} (h : OwnB E w base v l) (hb : Below w.heap.size w w') : OwnB E w' base v l := by
  refine ⟨h.1.kept (row := none) ⟨hb.os, hb.tape, hb.output, hb.size, fun k hk _ => hb.block k hk⟩ ?_, h.2⟩
  cases hv : v.ownBlock with
  | none => exact .inl rfl
  | some k => exact .inr (by simp)
theorem SB.below {W5 : World} {G : Nat} {a l t hp m : Int} {w w' : World} {v : Value} {L : List Int} (h : SB W5 G a l t hp m w v L) (hb : Below w.heap.size w w') : SB W5 G a l t hp m w' v L :=
  ⟨h.own.below_ hb, h.lb, h.bel.trans (hb.mono h.bel.size), (hb.block _ (size_of_block h.blk)).trans h.blk⟩
theorem four_cells (t : Int) (h0 : 0 ≤ t) (h1 : t ≤ 65535) :
    (#[.int .u8 0, .int .u8 2, .int .u8 (t / 256), .int .u8 (t % 256)] : Array Value).toList = ([0, 2, t / 256 % 256, t % 256] : List Int).map (Value.int .u8) := by
  have e : t / 256 % 256 = t / 256 := by omega
  simp [e]
theorem four_wf (t : Int) : ∀ x ∈ ([0, 2, t / 256 % 256, t % 256] : List Int), (Lit.int .u8 x).wf = true := fun x hx => by
  simp only [List.mem_cons, List.not_mem_nil, or_false] at hx
  refine WalkArith.wf_u8 ?_
  omega
theorem wpList_app {w : World} {ops : Array Oper} {rest : List Oper} {o : Oper} {a' : Act} {Q : Exit → Act → World → Prop} (hgd : o.guard = none) (s x : Operand)
    (ho : o.op = .call { callee := .builtin .append, args := #[s, x], argTypes := #[36, 36] })
    {W5 : World} {G : Nat} {a l t hp m : Int} {v : Value} {L : List Int} (st : SB W5 G a l t hp m w v L) (hs : a'.eval s = v)
    (A : Option Addr) (n c : Nat) (l2 : List Int) (hx : a'.eval x = .slice A n c) (hr : R1 rdBytes w (.slice A n c) l2) (hl : L.length + l2.length ≤ 100000)
    (h : ∀ A' N' c' w', SB W5 G a l t hp m w' (.slice A' N' c') (L ++ l2) → wpList Tryd.prog ops Q rest (a'.put o.dst (.slice A' N' c')) w') : wpList Tryd.prog ops Q (o :: rest) a' w := by
  refine wpList_append_bytesG w hgd s x 36 ho W5.heap.size 5 Tryd.underlying36 byte_info v L hs st.own w.heap.size A n c l2 hx (RdSlice.len hr).1 (bytes_of hr) (by omega) st.bel.size ?_
  intro v' w' ho' hg
  obtain ⟨A', c', rfl⟩ := own_form ho'.1
  exact h _ _ _ _ (st.step ho' hg)

set_option maxRecDepth 100000 in
set_option maxHeartbeats 4000000 in
theorem BytesOf_any {w : World} {q : Bool} {A : Option Addr} {n c : Nat} {es : List Entry} (hr : R1 rdEntries w (.slice A n c) es) (hF : msgF (q, es) = 0) :
    Calls Tryd.prog 14 #[.agg #[.bool q, .slice A n c]] w fun e w' => ∃ v, e = .returned v ∧ R1 rdBytes w' v (msgB (q, es)) ∧ Below w.heap.size w w' := by
  obtain ⟨hn, hnc, hcm⟩ := RdSlice.len hr
  obtain ⟨hn25, hall⟩ := msgF_zero.1 hF
  simp only at hn25 hall
  have HN := Lib.hid hn
  have h25 : n ≤ 25 := by omega
  have HALL := Lib.hid hall
  clear hn hcm hn25 hF hall
  obtain ⟨h0, hh0⟩ : ∃ h0 : Int, h0 = if q then 1 else 2 := ⟨_, rfl⟩
  have HH := Lib.hid hh0; clear hh0
  go_enter Tryd.func14, Tryd.ntmps14
  have hB5 : Below w.heap.size w (w.alloc (.cells #[.bool q, .slice A n c] 35)) := (Below.refl _ _).alloc (Nat.le_refl _) _
  have hm1 : (w.alloc (.cells #[.bool q, .slice A n c] 35)).cell? ⟨w.heap.size, 1, none⟩ = some (.slice A n c) := by simp
  have hs5 : w.heap.size < (w.alloc (.cells #[.bool q, .slice A n c] 35)).heap.size := by simp
  have HB5 := Lib.hid hB5
  have HM1 := Lib.hid hm1
  have HS5 := Lib.hid hs5
  clear hB5 hm1 hs5
  obtain ⟨W5, hW5⟩ : ∃ W5, W5 = w.alloc (.cells #[.bool q, .slice A n c] 35) := ⟨_, rfl⟩
  have HW5 := Lib.hid hW5
  rw [← hW5] at HB5 HM1 HS5
  clear hW5
  cases q
  all_goals
    go_wp2
    go_loopw [3, 4] (fun u i wr => ∃ (k : Nat) (L : List Int) (A1 : Option Addr) (N cL : Nat), k ≤ n ∧ i = .int .i64 k ∧ u = .slice A1 N cL ∧ L = [h0, 2, 0, 0] ++ (es.take k).flatMap entB ∧ OwnB 5 wr W5.heap.size u L ∧ Below W5.heap.size W5 wr) (fun _ i _ => n - (intOf i).toNat)
    case atStart =>
      refine ⟨0, [h0, 2, 0, 0], _, _, _, Nat.zero_le _, rfl, rfl, by simp, ?_, ?_⟩
      · rw [HW5.out, World.size_alloc]
        refine OwnB.made _ [h0, 2, 0, 0] (by simp) ?_ ?_ ?_
        · have := HH.out; simp at this; rw [this]; rfl
        · have := HH.out; simp at this; subst this; simp
        · unfold maxLen; simp
      · rw [HW5.out]; exact (Below.refl _ _).alloc (Nat.le_refl _) _
    case round =>
      obtain ⟨k, L, A1, N, cL, hk, rfl, rfl, hL, hown, hbel⟩ := hrel
      have HL := Lib.hid hL; clear hL
      have hm1 : wr.cell? ⟨w.heap.size, 1, none⟩ = some (.slice A n c) := (hbel.cell HS5.out).trans HM1.out
      have hz : w.heap.size < wr.heap.size := Nat.lt_of_lt_of_le HS5.out hbel.size
      by_cases hlt : k < n
      · obtain ⟨b, o, a, l, t, hp, m, rfl, hb, HX, ⟨w0, w1, w2, w3, w4⟩, c0, c1, c2, c3, c4⟩ := RdSlice.atE (R1.below hr (HB5.out.trans (hbel.mono HB5.out.size))) hlt
        have hef := HALL.out _ (List.mem_of_getElem? HX.out)
        obtain ⟨⟨l0, l1, hlow⟩, t0, t1, m0, m1'⟩ := entF_zero.1 hef
        obtain ⟨ln, rfl⟩ := Int.eq_ofNat_of_zero_le l0
        have ba := bounds_u32 w0
        have bh := bounds_u32 w3
        have bm := maskV_rng ln
        have hLl : L.length ≤ 1000 := by
          rw [HL.out]
          have hl : ∀ es : List Entry, (es.flatMap entB).length = 20 * es.length := fun es => by
            induction es with
            | nil => rfl
            | cons e r ih => rw [List.flatMap_cons, List.length_append, ih, entB_length]; simp; omega
          have : (es.take k).length ≤ k := List.length_take_le _ _
          rw [List.length_append, hl]; simp; omega
        have HLL := Lib.hid hLl
        have st0 : SB W5 wr.heap.size a (ln : Int) t hp m (wr.alloc (.cells #[.int .u32 a, .int .i64 (ln : Int), .int .i64 t, .int .u32 hp, .int .i64 m] 58)) (.slice A1 N cL) L := ⟨hown.alloc_ _, fun g hg => Nat.ne_of_gt (hown.1.lt g hg).2, hbel.alloc hbel.size _, heap_alloc_new _ _⟩
        have ST0 := Lib.hid st0
        clear hef hlow w0 w1 w2 w3 w4 hown hbel hLl st0
        go_wp2_with (first
          | (at_builtin; refine wpList_app rfl (.tmp 23) (.tmp 32) rfl (ST0.out.below ((Below.refl _ _).alloc (Nat.le_refl _) _)) rfl _ 4 4 [0, 2, t / 256 % 256, t % 256] rfl (new_ints (k := .u8) (by simp) rfl (four_cells t (by omega) (by omega)) (by decide) (four_wf t)) (by have := HLL.out; simp only [List.length_cons, List.length_nil]; omega) ?_; intro A20 N20 k20 w20 st20; obtain ⟨g200, g201, g202, g203, g204⟩ := row5 st20.blk; have hz20 := size_of_block st20.blk; have m20 : w20.cell? ⟨w.heap.size, 1, none⟩ = some (.slice (some ⟨b, o, none⟩) n c) := (st20.bel.cell HS5.out).trans HM1.out; have ST20 := Lib.hid st20; clear st20)
          | (go_at_call 25; (with_reducible refine (Four_any a _ (by omega) (by omega)).mono ?_); rintro e w21 ⟨F21, rfl, hr21, hb21⟩; have st21 := ST20.out.below hb21; have HR21 := Lib.hid hr21; clear hb21 hr21; obtain ⟨g210, g211, g212, g213, g214⟩ := row5 st21.blk; have hz21 := size_of_block st21.blk; have m21 : w21.cell? ⟨w.heap.size, 1, none⟩ = some (.slice (some ⟨b, o, none⟩) n c) := (st21.bel.cell HS5.out).trans HM1.out; have ST21 := Lib.hid st21; clear st21)
          | (at_builtin; refine wpList_app rfl (.tmp 34) (.tmp 38) rfl ST21.out rfl _ 4 4 (be4 a) rfl HR21.out (by have := HLL.out; simp only [List.length_append, List.length_cons, List.length_nil, be4]; omega) ?_; intro A22 N22 k22 w22 st22; obtain ⟨g220, g221, g222, g223, g224⟩ := row5 st22.blk; have hz22 := size_of_block st22.blk; have m22 : w22.cell? ⟨w.heap.size, 1, none⟩ = some (.slice (some ⟨b, o, none⟩) n c) := (st22.bel.cell HS5.out).trans HM1.out; have ST22 := Lib.hid st22; clear st22)
          | (go_at_call 7; refine (MaskOf_n ln _ (by omega)).mono ?_; rintro e w' ⟨rfl, rfl⟩)
          | (go_at_call 25; (with_reducible refine (Four_any (maskV ln) _ (by omega) (by omega)).mono ?_); rintro e w23 ⟨F23, rfl, hr23, hb23⟩; have st23 := ST22.out.below hb23; have HR23 := Lib.hid hr23; clear hb23 hr23; obtain ⟨g230, g231, g232, g233, g234⟩ := row5 st23.blk; have hz23 := size_of_block st23.blk; have m23 : w23.cell? ⟨w.heap.size, 1, none⟩ = some (.slice (some ⟨b, o, none⟩) n c) := (st23.bel.cell HS5.out).trans HM1.out; have ST23 := Lib.hid st23; clear st23)
          | (at_builtin; refine wpList_app rfl (.tmp 40) (.tmp 45) rfl ST23.out rfl _ 4 4 (be4 (maskV ln)) rfl HR23.out (by have := HLL.out; simp only [List.length_append, List.length_cons, List.length_nil, be4]; omega) ?_; intro A24 N24 k24 w24 st24; obtain ⟨g240, g241, g242, g243, g244⟩ := row5 st24.blk; have hz24 := size_of_block st24.blk; have m24 : w24.cell? ⟨w.heap.size, 1, none⟩ = some (.slice (some ⟨b, o, none⟩) n c) := (st24.bel.cell HS5.out).trans HM1.out; have ST24 := Lib.hid st24; clear st24)
          | (go_at_call 25; (with_reducible refine (Four_any hp _ (by omega) (by omega)).mono ?_); rintro e w25 ⟨F25, rfl, hr25, hb25⟩; have st25 := ST24.out.below hb25; have HR25 := Lib.hid hr25; clear hb25 hr25; obtain ⟨g250, g251, g252, g253, g254⟩ := row5 st25.blk; have hz25 := size_of_block st25.blk; have m25 : w25.cell? ⟨w.heap.size, 1, none⟩ = some (.slice (some ⟨b, o, none⟩) n c) := (st25.bel.cell HS5.out).trans HM1.out; have ST25 := Lib.hid st25; clear st25)
          | (at_builtin; refine wpList_app rfl (.tmp 47) (.tmp 50) rfl ST25.out rfl _ 4 4 (be4 hp) rfl HR25.out (by have := HLL.out; simp only [List.length_append, List.length_cons, List.length_nil, be4]; omega) ?_; intro A26 N26 k26 w26 st26; obtain ⟨g260, g261, g262, g263, g264⟩ := row5 st26.blk; have hz26 := size_of_block st26.blk; have m26 : w26.cell? ⟨w.heap.size, 1, none⟩ = some (.slice (some ⟨b, o, none⟩) n c) := (st26.bel.cell HS5.out).trans HM1.out; have ST26 := Lib.hid st26; clear st26)
          | (go_at_call 25; (with_reducible refine (Four_any m _ (by omega) (by omega)).mono ?_); rintro e w27 ⟨F27, rfl, hr27, hb27⟩; have st27 := ST26.out.below hb27; have HR27 := Lib.hid hr27; clear hb27 hr27; obtain ⟨g270, g271, g272, g273, g274⟩ := row5 st27.blk; have hz27 := size_of_block st27.blk; have m27 : w27.cell? ⟨w.heap.size, 1, none⟩ = some (.slice (some ⟨b, o, none⟩) n c) := (st27.bel.cell HS5.out).trans HM1.out; have ST27 := Lib.hid st27; clear st27)
          | (at_builtin; refine wpList_app rfl (.tmp 52) (.tmp 56) rfl ST27.out rfl _ 4 4 (be4 m) rfl HR27.out (by have := HLL.out; simp only [List.length_append, List.length_cons, List.length_nil, be4]; omega) ?_; intro A28 N28 k28 w28 st28; obtain ⟨g280, g281, g282, g283, g284⟩ := row5 st28.blk; have hz28 := size_of_block st28.blk; have m28 : w28.cell? ⟨w.heap.size, 1, none⟩ = some (.slice (some ⟨b, o, none⟩) n c) := (st28.bel.cell HS5.out).trans HM1.out; have ST28 := Lib.hid st28; clear st28)
          | fail)
        have hlast : L ++ [0, 2, t / 256 % 256, t % 256] ++ be4 a ++ be4 (maskV ln) ++ be4 hp ++ be4 m = [h0, 2, 0, 0] ++ (es.take (k + 1)).flatMap entB := by
          rw [List.take_add_one, HX.out, HL.out]
          simp [entB]
        exact ⟨⟨k + 1, _, _, _, _, by omega, by go_num, rfl, hlast, ST28.out.own, ST28.out.bel⟩, by simp [intOf]; omega⟩
      · have e : k = n := by omega
        subst e
        have HO := Lib.hid hown
        clear hown
        go_wp2
        go_ret
        refine ⟨_, rfl, ?_, HB5.out.trans (hbel.mono HB5.out.size)⟩
        have h1 := HO.out
        rw [HL.out, List.take_of_length_le (by have := HN.out; omega), HH.out] at h1
        exact h1.read
end Go.Proofs.YtimdnfakgobadaaDoor
