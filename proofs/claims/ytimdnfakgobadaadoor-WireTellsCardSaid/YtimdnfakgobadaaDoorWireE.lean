/- wire.filled and wire.entry, by contracts. -/
import Derived.Test.YtimdnfakgobadaaDoorWireC
import Derived.Test.YtimdnfakgobadaaDoorSub
import Derived.Laws.CopyOwn
import Derived.Deep.RegionHeld3
namespace Go.Proofs.YtimdnfakgobadaaDoor
open Go.ChangeShapes Go.WideShapes Go.ChangeAt Go.RowKit
set_option linter.unusedVariables false
set_option linter.unusedSimpArgs false

theorem byte_one : (Tryd.prog.info? 5).map (·.size) = some 1 := by kernel_rfl
theorem wf_bytes {l : List Int} (h : byteL l) : ∀ x ∈ l, (Lit.int .u8 x).wf = true := fun x hx => WalkArith.wf_u8 (h x hx)
theorem heap_alloc_new_past (w : World) (o o' : Obj) : ((w.alloc o).alloc o').heap[w.heap.size]? = some o :=
  (((Below.refl (w.heap.size + 1) (w.alloc o)).alloc (by simp) o').block w.heap.size (by omega)).trans (heap_alloc_new w o)
theorem wpList_copy_bytes {P : Program} {w : World} {ops : Array Oper} {rest : List Oper} {o : Oper} {a : Act} {Q : Exit → Act → World → Prop} (hgd : o.guard = none) (d s : Operand) (T E : TypeId)
    (ho : o.op = .call { callee := .builtin .copy, args := #[d, s], argTypes := #[T, T] }) (hu : P.underlying T = some (.slice E)) (hsz : (P.info? E).map (·.size) = some 1)
    (gb off dLen dCap : Nat) (A : Option Addr) (n c : Nat) (hd : a.eval d = .slice (some ⟨gb, off, none⟩) dLen dCap) (hs : a.eval s = .slice A n c)
    (D l : List Int) (hg : w.heap[gb]? = some (.cells (D.map (Value.int .u8)).toArray E (0, 0))) {ok : Nat → Prop} (hr : rdBytes w ok [.slice A n c] l) (hfit : off + dLen ≤ D.length)
    (B : Nat) (w0 : World) (hb : Below B w0 w) (hBg : B ≤ gb)
    (h : ∀ k w', Hid (w'.heap[gb]? = some (.cells ((splice D off (l.take dLen)).map (Value.int .u8)).toArray E (0, 0))) → Below B w0 w' → wpList P ops Q rest (a.put o.dst (goInt k)) w') : wpList P ops Q (o :: rest) a w := by
  have hn := hr.len.1
  have hl : (l.take dLen).length = Nat.min n dLen := by rw [List.length_take, ← hn, Nat.min_comm]
  refine wpList_copy_splice hgd d s T T ho E hu hsz _ _ _ _ _ _ hd hs gb off (D.map (Value.int .u8)) E hg ((l.take dLen).map (Value.int .u8)) (by rw [List.length_map]; exact hl) ?_ ?_ (one_ints _ _) B w0 hb hBg ?_
  · intro h0
    rw [List.length_map] at h0
    have hn0 : 0 < n := by
      have h1 : Nat.min n dLen ≤ n := Nat.min_le_left _ _
      omega
    obtain ⟨b, o, rfl, _⟩ := RdSlice.some_ hr hn0
    refine ⟨rfl, _, rfl, fun j v hj => ?_⟩
    rw [List.getElem?_map] at hj
    cases hx : (l.take dLen)[j]? with
    | none => rw [hx] at hj; simp at hj
    | some x =>
      rw [hx] at hj
      simp only [Option.map_some, Option.some.injEq] at hj
      have hjl := (List.getElem?_eq_some_iff.1 hx).1
      rw [List.length_take] at hjl
      rw [List.getElem?_take_of_lt (by omega)] at hx
      obtain ⟨b', o', x', e, _, HX, _, hc⟩ := RdSlice.atI hr (i := j) (by omega)
      simp only [Option.some.injEq, Addr.mk.injEq] at e
      obtain ⟨rfl, rfl, _⟩ := e
      have := HX.out
      rw [hx] at this
      injection this with this
      rw [addr_add, hc, ← hj, this]
  · rw [List.length_map, List.length_map, hl]
    have : Nat.min n dLen ≤ dLen := Nat.min_le_right _ _
    omega
  · intro w' H hb'
    refine h _ w' (Lib.hid ?_) hb'
    have h1 := H.out
    have e : splice (D.map (Value.int .u8)) off ((l.take dLen).map (Value.int .u8)) = (splice D off (l.take dLen)).map (Value.int .u8) := by simp [splice]
    rw [e] at h1
    exact h1
theorem filled_byte {p : List Int} (h : byteL p) : byteL (filled p) := by
  intro x hx
  unfold filled at hx
  rcases List.mem_append.1 hx with hx | hx
  · exact h x hx
  · have h2 := List.mem_of_mem_drop hx
    split at h2 <;> simp [dflt, dflt0] at h2 <;> omega
theorem filled_length {p : List Int} (h : p.length ≤ 20) : (filled p).length = 20 := by
  unfold filled
  rw [List.length_append, List.length_drop]
  split <;> simp [dflt, dflt0] <;> omega
theorem splice_zero (p d : List Int) : splice d 0 p = p ++ d.drop p.length := by simp [splice]
theorem filled_post {w : World} {gb : Nat} {l D : List Int} (hl : l.length ≤ 20) (hb : byteL l) (h : w.heap[gb]? = some (.cells ((splice D 0 (l.take 20)).map (Value.int .u8)).toArray 5 (0, 0))) (he : filled l = l ++ D.drop l.length) :
    R1 rdBytes w (.slice (some ⟨gb, 0, none⟩) 20 20) (filled l) := by
  rw [List.take_of_length_le hl, splice_zero, ← he] at h
  have h2 := filled_length hl
  exact R1.of_block h (by simp [h2]) (by simp) (by decide) (wf_bytes (filled_byte hb))
set_option maxHeartbeats 1000000 in
theorem filled_any {w : World} {A : Option Addr} {n c : Nat} {l : List Int} (hr : R1 rdBytes w (.slice A n c) l) (h0 : 0 < n) (h20 : n ≤ 20) :
    Calls Tryd.prog 30 #[.slice A n c] w fun e w' => ∃ A', e = .returned (.slice A' 20 20) ∧ R1 rdBytes w' (.slice A' 20 20) (filled l) ∧ Below w.heap.size w w' := by
  have HB := Lib.hid (rdBytes_rng hr)
  obtain ⟨hn, hnc, hcm⟩ := RdSlice.len hr
  have hn20 : l.length ≤ 20 := by omega
  have HN := Lib.hid hn
  have HN20 := Lib.hid hn20
  clear hn hcm hn20
  obtain ⟨b, o, rfl, hb⟩ := RdSlice.some_ hr h0
  obtain ⟨m, rfl⟩ : ∃ m, n = m + 1 := ⟨n - 1, by omega⟩
  obtain ⟨_, _, y, e, _, HY, wy, hcy⟩ := RdSlice.atI hr (i := m) (by omega)
  simp only [Option.some.injEq, Addr.mk.injEq] at e
  obtain ⟨rfl, rfl, _⟩ := e
  have by_ := bounds_u8 wy
  have hg : Hid (g l (l.length - 1) = y) := Lib.hid (by unfold g; rw [← HN.out]; simp [HY.out])
  have i0 : (0 : Int) ≤ (m : Int) := by omega
  have i1 : (m : Int) < ((m + 1 : Nat) : Int) := by omega
  have e1 : (((m + 1 : Nat) : Int) - 1) = m := by omega
  by_cases ht : 8 < m + 1 ∧ m + 1 < 12 ∧ y ≠ 255
  · obtain ⟨h8, h12, h255⟩ := ht
    have h255' : (y != 255) = true := by simpa [bne] using h255
    have HE : Hid (filled l = l ++ dflt0.drop l.length) := Lib.hid (by unfold filled; rw [if_pos ⟨by have := HN.out; omega, by have := HN.out; omega, by rw [hg.out]; exact h255⟩])
    clear h255
    have h8' : (8 : Int) < ((m + 1 : Nat) : Int) := by omega
    have h12' : ((m + 1 : Nat) : Int) < 12 := by omega
    go_enter Tryd.func30, Tryd.ntmps30
    go_wp2_with (first
      | (refine wpList_copy_bytes rfl (.tmp 23) (.tmp 24) 36 5 rfl Tryd.underlying36 byte_one w.heap.size 8 4 12 _ 4 4 rfl rfl dflt [0, 0, 0, 0] (heap_alloc_new_past w _ _) (new_ints (k := .u8) (n := 4) (xs := [0, 0, 0, 0]) (by simp) rfl rfl (by decide) (by decide)) (by decide) w.heap.size w (((Below.refl _ _).alloc (Nat.le_refl _) _).alloc (by simp) _) (Nat.le_refl _) ?_; intro k1 w1 H1 hb1; have hz1 := hb1.size)
      | (refine wpList_copy_bytes rfl (.tmp 26) (.tmp 27) 36 5 rfl Tryd.underlying36 byte_one w.heap.size 0 20 20 _ _ _ rfl rfl dflt0 l H1.out (RdLaw.keep hr (fun p hp => hb1.cell hp)) (by decide) w.heap.size w hb1 (Nat.le_refl _) ?_; intro k2 w2 H2 hb2)
      | fail)
    go_ret
    exact ⟨_, rfl, filled_post HN20.out HB.out H2.out HE.out, hb2⟩
  · have HE : Hid (filled l = l ++ dflt.drop l.length) := Lib.hid (by
      unfold filled
      rw [if_neg (fun hh => ht ⟨by have := HN.out; omega, by have := HN.out; omega, by rw [← hg.out]; exact hh.2.2⟩)])
    have ht' : 8 < m + 1 → m + 1 < 12 → (y != 255) = false := fun h1 h2 => by
      by_cases hy : y = 255
      · simp [hy]
      · exact absurd ⟨h1, h2, hy⟩ ht
    clear ht
    by_cases h8 : 8 < m + 1
    · by_cases h12 : m + 1 < 12
      · have hy := ht' h8 h12
        clear ht'
        have h8' : (8 : Int) < ((m + 1 : Nat) : Int) := by omega
        have h12' : ((m + 1 : Nat) : Int) < 12 := by omega
        go_enter Tryd.func30, Tryd.ntmps30
        go_wp2_with (refine wpList_copy_bytes rfl (.tmp 26) (.tmp 27) 36 5 rfl Tryd.underlying36 byte_one w.heap.size 0 20 20 _ _ _ rfl rfl dflt l (heap_alloc_new w _) (R1.alloc hr _) (by decide) w.heap.size w ((Below.refl _ _).alloc (Nat.le_refl _) _) (Nat.le_refl _) ?_; intro k2 w2 H2 hb2)
        go_ret
        exact ⟨_, rfl, filled_post HN20.out HB.out H2.out HE.out, hb2⟩
      · clear ht'
        have h8' : (8 : Int) < ((m + 1 : Nat) : Int) := by omega
        have h12' : ¬ ((m + 1 : Nat) : Int) < 12 := by omega
        go_enter Tryd.func30, Tryd.ntmps30
        go_wp2_with (refine wpList_copy_bytes rfl (.tmp 26) (.tmp 27) 36 5 rfl Tryd.underlying36 byte_one w.heap.size 0 20 20 _ _ _ rfl rfl dflt l (heap_alloc_new w _) (R1.alloc hr _) (by decide) w.heap.size w ((Below.refl _ _).alloc (Nat.le_refl _) _) (Nat.le_refl _) ?_; intro k2 w2 H2 hb2)
        go_ret
        exact ⟨_, rfl, filled_post HN20.out HB.out H2.out HE.out, hb2⟩
    · clear ht'
      have h8' : ¬ (8 : Int) < ((m + 1 : Nat) : Int) := by omega
      go_enter Tryd.func30, Tryd.ntmps30
      go_wp2_with (refine wpList_copy_bytes rfl (.tmp 26) (.tmp 27) 36 5 rfl Tryd.underlying36 byte_one w.heap.size 0 20 20 _ _ _ rfl rfl dflt l (heap_alloc_new w _) (R1.alloc hr _) (by decide) w.heap.size w ((Below.refl _ _).alloc (Nat.le_refl _) _) (Nat.le_refl _) ?_; intro k2 w2 H2 hb2)
      go_ret
      exact ⟨_, rfl, filled_post HN20.out HB.out H2.out HE.out, hb2⟩

theorem num_4 {p : List Int} (h : p.length = 20) : num ((p.drop 4).take 4) = n4 p 4 := by
  obtain ⟨_, _, _, _, _, _, _, _, _, _, _, _, _, _, _, _, _, _, _, _, rfl⟩ := len20 h; simp [num, n4, num4, g]
theorem num_8 {p : List Int} (h : p.length = 20) : num ((p.drop 8).take 4) = n4 p 8 := by
  obtain ⟨_, _, _, _, _, _, _, _, _, _, _, _, _, _, _, _, _, _, _, _, rfl⟩ := len20 h; simp [num, n4, num4, g]
theorem num_12 {p : List Int} (h : p.length = 20) : num ((p.drop 12).take 4) = n4 p 12 := by
  obtain ⟨_, _, _, _, _, _, _, _, _, _, _, _, _, _, _, _, _, _, _, _, rfl⟩ := len20 h; simp [num, n4, num4, g]
theorem num_16 {p : List Int} (h : p.length = 20) : num ((p.drop 16).take 4) = n4 p 16 := by
  obtain ⟨_, _, _, _, _, _, _, _, _, _, _, _, _, _, _, _, _, _, _, _, rfl⟩ := len20 h; simp [num, n4, num4, g]
theorem num_2 {p : List Int} (h : p.length = 20) : num ((p.drop 2).take 2) = g p 2 * 256 + g p 3 := by
  obtain ⟨_, _, _, _, _, _, _, _, _, _, _, _, _, _, _, _, _, _, _, _, rfl⟩ := len20 h; simp [num, g]
theorem num_0 {p : List Int} (h : p.length = 20) : num (p.take 2) = g p 0 * 256 + g p 1 := by
  obtain ⟨_, _, _, _, _, _, _, _, _, _, _, _, _, _, _, _, _, _, _, _, rfl⟩ := len20 h; simp [num, g]
theorem n4_rng {p : List Int} (h : p.length = 20) (hb : byteL p) (i : Nat) (hi : i + 3 < 20) : 0 ≤ n4 p i ∧ n4 p i ≤ 4294967295 := by
  have hg : ∀ j, j < 20 → 0 ≤ g p j ∧ g p j ≤ 255 := fun j hj => by
    unfold g
    rw [List.getD_eq_getElem?_getD, List.getElem?_eq_getElem (by omega)]
    exact hb _ (List.getElem_mem _)
  exact num4_rng (hg _ (by omega)) (hg _ (by omega)) (hg _ (by omega)) (hg _ (by omega))
theorem g_rng {p : List Int} (hb : byteL p) (j : Nat) : 0 ≤ g p j ∧ g p j ≤ 255 := by
  unfold g
  rw [List.getD_eq_getElem?_getD]
  cases h : p[j]? with
  | none => simp
  | some x => exact hb x (List.mem_of_getElem? h)
/-- an entry as a value -/
def entC (e : Entry) : List Value := [.int .u32 e.1.1, .int .i64 e.1.2, .int .i64 e.2.1, .int .u32 e.2.2.1, .int .i64 e.2.2.2]
def entWf (e : Entry) : Prop := (Lit.int .u32 e.1.1).wf = true ∧ (Lit.int .i64 e.1.2).wf = true ∧ (Lit.int .i64 e.2.1).wf = true ∧ (Lit.int .u32 e.2.2.1).wf = true ∧ (Lit.int .i64 e.2.2.2).wf = true
theorem rd_entC {w : World} {ok : Nat → Prop} {e : Entry} (h : entWf e) : rdEntry w ok (entC e) e :=
  ⟨[_, _], _, rfl, ⟨[_], _, rfl, ⟨rfl, h.1⟩, ⟨rfl, h.2.1⟩⟩, [_], _, rfl, ⟨rfl, h.2.2.1⟩, [_], _, rfl, ⟨rfl, h.2.2.2.1⟩, ⟨rfl, h.2.2.2.2⟩⟩
theorem R1.one_entry {w : World} {g : Nat} {e : Entry} {t : TypeId} (hg : w.heap[g]? = some (.cells #[.int .u32 e.1.1, .int .i64 e.1.2, .int .i64 e.2.1, .int .u32 e.2.2.1, .int .i64 e.2.2.2] t (0, 0))) (h : entWf e) : R1 rdEntries w (.slice (some ⟨g, 0, none⟩) 1 1) [e] := by
  have hlt : g < w.heap.size := by
    rcases Nat.lt_or_ge g w.heap.size with h | h
    · exact h
    · rw [Array.getElem?_eq_none h] at hg; cases hg
  refine ⟨_, 1, rfl, Nat.le_refl _, by decide, fun _ => ⟨g, 0, rfl, hlt, fun i x hi => ?_⟩⟩
  match i, hi with
  | 0, hi =>
    simp only [List.getElem?_cons_zero, Option.some.injEq] at hi
    subst hi
    refine ⟨entC e, rfl, rd_entC h, fun j u hu => ?_⟩
    rw [cell_of_row _ g _ _ t (0, 0) hg]
    simpa [entC] using hu
theorem entF_one (q : Bool) (e : Entry) : msgF (q, [e]) = entF e := by
  unfold msgF entsF
  rw [if_neg (by simp)]
  by_cases h : entF e = 0
  · rw [if_pos h, h]; rfl
  · rw [if_neg h]
theorem entOf_wf {p : List Int} (h : p.length = 20) (hb : byteL p) : entWf (entOf p) := by
  have hl : lenOf (n4 p 8) ≤ 32 ∧ 0 ≤ lenOf (n4 p 8) := by
    unfold lenOf
    have := maskL_le (n4 p 8)
    split <;> omega
  have h2 := g_rng hb 2
  have h3 := g_rng hb 3
  have h16 := n4_rng h hb 16 (by omega)
  exact ⟨WalkArith.wf_u32 (n4_rng h hb 4 (by omega)), WalkArith.wf_i64 (by simp only [entOf]; omega), WalkArith.wf_i64 (by simp only [entOf]; omega), WalkArith.wf_u32 (n4_rng h hb 12 (by omega)), WalkArith.wf_i64 (by simp only [entOf]; omega)⟩
end Go.Proofs.YtimdnfakgobadaaDoor
