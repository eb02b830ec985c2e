/- The reference's tables: DropFrom. -/
import Derived.Test.YtgdlkjahlajcpaaGreatDoorAL
import Derived.Deep.DeepCutAuto
namespace Go.Proofs.YtgdlkjahlajcpaaGreatDoor
open Go.ChangeShapes Go.WideShapes Go.ChangeAt Go.RowKit
set_option linter.unusedVariables false
set_option linter.unusedSimpArgs false
theorem step_append_netT {w : World} {ops : Array Oper} {o : Oper} {a : Act} {K : Act → World → Prop} {Q : Exit → Act → World → Prop} {E : Prop} (hgd : o.guard = none) (s x : Operand) (t : TypeId) (ht : Tryz.prog.underlying t = some (.slice 47))
    (ho : o.op = .call { callee := .builtin .append, args := #[s, x], argTypes := #[t, t] })
    (base : Nat) (v : Value) (xs : List (Int × Int)) (hs : a.eval s = v) (hown : OwnN w base v xs)
    (G : Nat) (y : Int × Int) (t2 : TypeId) (hx : a.eval x = .slice (some ⟨G, 0, none⟩) 1 1) (hG : w.heap[G]? = some (.cells #[.int .u32 y.1, .int .i64 y.2] t2 (0, 0))) (hwf : wfN y)
    (hl : xs.length ≤ 8796093022000) (hbase : base ≤ w.heap.size)
    (h : ∀ v' w', OwnN w' base v' (xs ++ [y]) → Grow w v w' v' → K (a.put o.dst v') w') : if Region.wanted o (yielded ops a.tmps) = true then Oper.wp Tryz.prog o a w K Q else E := by
  obtain ⟨i0, hi, hz0, hz1, hz2⟩ := info_parts net_info
  have hr : Reads w w.heap.size 2 (some ⟨G, 0, none⟩) 1 (nC y) := ⟨rfl, fun _ => ⟨_, rfl, size_of_block hG, fun j u hu => by
    rw [addr_add, cell_of_row _ G _ _ t2 (0, 0) hG]; simpa [nC] using hu⟩⟩
  refine step_append_any w hgd s x t ho base _ i0 _ 2 16 ht hi hz0 hz1 hz2 (by rfl) (by omega) v xs.length _ hs hown.1 w.heap.size _ 1 1 (nC y) hx hr (one_nC y) (by simp only [maxLen]; omega) (by omega) hbase ?_
  intro v' w' h1 h2 h3
  refine h v' w' ⟨by simpa using h1, fun q hq => ?_⟩ ⟨h2, ?_⟩
  · rcases List.mem_append.1 hq with hq | hq
    · exact hown.2 q hq
    · simp only [List.mem_cons, List.not_mem_nil, or_false] at hq; subst hq; exact hwf
  · rcases h3 with h3 | h3
    · exact .inl h3
    · exact .inr ⟨_, h3, Nat.le_refl _⟩
theorem int_infoT : (Tryz.prog.info? 3).map (fun i => (i.zero, i.size, i.bytes)) = some (some (.int .i64 0), 1, 8) := by kernel_rfl
theorem step_append_intT {w : World} {ops : Array Oper} {o : Oper} {a : Act} {K : Act → World → Prop} {Q : Exit → Act → World → Prop} {E : Prop} (hgd : o.guard = none) (s x : Operand) (t : TypeId) (ht : Tryz.prog.underlying t = some (.slice 3))
    (ho : o.op = .call { callee := .builtin .append, args := #[s, x], argTypes := #[t, t] })
    (base : Nat) (v : Value) (xs : List Int) (hs : a.eval s = v) (hown : OwnI 3 w base v xs)
    (G : Nat) (y : Int) (t2 : TypeId) (hx : a.eval x = .slice (some ⟨G, 0, none⟩) 1 1) (hG : w.heap[G]? = some (.cells #[.int .i64 y] t2 (0, 0))) (hwf : (Lit.int .i64 y).wf = true)
    (hl : xs.length ≤ 5864062014000) (hbase : base ≤ w.heap.size)
    (h : ∀ v' w', OwnI 3 w' base v' (xs ++ [y]) → Grow w v w' v' → K (a.put o.dst v') w') : if Region.wanted o (yielded ops a.tmps) = true then Oper.wp Tryz.prog o a w K Q else E := by
  obtain ⟨i0, hi, hz0, hz1, hz2⟩ := info_parts int_infoT
  have hr : Reads w w.heap.size 1 (some ⟨G, 0, none⟩) 1 [.int .i64 y] := ⟨rfl, fun _ => ⟨_, rfl, size_of_block hG, fun j u hu => by
    rw [addr_add, cell_of_row _ G _ _ t2 (0, 0) hG]; simpa using hu⟩⟩
  refine step_append_any w hgd s x t ho base _ i0 _ 1 8 ht hi hz0 hz1 hz2 (by rfl) (by omega) v xs.length _ hs hown.1 w.heap.size _ 1 1 [.int .i64 y] hx hr (by intro u hu; simp only [List.mem_cons, List.not_mem_nil, or_false] at hu; subst hu; rfl) (by simp only [maxLen]; omega) (by omega) hbase ?_
  intro v' w' h1 h2 h3
  refine h v' w' ⟨by simpa using h1, fun q hq => ?_⟩ ⟨h2, ?_⟩
  · rcases List.mem_append.1 hq with hq | hq
    · exact hown.2 q hq
    · simp only [List.mem_cons, List.not_mem_nil, or_false] at hq; subst hq; exact hwf
  · rcases h3 with h3 | h3
    · exact .inl h3
    · exact .inr ⟨_, h3, Nat.le_refl _⟩
theorem own_apart {w : World} {b1 b2 s1 s2 n1 n2 : Nat} {e1 e2 : TypeId} {v1 v2 : Value} {x1 x2 : List Value} (h1 : w.ownsRow b1 e1 s1 v1 n1 x1) (h2 : w.ownsRow b2 e2 s2 v2 n2 x2) (hne : e1 ≠ e2) : v2.ownBlock = none ∨ v2.ownBlock ≠ v1.ownBlock := by
  rcases h2.2 with ⟨rfl, _⟩ | ⟨g2, cap2, cur2, rfl, _, hb2, _⟩
  · exact .inl rfl
  · right
    intro e
    rcases h1.2 with ⟨rfl, _⟩ | ⟨g1, cap1, cur1, rfl, _, hb1, _⟩
    · cases e
    · have : g2 = g1 := by simpa [Value.ownBlock] using e
      subst this
      rw [hb1] at hb2
      cases hb2
      exact hne rfl
theorem OwnI.beside {w w' : World} {b1 b2 : Nat} {v1 v1' v2 : Value} {xs : List (Int × Int)} {ys : List Int} (h : OwnI 3 w b2 v2 ys) (h1 : OwnN w b1 v1 xs) (hg : Grow w v1 w' v1') : OwnI 3 w' b2 v2 ys :=
  ⟨h.1.kept hg.1 (own_apart h1.1 h.1 (by decide)), h.2⟩
theorem OwnN.beside {w w' : World} {b1 b2 : Nat} {v1 v2 v2' : Value} {xs : List (Int × Int)} {ys : List Int} (h : OwnN w b1 v1 xs) (h2 : OwnI 3 w b2 v2 ys) (hg : Grow w v2 w' v2') : OwnN w' b1 v1 xs :=
  ⟨h.1.kept hg.1 (own_apart h2.1 h.1 (by decide)), h.2⟩
theorem OwnI.setCell {w : World} {base : Nat} {v : Value} {xs : List Int} (h : OwnI 3 w base v xs) {g o : Nat} (hg : g < base) (u : Value) : OwnI 3 (w.setCell ⟨g, o, none⟩ u) base v xs := by
  refine ⟨h.1.kept (row := some g) ⟨rfl, rfl, rfl, by simp, fun k hk hne => heap_setCell_other _ _ _ _ (fun e => hne (by rw [e]))⟩ ?_, h.2⟩
  cases hv : v.ownBlock with
  | none => exact .inl rfl
  | some k => exact .inr (by have := (own_blk h.1 k hv).1; intro e; injection e with e; omega)
theorem OwnI.mono {w : World} {base b' : Nat} {v : Value} {xs : List Int} (h : OwnI 3 w base v xs) (hb : b' ≤ base) : OwnI 3 w b' v xs := by
  refine ⟨⟨h.1.1, ?_⟩, h.2⟩
  rcases h.1.2 with h2 | ⟨g, cap, cur, e, hg, h3⟩
  · exact .inl h2
  · exact .inr ⟨g, cap, cur, e, Nat.le_trans hb hg, h3⟩
theorem OwnN.monoT {w : World} {base b' : Nat} {v : Value} {xs : List (Int × Int)} (h : OwnN w base v xs) (hb : b' ≤ base) : OwnN w b' v xs := by
  refine ⟨⟨h.1.1, ?_⟩, h.2⟩
  rcases h.1.2 with h2 | ⟨g, cap, cur, e, hg, h3⟩
  · exact .inl h2
  · exact .inr ⟨g, cap, cur, e, Nat.le_trans hb hg, h3⟩
structure DBlk (w : World) (g : Nat) (A : Option Addr) (n c : Nat) (A' : Option Addr) (n' c' : Nat) (a l : Int) (v1 v2 : Value) : Prop where
  b0 : w.heap[g]? = some (.cells #[.slice A n c, .slice A' n' c'] 29 (0, 0))
  b1 : w.heap[g + 1]? = some (.cells #[.int .u32 a, .int .i64 l] 47 (0, 0))
  b2 : w.heap[g + 2]? = some (.cells #[.slice none 0 0, .slice none 0 0] 29 (0, 0))
  b3 : w.heap[g + 3]? = some (.cells #[v1, v2] 29 (0, 0))
theorem DBlk.below {w w' : World} {g : Nat} {A A' : Option Addr} {n c n' c' : Nat} {a l : Int} {v1 v2 : Value} (h : DBlk w g A n c A' n' c' a l v1 v2) (hb : Below w.heap.size w w') : DBlk w' g A n c A' n' c' a l v1 v2 :=
  ⟨below_block hb (size_of_block h.b0) h.b0, below_block hb (size_of_block h.b1) h.b1, below_block hb (size_of_block h.b2) h.b2, below_block hb (size_of_block h.b3) h.b3⟩
theorem DBlk.grow {w w' : World} {g base k : Nat} {e : TypeId} {s : Nat} {v v' : Value} {us : List Value} {A A' : Option Addr} {n c n' c' : Nat} {a l : Int} {v1 v2 : Value} (h : DBlk w g A n c A' n' c' a l v1 v2) (hg : Grow w v w' v') (ho : w.ownsRow base e s v k us) (hb : g + 4 ≤ base) : DBlk w' g A n c A' n' c' a l v1 v2 := by
  have key : ∀ {j : Nat} {o : Obj}, j < g + 4 → w.heap[j]? = some o → w'.heap[j]? = some o := fun {j o} hj hbj => by
    rw [hg.1.block _ (size_of_block hbj) (fun e => by have := (own_blk ho _ e.symm).1; omega)]; exact hbj
  exact ⟨key (by omega) h.b0, key (by omega) h.b1, key (by omega) h.b2, key (by omega) h.b3⟩
theorem DBlk.set0 {w : World} {g : Nat} {A A' : Option Addr} {n c n' c' : Nat} {a l : Int} {v1 v2 : Value} (h : DBlk w g A n c A' n' c' a l v1 v2) (u : Value) : DBlk (w.setCell ⟨g + 3, 0, none⟩ u) g A n c A' n' c' a l u v2 := by
  have key : ∀ {j : Nat} {o : Obj}, j ≠ g + 3 → w.heap[j]? = some o → (w.setCell ⟨g + 3, 0, none⟩ u).heap[j]? = some o := fun {j o} hj hbj => (heap_setCell_other _ _ _ _ (fun e => hj e)).trans hbj
  exact ⟨key (by omega) h.b0, key (by omega) h.b1, key (by omega) h.b2, heap_setCell_same w (g + 3) 0 _ _ u h.b3⟩
theorem DBlk.set1 {w : World} {g : Nat} {A A' : Option Addr} {n c n' c' : Nat} {a l : Int} {v1 v2 : Value} (h : DBlk w g A n c A' n' c' a l v1 v2) (u : Value) : DBlk (w.setCell ⟨g + 3, 1, none⟩ u) g A n c A' n' c' a l v1 u := by
  have key : ∀ {j : Nat} {o : Obj}, j ≠ g + 3 → w.heap[j]? = some o → (w.setCell ⟨g + 3, 1, none⟩ u).heap[j]? = some o := fun {j o} hj hbj => (heap_setCell_other _ _ _ _ (fun e => hj e)).trans hbj
  exact ⟨key (by omega) h.b0, key (by omega) h.b1, key (by omega) h.b2, heap_setCell_same w (g + 3) 1 _ _ u h.b3⟩
theorem del_snoc (m : List (Nt × Int)) (k : Nat) (x : Nt) {e : Nt × Int} (h : m[k]? = some e) : delM (m.take (k + 1)) x = if e.1 = x then delM (m.take k) x else delM (m.take k) x ++ [e] := by
  rw [List.take_add_one, h]
  unfold delM
  rw [List.filter_append]
  by_cases he : e.1 = x
  · rw [if_pos he]; simp [he]
  · rw [if_neg he]; simp [he]
theorem del_le (m : List (Nt × Int)) (k : Nat) (x : Nt) (hm : m.length ≤ 1000) : (delM (m.take k) x).length ≤ 1000 := by
  have h1 := List.length_filter_le (fun e : Nt × Int => !(e.1 == x)) (m.take k)
  have h2 : (m.take k).length ≤ m.length := by rw [List.length_take]; omega
  unfold delM; omega
theorem keys_app (m : List (Nt × Int)) (e : Nt × Int) : keysM (m ++ [e]) = keysM m ++ [e.1] := by unfold keysM; simp
theorem vals_app (m : List (Nt × Int)) (e : Nt × Int) : valsM (m ++ [e]) = valsM m ++ [e.2] := by unfold valsM; simp
theorem dropf_end {W : World} {R : Nat} {a : Act} {v1 v2 : Value} {t : TypeId} {K : Ending → World → Prop} (h : W.heap[R]? = some (.cells #[v1, v2] t (0, 0))) (h2 : a.tmps[4]?.getD undef = .pointer (some ⟨R, 0, none⟩)) (hd : a.defers = [])
    (hK : K (.returned (.agg #[v1, v2])) W) : bodyPost Tryz.prog Tryz.f24 K .ret a W := by
  have e0 : W.cell? ⟨R, 0, none⟩ = some v1 := by rw [cell_of_row _ R _ _ _ (0, 0) h]; rfl
  have e1 : W.cell? ⟨R, 1, none⟩ = some v2 := by rw [cell_of_row _ R _ _ _ (0, 0) h]; rfl
  exact bodyPost_ret (by simp [results, Tryz.results24, go_sem, h2, e0, e1]) hd hK
def DropPost (w : World) (m : List (Nt × Int)) (e : Ending) (w' : World) : Prop := ∃ v1 v2, e = .returned (.agg #[v1, v2]) ∧ OwnN w' w.heap.size v1 (keysM m) ∧ OwnI 3 w' w.heap.size v2 (valsM m) ∧ Below w.heap.size w w'
set_option maxRecDepth 100000 in
set_option maxHeartbeats 16000000 in
theorem DropFrom_any {w : World} {A A' : Option Addr} {n c n' c' : Nat} {m : List (Nt × Int)} {a l : Int} (hr : R1 rdNets w (.slice A n c) (keysM m)) (hv : R1 (RdSlice 1 (rdInt .i64)) w (.slice A' n' c') (valsM m)) (hm : m.length ≤ 1000) :
    Calls Tryz.prog 24 #[.agg #[.slice A n c, .slice A' n' c'], .agg #[.int .u32 a, .int .i64 l]] w (DropPost w (delM m (a, l))) := by
  have hn : m.length = n := by have := (RdSlice.len hr).1; rw [this]; simp [keysM]
  have hn' : n' = n := by have := (RdSlice.len hv).1; rw [this, ← hn]; simp [valsM]
  subst hn'
  have hn1000 : n' ≤ 1000 := by omega
  have HR := Lib.hid hr
  have HV := Lib.hid hv
  have HM := Lib.hid hm
  have HN := Lib.hid hn
  obtain ⟨PP, hPP⟩ : ∃ PP, DropPost w (delM m (a, l)) = PP := ⟨_, rfl⟩
  have HPP := Lib.hid hPP
  rw [hPP]
  obtain ⟨g, hg⟩ : ∃ g, w.heap.size = g := ⟨_, rfl⟩
  have HG := Lib.hid hg
  clear hr hv hm hn hPP
  go_enter Tryz.func24, Tryz.ntmps24
  go_upto_region 2 with (fail)
  have HBL0 : Hid (DBlk ((((w.alloc (.cells #[.slice A n' c, .slice A' n' c'] 29)).alloc (.cells #[.int .u32 a, .int .i64 l] 47)).alloc (.cells #[.slice none 0 0, .slice none 0 0] 29)).alloc (.cells #[.slice none 0 0, .slice none 0 0] 29)) g A n' c A' n' c' a l (.slice none 0 0) (.slice none 0 0)) := Lib.hid (by
    rw [← HG.out]
    have e3 := heap_alloc_new (((w.alloc (.cells #[.slice A n' c, .slice A' n' c'] 29)).alloc (.cells #[.int .u32 a, .int .i64 l] 47)).alloc (.cells #[.slice none 0 0, .slice none 0 0] 29)) (.cells #[.slice none 0 0, .slice none 0 0] 29)
    simp only [World.size_alloc] at e3
    have hb := below_1 (((w.alloc (.cells #[.slice A n' c, .slice A' n' c'] 29)).alloc (.cells #[.int .u32 a, .int .i64 l] 47)).alloc (.cells #[.slice none 0 0, .slice none 0 0] 29)) (.cells #[.slice none 0 0, .slice none 0 0] 29)
    obtain ⟨b0, b1, b2⟩ := box3 (w := w) (o1 := .cells #[.slice A n' c, .slice A' n' c'] 29) (o2 := .cells #[.int .u32 a, .int .i64 l] 47) (o3 := .cells #[.slice none 0 0, .slice none 0 0] 29) hb
    exact ⟨b0, b1, b2, e3⟩)
  have HBW0 : Hid (Below w.heap.size w ((((w.alloc (.cells #[.slice A n' c, .slice A' n' c'] 29)).alloc (.cells #[.int .u32 a, .int .i64 l] 47)).alloc (.cells #[.slice none 0 0, .slice none 0 0] 29)).alloc (.cells #[.slice none 0 0, .slice none 0 0] 29))) := Lib.hid (below_4 w _ _ _ _)
  have HZ0 : Hid (g + 4 ≤ ((((w.alloc (.cells #[.slice A n' c, .slice A' n' c'] 29)).alloc (.cells #[.int .u32 a, .int .i64 l] 47)).alloc (.cells #[.slice none 0 0, .slice none 0 0] 29)).alloc (.cells #[.slice none 0 0, .slice none 0 0] 29)).heap.size) := Lib.hid (by simp; have := HG.out; omega)
  try rw [hg]
  generalize ((((w.alloc (.cells #[.slice A n' c, .slice A' n' c'] 29)).alloc (.cells #[.int .u32 a, .int .i64 l] 47)).alloc (.cells #[.slice none 0 0, .slice none 0 0] 29)).alloc (.cells #[.slice none 0 0, .slice none 0 0] 29)) = w0 at *
  clear hg
  go_wp2
  go_loopw [6] (fun iv wr => ∃ (k : Nat) (v1 v2 : Value), k ≤ n' ∧ iv = .int .i64 k ∧ Hid (DBlk wr g A n' c A' n' c' a l v1 v2) ∧ Hid (OwnN wr (g + 4) v1 (keysM (delM (m.take k) (a, l)))) ∧ Hid (OwnI 3 wr (g + 4) v2 (valsM (delM (m.take k) (a, l)))) ∧ Hid (Below w.heap.size w wr) ∧ Hid (g + 4 ≤ wr.heap.size)) (fun iv _ => n' - (intOf iv).toNat)
  case atStart => exact ⟨0, .slice none 0 0, .slice none 0 0, Nat.zero_le _, rfl, HBL0, Lib.hid (OwnN.nil_ _ _), Lib.hid (OwnI.nil_ _ _ _), HBW0, HZ0⟩
  case round =>
    clear HBL0 HBW0 HZ0
    obtain ⟨k, v1, v2, hk, rfl, HBL, HO1, HO2, HBW, HZ⟩ := hrel
    obtain ⟨y0, y1, _, _⟩ := row2 HBL.out.b0
    obtain ⟨y2, y3, _, _⟩ := row2 HBL.out.b1
    by_cases hlt : k < n'
    · obtain ⟨b, o, ⟨x, x'⟩, rfl, hb, HX, hwfn, c0, c1⟩ := RdSlice.atN HR.out hlt
      obtain ⟨b', o', z, rfl, hb', HY, hwfz, c2⟩ := HV.out.atI hlt
      have d0 := (HBW.out.cell (p := ⟨b, o + k * 2, none⟩) hb).trans c0
      have d1 := (HBW.out.cell (p := ⟨b, o + k * 2 + 1, none⟩) hb).trans c1
      have d2 := (HBW.out.cell (p := ⟨b', o' + k, none⟩) hb').trans c2
      have C2 := Lib.hid c2
      have i0 : (0 : Int) ≤ (k : Int) := by omega
      have i1 : (k : Int) < (n' : Int) := by omega
      have HE : Hid (m[k]? = some ((x, x'), z)) := Lib.hid (by
        have h1 := HX.out
        have h2 := HY.out
        unfold keysM at h1
        unfold valsM at h2
        rw [List.getElem?_map] at h1 h2
        cases hmk : m[k]? with
        | none => rw [hmk] at h1; cases h1
        | some e =>
          rw [hmk] at h1 h2
          simp only [Option.map_some, Option.some.injEq] at h1 h2
          rw [← h1, ← h2])
      have HWN := Lib.hid hwfn
      have HWZ := Lib.hid hwfz
      have HDEL := Lib.hid (del_snoc m k (a, l) HE.out)
      have hbg : b < g := by have := HG.out; omega
      have hbg' : b' < g := by have := HG.out; omega
      clear c0 c1 c2 hwfn hwfz hb hb'
      by_cases hx : (x, x') = (a, l)
      · obtain ⟨rfl, rfl⟩ := Prod.mk.inj hx
        rw [if_pos hx] at HDEL
        clear hx
        go_wp2
        go_quiet (fail)
        generalize hw5 : wr.drewN _ = w5
        have hb5 : Below wr.heap.size wr w5 := by rw [← hw5]; exact below_drewN (Below.refl _ _) _
        have HBL5 := Lib.hid (HBL.out.below hb5)
        have HO15 : Hid (OwnN w5 (g + 4) v1 (keysM (delM (m.take (k + 1)) (x, x')))) := Lib.hid (by rw [HDEL.out]; exact HO1.out.below hb5)
        have HO25 : Hid (OwnI 3 w5 (g + 4) v2 (valsM (delM (m.take (k + 1)) (x, x')))) := Lib.hid (by rw [HDEL.out]; exact HO2.out.below hb5)
        have HBW5 := Lib.hid (HBW.out.trans (hb5.mono HBW.out.size))
        have HZ5 := Lib.hid (Nat.le_trans HZ.out hb5.size)
        clear hw5 hb5
        go_wp2
        go_roundw
        case rel => exact ⟨k + 1, v1, v2, by omega, by go_num, HBL5, HO15, HO25, HBW5, HZ5⟩
        case measure => simp [intOf]; try omega
      · rw [if_neg hx] at HDEL
        have HLEN := Lib.hid (del_le m k (a, l) HM.out)
        have HLK : Hid ((keysM (delM (m.take k) (a, l))).length ≤ 1000) := Lib.hid (by simpa [keysM] using HLEN.out)
        have HLV : Hid ((valsM (delM (m.take k) (a, l))).length ≤ 1000) := Lib.hid (by simpa [valsM] using HLEN.out)
        have HK2 : Hid (keysM (delM (m.take (k + 1)) (a, l)) = keysM (delM (m.take k) (a, l)) ++ [(x, x')]) := Lib.hid (by rw [HDEL.out, keys_app])
        have HV2 : Hid (valsM (delM (m.take (k + 1)) (a, l)) = valsM (delM (m.take k) (a, l)) ++ [z]) := Lib.hid (by rw [HDEL.out, vals_app])
        have D0 := Lib.hid d0
        have D1 := Lib.hid d1
        have D2 := Lib.hid d2
        obtain ⟨K1, hK1⟩ : ∃ K1, keysM (delM (m.take k) (a, l)) = K1 := ⟨_, rfl⟩
        obtain ⟨K2, hK2⟩ : ∃ K2, valsM (delM (m.take k) (a, l)) = K2 := ⟨_, rfl⟩
        rw [hK1] at HO1 HLK HK2
        rw [hK2] at HO2 HLV HV2
        clear hK1 hK2
        have hT : ∃ (q : Nat), True := ⟨0, trivial⟩
        have hcase : x ≠ a ∨ (x = a ∧ x' ≠ l) := by
          by_cases h : x = a
          · right; exact ⟨h, fun h2 => hx (by rw [h, h2])⟩
          · left; exact h
        clear hx hT
        rcases hcase with hx | ⟨rfl, hx⟩
        · have t1 : (x == a) = false := by simpa using hx
          clear hx
          go_wp2
          go_quiet (fail)
          generalize hw5 : wr.drewN _ = w5
          have hb5 : Below wr.heap.size wr w5 := by rw [← hw5]; exact below_drewN (Below.refl _ _) _
          have HBL5 := Lib.hid (HBL.out.below hb5)
          have HO15 := Lib.hid (HO1.out.below hb5)
          have HO25 := Lib.hid (HO2.out.below hb5)
          have HBW5 := Lib.hid (HBW.out.trans (hb5.mono HBW.out.size))
          have HZ5 := Lib.hid (Nat.le_trans HZ.out hb5.size)
          have hz5 : g + 4 ≤ w5.heap.size := HZ5.out
          have hzr : g + 4 ≤ wr.heap.size := HZ.out
          have hs5 := hb5.size
          have d0 := (hb5.cell (p := ⟨b, o + k * 2, none⟩) (by simp only; omega)).trans D0.out
          have d1 := (hb5.cell (p := ⟨b, o + k * 2 + 1, none⟩) (by simp only; omega)).trans D1.out
          obtain ⟨y0, y1, _, _⟩ := row2 HBL5.out.b0
          obtain ⟨e0, e1, _, _⟩ := row2 HBL5.out.b3
          have n1 : ¬ b = g + 3 := by omega
          have n1s : ¬ g + 3 = b := by omega
          have n2s : ¬ g + 3 = g := by omega
          have m8s : ¬ g + 3 = b' := by omega
          have n2 : ¬ g = g + 3 := by omega
          have m1 : b < w5.heap.size := by omega
          have m2 : g < w5.heap.size := by omega
          have m3 : g + 3 < w5.heap.size := by omega
          have m4 : ¬ b = w5.heap.size := by omega
          have m5 : ¬ g = w5.heap.size := by omega
          have m6 : ¬ g + 3 = w5.heap.size := by omega
          have m7 : b' < w5.heap.size := by omega
          have m8 : ¬ b' = g + 3 := by omega
          clear hw5 hb5
          go_upto_region 6 with (fail)
          refine wp_region_noPanic ?_
          refine wp_region_held_drew (S := (fun w' => w'.cell? ⟨g, 0, none⟩ = some (.slice (some ⟨b, o, none⟩) n' c) ∧ w'.cell? ⟨b, o + k * 2, none⟩ = some (.int .u32 x) ∧ w'.cell? ⟨b, o + k * 2 + 1, none⟩ = some (.int .i64 x'))) (by kernel_rfl) (by go_keep) (fun hHeld => ?_)
          refine' wpAnyH_take (i := 0) ?hiam0 ?hsam0 ?hfam0 ?hram0 ?hQam0 ?hyam0 ?hSam0 ?ham0
          case hiam0 => (simp only [List.getElem?_toArray, List.getElem?_cons_succ, List.getElem?_cons_zero]; exact rfl)
          case hsam0 => kernel_rfl
          case hfam0 => kernel_rfl
          case hram0 => kernel_rfl
          case hQam0 => exact fun _ _ _ h => h
          case hyam0 => (first | (refine Or.inr ⟨by rfl, ?_⟩; rfl) | (refine Or.inl ⟨by rfl, ?_⟩; (intro w hSw; (try dsimp only at hSw); go_simp); try with_reducible rfl))
          case hSam0 => assumption
          try simp only [Act.put, List.setIfInBounds_toArray, List.set_cons_zero, List.set_cons_succ]
          refine' wpAnyH_take (i := 2) ?hiam2 ?hsam2 ?hfam2 ?hram2 ?hQam2 ?hyam2 ?hSam2 ?ham2
          case hiam2 => (simp only [List.getElem?_toArray, List.getElem?_cons_succ, List.getElem?_cons_zero]; exact rfl)
          case hsam2 => kernel_rfl
          case hfam2 => kernel_rfl
          case hram2 => kernel_rfl
          case hQam2 => exact fun _ _ _ h => h
          case hyam2 => (first | (refine Or.inr ⟨by rfl, ?_⟩; rfl) | (refine Or.inl ⟨by rfl, ?_⟩; (intro w hSw; (try dsimp only at hSw); go_simp); try with_reducible rfl))
          case hSam2 => assumption
          try simp only [Act.put, List.setIfInBounds_toArray, List.set_cons_zero, List.set_cons_succ]
          refine' wpAnyH_take (i := 3) ?hiam3 ?hsam3 ?hfam3 ?hram3 ?hQam3 ?hyam3 ?hSam3 ?ham3
          case hiam3 => (simp only [List.getElem?_toArray, List.getElem?_cons_succ, List.getElem?_cons_zero]; exact rfl)
          case hsam3 => kernel_rfl
          case hfam3 => kernel_rfl
          case hram3 => kernel_rfl
          case hQam3 => exact fun _ _ _ h => h
          case hyam3 => (first | (refine Or.inr ⟨by rfl, ?_⟩; rfl) | (refine Or.inl ⟨by rfl, ?_⟩; (intro w hSw; (try dsimp only at hSw); go_simp); try with_reducible rfl))
          case hSam3 => assumption
          try simp only [Act.put, List.setIfInBounds_toArray, List.set_cons_zero, List.set_cons_succ]
          refine' wpAnyH_take (i := 4) ?hiam4 ?hsam4 ?hfam4 ?hram4 ?hQam4 ?hyam4 ?hSam4 ?ham4
          case hiam4 => (simp only [List.getElem?_toArray, List.getElem?_cons_succ, List.getElem?_cons_zero]; exact rfl)
          case hsam4 => kernel_rfl
          case hfam4 => kernel_rfl
          case hram4 => kernel_rfl
          case hQam4 => exact fun _ _ _ h => h
          case hyam4 => (first | (refine Or.inr ⟨by rfl, ?_⟩; rfl) | (refine Or.inl ⟨by rfl, ?_⟩; (intro w hSw; (try dsimp only at hSw); go_simp); try with_reducible rfl))
          case hSam4 => assumption
          try simp only [Act.put, List.setIfInBounds_toArray, List.set_cons_zero, List.set_cons_succ]
          refine' wpAnyH_take (i := 5) ?hiam5 ?hsam5 ?hfam5 ?hram5 ?hQam5 ?hyam5 ?hSam5 ?ham5
          case hiam5 => (simp only [List.getElem?_toArray, List.getElem?_cons_succ, List.getElem?_cons_zero]; exact rfl)
          case hsam5 => kernel_rfl
          case hfam5 => kernel_rfl
          case hram5 => kernel_rfl
          case hQam5 => exact fun _ _ _ h => h
          case hyam5 => (first | (refine Or.inr ⟨by rfl, ?_⟩; rfl) | (refine Or.inl ⟨by rfl, ?_⟩; (intro w hSw; (try dsimp only at hSw); go_simp); try with_reducible rfl))
          case hSam5 => assumption
          try simp only [Act.put, List.setIfInBounds_toArray, List.set_cons_zero, List.set_cons_succ]
          refine' wpAnyH_take (i := 6) ?hiam6 ?hsam6 ?hfam6 ?hram6 ?hQam6 ?hyam6 ?hSam6 ?ham6
          case hiam6 => (simp only [List.getElem?_toArray, List.getElem?_cons_succ, List.getElem?_cons_zero]; exact rfl)
          case hsam6 => kernel_rfl
          case hfam6 => kernel_rfl
          case hram6 => kernel_rfl
          case hQam6 => exact fun _ _ _ h => h
          case hyam6 => (first | (refine Or.inr ⟨by rfl, ?_⟩; rfl) | (refine Or.inl ⟨by rfl, ?_⟩; (intro w hSw; (try dsimp only at hSw); go_simp); try with_reducible rfl))
          case hSam6 => assumption
          try simp only [Act.put, List.setIfInBounds_toArray, List.set_cons_zero, List.set_cons_succ]
          refine wpAnyH_ready (rs := [1, 7]) (by kernel_rfl) (by simp) ?_
          refine' AllReadyH.cons ?hiAam (fun K hK => ?hAam) (AllReadyH.cons ?hiBam (fun K hK => ?hBam) AllReadyH.nil)
          case hiAam => (simp only [List.getElem?_toArray, List.getElem?_cons_succ, List.getElem?_cons_zero]; exact rfl)
          case hiBam => (simp only [List.getElem?_toArray, List.getElem?_cons_succ, List.getElem?_cons_zero]; exact rfl)
          case hAam =>
            go_simp
            refine hK.out _ _ (by go_keep) (fun hHeld => ?_)
            clear hK K
            refine wpAnyH_ready (rs := [7]) (by kernel_rfl) (by simp) ?_
            refine' AllReadyH.cons ?hib1m (fun K hK => ?hb1m) AllReadyH.nil
            case hib1m => (simp only [List.getElem?_toArray, List.getElem?_cons_succ, List.getElem?_cons_zero]; exact rfl)
            go_simp
            refine hK.out _ _ (by go_keep) (fun hHeld => ?_)
            clear hK K
            have hbx : Below w5.heap.size w5 (w5.alloc (.cells #[.int .u32 x, .int .i64 x'] 47)).drew := below_drewN (below_1 w5 _) 1
            have HON := Lib.hid (HO15.out.below hbx)
            have HOI := Lib.hid (HO25.out.below hbx)
            have HBL7 := Lib.hid (HBL5.out.below hbx)
            have HBW7 := Lib.hid (HBW5.out.trans (hbx.mono HBW5.out.size))
            have hnew7 : (w5.alloc (.cells #[.int .u32 x, .int .i64 x'] 47)).drew.heap[w5.heap.size]? = some (.cells #[.int .u32 x, .int .i64 x'] 47 (0, 0)) := heap_alloc_new w5 _
            have HD2 := Lib.hid ((hbx.cell (p := ⟨b', o' + k, none⟩) m7).trans ((HBW5.out.cell (p := ⟨b', o' + k, none⟩) (by have := HG.out; simp only; omega)).trans C2.out))
            clear hbx
            refine wpAnyH_ready (rs := [8]) (by kernel_rfl) (by simp) ?_
            refine' AllReadyH.cons ?hic1m (fun K hK => ?hc1m) AllReadyH.nil
            case hic1m => (simp only [List.getElem?_toArray, List.getElem?_cons_succ, List.getElem?_cons_zero]; exact rfl)
            (refine step_append_netT rfl (.tmp 22) (.tmp 28) 26 Tryz.underlying26 rfl (g + 4) _ K1 rfl HON.out w5.heap.size (x, x') 47 rfl hnew7 HWN.out (by have := HLK.out; omega) (by simp; omega) ?_)
            intro v8 w8 hown8 hgrow8
            have HO18 := Lib.hid hown8
            have HO28 := Lib.hid (HOI.out.beside HON.out hgrow8)
            have HBL8 := Lib.hid (HBL7.out.grow hgrow8 HON.out.1 (Nat.le_refl _))
            have HBW8 := Lib.hid (hgrow8.below HBW7.out HON.out.1 (by have := HG.out; omega) HBW7.out.size)
            have hs8 := hgrow8.size
            obtain ⟨r0, _, _, _⟩ := row2 HBL8.out.b0
            obtain ⟨u0, u1, _, _⟩ := row2 HBL8.out.b3
            have r1 := (hgrow8.cell (p := ⟨b, o + k * 2, none⟩) (B := 0) HON.out.1 (Nat.lt_trans (show b < w5.heap.size from m1) (size_of_block hnew7)) (fun q e => by have := (own_blk HON.out.1 q e).1; simp only; omega)).trans hHeld.2.1
            have r2 := (hgrow8.cell (p := ⟨b, o + k * 2 + 1, none⟩) (B := 0) HON.out.1 (Nat.lt_trans (show b < w5.heap.size from m1) (size_of_block hnew7)) (fun q e => by have := (own_blk HON.out.1 q e).1; simp only; omega)).trans hHeld.2.2
            have HD28 := Lib.hid ((hgrow8.cell (p := ⟨b', o' + k, none⟩) (B := 0) HON.out.1 (Nat.lt_trans (show b' < w5.heap.size from m7) (size_of_block hnew7)) (fun q e => by have := (own_blk HON.out.1 q e).1; simp only; omega)).trans HD2.out)
            obtain ⟨A8, c8, hv8⟩ := hown8.form
            obtain ⟨L8, hL8⟩ : ∃ L8, (K1 ++ [(x, x')]).length = L8 := ⟨_, rfl⟩
            rw [hL8] at hv8
            subst hv8
            clear hown8 hgrow8 hL8
            refine hK.out _ _ (by go_keep) (fun hHeld => ?_)
            clear hK K
            refine' wpAnyH_take (i := 9) ?hid1m9 ?hsd1m9 ?hfd1m9 ?hrd1m9 ?hQd1m9 ?hyd1m9 ?hSd1m9 ?hd1m9
            case hid1m9 => (simp only [List.getElem?_toArray, List.getElem?_cons_succ, List.getElem?_cons_zero]; exact rfl)
            case hsd1m9 => kernel_rfl
            case hfd1m9 => kernel_rfl
            case hrd1m9 => kernel_rfl
            case hQd1m9 => exact fun _ _ _ h => h
            case hyd1m9 => (first | (refine Or.inr ⟨by rfl, ?_⟩; rfl) | (refine Or.inl ⟨by rfl, ?_⟩; (intro w hSw; (try dsimp only at hSw); go_simp); try with_reducible rfl))
            case hSd1m9 => assumption
            try simp only [Act.put, List.setIfInBounds_toArray, List.set_cons_zero, List.set_cons_succ]
            refine wpAnyH_ready (rs := [10]) (by kernel_rfl) (by simp) ?_
            refine' AllReadyH.cons ?hie1m (fun K hK => ?he1m) AllReadyH.nil
            case hie1m => (simp only [List.getElem?_toArray, List.getElem?_cons_succ, List.getElem?_cons_zero]; exact rfl)
            go_simp
            refine hK.out _ _ (by go_keep) (fun hHeld => ?_)
            clear hK K
            refine wpAnyH_done (by kernel_rfl) ?_ _
            refine NoPanic.normal ?_
            clear hHeld r0 r1 r2 u0 u1
            have HO19 := Lib.hid (HO18.out.setCell (g := g + 3) (o := 0) (by omega) (.slice A8 L8 c8))
            have HO29 := Lib.hid (HO28.out.setCell (g := g + 3) (o := 0) (by omega) (.slice A8 L8 c8))
            have HBL9 := Lib.hid (HBL8.out.set0 (.slice A8 L8 c8))
            have HBW9 := Lib.hid (HBW8.out.setCell (p := ⟨g + 3, 0, none⟩) (by have := HG.out; simp only; omega) (.slice A8 L8 c8))
            have HD9 : Hid ((w8.setCell ⟨g + 3, 0, none⟩ (.slice A8 L8 c8)).cell? ⟨b', o' + k, none⟩ = some (.int .i64 z)) := Lib.hid ((World.cell?_setCell_other w8 ⟨g + 3, 0, none⟩ ⟨b', o' + k, none⟩ (.slice A8 L8 c8) (fun e => by injection e with e; omega)).trans HD28.out)
            have hz9 : w5.heap.size ≤ (w8.setCell ⟨g + 3, 0, none⟩ (.slice A8 L8 c8)).heap.size := by have h1 := size_of_block hnew7; simp; omega
            generalize w8.setCell ⟨g + 3, 0, none⟩ (.slice A8 L8 c8) = w9 at *
            clear n1 n1s n2 m4 m5 m6 hnew7 hs8
            have HZ9 : Hid (g + 4 ≤ w9.heap.size) := Lib.hid (by omega)
            obtain ⟨y0, y1, _, _⟩ := row2 HBL9.out.b0
            obtain ⟨e0, e1, _, _⟩ := row2 HBL9.out.b3
            have f2 := HD9.out
            have n2 : ¬ g = g + 3 := by omega
            have k2 : g < w9.heap.size := by omega
            have k3 : g + 3 < w9.heap.size := by omega
            have k5 : ¬ g = w9.heap.size := by omega
            have k6 : ¬ g + 3 = w9.heap.size := by omega
            have k7 : b' < w9.heap.size := by omega
            have k8 : ¬ b' = w9.heap.size := by omega
            go_upto_region 7 with (fail)
            refine wp_region_noPanic ?_
            refine wp_region_held_drew (S := (fun w' => w'.cell? ⟨g, 1, none⟩ = some (.slice (some ⟨b', o', none⟩) n' c') ∧ w'.cell? ⟨b', o' + k, none⟩ = some (.int .i64 z))) (by kernel_rfl) (by go_keep) (fun hHeld => ?_)
            refine' wpAnyH_take (i := 0) ?hixm0 ?hsxm0 ?hfxm0 ?hrxm0 ?hQxm0 ?hyxm0 ?hSxm0 ?hxm0
            case hixm0 => (simp only [List.getElem?_toArray, List.getElem?_cons_succ, List.getElem?_cons_zero]; exact rfl)
            case hsxm0 => kernel_rfl
            case hfxm0 => kernel_rfl
            case hrxm0 => kernel_rfl
            case hQxm0 => exact fun _ _ _ h => h
            case hyxm0 => (first | (refine Or.inr ⟨by rfl, ?_⟩; rfl) | (refine Or.inl ⟨by rfl, ?_⟩; (intro w hSw; (try dsimp only at hSw); go_simp); try with_reducible rfl))
            case hSxm0 => assumption
            try simp only [Act.put, List.setIfInBounds_toArray, List.set_cons_zero, List.set_cons_succ]
            refine' wpAnyH_take (i := 2) ?hixm2 ?hsxm2 ?hfxm2 ?hrxm2 ?hQxm2 ?hyxm2 ?hSxm2 ?hxm2
            case hixm2 => (simp only [List.getElem?_toArray, List.getElem?_cons_succ, List.getElem?_cons_zero]; exact rfl)
            case hsxm2 => kernel_rfl
            case hfxm2 => kernel_rfl
            case hrxm2 => kernel_rfl
            case hQxm2 => exact fun _ _ _ h => h
            case hyxm2 => (first | (refine Or.inr ⟨by rfl, ?_⟩; rfl) | (refine Or.inl ⟨by rfl, ?_⟩; (intro w hSw; (try dsimp only at hSw); go_simp); try with_reducible rfl))
            case hSxm2 => assumption
            try simp only [Act.put, List.setIfInBounds_toArray, List.set_cons_zero, List.set_cons_succ]
            refine' wpAnyH_take (i := 3) ?hixm3 ?hsxm3 ?hfxm3 ?hrxm3 ?hQxm3 ?hyxm3 ?hSxm3 ?hxm3
            case hixm3 => (simp only [List.getElem?_toArray, List.getElem?_cons_succ, List.getElem?_cons_zero]; exact rfl)
            case hsxm3 => kernel_rfl
            case hfxm3 => kernel_rfl
            case hrxm3 => kernel_rfl
            case hQxm3 => exact fun _ _ _ h => h
            case hyxm3 => (first | (refine Or.inr ⟨by rfl, ?_⟩; rfl) | (refine Or.inl ⟨by rfl, ?_⟩; (intro w hSw; (try dsimp only at hSw); go_simp); try with_reducible rfl))
            case hSxm3 => assumption
            try simp only [Act.put, List.setIfInBounds_toArray, List.set_cons_zero, List.set_cons_succ]
            refine' wpAnyH_take (i := 4) ?hixm4 ?hsxm4 ?hfxm4 ?hrxm4 ?hQxm4 ?hyxm4 ?hSxm4 ?hxm4
            case hixm4 => (simp only [List.getElem?_toArray, List.getElem?_cons_succ, List.getElem?_cons_zero]; exact rfl)
            case hsxm4 => kernel_rfl
            case hfxm4 => kernel_rfl
            case hrxm4 => kernel_rfl
            case hQxm4 => exact fun _ _ _ h => h
            case hyxm4 => (first | (refine Or.inr ⟨by rfl, ?_⟩; rfl) | (refine Or.inl ⟨by rfl, ?_⟩; (intro w hSw; (try dsimp only at hSw); go_simp); try with_reducible rfl))
            case hSxm4 => assumption
            try simp only [Act.put, List.setIfInBounds_toArray, List.set_cons_zero, List.set_cons_succ]
            refine' wpAnyH_take (i := 5) ?hixm5 ?hsxm5 ?hfxm5 ?hrxm5 ?hQxm5 ?hyxm5 ?hSxm5 ?hxm5
            case hixm5 => (simp only [List.getElem?_toArray, List.getElem?_cons_succ, List.getElem?_cons_zero]; exact rfl)
            case hsxm5 => kernel_rfl
            case hfxm5 => kernel_rfl
            case hrxm5 => kernel_rfl
            case hQxm5 => exact fun _ _ _ h => h
            case hyxm5 => (first | (refine Or.inr ⟨by rfl, ?_⟩; rfl) | (refine Or.inl ⟨by rfl, ?_⟩; (intro w hSw; (try dsimp only at hSw); go_simp); try with_reducible rfl))
            case hSxm5 => assumption
            try simp only [Act.put, List.setIfInBounds_toArray, List.set_cons_zero, List.set_cons_succ]
            refine' wpAnyH_take (i := 6) ?hixm6 ?hsxm6 ?hfxm6 ?hrxm6 ?hQxm6 ?hyxm6 ?hSxm6 ?hxm6
            case hixm6 => (simp only [List.getElem?_toArray, List.getElem?_cons_succ, List.getElem?_cons_zero]; exact rfl)
            case hsxm6 => kernel_rfl
            case hfxm6 => kernel_rfl
            case hrxm6 => kernel_rfl
            case hQxm6 => exact fun _ _ _ h => h
            case hyxm6 => (first | (refine Or.inr ⟨by rfl, ?_⟩; rfl) | (refine Or.inl ⟨by rfl, ?_⟩; (intro w hSw; (try dsimp only at hSw); go_simp); try with_reducible rfl))
            case hSxm6 => assumption
            try simp only [Act.put, List.setIfInBounds_toArray, List.set_cons_zero, List.set_cons_succ]
            refine wpAnyH_ready (rs := [1, 7]) (by kernel_rfl) (by simp) ?_
            refine' AllReadyH.cons ?hiAxm (fun K hK => ?hAxm) (AllReadyH.cons ?hiBxm (fun K hK => ?hBxm) AllReadyH.nil)
            case hiAxm => (simp only [List.getElem?_toArray, List.getElem?_cons_succ, List.getElem?_cons_zero]; exact rfl)
            case hiBxm => (simp only [List.getElem?_toArray, List.getElem?_cons_succ, List.getElem?_cons_zero]; exact rfl)
            case hAxm =>
              go_simp
              refine hK.out _ _ (by go_keep) (fun hHeld => ?_)
              clear hK K
              refine wpAnyH_ready (rs := [7]) (by kernel_rfl) (by simp) ?_
              refine' AllReadyH.cons ?hib1xm (fun K hK => ?hb1xm) AllReadyH.nil
              case hib1xm => (simp only [List.getElem?_toArray, List.getElem?_cons_succ, List.getElem?_cons_zero]; exact rfl)
              go_simp
              refine hK.out _ _ (by go_keep) (fun hHeld => ?_)
              clear hK K
              have hbx : Below w9.heap.size w9 (w9.alloc (.cells #[.int .i64 z] 3)).drew := below_drewN (below_1 w9 _) 1
              have HON9 := Lib.hid (HO19.out.below hbx)
              have HOI9 := Lib.hid (HO29.out.below hbx)
              have HBLA := Lib.hid (HBL9.out.below hbx)
              have HBWA := Lib.hid (HBW9.out.trans (hbx.mono HBW9.out.size))
              have hnewA : (w9.alloc (.cells #[.int .i64 z] 3)).drew.heap[w9.heap.size]? = some (.cells #[.int .i64 z] 3 (0, 0)) := heap_alloc_new w9 _
              clear hbx
              refine wpAnyH_ready (rs := [8]) (by kernel_rfl) (by simp) ?_
              refine' AllReadyH.cons ?hic1xm (fun K hK => ?hc1xm) AllReadyH.nil
              case hic1xm => (simp only [List.getElem?_toArray, List.getElem?_cons_succ, List.getElem?_cons_zero]; exact rfl)
              (refine step_append_intT rfl (.tmp 32) (.tmp 38) 27 Tryz.underlying27 rfl (g + 4) _ K2 rfl HOI9.out w9.heap.size z 3 rfl hnewA HWZ.out (by have := HLV.out; omega) (by simp; omega) ?_)
              intro vA wA hownA hgrowA
              have HO2A := Lib.hid hownA
              have HO1A := Lib.hid (HON9.out.beside HOI9.out hgrowA)
              have HBLB := Lib.hid (HBLA.out.grow hgrowA HOI9.out.1 (Nat.le_refl _))
              have HBWB := Lib.hid (hgrowA.below HBWA.out HOI9.out.1 (by have := HG.out; omega) HBWA.out.size)
              have hsA := hgrowA.size
              obtain ⟨_, r0, _, _⟩ := row2 HBLB.out.b0
              obtain ⟨u0, u1, _, _⟩ := row2 HBLB.out.b3
              have r1 := (hgrowA.cell (p := ⟨b', o' + k, none⟩) (B := 0) HOI9.out.1 (Nat.lt_trans (show b' < w9.heap.size from k7) (size_of_block hnewA)) (fun q e => by have := (own_blk HOI9.out.1 q e).1; simp only; omega)).trans hHeld.2
              obtain ⟨AA, cA, hvA⟩ := hownA.form
              obtain ⟨LA, hLA⟩ : ∃ LA, (K2 ++ [z]).length = LA := ⟨_, rfl⟩
              rw [hLA] at hvA
              subst hvA
              clear hownA hgrowA hLA
              refine hK.out _ _ (by go_keep) (fun hHeld => ?_)
              clear hK K
              refine' wpAnyH_take (i := 9) ?hid1xm9 ?hsd1xm9 ?hfd1xm9 ?hrd1xm9 ?hQd1xm9 ?hyd1xm9 ?hSd1xm9 ?hd1xm9
              case hid1xm9 => (simp only [List.getElem?_toArray, List.getElem?_cons_succ, List.getElem?_cons_zero]; exact rfl)
              case hsd1xm9 => kernel_rfl
              case hfd1xm9 => kernel_rfl
              case hrd1xm9 => kernel_rfl
              case hQd1xm9 => exact fun _ _ _ h => h
              case hyd1xm9 => (first | (refine Or.inr ⟨by rfl, ?_⟩; rfl) | (refine Or.inl ⟨by rfl, ?_⟩; (intro w hSw; (try dsimp only at hSw); go_simp); try with_reducible rfl))
              case hSd1xm9 => assumption
              try simp only [Act.put, List.setIfInBounds_toArray, List.set_cons_zero, List.set_cons_succ]
              refine wpAnyH_ready (rs := [10]) (by kernel_rfl) (by simp) ?_
              refine' AllReadyH.cons ?hie1xm (fun K hK => ?he1xm) AllReadyH.nil
              case hie1xm => (simp only [List.getElem?_toArray, List.getElem?_cons_succ, List.getElem?_cons_zero]; exact rfl)
              go_simp
              refine hK.out _ _ (by go_keep) (fun hHeld => ?_)
              clear hK K
              refine wpAnyH_done (by kernel_rfl) ?_ _
              refine NoPanic.normal ?_
              clear hHeld r0 r1 u0 u1
              have HO1C := Lib.hid (HO1A.out.setCell (g := g + 3) (o := 1) (by omega) (.slice AA LA cA))
              have HO2C := Lib.hid (HO2A.out.setCell (g := g + 3) (o := 1) (by omega) (.slice AA LA cA))
              have HBLC := Lib.hid (HBLB.out.set1 (.slice AA LA cA))
              have HBWC := Lib.hid (HBWB.out.setCell (p := ⟨g + 3, 1, none⟩) (by have := HG.out; simp only; omega) (.slice AA LA cA))
              have HZC : Hid (g + 4 ≤ (wA.setCell ⟨g + 3, 1, none⟩ (.slice AA LA cA)).heap.size) := Lib.hid (by have h1 := size_of_block hnewA; simp; omega)
              rw [← HK2.out] at HO1C
              rw [← HV2.out] at HO2C
              clear hsA hnewA
              go_wp2
              go_roundw
              case rel => exact ⟨k + 1, .slice A8 L8 c8, .slice AA LA cA, by omega, by go_num, HBLC, HO1C, HO2C, HBWC, HZC⟩
              case measure => simp [intOf]; try omega
            case hBxm =>
              go_simp
              refine hK.out _ _ (by go_keep) (fun hHeld => ?_)
              clear hK K
              have hbx : Below w9.heap.size w9 (w9.alloc (.cells #[.int .i64 z] 3)).drew := below_drewN (below_1 w9 _) 1
              have HON9 := Lib.hid (HO19.out.below hbx)
              have HOI9 := Lib.hid (HO29.out.below hbx)
              have HBLA := Lib.hid (HBL9.out.below hbx)
              have HBWA := Lib.hid (HBW9.out.trans (hbx.mono HBW9.out.size))
              have hnewA : (w9.alloc (.cells #[.int .i64 z] 3)).drew.heap[w9.heap.size]? = some (.cells #[.int .i64 z] 3 (0, 0)) := heap_alloc_new w9 _
              clear hbx
              refine wpAnyH_ready (rs := [1]) (by kernel_rfl) (by simp) ?_
              refine' AllReadyH.cons ?hib2xm (fun K hK => ?hb2xm) AllReadyH.nil
              case hib2xm => (simp only [List.getElem?_toArray, List.getElem?_cons_succ, List.getElem?_cons_zero]; exact rfl)
              go_simp
              refine hK.out _ _ (by go_keep) (fun hHeld => ?_)
              clear hK K
              refine wpAnyH_ready (rs := [8]) (by kernel_rfl) (by simp) ?_
              refine' AllReadyH.cons ?hic2xm (fun K hK => ?hc2xm) AllReadyH.nil
              case hic2xm => (simp only [List.getElem?_toArray, List.getElem?_cons_succ, List.getElem?_cons_zero]; exact rfl)
              (refine step_append_intT rfl (.tmp 32) (.tmp 38) 27 Tryz.underlying27 rfl (g + 4) _ K2 rfl HOI9.out w9.heap.size z 3 rfl hnewA HWZ.out (by have := HLV.out; omega) (by simp; omega) ?_)
              intro vA wA hownA hgrowA
              have HO2A := Lib.hid hownA
              have HO1A := Lib.hid (HON9.out.beside HOI9.out hgrowA)
              have HBLB := Lib.hid (HBLA.out.grow hgrowA HOI9.out.1 (Nat.le_refl _))
              have HBWB := Lib.hid (hgrowA.below HBWA.out HOI9.out.1 (by have := HG.out; omega) HBWA.out.size)
              have hsA := hgrowA.size
              obtain ⟨_, r0, _, _⟩ := row2 HBLB.out.b0
              obtain ⟨u0, u1, _, _⟩ := row2 HBLB.out.b3
              have r1 := (hgrowA.cell (p := ⟨b', o' + k, none⟩) (B := 0) HOI9.out.1 (Nat.lt_trans (show b' < w9.heap.size from k7) (size_of_block hnewA)) (fun q e => by have := (own_blk HOI9.out.1 q e).1; simp only; omega)).trans hHeld.2
              obtain ⟨AA, cA, hvA⟩ := hownA.form
              obtain ⟨LA, hLA⟩ : ∃ LA, (K2 ++ [z]).length = LA := ⟨_, rfl⟩
              rw [hLA] at hvA
              subst hvA
              clear hownA hgrowA hLA
              refine hK.out _ _ (by go_keep) (fun hHeld => ?_)
              clear hK K
              refine' wpAnyH_take (i := 9) ?hid2xm9 ?hsd2xm9 ?hfd2xm9 ?hrd2xm9 ?hQd2xm9 ?hyd2xm9 ?hSd2xm9 ?hd2xm9
              case hid2xm9 => (simp only [List.getElem?_toArray, List.getElem?_cons_succ, List.getElem?_cons_zero]; exact rfl)
              case hsd2xm9 => kernel_rfl
              case hfd2xm9 => kernel_rfl
              case hrd2xm9 => kernel_rfl
              case hQd2xm9 => exact fun _ _ _ h => h
              case hyd2xm9 => (first | (refine Or.inr ⟨by rfl, ?_⟩; rfl) | (refine Or.inl ⟨by rfl, ?_⟩; (intro w hSw; (try dsimp only at hSw); go_simp); try with_reducible rfl))
              case hSd2xm9 => assumption
              try simp only [Act.put, List.setIfInBounds_toArray, List.set_cons_zero, List.set_cons_succ]
              refine wpAnyH_ready (rs := [10]) (by kernel_rfl) (by simp) ?_
              refine' AllReadyH.cons ?hie2xm (fun K hK => ?he2xm) AllReadyH.nil
              case hie2xm => (simp only [List.getElem?_toArray, List.getElem?_cons_succ, List.getElem?_cons_zero]; exact rfl)
              go_simp
              refine hK.out _ _ (by go_keep) (fun hHeld => ?_)
              clear hK K
              refine wpAnyH_done (by kernel_rfl) ?_ _
              refine NoPanic.normal ?_
              clear hHeld r0 r1 u0 u1
              have HO1C := Lib.hid (HO1A.out.setCell (g := g + 3) (o := 1) (by omega) (.slice AA LA cA))
              have HO2C := Lib.hid (HO2A.out.setCell (g := g + 3) (o := 1) (by omega) (.slice AA LA cA))
              have HBLC := Lib.hid (HBLB.out.set1 (.slice AA LA cA))
              have HBWC := Lib.hid (HBWB.out.setCell (p := ⟨g + 3, 1, none⟩) (by have := HG.out; simp only; omega) (.slice AA LA cA))
              have HZC : Hid (g + 4 ≤ (wA.setCell ⟨g + 3, 1, none⟩ (.slice AA LA cA)).heap.size) := Lib.hid (by have h1 := size_of_block hnewA; simp; omega)
              rw [← HK2.out] at HO1C
              rw [← HV2.out] at HO2C
              clear hsA hnewA
              go_wp2
              go_roundw
              case rel => exact ⟨k + 1, .slice A8 L8 c8, .slice AA LA cA, by omega, by go_num, HBLC, HO1C, HO2C, HBWC, HZC⟩
              case measure => simp [intOf]; try omega
          case hBam =>
            go_simp
            refine hK.out _ _ (by go_keep) (fun hHeld => ?_)
            clear hK K
            have hbx : Below w5.heap.size w5 (w5.alloc (.cells #[.int .u32 x, .int .i64 x'] 47)).drew := below_drewN (below_1 w5 _) 1
            have HON := Lib.hid (HO15.out.below hbx)
            have HOI := Lib.hid (HO25.out.below hbx)
            have HBL7 := Lib.hid (HBL5.out.below hbx)
            have HBW7 := Lib.hid (HBW5.out.trans (hbx.mono HBW5.out.size))
            have hnew7 : (w5.alloc (.cells #[.int .u32 x, .int .i64 x'] 47)).drew.heap[w5.heap.size]? = some (.cells #[.int .u32 x, .int .i64 x'] 47 (0, 0)) := heap_alloc_new w5 _
            have HD2 := Lib.hid ((hbx.cell (p := ⟨b', o' + k, none⟩) m7).trans ((HBW5.out.cell (p := ⟨b', o' + k, none⟩) (by have := HG.out; simp only; omega)).trans C2.out))
            clear hbx
            refine wpAnyH_ready (rs := [1]) (by kernel_rfl) (by simp) ?_
            refine' AllReadyH.cons ?hib2m (fun K hK => ?hb2m) AllReadyH.nil
            case hib2m => (simp only [List.getElem?_toArray, List.getElem?_cons_succ, List.getElem?_cons_zero]; exact rfl)
            go_simp
            refine hK.out _ _ (by go_keep) (fun hHeld => ?_)
            clear hK K
            refine wpAnyH_ready (rs := [8]) (by kernel_rfl) (by simp) ?_
            refine' AllReadyH.cons ?hic2m (fun K hK => ?hc2m) AllReadyH.nil
            case hic2m => (simp only [List.getElem?_toArray, List.getElem?_cons_succ, List.getElem?_cons_zero]; exact rfl)
            (refine step_append_netT rfl (.tmp 22) (.tmp 28) 26 Tryz.underlying26 rfl (g + 4) _ K1 rfl HON.out w5.heap.size (x, x') 47 rfl hnew7 HWN.out (by have := HLK.out; omega) (by simp; omega) ?_)
            intro v8 w8 hown8 hgrow8
            have HO18 := Lib.hid hown8
            have HO28 := Lib.hid (HOI.out.beside HON.out hgrow8)
            have HBL8 := Lib.hid (HBL7.out.grow hgrow8 HON.out.1 (Nat.le_refl _))
            have HBW8 := Lib.hid (hgrow8.below HBW7.out HON.out.1 (by have := HG.out; omega) HBW7.out.size)
            have hs8 := hgrow8.size
            obtain ⟨r0, _, _, _⟩ := row2 HBL8.out.b0
            obtain ⟨u0, u1, _, _⟩ := row2 HBL8.out.b3
            have r1 := (hgrow8.cell (p := ⟨b, o + k * 2, none⟩) (B := 0) HON.out.1 (Nat.lt_trans (show b < w5.heap.size from m1) (size_of_block hnew7)) (fun q e => by have := (own_blk HON.out.1 q e).1; simp only; omega)).trans hHeld.2.1
            have r2 := (hgrow8.cell (p := ⟨b, o + k * 2 + 1, none⟩) (B := 0) HON.out.1 (Nat.lt_trans (show b < w5.heap.size from m1) (size_of_block hnew7)) (fun q e => by have := (own_blk HON.out.1 q e).1; simp only; omega)).trans hHeld.2.2
            have HD28 := Lib.hid ((hgrow8.cell (p := ⟨b', o' + k, none⟩) (B := 0) HON.out.1 (Nat.lt_trans (show b' < w5.heap.size from m7) (size_of_block hnew7)) (fun q e => by have := (own_blk HON.out.1 q e).1; simp only; omega)).trans HD2.out)
            obtain ⟨A8, c8, hv8⟩ := hown8.form
            obtain ⟨L8, hL8⟩ : ∃ L8, (K1 ++ [(x, x')]).length = L8 := ⟨_, rfl⟩
            rw [hL8] at hv8
            subst hv8
            clear hown8 hgrow8 hL8
            refine hK.out _ _ (by go_keep) (fun hHeld => ?_)
            clear hK K
            refine' wpAnyH_take (i := 9) ?hid2m9 ?hsd2m9 ?hfd2m9 ?hrd2m9 ?hQd2m9 ?hyd2m9 ?hSd2m9 ?hd2m9
            case hid2m9 => (simp only [List.getElem?_toArray, List.getElem?_cons_succ, List.getElem?_cons_zero]; exact rfl)
            case hsd2m9 => kernel_rfl
            case hfd2m9 => kernel_rfl
            case hrd2m9 => kernel_rfl
            case hQd2m9 => exact fun _ _ _ h => h
            case hyd2m9 => (first | (refine Or.inr ⟨by rfl, ?_⟩; rfl) | (refine Or.inl ⟨by rfl, ?_⟩; (intro w hSw; (try dsimp only at hSw); go_simp); try with_reducible rfl))
            case hSd2m9 => assumption
            try simp only [Act.put, List.setIfInBounds_toArray, List.set_cons_zero, List.set_cons_succ]
            refine wpAnyH_ready (rs := [10]) (by kernel_rfl) (by simp) ?_
            refine' AllReadyH.cons ?hie2m (fun K hK => ?he2m) AllReadyH.nil
            case hie2m => (simp only [List.getElem?_toArray, List.getElem?_cons_succ, List.getElem?_cons_zero]; exact rfl)
            go_simp
            refine hK.out _ _ (by go_keep) (fun hHeld => ?_)
            clear hK K
            refine wpAnyH_done (by kernel_rfl) ?_ _
            refine NoPanic.normal ?_
            clear hHeld r0 r1 r2 u0 u1
            have HO19 := Lib.hid (HO18.out.setCell (g := g + 3) (o := 0) (by omega) (.slice A8 L8 c8))
            have HO29 := Lib.hid (HO28.out.setCell (g := g + 3) (o := 0) (by omega) (.slice A8 L8 c8))
            have HBL9 := Lib.hid (HBL8.out.set0 (.slice A8 L8 c8))
            have HBW9 := Lib.hid (HBW8.out.setCell (p := ⟨g + 3, 0, none⟩) (by have := HG.out; simp only; omega) (.slice A8 L8 c8))
            have HD9 : Hid ((w8.setCell ⟨g + 3, 0, none⟩ (.slice A8 L8 c8)).cell? ⟨b', o' + k, none⟩ = some (.int .i64 z)) := Lib.hid ((World.cell?_setCell_other w8 ⟨g + 3, 0, none⟩ ⟨b', o' + k, none⟩ (.slice A8 L8 c8) (fun e => by injection e with e; omega)).trans HD28.out)
            have hz9 : w5.heap.size ≤ (w8.setCell ⟨g + 3, 0, none⟩ (.slice A8 L8 c8)).heap.size := by have h1 := size_of_block hnew7; simp; omega
            generalize w8.setCell ⟨g + 3, 0, none⟩ (.slice A8 L8 c8) = w9 at *
            clear n1 n1s n2 m4 m5 m6 hnew7 hs8
            have HZ9 : Hid (g + 4 ≤ w9.heap.size) := Lib.hid (by omega)
            obtain ⟨y0, y1, _, _⟩ := row2 HBL9.out.b0
            obtain ⟨e0, e1, _, _⟩ := row2 HBL9.out.b3
            have f2 := HD9.out
            have n2 : ¬ g = g + 3 := by omega
            have k2 : g < w9.heap.size := by omega
            have k3 : g + 3 < w9.heap.size := by omega
            have k5 : ¬ g = w9.heap.size := by omega
            have k6 : ¬ g + 3 = w9.heap.size := by omega
            have k7 : b' < w9.heap.size := by omega
            have k8 : ¬ b' = w9.heap.size := by omega
            go_upto_region 7 with (fail)
            refine wp_region_noPanic ?_
            refine wp_region_held_drew (S := (fun w' => w'.cell? ⟨g, 1, none⟩ = some (.slice (some ⟨b', o', none⟩) n' c') ∧ w'.cell? ⟨b', o' + k, none⟩ = some (.int .i64 z))) (by kernel_rfl) (by go_keep) (fun hHeld => ?_)
            refine' wpAnyH_take (i := 0) ?hiym0 ?hsym0 ?hfym0 ?hrym0 ?hQym0 ?hyym0 ?hSym0 ?hym0
            case hiym0 => (simp only [List.getElem?_toArray, List.getElem?_cons_succ, List.getElem?_cons_zero]; exact rfl)
            case hsym0 => kernel_rfl
            case hfym0 => kernel_rfl
            case hrym0 => kernel_rfl
            case hQym0 => exact fun _ _ _ h => h
            case hyym0 => (first | (refine Or.inr ⟨by rfl, ?_⟩; rfl) | (refine Or.inl ⟨by rfl, ?_⟩; (intro w hSw; (try dsimp only at hSw); go_simp); try with_reducible rfl))
            case hSym0 => assumption
            try simp only [Act.put, List.setIfInBounds_toArray, List.set_cons_zero, List.set_cons_succ]
            refine' wpAnyH_take (i := 2) ?hiym2 ?hsym2 ?hfym2 ?hrym2 ?hQym2 ?hyym2 ?hSym2 ?hym2
            case hiym2 => (simp only [List.getElem?_toArray, List.getElem?_cons_succ, List.getElem?_cons_zero]; exact rfl)
            case hsym2 => kernel_rfl
            case hfym2 => kernel_rfl
            case hrym2 => kernel_rfl
            case hQym2 => exact fun _ _ _ h => h
            case hyym2 => (first | (refine Or.inr ⟨by rfl, ?_⟩; rfl) | (refine Or.inl ⟨by rfl, ?_⟩; (intro w hSw; (try dsimp only at hSw); go_simp); try with_reducible rfl))
            case hSym2 => assumption
            try simp only [Act.put, List.setIfInBounds_toArray, List.set_cons_zero, List.set_cons_succ]
            refine' wpAnyH_take (i := 3) ?hiym3 ?hsym3 ?hfym3 ?hrym3 ?hQym3 ?hyym3 ?hSym3 ?hym3
            case hiym3 => (simp only [List.getElem?_toArray, List.getElem?_cons_succ, List.getElem?_cons_zero]; exact rfl)
            case hsym3 => kernel_rfl
            case hfym3 => kernel_rfl
            case hrym3 => kernel_rfl
            case hQym3 => exact fun _ _ _ h => h
            case hyym3 => (first | (refine Or.inr ⟨by rfl, ?_⟩; rfl) | (refine Or.inl ⟨by rfl, ?_⟩; (intro w hSw; (try dsimp only at hSw); go_simp); try with_reducible rfl))
            case hSym3 => assumption
            try simp only [Act.put, List.setIfInBounds_toArray, List.set_cons_zero, List.set_cons_succ]
            refine' wpAnyH_take (i := 4) ?hiym4 ?hsym4 ?hfym4 ?hrym4 ?hQym4 ?hyym4 ?hSym4 ?hym4
            case hiym4 => (simp only [List.getElem?_toArray, List.getElem?_cons_succ, List.getElem?_cons_zero]; exact rfl)
            case hsym4 => kernel_rfl
            case hfym4 => kernel_rfl
            case hrym4 => kernel_rfl
            case hQym4 => exact fun _ _ _ h => h
            case hyym4 => (first | (refine Or.inr ⟨by rfl, ?_⟩; rfl) | (refine Or.inl ⟨by rfl, ?_⟩; (intro w hSw; (try dsimp only at hSw); go_simp); try with_reducible rfl))
            case hSym4 => assumption
            try simp only [Act.put, List.setIfInBounds_toArray, List.set_cons_zero, List.set_cons_succ]
            refine' wpAnyH_take (i := 5) ?hiym5 ?hsym5 ?hfym5 ?hrym5 ?hQym5 ?hyym5 ?hSym5 ?hym5
            case hiym5 => (simp only [List.getElem?_toArray, List.getElem?_cons_succ, List.getElem?_cons_zero]; exact rfl)
            case hsym5 => kernel_rfl
            case hfym5 => kernel_rfl
            case hrym5 => kernel_rfl
            case hQym5 => exact fun _ _ _ h => h
            case hyym5 => (first | (refine Or.inr ⟨by rfl, ?_⟩; rfl) | (refine Or.inl ⟨by rfl, ?_⟩; (intro w hSw; (try dsimp only at hSw); go_simp); try with_reducible rfl))
            case hSym5 => assumption
            try simp only [Act.put, List.setIfInBounds_toArray, List.set_cons_zero, List.set_cons_succ]
            refine' wpAnyH_take (i := 6) ?hiym6 ?hsym6 ?hfym6 ?hrym6 ?hQym6 ?hyym6 ?hSym6 ?hym6
            case hiym6 => (simp only [List.getElem?_toArray, List.getElem?_cons_succ, List.getElem?_cons_zero]; exact rfl)
            case hsym6 => kernel_rfl
            case hfym6 => kernel_rfl
            case hrym6 => kernel_rfl
            case hQym6 => exact fun _ _ _ h => h
            case hyym6 => (first | (refine Or.inr ⟨by rfl, ?_⟩; rfl) | (refine Or.inl ⟨by rfl, ?_⟩; (intro w hSw; (try dsimp only at hSw); go_simp); try with_reducible rfl))
            case hSym6 => assumption
            try simp only [Act.put, List.setIfInBounds_toArray, List.set_cons_zero, List.set_cons_succ]
            refine wpAnyH_ready (rs := [1, 7]) (by kernel_rfl) (by simp) ?_
            refine' AllReadyH.cons ?hiAym (fun K hK => ?hAym) (AllReadyH.cons ?hiBym (fun K hK => ?hBym) AllReadyH.nil)
            case hiAym => (simp only [List.getElem?_toArray, List.getElem?_cons_succ, List.getElem?_cons_zero]; exact rfl)
            case hiBym => (simp only [List.getElem?_toArray, List.getElem?_cons_succ, List.getElem?_cons_zero]; exact rfl)
            case hAym =>
              go_simp
              refine hK.out _ _ (by go_keep) (fun hHeld => ?_)
              clear hK K
              refine wpAnyH_ready (rs := [7]) (by kernel_rfl) (by simp) ?_
              refine' AllReadyH.cons ?hib1ym (fun K hK => ?hb1ym) AllReadyH.nil
              case hib1ym => (simp only [List.getElem?_toArray, List.getElem?_cons_succ, List.getElem?_cons_zero]; exact rfl)
              go_simp
              refine hK.out _ _ (by go_keep) (fun hHeld => ?_)
              clear hK K
              have hbx : Below w9.heap.size w9 (w9.alloc (.cells #[.int .i64 z] 3)).drew := below_drewN (below_1 w9 _) 1
              have HON9 := Lib.hid (HO19.out.below hbx)
              have HOI9 := Lib.hid (HO29.out.below hbx)
              have HBLA := Lib.hid (HBL9.out.below hbx)
              have HBWA := Lib.hid (HBW9.out.trans (hbx.mono HBW9.out.size))
              have hnewA : (w9.alloc (.cells #[.int .i64 z] 3)).drew.heap[w9.heap.size]? = some (.cells #[.int .i64 z] 3 (0, 0)) := heap_alloc_new w9 _
              clear hbx
              refine wpAnyH_ready (rs := [8]) (by kernel_rfl) (by simp) ?_
              refine' AllReadyH.cons ?hic1ym (fun K hK => ?hc1ym) AllReadyH.nil
              case hic1ym => (simp only [List.getElem?_toArray, List.getElem?_cons_succ, List.getElem?_cons_zero]; exact rfl)
              (refine step_append_intT rfl (.tmp 32) (.tmp 38) 27 Tryz.underlying27 rfl (g + 4) _ K2 rfl HOI9.out w9.heap.size z 3 rfl hnewA HWZ.out (by have := HLV.out; omega) (by simp; omega) ?_)
              intro vA wA hownA hgrowA
              have HO2A := Lib.hid hownA
              have HO1A := Lib.hid (HON9.out.beside HOI9.out hgrowA)
              have HBLB := Lib.hid (HBLA.out.grow hgrowA HOI9.out.1 (Nat.le_refl _))
              have HBWB := Lib.hid (hgrowA.below HBWA.out HOI9.out.1 (by have := HG.out; omega) HBWA.out.size)
              have hsA := hgrowA.size
              obtain ⟨_, r0, _, _⟩ := row2 HBLB.out.b0
              obtain ⟨u0, u1, _, _⟩ := row2 HBLB.out.b3
              have r1 := (hgrowA.cell (p := ⟨b', o' + k, none⟩) (B := 0) HOI9.out.1 (Nat.lt_trans (show b' < w9.heap.size from k7) (size_of_block hnewA)) (fun q e => by have := (own_blk HOI9.out.1 q e).1; simp only; omega)).trans hHeld.2
              obtain ⟨AA, cA, hvA⟩ := hownA.form
              obtain ⟨LA, hLA⟩ : ∃ LA, (K2 ++ [z]).length = LA := ⟨_, rfl⟩
              rw [hLA] at hvA
              subst hvA
              clear hownA hgrowA hLA
              refine hK.out _ _ (by go_keep) (fun hHeld => ?_)
              clear hK K
              refine' wpAnyH_take (i := 9) ?hid1ym9 ?hsd1ym9 ?hfd1ym9 ?hrd1ym9 ?hQd1ym9 ?hyd1ym9 ?hSd1ym9 ?hd1ym9
              case hid1ym9 => (simp only [List.getElem?_toArray, List.getElem?_cons_succ, List.getElem?_cons_zero]; exact rfl)
              case hsd1ym9 => kernel_rfl
              case hfd1ym9 => kernel_rfl
              case hrd1ym9 => kernel_rfl
              case hQd1ym9 => exact fun _ _ _ h => h
              case hyd1ym9 => (first | (refine Or.inr ⟨by rfl, ?_⟩; rfl) | (refine Or.inl ⟨by rfl, ?_⟩; (intro w hSw; (try dsimp only at hSw); go_simp); try with_reducible rfl))
              case hSd1ym9 => assumption
              try simp only [Act.put, List.setIfInBounds_toArray, List.set_cons_zero, List.set_cons_succ]
              refine wpAnyH_ready (rs := [10]) (by kernel_rfl) (by simp) ?_
              refine' AllReadyH.cons ?hie1ym (fun K hK => ?he1ym) AllReadyH.nil
              case hie1ym => (simp only [List.getElem?_toArray, List.getElem?_cons_succ, List.getElem?_cons_zero]; exact rfl)
              go_simp
              refine hK.out _ _ (by go_keep) (fun hHeld => ?_)
              clear hK K
              refine wpAnyH_done (by kernel_rfl) ?_ _
              refine NoPanic.normal ?_
              clear hHeld r0 r1 u0 u1
              have HO1C := Lib.hid (HO1A.out.setCell (g := g + 3) (o := 1) (by omega) (.slice AA LA cA))
              have HO2C := Lib.hid (HO2A.out.setCell (g := g + 3) (o := 1) (by omega) (.slice AA LA cA))
              have HBLC := Lib.hid (HBLB.out.set1 (.slice AA LA cA))
              have HBWC := Lib.hid (HBWB.out.setCell (p := ⟨g + 3, 1, none⟩) (by have := HG.out; simp only; omega) (.slice AA LA cA))
              have HZC : Hid (g + 4 ≤ (wA.setCell ⟨g + 3, 1, none⟩ (.slice AA LA cA)).heap.size) := Lib.hid (by have h1 := size_of_block hnewA; simp; omega)
              rw [← HK2.out] at HO1C
              rw [← HV2.out] at HO2C
              clear hsA hnewA
              go_wp2
              go_roundw
              case rel => exact ⟨k + 1, .slice A8 L8 c8, .slice AA LA cA, by omega, by go_num, HBLC, HO1C, HO2C, HBWC, HZC⟩
              case measure => simp [intOf]; try omega
            case hBym =>
              go_simp
              refine hK.out _ _ (by go_keep) (fun hHeld => ?_)
              clear hK K
              have hbx : Below w9.heap.size w9 (w9.alloc (.cells #[.int .i64 z] 3)).drew := below_drewN (below_1 w9 _) 1
              have HON9 := Lib.hid (HO19.out.below hbx)
              have HOI9 := Lib.hid (HO29.out.below hbx)
              have HBLA := Lib.hid (HBL9.out.below hbx)
              have HBWA := Lib.hid (HBW9.out.trans (hbx.mono HBW9.out.size))
              have hnewA : (w9.alloc (.cells #[.int .i64 z] 3)).drew.heap[w9.heap.size]? = some (.cells #[.int .i64 z] 3 (0, 0)) := heap_alloc_new w9 _
              clear hbx
              refine wpAnyH_ready (rs := [1]) (by kernel_rfl) (by simp) ?_
              refine' AllReadyH.cons ?hib2ym (fun K hK => ?hb2ym) AllReadyH.nil
              case hib2ym => (simp only [List.getElem?_toArray, List.getElem?_cons_succ, List.getElem?_cons_zero]; exact rfl)
              go_simp
              refine hK.out _ _ (by go_keep) (fun hHeld => ?_)
              clear hK K
              refine wpAnyH_ready (rs := [8]) (by kernel_rfl) (by simp) ?_
              refine' AllReadyH.cons ?hic2ym (fun K hK => ?hc2ym) AllReadyH.nil
              case hic2ym => (simp only [List.getElem?_toArray, List.getElem?_cons_succ, List.getElem?_cons_zero]; exact rfl)
              (refine step_append_intT rfl (.tmp 32) (.tmp 38) 27 Tryz.underlying27 rfl (g + 4) _ K2 rfl HOI9.out w9.heap.size z 3 rfl hnewA HWZ.out (by have := HLV.out; omega) (by simp; omega) ?_)
              intro vA wA hownA hgrowA
              have HO2A := Lib.hid hownA
              have HO1A := Lib.hid (HON9.out.beside HOI9.out hgrowA)
              have HBLB := Lib.hid (HBLA.out.grow hgrowA HOI9.out.1 (Nat.le_refl _))
              have HBWB := Lib.hid (hgrowA.below HBWA.out HOI9.out.1 (by have := HG.out; omega) HBWA.out.size)
              have hsA := hgrowA.size
              obtain ⟨_, r0, _, _⟩ := row2 HBLB.out.b0
              obtain ⟨u0, u1, _, _⟩ := row2 HBLB.out.b3
              have r1 := (hgrowA.cell (p := ⟨b', o' + k, none⟩) (B := 0) HOI9.out.1 (Nat.lt_trans (show b' < w9.heap.size from k7) (size_of_block hnewA)) (fun q e => by have := (own_blk HOI9.out.1 q e).1; simp only; omega)).trans hHeld.2
              obtain ⟨AA, cA, hvA⟩ := hownA.form
              obtain ⟨LA, hLA⟩ : ∃ LA, (K2 ++ [z]).length = LA := ⟨_, rfl⟩
              rw [hLA] at hvA
              subst hvA
              clear hownA hgrowA hLA
              refine hK.out _ _ (by go_keep) (fun hHeld => ?_)
              clear hK K
              refine' wpAnyH_take (i := 9) ?hid2ym9 ?hsd2ym9 ?hfd2ym9 ?hrd2ym9 ?hQd2ym9 ?hyd2ym9 ?hSd2ym9 ?hd2ym9
              case hid2ym9 => (simp only [List.getElem?_toArray, List.getElem?_cons_succ, List.getElem?_cons_zero]; exact rfl)
              case hsd2ym9 => kernel_rfl
              case hfd2ym9 => kernel_rfl
              case hrd2ym9 => kernel_rfl
              case hQd2ym9 => exact fun _ _ _ h => h
              case hyd2ym9 => (first | (refine Or.inr ⟨by rfl, ?_⟩; rfl) | (refine Or.inl ⟨by rfl, ?_⟩; (intro w hSw; (try dsimp only at hSw); go_simp); try with_reducible rfl))
              case hSd2ym9 => assumption
              try simp only [Act.put, List.setIfInBounds_toArray, List.set_cons_zero, List.set_cons_succ]
              refine wpAnyH_ready (rs := [10]) (by kernel_rfl) (by simp) ?_
              refine' AllReadyH.cons ?hie2ym (fun K hK => ?he2ym) AllReadyH.nil
              case hie2ym => (simp only [List.getElem?_toArray, List.getElem?_cons_succ, List.getElem?_cons_zero]; exact rfl)
              go_simp
              refine hK.out _ _ (by go_keep) (fun hHeld => ?_)
              clear hK K
              refine wpAnyH_done (by kernel_rfl) ?_ _
              refine NoPanic.normal ?_
              clear hHeld r0 r1 u0 u1
              have HO1C := Lib.hid (HO1A.out.setCell (g := g + 3) (o := 1) (by omega) (.slice AA LA cA))
              have HO2C := Lib.hid (HO2A.out.setCell (g := g + 3) (o := 1) (by omega) (.slice AA LA cA))
              have HBLC := Lib.hid (HBLB.out.set1 (.slice AA LA cA))
              have HBWC := Lib.hid (HBWB.out.setCell (p := ⟨g + 3, 1, none⟩) (by have := HG.out; simp only; omega) (.slice AA LA cA))
              have HZC : Hid (g + 4 ≤ (wA.setCell ⟨g + 3, 1, none⟩ (.slice AA LA cA)).heap.size) := Lib.hid (by have h1 := size_of_block hnewA; simp; omega)
              rw [← HK2.out] at HO1C
              rw [← HV2.out] at HO2C
              clear hsA hnewA
              go_wp2
              go_roundw
              case rel => exact ⟨k + 1, .slice A8 L8 c8, .slice AA LA cA, by omega, by go_num, HBLC, HO1C, HO2C, HBWC, HZC⟩
              case measure => simp [intOf]; try omega
        · have t1 : (x' == l) = false := by simpa using hx
          clear hx
          go_wp2
          go_quiet (fail)
          generalize hw5 : wr.drewN _ = w5
          have hb5 : Below wr.heap.size wr w5 := by rw [← hw5]; exact below_drewN (Below.refl _ _) _
          have HBL5 := Lib.hid (HBL.out.below hb5)
          have HO15 := Lib.hid (HO1.out.below hb5)
          have HO25 := Lib.hid (HO2.out.below hb5)
          have HBW5 := Lib.hid (HBW.out.trans (hb5.mono HBW.out.size))
          have HZ5 := Lib.hid (Nat.le_trans HZ.out hb5.size)
          have hz5 : g + 4 ≤ w5.heap.size := HZ5.out
          have hzr : g + 4 ≤ wr.heap.size := HZ.out
          have hs5 := hb5.size
          have d0 := (hb5.cell (p := ⟨b, o + k * 2, none⟩) (by simp only; omega)).trans D0.out
          have d1 := (hb5.cell (p := ⟨b, o + k * 2 + 1, none⟩) (by simp only; omega)).trans D1.out
          obtain ⟨y0, y1, _, _⟩ := row2 HBL5.out.b0
          obtain ⟨e0, e1, _, _⟩ := row2 HBL5.out.b3
          have n1 : ¬ b = g + 3 := by omega
          have n1s : ¬ g + 3 = b := by omega
          have n2s : ¬ g + 3 = g := by omega
          have m8s : ¬ g + 3 = b' := by omega
          have n2 : ¬ g = g + 3 := by omega
          have m1 : b < w5.heap.size := by omega
          have m2 : g < w5.heap.size := by omega
          have m3 : g + 3 < w5.heap.size := by omega
          have m4 : ¬ b = w5.heap.size := by omega
          have m5 : ¬ g = w5.heap.size := by omega
          have m6 : ¬ g + 3 = w5.heap.size := by omega
          have m7 : b' < w5.heap.size := by omega
          have m8 : ¬ b' = g + 3 := by omega
          clear hw5 hb5
          go_upto_region 6 with (fail)
          refine wp_region_noPanic ?_
          refine wp_region_held_drew (S := (fun w' => w'.cell? ⟨g, 0, none⟩ = some (.slice (some ⟨b, o, none⟩) n' c) ∧ w'.cell? ⟨b, o + k * 2, none⟩ = some (.int .u32 x) ∧ w'.cell? ⟨b, o + k * 2 + 1, none⟩ = some (.int .i64 x'))) (by kernel_rfl) (by go_keep) (fun hHeld => ?_)
          refine' wpAnyH_take (i := 0) ?hian0 ?hsan0 ?hfan0 ?hran0 ?hQan0 ?hyan0 ?hSan0 ?han0
          case hian0 => (simp only [List.getElem?_toArray, List.getElem?_cons_succ, List.getElem?_cons_zero]; exact rfl)
          case hsan0 => kernel_rfl
          case hfan0 => kernel_rfl
          case hran0 => kernel_rfl
          case hQan0 => exact fun _ _ _ h => h
          case hyan0 => (first | (refine Or.inr ⟨by rfl, ?_⟩; rfl) | (refine Or.inl ⟨by rfl, ?_⟩; (intro w hSw; (try dsimp only at hSw); go_simp); try with_reducible rfl))
          case hSan0 => assumption
          try simp only [Act.put, List.setIfInBounds_toArray, List.set_cons_zero, List.set_cons_succ]
          refine' wpAnyH_take (i := 2) ?hian2 ?hsan2 ?hfan2 ?hran2 ?hQan2 ?hyan2 ?hSan2 ?han2
          case hian2 => (simp only [List.getElem?_toArray, List.getElem?_cons_succ, List.getElem?_cons_zero]; exact rfl)
          case hsan2 => kernel_rfl
          case hfan2 => kernel_rfl
          case hran2 => kernel_rfl
          case hQan2 => exact fun _ _ _ h => h
          case hyan2 => (first | (refine Or.inr ⟨by rfl, ?_⟩; rfl) | (refine Or.inl ⟨by rfl, ?_⟩; (intro w hSw; (try dsimp only at hSw); go_simp); try with_reducible rfl))
          case hSan2 => assumption
          try simp only [Act.put, List.setIfInBounds_toArray, List.set_cons_zero, List.set_cons_succ]
          refine' wpAnyH_take (i := 3) ?hian3 ?hsan3 ?hfan3 ?hran3 ?hQan3 ?hyan3 ?hSan3 ?han3
          case hian3 => (simp only [List.getElem?_toArray, List.getElem?_cons_succ, List.getElem?_cons_zero]; exact rfl)
          case hsan3 => kernel_rfl
          case hfan3 => kernel_rfl
          case hran3 => kernel_rfl
          case hQan3 => exact fun _ _ _ h => h
          case hyan3 => (first | (refine Or.inr ⟨by rfl, ?_⟩; rfl) | (refine Or.inl ⟨by rfl, ?_⟩; (intro w hSw; (try dsimp only at hSw); go_simp); try with_reducible rfl))
          case hSan3 => assumption
          try simp only [Act.put, List.setIfInBounds_toArray, List.set_cons_zero, List.set_cons_succ]
          refine' wpAnyH_take (i := 4) ?hian4 ?hsan4 ?hfan4 ?hran4 ?hQan4 ?hyan4 ?hSan4 ?han4
          case hian4 => (simp only [List.getElem?_toArray, List.getElem?_cons_succ, List.getElem?_cons_zero]; exact rfl)
          case hsan4 => kernel_rfl
          case hfan4 => kernel_rfl
          case hran4 => kernel_rfl
          case hQan4 => exact fun _ _ _ h => h
          case hyan4 => (first | (refine Or.inr ⟨by rfl, ?_⟩; rfl) | (refine Or.inl ⟨by rfl, ?_⟩; (intro w hSw; (try dsimp only at hSw); go_simp); try with_reducible rfl))
          case hSan4 => assumption
          try simp only [Act.put, List.setIfInBounds_toArray, List.set_cons_zero, List.set_cons_succ]
          refine' wpAnyH_take (i := 5) ?hian5 ?hsan5 ?hfan5 ?hran5 ?hQan5 ?hyan5 ?hSan5 ?han5
          case hian5 => (simp only [List.getElem?_toArray, List.getElem?_cons_succ, List.getElem?_cons_zero]; exact rfl)
          case hsan5 => kernel_rfl
          case hfan5 => kernel_rfl
          case hran5 => kernel_rfl
          case hQan5 => exact fun _ _ _ h => h
          case hyan5 => (first | (refine Or.inr ⟨by rfl, ?_⟩; rfl) | (refine Or.inl ⟨by rfl, ?_⟩; (intro w hSw; (try dsimp only at hSw); go_simp); try with_reducible rfl))
          case hSan5 => assumption
          try simp only [Act.put, List.setIfInBounds_toArray, List.set_cons_zero, List.set_cons_succ]
          refine' wpAnyH_take (i := 6) ?hian6 ?hsan6 ?hfan6 ?hran6 ?hQan6 ?hyan6 ?hSan6 ?han6
          case hian6 => (simp only [List.getElem?_toArray, List.getElem?_cons_succ, List.getElem?_cons_zero]; exact rfl)
          case hsan6 => kernel_rfl
          case hfan6 => kernel_rfl
          case hran6 => kernel_rfl
          case hQan6 => exact fun _ _ _ h => h
          case hyan6 => (first | (refine Or.inr ⟨by rfl, ?_⟩; rfl) | (refine Or.inl ⟨by rfl, ?_⟩; (intro w hSw; (try dsimp only at hSw); go_simp); try with_reducible rfl))
          case hSan6 => assumption
          try simp only [Act.put, List.setIfInBounds_toArray, List.set_cons_zero, List.set_cons_succ]
          refine wpAnyH_ready (rs := [1, 7]) (by kernel_rfl) (by simp) ?_
          refine' AllReadyH.cons ?hiAan (fun K hK => ?hAan) (AllReadyH.cons ?hiBan (fun K hK => ?hBan) AllReadyH.nil)
          case hiAan => (simp only [List.getElem?_toArray, List.getElem?_cons_succ, List.getElem?_cons_zero]; exact rfl)
          case hiBan => (simp only [List.getElem?_toArray, List.getElem?_cons_succ, List.getElem?_cons_zero]; exact rfl)
          case hAan =>
            go_simp
            refine hK.out _ _ (by go_keep) (fun hHeld => ?_)
            clear hK K
            refine wpAnyH_ready (rs := [7]) (by kernel_rfl) (by simp) ?_
            refine' AllReadyH.cons ?hib1n (fun K hK => ?hb1n) AllReadyH.nil
            case hib1n => (simp only [List.getElem?_toArray, List.getElem?_cons_succ, List.getElem?_cons_zero]; exact rfl)
            go_simp
            refine hK.out _ _ (by go_keep) (fun hHeld => ?_)
            clear hK K
            have hbx : Below w5.heap.size w5 (w5.alloc (.cells #[.int .u32 x, .int .i64 x'] 47)).drew := below_drewN (below_1 w5 _) 1
            have HON := Lib.hid (HO15.out.below hbx)
            have HOI := Lib.hid (HO25.out.below hbx)
            have HBL7 := Lib.hid (HBL5.out.below hbx)
            have HBW7 := Lib.hid (HBW5.out.trans (hbx.mono HBW5.out.size))
            have hnew7 : (w5.alloc (.cells #[.int .u32 x, .int .i64 x'] 47)).drew.heap[w5.heap.size]? = some (.cells #[.int .u32 x, .int .i64 x'] 47 (0, 0)) := heap_alloc_new w5 _
            have HD2 := Lib.hid ((hbx.cell (p := ⟨b', o' + k, none⟩) m7).trans ((HBW5.out.cell (p := ⟨b', o' + k, none⟩) (by have := HG.out; simp only; omega)).trans C2.out))
            clear hbx
            refine wpAnyH_ready (rs := [8]) (by kernel_rfl) (by simp) ?_
            refine' AllReadyH.cons ?hic1n (fun K hK => ?hc1n) AllReadyH.nil
            case hic1n => (simp only [List.getElem?_toArray, List.getElem?_cons_succ, List.getElem?_cons_zero]; exact rfl)
            (refine step_append_netT rfl (.tmp 22) (.tmp 28) 26 Tryz.underlying26 rfl (g + 4) _ K1 rfl HON.out w5.heap.size (x, x') 47 rfl hnew7 HWN.out (by have := HLK.out; omega) (by simp; omega) ?_)
            intro v8 w8 hown8 hgrow8
            have HO18 := Lib.hid hown8
            have HO28 := Lib.hid (HOI.out.beside HON.out hgrow8)
            have HBL8 := Lib.hid (HBL7.out.grow hgrow8 HON.out.1 (Nat.le_refl _))
            have HBW8 := Lib.hid (hgrow8.below HBW7.out HON.out.1 (by have := HG.out; omega) HBW7.out.size)
            have hs8 := hgrow8.size
            obtain ⟨r0, _, _, _⟩ := row2 HBL8.out.b0
            obtain ⟨u0, u1, _, _⟩ := row2 HBL8.out.b3
            have r1 := (hgrow8.cell (p := ⟨b, o + k * 2, none⟩) (B := 0) HON.out.1 (Nat.lt_trans (show b < w5.heap.size from m1) (size_of_block hnew7)) (fun q e => by have := (own_blk HON.out.1 q e).1; simp only; omega)).trans hHeld.2.1
            have r2 := (hgrow8.cell (p := ⟨b, o + k * 2 + 1, none⟩) (B := 0) HON.out.1 (Nat.lt_trans (show b < w5.heap.size from m1) (size_of_block hnew7)) (fun q e => by have := (own_blk HON.out.1 q e).1; simp only; omega)).trans hHeld.2.2
            have HD28 := Lib.hid ((hgrow8.cell (p := ⟨b', o' + k, none⟩) (B := 0) HON.out.1 (Nat.lt_trans (show b' < w5.heap.size from m7) (size_of_block hnew7)) (fun q e => by have := (own_blk HON.out.1 q e).1; simp only; omega)).trans HD2.out)
            obtain ⟨A8, c8, hv8⟩ := hown8.form
            obtain ⟨L8, hL8⟩ : ∃ L8, (K1 ++ [(x, x')]).length = L8 := ⟨_, rfl⟩
            rw [hL8] at hv8
            subst hv8
            clear hown8 hgrow8 hL8
            refine hK.out _ _ (by go_keep) (fun hHeld => ?_)
            clear hK K
            refine' wpAnyH_take (i := 9) ?hid1n9 ?hsd1n9 ?hfd1n9 ?hrd1n9 ?hQd1n9 ?hyd1n9 ?hSd1n9 ?hd1n9
            case hid1n9 => (simp only [List.getElem?_toArray, List.getElem?_cons_succ, List.getElem?_cons_zero]; exact rfl)
            case hsd1n9 => kernel_rfl
            case hfd1n9 => kernel_rfl
            case hrd1n9 => kernel_rfl
            case hQd1n9 => exact fun _ _ _ h => h
            case hyd1n9 => (first | (refine Or.inr ⟨by rfl, ?_⟩; rfl) | (refine Or.inl ⟨by rfl, ?_⟩; (intro w hSw; (try dsimp only at hSw); go_simp); try with_reducible rfl))
            case hSd1n9 => assumption
            try simp only [Act.put, List.setIfInBounds_toArray, List.set_cons_zero, List.set_cons_succ]
            refine wpAnyH_ready (rs := [10]) (by kernel_rfl) (by simp) ?_
            refine' AllReadyH.cons ?hie1n (fun K hK => ?he1n) AllReadyH.nil
            case hie1n => (simp only [List.getElem?_toArray, List.getElem?_cons_succ, List.getElem?_cons_zero]; exact rfl)
            go_simp
            refine hK.out _ _ (by go_keep) (fun hHeld => ?_)
            clear hK K
            refine wpAnyH_done (by kernel_rfl) ?_ _
            refine NoPanic.normal ?_
            clear hHeld r0 r1 r2 u0 u1
            have HO19 := Lib.hid (HO18.out.setCell (g := g + 3) (o := 0) (by omega) (.slice A8 L8 c8))
            have HO29 := Lib.hid (HO28.out.setCell (g := g + 3) (o := 0) (by omega) (.slice A8 L8 c8))
            have HBL9 := Lib.hid (HBL8.out.set0 (.slice A8 L8 c8))
            have HBW9 := Lib.hid (HBW8.out.setCell (p := ⟨g + 3, 0, none⟩) (by have := HG.out; simp only; omega) (.slice A8 L8 c8))
            have HD9 : Hid ((w8.setCell ⟨g + 3, 0, none⟩ (.slice A8 L8 c8)).cell? ⟨b', o' + k, none⟩ = some (.int .i64 z)) := Lib.hid ((World.cell?_setCell_other w8 ⟨g + 3, 0, none⟩ ⟨b', o' + k, none⟩ (.slice A8 L8 c8) (fun e => by injection e with e; omega)).trans HD28.out)
            have hz9 : w5.heap.size ≤ (w8.setCell ⟨g + 3, 0, none⟩ (.slice A8 L8 c8)).heap.size := by have h1 := size_of_block hnew7; simp; omega
            generalize w8.setCell ⟨g + 3, 0, none⟩ (.slice A8 L8 c8) = w9 at *
            clear n1 n1s n2 m4 m5 m6 hnew7 hs8
            have HZ9 : Hid (g + 4 ≤ w9.heap.size) := Lib.hid (by omega)
            obtain ⟨y0, y1, _, _⟩ := row2 HBL9.out.b0
            obtain ⟨e0, e1, _, _⟩ := row2 HBL9.out.b3
            have f2 := HD9.out
            have n2 : ¬ g = g + 3 := by omega
            have k2 : g < w9.heap.size := by omega
            have k3 : g + 3 < w9.heap.size := by omega
            have k5 : ¬ g = w9.heap.size := by omega
            have k6 : ¬ g + 3 = w9.heap.size := by omega
            have k7 : b' < w9.heap.size := by omega
            have k8 : ¬ b' = w9.heap.size := by omega
            go_upto_region 7 with (fail)
            refine wp_region_noPanic ?_
            refine wp_region_held_drew (S := (fun w' => w'.cell? ⟨g, 1, none⟩ = some (.slice (some ⟨b', o', none⟩) n' c') ∧ w'.cell? ⟨b', o' + k, none⟩ = some (.int .i64 z))) (by kernel_rfl) (by go_keep) (fun hHeld => ?_)
            refine' wpAnyH_take (i := 0) ?hixn0 ?hsxn0 ?hfxn0 ?hrxn0 ?hQxn0 ?hyxn0 ?hSxn0 ?hxn0
            case hixn0 => (simp only [List.getElem?_toArray, List.getElem?_cons_succ, List.getElem?_cons_zero]; exact rfl)
            case hsxn0 => kernel_rfl
            case hfxn0 => kernel_rfl
            case hrxn0 => kernel_rfl
            case hQxn0 => exact fun _ _ _ h => h
            case hyxn0 => (first | (refine Or.inr ⟨by rfl, ?_⟩; rfl) | (refine Or.inl ⟨by rfl, ?_⟩; (intro w hSw; (try dsimp only at hSw); go_simp); try with_reducible rfl))
            case hSxn0 => assumption
            try simp only [Act.put, List.setIfInBounds_toArray, List.set_cons_zero, List.set_cons_succ]
            refine' wpAnyH_take (i := 2) ?hixn2 ?hsxn2 ?hfxn2 ?hrxn2 ?hQxn2 ?hyxn2 ?hSxn2 ?hxn2
            case hixn2 => (simp only [List.getElem?_toArray, List.getElem?_cons_succ, List.getElem?_cons_zero]; exact rfl)
            case hsxn2 => kernel_rfl
            case hfxn2 => kernel_rfl
            case hrxn2 => kernel_rfl
            case hQxn2 => exact fun _ _ _ h => h
            case hyxn2 => (first | (refine Or.inr ⟨by rfl, ?_⟩; rfl) | (refine Or.inl ⟨by rfl, ?_⟩; (intro w hSw; (try dsimp only at hSw); go_simp); try with_reducible rfl))
            case hSxn2 => assumption
            try simp only [Act.put, List.setIfInBounds_toArray, List.set_cons_zero, List.set_cons_succ]
            refine' wpAnyH_take (i := 3) ?hixn3 ?hsxn3 ?hfxn3 ?hrxn3 ?hQxn3 ?hyxn3 ?hSxn3 ?hxn3
            case hixn3 => (simp only [List.getElem?_toArray, List.getElem?_cons_succ, List.getElem?_cons_zero]; exact rfl)
            case hsxn3 => kernel_rfl
            case hfxn3 => kernel_rfl
            case hrxn3 => kernel_rfl
            case hQxn3 => exact fun _ _ _ h => h
            case hyxn3 => (first | (refine Or.inr ⟨by rfl, ?_⟩; rfl) | (refine Or.inl ⟨by rfl, ?_⟩; (intro w hSw; (try dsimp only at hSw); go_simp); try with_reducible rfl))
            case hSxn3 => assumption
            try simp only [Act.put, List.setIfInBounds_toArray, List.set_cons_zero, List.set_cons_succ]
            refine' wpAnyH_take (i := 4) ?hixn4 ?hsxn4 ?hfxn4 ?hrxn4 ?hQxn4 ?hyxn4 ?hSxn4 ?hxn4
            case hixn4 => (simp only [List.getElem?_toArray, List.getElem?_cons_succ, List.getElem?_cons_zero]; exact rfl)
            case hsxn4 => kernel_rfl
            case hfxn4 => kernel_rfl
            case hrxn4 => kernel_rfl
            case hQxn4 => exact fun _ _ _ h => h
            case hyxn4 => (first | (refine Or.inr ⟨by rfl, ?_⟩; rfl) | (refine Or.inl ⟨by rfl, ?_⟩; (intro w hSw; (try dsimp only at hSw); go_simp); try with_reducible rfl))
            case hSxn4 => assumption
            try simp only [Act.put, List.setIfInBounds_toArray, List.set_cons_zero, List.set_cons_succ]
            refine' wpAnyH_take (i := 5) ?hixn5 ?hsxn5 ?hfxn5 ?hrxn5 ?hQxn5 ?hyxn5 ?hSxn5 ?hxn5
            case hixn5 => (simp only [List.getElem?_toArray, List.getElem?_cons_succ, List.getElem?_cons_zero]; exact rfl)
            case hsxn5 => kernel_rfl
            case hfxn5 => kernel_rfl
            case hrxn5 => kernel_rfl
            case hQxn5 => exact fun _ _ _ h => h
            case hyxn5 => (first | (refine Or.inr ⟨by rfl, ?_⟩; rfl) | (refine Or.inl ⟨by rfl, ?_⟩; (intro w hSw; (try dsimp only at hSw); go_simp); try with_reducible rfl))
            case hSxn5 => assumption
            try simp only [Act.put, List.setIfInBounds_toArray, List.set_cons_zero, List.set_cons_succ]
            refine' wpAnyH_take (i := 6) ?hixn6 ?hsxn6 ?hfxn6 ?hrxn6 ?hQxn6 ?hyxn6 ?hSxn6 ?hxn6
            case hixn6 => (simp only [List.getElem?_toArray, List.getElem?_cons_succ, List.getElem?_cons_zero]; exact rfl)
            case hsxn6 => kernel_rfl
            case hfxn6 => kernel_rfl
            case hrxn6 => kernel_rfl
            case hQxn6 => exact fun _ _ _ h => h
            case hyxn6 => (first | (refine Or.inr ⟨by rfl, ?_⟩; rfl) | (refine Or.inl ⟨by rfl, ?_⟩; (intro w hSw; (try dsimp only at hSw); go_simp); try with_reducible rfl))
            case hSxn6 => assumption
            try simp only [Act.put, List.setIfInBounds_toArray, List.set_cons_zero, List.set_cons_succ]
            refine wpAnyH_ready (rs := [1, 7]) (by kernel_rfl) (by simp) ?_
            refine' AllReadyH.cons ?hiAxn (fun K hK => ?hAxn) (AllReadyH.cons ?hiBxn (fun K hK => ?hBxn) AllReadyH.nil)
            case hiAxn => (simp only [List.getElem?_toArray, List.getElem?_cons_succ, List.getElem?_cons_zero]; exact rfl)
            case hiBxn => (simp only [List.getElem?_toArray, List.getElem?_cons_succ, List.getElem?_cons_zero]; exact rfl)
            case hAxn =>
              go_simp
              refine hK.out _ _ (by go_keep) (fun hHeld => ?_)
              clear hK K
              refine wpAnyH_ready (rs := [7]) (by kernel_rfl) (by simp) ?_
              refine' AllReadyH.cons ?hib1xn (fun K hK => ?hb1xn) AllReadyH.nil
              case hib1xn => (simp only [List.getElem?_toArray, List.getElem?_cons_succ, List.getElem?_cons_zero]; exact rfl)
              go_simp
              refine hK.out _ _ (by go_keep) (fun hHeld => ?_)
              clear hK K
              have hbx : Below w9.heap.size w9 (w9.alloc (.cells #[.int .i64 z] 3)).drew := below_drewN (below_1 w9 _) 1
              have HON9 := Lib.hid (HO19.out.below hbx)
              have HOI9 := Lib.hid (HO29.out.below hbx)
              have HBLA := Lib.hid (HBL9.out.below hbx)
              have HBWA := Lib.hid (HBW9.out.trans (hbx.mono HBW9.out.size))
              have hnewA : (w9.alloc (.cells #[.int .i64 z] 3)).drew.heap[w9.heap.size]? = some (.cells #[.int .i64 z] 3 (0, 0)) := heap_alloc_new w9 _
              clear hbx
              refine wpAnyH_ready (rs := [8]) (by kernel_rfl) (by simp) ?_
              refine' AllReadyH.cons ?hic1xn (fun K hK => ?hc1xn) AllReadyH.nil
              case hic1xn => (simp only [List.getElem?_toArray, List.getElem?_cons_succ, List.getElem?_cons_zero]; exact rfl)
              (refine step_append_intT rfl (.tmp 32) (.tmp 38) 27 Tryz.underlying27 rfl (g + 4) _ K2 rfl HOI9.out w9.heap.size z 3 rfl hnewA HWZ.out (by have := HLV.out; omega) (by simp; omega) ?_)
              intro vA wA hownA hgrowA
              have HO2A := Lib.hid hownA
              have HO1A := Lib.hid (HON9.out.beside HOI9.out hgrowA)
              have HBLB := Lib.hid (HBLA.out.grow hgrowA HOI9.out.1 (Nat.le_refl _))
              have HBWB := Lib.hid (hgrowA.below HBWA.out HOI9.out.1 (by have := HG.out; omega) HBWA.out.size)
              have hsA := hgrowA.size
              obtain ⟨_, r0, _, _⟩ := row2 HBLB.out.b0
              obtain ⟨u0, u1, _, _⟩ := row2 HBLB.out.b3
              have r1 := (hgrowA.cell (p := ⟨b', o' + k, none⟩) (B := 0) HOI9.out.1 (Nat.lt_trans (show b' < w9.heap.size from k7) (size_of_block hnewA)) (fun q e => by have := (own_blk HOI9.out.1 q e).1; simp only; omega)).trans hHeld.2
              obtain ⟨AA, cA, hvA⟩ := hownA.form
              obtain ⟨LA, hLA⟩ : ∃ LA, (K2 ++ [z]).length = LA := ⟨_, rfl⟩
              rw [hLA] at hvA
              subst hvA
              clear hownA hgrowA hLA
              refine hK.out _ _ (by go_keep) (fun hHeld => ?_)
              clear hK K
              refine' wpAnyH_take (i := 9) ?hid1xn9 ?hsd1xn9 ?hfd1xn9 ?hrd1xn9 ?hQd1xn9 ?hyd1xn9 ?hSd1xn9 ?hd1xn9
              case hid1xn9 => (simp only [List.getElem?_toArray, List.getElem?_cons_succ, List.getElem?_cons_zero]; exact rfl)
              case hsd1xn9 => kernel_rfl
              case hfd1xn9 => kernel_rfl
              case hrd1xn9 => kernel_rfl
              case hQd1xn9 => exact fun _ _ _ h => h
              case hyd1xn9 => (first | (refine Or.inr ⟨by rfl, ?_⟩; rfl) | (refine Or.inl ⟨by rfl, ?_⟩; (intro w hSw; (try dsimp only at hSw); go_simp); try with_reducible rfl))
              case hSd1xn9 => assumption
              try simp only [Act.put, List.setIfInBounds_toArray, List.set_cons_zero, List.set_cons_succ]
              refine wpAnyH_ready (rs := [10]) (by kernel_rfl) (by simp) ?_
              refine' AllReadyH.cons ?hie1xn (fun K hK => ?he1xn) AllReadyH.nil
              case hie1xn => (simp only [List.getElem?_toArray, List.getElem?_cons_succ, List.getElem?_cons_zero]; exact rfl)
              go_simp
              refine hK.out _ _ (by go_keep) (fun hHeld => ?_)
              clear hK K
              refine wpAnyH_done (by kernel_rfl) ?_ _
              refine NoPanic.normal ?_
              clear hHeld r0 r1 u0 u1
              have HO1C := Lib.hid (HO1A.out.setCell (g := g + 3) (o := 1) (by omega) (.slice AA LA cA))
              have HO2C := Lib.hid (HO2A.out.setCell (g := g + 3) (o := 1) (by omega) (.slice AA LA cA))
              have HBLC := Lib.hid (HBLB.out.set1 (.slice AA LA cA))
              have HBWC := Lib.hid (HBWB.out.setCell (p := ⟨g + 3, 1, none⟩) (by have := HG.out; simp only; omega) (.slice AA LA cA))
              have HZC : Hid (g + 4 ≤ (wA.setCell ⟨g + 3, 1, none⟩ (.slice AA LA cA)).heap.size) := Lib.hid (by have h1 := size_of_block hnewA; simp; omega)
              rw [← HK2.out] at HO1C
              rw [← HV2.out] at HO2C
              clear hsA hnewA
              go_wp2
              go_roundw
              case rel => exact ⟨k + 1, .slice A8 L8 c8, .slice AA LA cA, by omega, by go_num, HBLC, HO1C, HO2C, HBWC, HZC⟩
              case measure => simp [intOf]; try omega
            case hBxn =>
              go_simp
              refine hK.out _ _ (by go_keep) (fun hHeld => ?_)
              clear hK K
              have hbx : Below w9.heap.size w9 (w9.alloc (.cells #[.int .i64 z] 3)).drew := below_drewN (below_1 w9 _) 1
              have HON9 := Lib.hid (HO19.out.below hbx)
              have HOI9 := Lib.hid (HO29.out.below hbx)
              have HBLA := Lib.hid (HBL9.out.below hbx)
              have HBWA := Lib.hid (HBW9.out.trans (hbx.mono HBW9.out.size))
              have hnewA : (w9.alloc (.cells #[.int .i64 z] 3)).drew.heap[w9.heap.size]? = some (.cells #[.int .i64 z] 3 (0, 0)) := heap_alloc_new w9 _
              clear hbx
              refine wpAnyH_ready (rs := [1]) (by kernel_rfl) (by simp) ?_
              refine' AllReadyH.cons ?hib2xn (fun K hK => ?hb2xn) AllReadyH.nil
              case hib2xn => (simp only [List.getElem?_toArray, List.getElem?_cons_succ, List.getElem?_cons_zero]; exact rfl)
              go_simp
              refine hK.out _ _ (by go_keep) (fun hHeld => ?_)
              clear hK K
              refine wpAnyH_ready (rs := [8]) (by kernel_rfl) (by simp) ?_
              refine' AllReadyH.cons ?hic2xn (fun K hK => ?hc2xn) AllReadyH.nil
              case hic2xn => (simp only [List.getElem?_toArray, List.getElem?_cons_succ, List.getElem?_cons_zero]; exact rfl)
              (refine step_append_intT rfl (.tmp 32) (.tmp 38) 27 Tryz.underlying27 rfl (g + 4) _ K2 rfl HOI9.out w9.heap.size z 3 rfl hnewA HWZ.out (by have := HLV.out; omega) (by simp; omega) ?_)
              intro vA wA hownA hgrowA
              have HO2A := Lib.hid hownA
              have HO1A := Lib.hid (HON9.out.beside HOI9.out hgrowA)
              have HBLB := Lib.hid (HBLA.out.grow hgrowA HOI9.out.1 (Nat.le_refl _))
              have HBWB := Lib.hid (hgrowA.below HBWA.out HOI9.out.1 (by have := HG.out; omega) HBWA.out.size)
              have hsA := hgrowA.size
              obtain ⟨_, r0, _, _⟩ := row2 HBLB.out.b0
              obtain ⟨u0, u1, _, _⟩ := row2 HBLB.out.b3
              have r1 := (hgrowA.cell (p := ⟨b', o' + k, none⟩) (B := 0) HOI9.out.1 (Nat.lt_trans (show b' < w9.heap.size from k7) (size_of_block hnewA)) (fun q e => by have := (own_blk HOI9.out.1 q e).1; simp only; omega)).trans hHeld.2
              obtain ⟨AA, cA, hvA⟩ := hownA.form
              obtain ⟨LA, hLA⟩ : ∃ LA, (K2 ++ [z]).length = LA := ⟨_, rfl⟩
              rw [hLA] at hvA
              subst hvA
              clear hownA hgrowA hLA
              refine hK.out _ _ (by go_keep) (fun hHeld => ?_)
              clear hK K
              refine' wpAnyH_take (i := 9) ?hid2xn9 ?hsd2xn9 ?hfd2xn9 ?hrd2xn9 ?hQd2xn9 ?hyd2xn9 ?hSd2xn9 ?hd2xn9
              case hid2xn9 => (simp only [List.getElem?_toArray, List.getElem?_cons_succ, List.getElem?_cons_zero]; exact rfl)
              case hsd2xn9 => kernel_rfl
              case hfd2xn9 => kernel_rfl
              case hrd2xn9 => kernel_rfl
              case hQd2xn9 => exact fun _ _ _ h => h
              case hyd2xn9 => (first | (refine Or.inr ⟨by rfl, ?_⟩; rfl) | (refine Or.inl ⟨by rfl, ?_⟩; (intro w hSw; (try dsimp only at hSw); go_simp); try with_reducible rfl))
              case hSd2xn9 => assumption
              try simp only [Act.put, List.setIfInBounds_toArray, List.set_cons_zero, List.set_cons_succ]
              refine wpAnyH_ready (rs := [10]) (by kernel_rfl) (by simp) ?_
              refine' AllReadyH.cons ?hie2xn (fun K hK => ?he2xn) AllReadyH.nil
              case hie2xn => (simp only [List.getElem?_toArray, List.getElem?_cons_succ, List.getElem?_cons_zero]; exact rfl)
              go_simp
              refine hK.out _ _ (by go_keep) (fun hHeld => ?_)
              clear hK K
              refine wpAnyH_done (by kernel_rfl) ?_ _
              refine NoPanic.normal ?_
              clear hHeld r0 r1 u0 u1
              have HO1C := Lib.hid (HO1A.out.setCell (g := g + 3) (o := 1) (by omega) (.slice AA LA cA))
              have HO2C := Lib.hid (HO2A.out.setCell (g := g + 3) (o := 1) (by omega) (.slice AA LA cA))
              have HBLC := Lib.hid (HBLB.out.set1 (.slice AA LA cA))
              have HBWC := Lib.hid (HBWB.out.setCell (p := ⟨g + 3, 1, none⟩) (by have := HG.out; simp only; omega) (.slice AA LA cA))
              have HZC : Hid (g + 4 ≤ (wA.setCell ⟨g + 3, 1, none⟩ (.slice AA LA cA)).heap.size) := Lib.hid (by have h1 := size_of_block hnewA; simp; omega)
              rw [← HK2.out] at HO1C
              rw [← HV2.out] at HO2C
              clear hsA hnewA
              go_wp2
              go_roundw
              case rel => exact ⟨k + 1, .slice A8 L8 c8, .slice AA LA cA, by omega, by go_num, HBLC, HO1C, HO2C, HBWC, HZC⟩
              case measure => simp [intOf]; try omega
          case hBan =>
            go_simp
            refine hK.out _ _ (by go_keep) (fun hHeld => ?_)
            clear hK K
            have hbx : Below w5.heap.size w5 (w5.alloc (.cells #[.int .u32 x, .int .i64 x'] 47)).drew := below_drewN (below_1 w5 _) 1
            have HON := Lib.hid (HO15.out.below hbx)
            have HOI := Lib.hid (HO25.out.below hbx)
            have HBL7 := Lib.hid (HBL5.out.below hbx)
            have HBW7 := Lib.hid (HBW5.out.trans (hbx.mono HBW5.out.size))
            have hnew7 : (w5.alloc (.cells #[.int .u32 x, .int .i64 x'] 47)).drew.heap[w5.heap.size]? = some (.cells #[.int .u32 x, .int .i64 x'] 47 (0, 0)) := heap_alloc_new w5 _
            have HD2 := Lib.hid ((hbx.cell (p := ⟨b', o' + k, none⟩) m7).trans ((HBW5.out.cell (p := ⟨b', o' + k, none⟩) (by have := HG.out; simp only; omega)).trans C2.out))
            clear hbx
            refine wpAnyH_ready (rs := [1]) (by kernel_rfl) (by simp) ?_
            refine' AllReadyH.cons ?hib2n (fun K hK => ?hb2n) AllReadyH.nil
            case hib2n => (simp only [List.getElem?_toArray, List.getElem?_cons_succ, List.getElem?_cons_zero]; exact rfl)
            go_simp
            refine hK.out _ _ (by go_keep) (fun hHeld => ?_)
            clear hK K
            refine wpAnyH_ready (rs := [8]) (by kernel_rfl) (by simp) ?_
            refine' AllReadyH.cons ?hic2n (fun K hK => ?hc2n) AllReadyH.nil
            case hic2n => (simp only [List.getElem?_toArray, List.getElem?_cons_succ, List.getElem?_cons_zero]; exact rfl)
            (refine step_append_netT rfl (.tmp 22) (.tmp 28) 26 Tryz.underlying26 rfl (g + 4) _ K1 rfl HON.out w5.heap.size (x, x') 47 rfl hnew7 HWN.out (by have := HLK.out; omega) (by simp; omega) ?_)
            intro v8 w8 hown8 hgrow8
            have HO18 := Lib.hid hown8
            have HO28 := Lib.hid (HOI.out.beside HON.out hgrow8)
            have HBL8 := Lib.hid (HBL7.out.grow hgrow8 HON.out.1 (Nat.le_refl _))
            have HBW8 := Lib.hid (hgrow8.below HBW7.out HON.out.1 (by have := HG.out; omega) HBW7.out.size)
            have hs8 := hgrow8.size
            obtain ⟨r0, _, _, _⟩ := row2 HBL8.out.b0
            obtain ⟨u0, u1, _, _⟩ := row2 HBL8.out.b3
            have r1 := (hgrow8.cell (p := ⟨b, o + k * 2, none⟩) (B := 0) HON.out.1 (Nat.lt_trans (show b < w5.heap.size from m1) (size_of_block hnew7)) (fun q e => by have := (own_blk HON.out.1 q e).1; simp only; omega)).trans hHeld.2.1
            have r2 := (hgrow8.cell (p := ⟨b, o + k * 2 + 1, none⟩) (B := 0) HON.out.1 (Nat.lt_trans (show b < w5.heap.size from m1) (size_of_block hnew7)) (fun q e => by have := (own_blk HON.out.1 q e).1; simp only; omega)).trans hHeld.2.2
            have HD28 := Lib.hid ((hgrow8.cell (p := ⟨b', o' + k, none⟩) (B := 0) HON.out.1 (Nat.lt_trans (show b' < w5.heap.size from m7) (size_of_block hnew7)) (fun q e => by have := (own_blk HON.out.1 q e).1; simp only; omega)).trans HD2.out)
            obtain ⟨A8, c8, hv8⟩ := hown8.form
            obtain ⟨L8, hL8⟩ : ∃ L8, (K1 ++ [(x, x')]).length = L8 := ⟨_, rfl⟩
            rw [hL8] at hv8
            subst hv8
            clear hown8 hgrow8 hL8
            refine hK.out _ _ (by go_keep) (fun hHeld => ?_)
            clear hK K
            refine' wpAnyH_take (i := 9) ?hid2n9 ?hsd2n9 ?hfd2n9 ?hrd2n9 ?hQd2n9 ?hyd2n9 ?hSd2n9 ?hd2n9
            case hid2n9 => (simp only [List.getElem?_toArray, List.getElem?_cons_succ, List.getElem?_cons_zero]; exact rfl)
            case hsd2n9 => kernel_rfl
            case hfd2n9 => kernel_rfl
            case hrd2n9 => kernel_rfl
            case hQd2n9 => exact fun _ _ _ h => h
            case hyd2n9 => (first | (refine Or.inr ⟨by rfl, ?_⟩; rfl) | (refine Or.inl ⟨by rfl, ?_⟩; (intro w hSw; (try dsimp only at hSw); go_simp); try with_reducible rfl))
            case hSd2n9 => assumption
            try simp only [Act.put, List.setIfInBounds_toArray, List.set_cons_zero, List.set_cons_succ]
            refine wpAnyH_ready (rs := [10]) (by kernel_rfl) (by simp) ?_
            refine' AllReadyH.cons ?hie2n (fun K hK => ?he2n) AllReadyH.nil
            case hie2n => (simp only [List.getElem?_toArray, List.getElem?_cons_succ, List.getElem?_cons_zero]; exact rfl)
            go_simp
            refine hK.out _ _ (by go_keep) (fun hHeld => ?_)
            clear hK K
            refine wpAnyH_done (by kernel_rfl) ?_ _
            refine NoPanic.normal ?_
            clear hHeld r0 r1 r2 u0 u1
            have HO19 := Lib.hid (HO18.out.setCell (g := g + 3) (o := 0) (by omega) (.slice A8 L8 c8))
            have HO29 := Lib.hid (HO28.out.setCell (g := g + 3) (o := 0) (by omega) (.slice A8 L8 c8))
            have HBL9 := Lib.hid (HBL8.out.set0 (.slice A8 L8 c8))
            have HBW9 := Lib.hid (HBW8.out.setCell (p := ⟨g + 3, 0, none⟩) (by have := HG.out; simp only; omega) (.slice A8 L8 c8))
            have HD9 : Hid ((w8.setCell ⟨g + 3, 0, none⟩ (.slice A8 L8 c8)).cell? ⟨b', o' + k, none⟩ = some (.int .i64 z)) := Lib.hid ((World.cell?_setCell_other w8 ⟨g + 3, 0, none⟩ ⟨b', o' + k, none⟩ (.slice A8 L8 c8) (fun e => by injection e with e; omega)).trans HD28.out)
            have hz9 : w5.heap.size ≤ (w8.setCell ⟨g + 3, 0, none⟩ (.slice A8 L8 c8)).heap.size := by have h1 := size_of_block hnew7; simp; omega
            generalize w8.setCell ⟨g + 3, 0, none⟩ (.slice A8 L8 c8) = w9 at *
            clear n1 n1s n2 m4 m5 m6 hnew7 hs8
            have HZ9 : Hid (g + 4 ≤ w9.heap.size) := Lib.hid (by omega)
            obtain ⟨y0, y1, _, _⟩ := row2 HBL9.out.b0
            obtain ⟨e0, e1, _, _⟩ := row2 HBL9.out.b3
            have f2 := HD9.out
            have n2 : ¬ g = g + 3 := by omega
            have k2 : g < w9.heap.size := by omega
            have k3 : g + 3 < w9.heap.size := by omega
            have k5 : ¬ g = w9.heap.size := by omega
            have k6 : ¬ g + 3 = w9.heap.size := by omega
            have k7 : b' < w9.heap.size := by omega
            have k8 : ¬ b' = w9.heap.size := by omega
            go_upto_region 7 with (fail)
            refine wp_region_noPanic ?_
            refine wp_region_held_drew (S := (fun w' => w'.cell? ⟨g, 1, none⟩ = some (.slice (some ⟨b', o', none⟩) n' c') ∧ w'.cell? ⟨b', o' + k, none⟩ = some (.int .i64 z))) (by kernel_rfl) (by go_keep) (fun hHeld => ?_)
            refine' wpAnyH_take (i := 0) ?hiyn0 ?hsyn0 ?hfyn0 ?hryn0 ?hQyn0 ?hyyn0 ?hSyn0 ?hyn0
            case hiyn0 => (simp only [List.getElem?_toArray, List.getElem?_cons_succ, List.getElem?_cons_zero]; exact rfl)
            case hsyn0 => kernel_rfl
            case hfyn0 => kernel_rfl
            case hryn0 => kernel_rfl
            case hQyn0 => exact fun _ _ _ h => h
            case hyyn0 => (first | (refine Or.inr ⟨by rfl, ?_⟩; rfl) | (refine Or.inl ⟨by rfl, ?_⟩; (intro w hSw; (try dsimp only at hSw); go_simp); try with_reducible rfl))
            case hSyn0 => assumption
            try simp only [Act.put, List.setIfInBounds_toArray, List.set_cons_zero, List.set_cons_succ]
            refine' wpAnyH_take (i := 2) ?hiyn2 ?hsyn2 ?hfyn2 ?hryn2 ?hQyn2 ?hyyn2 ?hSyn2 ?hyn2
            case hiyn2 => (simp only [List.getElem?_toArray, List.getElem?_cons_succ, List.getElem?_cons_zero]; exact rfl)
            case hsyn2 => kernel_rfl
            case hfyn2 => kernel_rfl
            case hryn2 => kernel_rfl
            case hQyn2 => exact fun _ _ _ h => h
            case hyyn2 => (first | (refine Or.inr ⟨by rfl, ?_⟩; rfl) | (refine Or.inl ⟨by rfl, ?_⟩; (intro w hSw; (try dsimp only at hSw); go_simp); try with_reducible rfl))
            case hSyn2 => assumption
            try simp only [Act.put, List.setIfInBounds_toArray, List.set_cons_zero, List.set_cons_succ]
            refine' wpAnyH_take (i := 3) ?hiyn3 ?hsyn3 ?hfyn3 ?hryn3 ?hQyn3 ?hyyn3 ?hSyn3 ?hyn3
            case hiyn3 => (simp only [List.getElem?_toArray, List.getElem?_cons_succ, List.getElem?_cons_zero]; exact rfl)
            case hsyn3 => kernel_rfl
            case hfyn3 => kernel_rfl
            case hryn3 => kernel_rfl
            case hQyn3 => exact fun _ _ _ h => h
            case hyyn3 => (first | (refine Or.inr ⟨by rfl, ?_⟩; rfl) | (refine Or.inl ⟨by rfl, ?_⟩; (intro w hSw; (try dsimp only at hSw); go_simp); try with_reducible rfl))
            case hSyn3 => assumption
            try simp only [Act.put, List.setIfInBounds_toArray, List.set_cons_zero, List.set_cons_succ]
            refine' wpAnyH_take (i := 4) ?hiyn4 ?hsyn4 ?hfyn4 ?hryn4 ?hQyn4 ?hyyn4 ?hSyn4 ?hyn4
            case hiyn4 => (simp only [List.getElem?_toArray, List.getElem?_cons_succ, List.getElem?_cons_zero]; exact rfl)
            case hsyn4 => kernel_rfl
            case hfyn4 => kernel_rfl
            case hryn4 => kernel_rfl
            case hQyn4 => exact fun _ _ _ h => h
            case hyyn4 => (first | (refine Or.inr ⟨by rfl, ?_⟩; rfl) | (refine Or.inl ⟨by rfl, ?_⟩; (intro w hSw; (try dsimp only at hSw); go_simp); try with_reducible rfl))
            case hSyn4 => assumption
            try simp only [Act.put, List.setIfInBounds_toArray, List.set_cons_zero, List.set_cons_succ]
            refine' wpAnyH_take (i := 5) ?hiyn5 ?hsyn5 ?hfyn5 ?hryn5 ?hQyn5 ?hyyn5 ?hSyn5 ?hyn5
            case hiyn5 => (simp only [List.getElem?_toArray, List.getElem?_cons_succ, List.getElem?_cons_zero]; exact rfl)
            case hsyn5 => kernel_rfl
            case hfyn5 => kernel_rfl
            case hryn5 => kernel_rfl
            case hQyn5 => exact fun _ _ _ h => h
            case hyyn5 => (first | (refine Or.inr ⟨by rfl, ?_⟩; rfl) | (refine Or.inl ⟨by rfl, ?_⟩; (intro w hSw; (try dsimp only at hSw); go_simp); try with_reducible rfl))
            case hSyn5 => assumption
            try simp only [Act.put, List.setIfInBounds_toArray, List.set_cons_zero, List.set_cons_succ]
            refine' wpAnyH_take (i := 6) ?hiyn6 ?hsyn6 ?hfyn6 ?hryn6 ?hQyn6 ?hyyn6 ?hSyn6 ?hyn6
            case hiyn6 => (simp only [List.getElem?_toArray, List.getElem?_cons_succ, List.getElem?_cons_zero]; exact rfl)
            case hsyn6 => kernel_rfl
            case hfyn6 => kernel_rfl
            case hryn6 => kernel_rfl
            case hQyn6 => exact fun _ _ _ h => h
            case hyyn6 => (first | (refine Or.inr ⟨by rfl, ?_⟩; rfl) | (refine Or.inl ⟨by rfl, ?_⟩; (intro w hSw; (try dsimp only at hSw); go_simp); try with_reducible rfl))
            case hSyn6 => assumption
            try simp only [Act.put, List.setIfInBounds_toArray, List.set_cons_zero, List.set_cons_succ]
            refine wpAnyH_ready (rs := [1, 7]) (by kernel_rfl) (by simp) ?_
            refine' AllReadyH.cons ?hiAyn (fun K hK => ?hAyn) (AllReadyH.cons ?hiByn (fun K hK => ?hByn) AllReadyH.nil)
            case hiAyn => (simp only [List.getElem?_toArray, List.getElem?_cons_succ, List.getElem?_cons_zero]; exact rfl)
            case hiByn => (simp only [List.getElem?_toArray, List.getElem?_cons_succ, List.getElem?_cons_zero]; exact rfl)
            case hAyn =>
              go_simp
              refine hK.out _ _ (by go_keep) (fun hHeld => ?_)
              clear hK K
              refine wpAnyH_ready (rs := [7]) (by kernel_rfl) (by simp) ?_
              refine' AllReadyH.cons ?hib1yn (fun K hK => ?hb1yn) AllReadyH.nil
              case hib1yn => (simp only [List.getElem?_toArray, List.getElem?_cons_succ, List.getElem?_cons_zero]; exact rfl)
              go_simp
              refine hK.out _ _ (by go_keep) (fun hHeld => ?_)
              clear hK K
              have hbx : Below w9.heap.size w9 (w9.alloc (.cells #[.int .i64 z] 3)).drew := below_drewN (below_1 w9 _) 1
              have HON9 := Lib.hid (HO19.out.below hbx)
              have HOI9 := Lib.hid (HO29.out.below hbx)
              have HBLA := Lib.hid (HBL9.out.below hbx)
              have HBWA := Lib.hid (HBW9.out.trans (hbx.mono HBW9.out.size))
              have hnewA : (w9.alloc (.cells #[.int .i64 z] 3)).drew.heap[w9.heap.size]? = some (.cells #[.int .i64 z] 3 (0, 0)) := heap_alloc_new w9 _
              clear hbx
              refine wpAnyH_ready (rs := [8]) (by kernel_rfl) (by simp) ?_
              refine' AllReadyH.cons ?hic1yn (fun K hK => ?hc1yn) AllReadyH.nil
              case hic1yn => (simp only [List.getElem?_toArray, List.getElem?_cons_succ, List.getElem?_cons_zero]; exact rfl)
              (refine step_append_intT rfl (.tmp 32) (.tmp 38) 27 Tryz.underlying27 rfl (g + 4) _ K2 rfl HOI9.out w9.heap.size z 3 rfl hnewA HWZ.out (by have := HLV.out; omega) (by simp; omega) ?_)
              intro vA wA hownA hgrowA
              have HO2A := Lib.hid hownA
              have HO1A := Lib.hid (HON9.out.beside HOI9.out hgrowA)
              have HBLB := Lib.hid (HBLA.out.grow hgrowA HOI9.out.1 (Nat.le_refl _))
              have HBWB := Lib.hid (hgrowA.below HBWA.out HOI9.out.1 (by have := HG.out; omega) HBWA.out.size)
              have hsA := hgrowA.size
              obtain ⟨_, r0, _, _⟩ := row2 HBLB.out.b0
              obtain ⟨u0, u1, _, _⟩ := row2 HBLB.out.b3
              have r1 := (hgrowA.cell (p := ⟨b', o' + k, none⟩) (B := 0) HOI9.out.1 (Nat.lt_trans (show b' < w9.heap.size from k7) (size_of_block hnewA)) (fun q e => by have := (own_blk HOI9.out.1 q e).1; simp only; omega)).trans hHeld.2
              obtain ⟨AA, cA, hvA⟩ := hownA.form
              obtain ⟨LA, hLA⟩ : ∃ LA, (K2 ++ [z]).length = LA := ⟨_, rfl⟩
              rw [hLA] at hvA
              subst hvA
              clear hownA hgrowA hLA
              refine hK.out _ _ (by go_keep) (fun hHeld => ?_)
              clear hK K
              refine' wpAnyH_take (i := 9) ?hid1yn9 ?hsd1yn9 ?hfd1yn9 ?hrd1yn9 ?hQd1yn9 ?hyd1yn9 ?hSd1yn9 ?hd1yn9
              case hid1yn9 => (simp only [List.getElem?_toArray, List.getElem?_cons_succ, List.getElem?_cons_zero]; exact rfl)
              case hsd1yn9 => kernel_rfl
              case hfd1yn9 => kernel_rfl
              case hrd1yn9 => kernel_rfl
              case hQd1yn9 => exact fun _ _ _ h => h
              case hyd1yn9 => (first | (refine Or.inr ⟨by rfl, ?_⟩; rfl) | (refine Or.inl ⟨by rfl, ?_⟩; (intro w hSw; (try dsimp only at hSw); go_simp); try with_reducible rfl))
              case hSd1yn9 => assumption
              try simp only [Act.put, List.setIfInBounds_toArray, List.set_cons_zero, List.set_cons_succ]
              refine wpAnyH_ready (rs := [10]) (by kernel_rfl) (by simp) ?_
              refine' AllReadyH.cons ?hie1yn (fun K hK => ?he1yn) AllReadyH.nil
              case hie1yn => (simp only [List.getElem?_toArray, List.getElem?_cons_succ, List.getElem?_cons_zero]; exact rfl)
              go_simp
              refine hK.out _ _ (by go_keep) (fun hHeld => ?_)
              clear hK K
              refine wpAnyH_done (by kernel_rfl) ?_ _
              refine NoPanic.normal ?_
              clear hHeld r0 r1 u0 u1
              have HO1C := Lib.hid (HO1A.out.setCell (g := g + 3) (o := 1) (by omega) (.slice AA LA cA))
              have HO2C := Lib.hid (HO2A.out.setCell (g := g + 3) (o := 1) (by omega) (.slice AA LA cA))
              have HBLC := Lib.hid (HBLB.out.set1 (.slice AA LA cA))
              have HBWC := Lib.hid (HBWB.out.setCell (p := ⟨g + 3, 1, none⟩) (by have := HG.out; simp only; omega) (.slice AA LA cA))
              have HZC : Hid (g + 4 ≤ (wA.setCell ⟨g + 3, 1, none⟩ (.slice AA LA cA)).heap.size) := Lib.hid (by have h1 := size_of_block hnewA; simp; omega)
              rw [← HK2.out] at HO1C
              rw [← HV2.out] at HO2C
              clear hsA hnewA
              go_wp2
              go_roundw
              case rel => exact ⟨k + 1, .slice A8 L8 c8, .slice AA LA cA, by omega, by go_num, HBLC, HO1C, HO2C, HBWC, HZC⟩
              case measure => simp [intOf]; try omega
            case hByn =>
              go_simp
              refine hK.out _ _ (by go_keep) (fun hHeld => ?_)
              clear hK K
              have hbx : Below w9.heap.size w9 (w9.alloc (.cells #[.int .i64 z] 3)).drew := below_drewN (below_1 w9 _) 1
              have HON9 := Lib.hid (HO19.out.below hbx)
              have HOI9 := Lib.hid (HO29.out.below hbx)
              have HBLA := Lib.hid (HBL9.out.below hbx)
              have HBWA := Lib.hid (HBW9.out.trans (hbx.mono HBW9.out.size))
              have hnewA : (w9.alloc (.cells #[.int .i64 z] 3)).drew.heap[w9.heap.size]? = some (.cells #[.int .i64 z] 3 (0, 0)) := heap_alloc_new w9 _
              clear hbx
              refine wpAnyH_ready (rs := [1]) (by kernel_rfl) (by simp) ?_
              refine' AllReadyH.cons ?hib2yn (fun K hK => ?hb2yn) AllReadyH.nil
              case hib2yn => (simp only [List.getElem?_toArray, List.getElem?_cons_succ, List.getElem?_cons_zero]; exact rfl)
              go_simp
              refine hK.out _ _ (by go_keep) (fun hHeld => ?_)
              clear hK K
              refine wpAnyH_ready (rs := [8]) (by kernel_rfl) (by simp) ?_
              refine' AllReadyH.cons ?hic2yn (fun K hK => ?hc2yn) AllReadyH.nil
              case hic2yn => (simp only [List.getElem?_toArray, List.getElem?_cons_succ, List.getElem?_cons_zero]; exact rfl)
              (refine step_append_intT rfl (.tmp 32) (.tmp 38) 27 Tryz.underlying27 rfl (g + 4) _ K2 rfl HOI9.out w9.heap.size z 3 rfl hnewA HWZ.out (by have := HLV.out; omega) (by simp; omega) ?_)
              intro vA wA hownA hgrowA
              have HO2A := Lib.hid hownA
              have HO1A := Lib.hid (HON9.out.beside HOI9.out hgrowA)
              have HBLB := Lib.hid (HBLA.out.grow hgrowA HOI9.out.1 (Nat.le_refl _))
              have HBWB := Lib.hid (hgrowA.below HBWA.out HOI9.out.1 (by have := HG.out; omega) HBWA.out.size)
              have hsA := hgrowA.size
              obtain ⟨_, r0, _, _⟩ := row2 HBLB.out.b0
              obtain ⟨u0, u1, _, _⟩ := row2 HBLB.out.b3
              have r1 := (hgrowA.cell (p := ⟨b', o' + k, none⟩) (B := 0) HOI9.out.1 (Nat.lt_trans (show b' < w9.heap.size from k7) (size_of_block hnewA)) (fun q e => by have := (own_blk HOI9.out.1 q e).1; simp only; omega)).trans hHeld.2
              obtain ⟨AA, cA, hvA⟩ := hownA.form
              obtain ⟨LA, hLA⟩ : ∃ LA, (K2 ++ [z]).length = LA := ⟨_, rfl⟩
              rw [hLA] at hvA
              subst hvA
              clear hownA hgrowA hLA
              refine hK.out _ _ (by go_keep) (fun hHeld => ?_)
              clear hK K
              refine' wpAnyH_take (i := 9) ?hid2yn9 ?hsd2yn9 ?hfd2yn9 ?hrd2yn9 ?hQd2yn9 ?hyd2yn9 ?hSd2yn9 ?hd2yn9
              case hid2yn9 => (simp only [List.getElem?_toArray, List.getElem?_cons_succ, List.getElem?_cons_zero]; exact rfl)
              case hsd2yn9 => kernel_rfl
              case hfd2yn9 => kernel_rfl
              case hrd2yn9 => kernel_rfl
              case hQd2yn9 => exact fun _ _ _ h => h
              case hyd2yn9 => (first | (refine Or.inr ⟨by rfl, ?_⟩; rfl) | (refine Or.inl ⟨by rfl, ?_⟩; (intro w hSw; (try dsimp only at hSw); go_simp); try with_reducible rfl))
              case hSd2yn9 => assumption
              try simp only [Act.put, List.setIfInBounds_toArray, List.set_cons_zero, List.set_cons_succ]
              refine wpAnyH_ready (rs := [10]) (by kernel_rfl) (by simp) ?_
              refine' AllReadyH.cons ?hie2yn (fun K hK => ?he2yn) AllReadyH.nil
              case hie2yn => (simp only [List.getElem?_toArray, List.getElem?_cons_succ, List.getElem?_cons_zero]; exact rfl)
              go_simp
              refine hK.out _ _ (by go_keep) (fun hHeld => ?_)
              clear hK K
              refine wpAnyH_done (by kernel_rfl) ?_ _
              refine NoPanic.normal ?_
              clear hHeld r0 r1 u0 u1
              have HO1C := Lib.hid (HO1A.out.setCell (g := g + 3) (o := 1) (by omega) (.slice AA LA cA))
              have HO2C := Lib.hid (HO2A.out.setCell (g := g + 3) (o := 1) (by omega) (.slice AA LA cA))
              have HBLC := Lib.hid (HBLB.out.set1 (.slice AA LA cA))
              have HBWC := Lib.hid (HBWB.out.setCell (p := ⟨g + 3, 1, none⟩) (by have := HG.out; simp only; omega) (.slice AA LA cA))
              have HZC : Hid (g + 4 ≤ (wA.setCell ⟨g + 3, 1, none⟩ (.slice AA LA cA)).heap.size) := Lib.hid (by have h1 := size_of_block hnewA; simp; omega)
              rw [← HK2.out] at HO1C
              rw [← HV2.out] at HO2C
              clear hsA hnewA
              go_wp2
              go_roundw
              case rel => exact ⟨k + 1, .slice A8 L8 c8, .slice AA LA cA, by omega, by go_num, HBLC, HO1C, HO2C, HBWC, HZC⟩
              case measure => simp [intOf]; try omega
    · have HDE : Hid (m.take k = m) := Lib.hid (List.take_of_length_le (by rw [HN.out]; omega))
      rw [HDE.out] at HO1 HO2
      obtain ⟨e0, e1, _, _⟩ := row2 HBL.out.b3
      obtain ⟨e2, e3, _, _⟩ := row2 HBL.out.b2
      have HB2 := Lib.hid (set2_block v1 v2 HBL.out.b2)
      have HEND : Hid (PP (.returned (.agg #[v1, v2])) ((wr.setCell ⟨g + 2, 0, none⟩ v1).setCell ⟨g + 2, 1, none⟩ v2)) := Lib.hid (by
        rw [← HPP.out]
        have hgw := HG.out
        exact ⟨v1, v2, rfl, ((HO1.out.setCell (by omega) v1).setCell (by omega) v2).monoT (by omega), ((HO2.out.setCell (by omega) v1).setCell (by omega) v2).mono (by omega), (HBW.out.setCell (p := ⟨g + 2, 0, none⟩) (by simp only; omega) v1).setCell (p := ⟨g + 2, 1, none⟩) (by simp only; omega) v2⟩)
      obtain ⟨A1, q1, hv1⟩ := HO1.out.form
      obtain ⟨A2, q2, hv2⟩ := HO2.out.form
      obtain ⟨M1, hM1⟩ : ∃ M1, (keysM (delM m (a, l))).length = M1 := ⟨_, rfl⟩
      obtain ⟨M2, hM2⟩ : ∃ M2, (valsM (delM m (a, l))).length = M2 := ⟨_, rfl⟩
      rw [hM1] at hv1
      rw [hM2] at hv2
      subst hv1
      subst hv2
      clear hM1 hM2
      go_wp2
      exact dropf_end HB2.out rfl rfl HEND.out
end Go.Proofs.YtgdlkjahlajcpaaGreatDoor
