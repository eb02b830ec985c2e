/- The desk's words: a net, an address, a number; else the panic of ErrSyntax. The desk's texts of nets: one behind the other, a space between. What the desk's forms do: list, cover. -/
import Derived.Test.YtgdlkjahlajcpaaGreatDoorKL
import Derived.Test.YtgdlkjahlajcpaaGreatDoorKN
import Derived.Test.YtgdlkjahlajcpaaGreatDoorKM
import Derived.Test.YtgdlkjahlajcpaaGreatDoorKI
import Derived.Lib.AppendIntMem
import Derived.Test.YtgdlkjahlajcpaaGreatDoorKJ
namespace Go.Proofs.YtgdlkjahlajcpaaGreatDoor
open Go.ChangeShapes Go.WideShapes Go.ChangeAt Go.RowKit
set_option linter.unusedVariables false
set_option linter.unusedSimpArgs false

theorem wnet_end {W : World} {R : Nat} {a : Act} {v0 v1 : Value} {t : TypeId} {K : Ending → World → Prop} (h : W.heap[R]? = some (.cells #[v0, v1] t (0, 0))) (h2 : a.tmps[2]?.getD undef = .pointer (some ⟨R, 0, none⟩)) (hd : a.defers = [])
    (hK : K (.returned (.agg #[v0, v1])) W) : bodyPost Tryz.prog Tryz.f44 K .ret a W := by
  have e0 : W.cell? ⟨R, 0, none⟩ = some v0 := by rw [cell_of_row _ R _ _ _ (0, 0) h]; rfl
  have e1 : W.cell? ⟨R, 1, none⟩ = some v1 := by rw [cell_of_row _ R _ _ _ (0, 0) h]; rfl
  exact bodyPost_ret (by simp [results, Tryz.results44, go_sem, h2, e0, e1]) hd hK
set_option maxRecDepth 100000 in
theorem WNet_ok (a k : Nat) (s : ByteArray) (w : World) (hw : HStr w) (ha : a < 4294967296) (hn : netF ((a : Int), (k : Int)) = 0) (hs : s.data.toList = netT a k) :
    Calls Tryz.prog 44 #[.string s] w fun e w' => e = .returned (.agg #[.int .u32 a, .int .i64 k]) ∧ Below w.heap.size w w' := by
  have HW := Lib.hid hw
  have HN := Lib.hid hn
  have HS := Lib.hid hs
  clear hw hn hs
  go_enter Tryz.func44, Tryz.ntmps44
  go_wp2_with (first
    | (go_at_call 75; (with_reducible refine (NParse_ok a k s _ (HW.out.alloc _) ha HN.out HS.out).mono ?_); rintro e w1 ⟨rfl, hb1⟩; have blk1 := below_block hb1 (by simp) (heap_alloc_new w _); obtain ⟨r0, r1, f0, f1⟩ := row2 blk1; have BLK1 := Lib.hid blk1; have HB1 := Lib.hid (((Below.refl w.heap.size w).alloc (Nat.le_refl _) _).trans (hb1.mono (by simp))); have zw1 := HB1.out.size; have hR := size_of_block blk1; clear hb1 blk1)
    | fail)
  exact wnet_end (below_block ((Below.refl _ _).alloc (Nat.le_refl _) _) (by simpa using hR) (set2_block _ _ BLK1.out)) rfl rfl ⟨rfl, ((HB1.out.setCell (by simp) _).setCell (by simp) _).alloc (by simp; omega) _⟩
set_option maxRecDepth 100000 in
theorem WNet_bad (s : ByteArray) (w : World) (hw : HStr w) (hsz : s.size ≤ 2097152) (hs : ∀ a k : Nat, a < 4294967296 → netF ((a : Int), (k : Int)) = 0 → s.data.toList ≠ netT a k) :
    Calls Tryz.prog 44 #[.string s] w fun e w' => e = panE 7 ∧ Below w.heap.size w w' := by
  have HW := Lib.hid hw
  have HS := Lib.hid hs
  clear hw hs
  go_enter Tryz.func44, Tryz.ntmps44
  go_wp2_with (first
    | (go_at_call 75; (with_reducible refine (NParse_bad s _ (HW.out.alloc _) hsz HS.out).mono ?_); rintro e w1 ⟨rfl, hb1⟩; have HB1 := Lib.hid (((Below.refl w.heap.size w).alloc (Nat.le_refl _) _).trans (hb1.mono (by simp))); have zw1 := HB1.out.size; clear hb1)
    | fail)
  exact ⟨rfl, rfl, HB1.out.alloc (by omega) _⟩
set_option maxRecDepth 100000 in
theorem WAddr_ok (a : Nat) (s : ByteArray) (w : World) (hw : HStr w) (ha : a < 4294967296) (hs : s.data.toList = addrT a) :
    Calls Tryz.prog 56 #[.string s] w fun e w' => e = .returned (.int .u32 a) ∧ Below w.heap.size w w' := by
  have HW := Lib.hid hw
  have HS := Lib.hid hs
  clear hw hs
  go_enter Tryz.func56, Tryz.ntmps56
  go_wp2_with (first
    | (go_at_call 83; (with_reducible refine (Parse_ok a s _ HW.out ha HS.out).mono ?_); rintro e w1 ⟨rfl, hb1⟩; have HB1 := Lib.hid hb1; clear hb1)
    | fail)
  go_ret
  exact ⟨rfl, HB1.out⟩
set_option maxRecDepth 100000 in
theorem WAddr_bad (s : ByteArray) (w : World) (hw : HStr w) (hsz : s.size ≤ 2097152) (hs : ∀ a : Nat, a < 4294967296 → s.data.toList ≠ addrT a) :
    Calls Tryz.prog 56 #[.string s] w fun e w' => e = panE 7 ∧ Below w.heap.size w w' := by
  have HW := Lib.hid hw
  have HS := Lib.hid hs
  clear hw hs
  go_enter Tryz.func56, Tryz.ntmps56
  go_wp2_with (first
    | (go_at_call 83; (with_reducible refine (Parse_bad s _ HW.out hsz HS.out).mono ?_); rintro e w1 ⟨rfl, hb1⟩; have HB1 := Lib.hid hb1; clear hb1)
    | fail)
  exact ⟨rfl, rfl, HB1.out⟩
theorem atoi_dd_of {v : Int} {l : List UInt8} (h0 : 0 ≤ v) (hn : ∀ n : Nat, n ≤ 1073741824 → l ≠ dd n) (h1 : ¬ 1073741824 < v) : (dd v.toNat == l) = false := by
  refine beq_eq_false_iff_ne.2 fun e => hn v.toNat (by omega) e.symm
set_option maxRecDepth 100000 in
theorem WNum_ok (n : Nat) (s : ByteArray) (w : World) (hw : HStr w) (hn : n ≤ 1073741824) (hs : s.data.toList = dd n) :
    Calls Tryz.prog 45 #[.string s] w fun e w' => e = .returned (.int .i64 n) ∧ Below w.heap.size w w' := by
  have HA := Lib.hid (show Lib.atoiAll s.data.toList = .ok (n : Int) by rw [hs]; exact atoi_dd n (by omega))
  have hsz : s.size ≤ 10 := by
    have e1 := dd_len10 hn
    rw [← size_data, hs]; exact e1.2
  have HES : Hid ((⟨(dd n).toArray⟩ : ByteArray) = s) := Lib.hid (by rw [← hs])
  have HW := Lib.hid hw
  have h1 : ¬ (n : Int) < 0 := by omega
  have h2 : ¬ 1073741824 < (n : Int) := by omega
  clear hw hs
  go_enter Tryz.func45, Tryz.ntmps45
  go_wp2_with (first
    | (go_at_call 76; (with_reducible refine (Atoi_ok s (n : Int) _ (by omega) HA.out).mono ?_); rintro e w1 ⟨rfl, hb1⟩; have HB1 := Lib.hid hb1; clear hb1)
    | (go_at_call 51; (with_reducible refine (Itoa_n n _ (HW.out.on HB1.out) (by omega)).mono ?_); rintro e w2 ⟨rfl, hb2⟩; rw [show strV (dd n) = .string s from by rw [← HES.out]]; have HB2 := Lib.hid (HB1.out.trans (hb2.mono HB1.out.size)); clear hb2)
    | fail)
  go_ret
  exact ⟨rfl, HB2.out⟩
set_option maxRecDepth 100000 in
theorem WNum_bad (s : ByteArray) (w : World) (hw : HStr w) (hsz : s.size ≤ 2097152) (hs : ∀ n : Nat, n ≤ 1073741824 → s.data.toList ≠ dd n) :
    Calls Tryz.prog 45 #[.string s] w fun e w' => e = panE 7 ∧ Below w.heap.size w w' := by
  have HW := Lib.hid hw
  have HS := Lib.hid hs
  clear hw hs
  by_cases hv : ∃ v, Lib.atoiAll s.data.toList = .ok v
  · obtain ⟨v, hv⟩ := hv
    have HV := Lib.hid hv
    have hvb := Lib.atoiAll_bounds hv
    clear hv
    by_cases h1 : v < 0
    · go_enter Tryz.func45, Tryz.ntmps45
      go_wp2_with (first
        | (go_at_call 76; (with_reducible refine (Atoi_ok s v _ (by omega) HV.out).mono ?_); rintro e w1 ⟨rfl, hb1⟩; have HB1 := Lib.hid hb1; clear hb1)
        | fail)
      exact ⟨rfl, rfl, HB1.out⟩
    · by_cases h2 : 1073741824 < v
      · go_enter Tryz.func45, Tryz.ntmps45
        go_wp2_with (first
          | (go_at_call 76; (with_reducible refine (Atoi_ok s v _ (by omega) HV.out).mono ?_); rintro e w1 ⟨rfl, hb1⟩; have HB1 := Lib.hid hb1; clear hb1)
          | fail)
        exact ⟨rfl, rfl, HB1.out⟩
      · obtain ⟨n, rfl⟩ := Int.eq_ofNat_of_zero_le (show 0 ≤ v by omega)
        have tne : (dd n == s.toList) = false := by
          have := HS.out n (by omega)
          rw [← ByteArray.toList_eq] at this
          exact beq_eq_false_iff_ne.2 (fun e => this e.symm)
        go_enter Tryz.func45, Tryz.ntmps45
        go_wp2_with (first
          | (go_at_call 76; (with_reducible refine (Atoi_ok s (n : Int) _ (by omega) HV.out).mono ?_); rintro e w1 ⟨rfl, hb1⟩; have HB1 := Lib.hid hb1; clear hb1)
          | (go_at_call 51; (with_reducible refine (Itoa_n n _ (HW.out.on HB1.out) (by omega)).mono ?_); rintro e w2 ⟨rfl, hb2⟩; have HB2 := Lib.hid (HB1.out.trans (hb2.mono HB1.out.size)); clear hb2)
          | fail)
        exact ⟨rfl, rfl, HB2.out⟩
  · have HV : Hid (∀ v, Lib.atoiAll s.data.toList ≠ .ok v) := Lib.hid (fun v e => hv ⟨v, e⟩)
    clear hv
    go_enter Tryz.func45, Tryz.ntmps45
    go_wp2_with (first
      | (go_at_call 76; (with_reducible refine (Atoi_bad s _ HW.out (by omega) HV.out).mono ?_); rintro e w1 ⟨v, t, q, rfl, hb1⟩; have HB1 := Lib.hid hb1; clear hb1)
      | fail)
    exact ⟨rfl, rfl, HB1.out⟩
end Go.Proofs.YtgdlkjahlajcpaaGreatDoor
namespace Go.Proofs.YtgdlkjahlajcpaaGreatDoor
open Go.ChangeShapes Go.WideShapes Go.ChangeAt Go.RowKit
set_option linter.unusedVariables false
set_option linter.unusedSimpArgs false

theorem strT_info : (Tryz.prog.info? 9).map (fun i => (i.zero, i.size, i.bytes)) = some (some (.string .empty), 1, 16) := by kernel_rfl
def netsV (l : List Nt) (k : Nat) : List Value := (l.take k).map fun x => strV (netX x)
theorem netsV_succ {l : List Nt} {k : Nat} {x : Nt} (h : l[k]? = some x) : netsV l (k + 1) = netsV l k ++ [strV (netX x)] := by
  unfold netsV; rw [List.take_add_one, h, List.map_append]; rfl
theorem join_len (l : List (List UInt8)) (b : Nat) (h : ∀ x ∈ l, x.length ≤ b) : (Lib.join l [32]).length ≤ l.length * (b + 1) := by
  unfold Lib.join
  induction l with
  | nil => simp [List.intercalate]
  | cons x r ih =>
    have h1 := h x (by simp)
    have h2 := ih fun y hy => h y (by simp [hy])
    cases r with
    | nil => simp [List.intercalate]; omega
    | cons y r =>
      have e : List.intercalate [32] (x :: y :: r) = x ++ ([32] ++ List.intercalate [32] (y :: r)) := by simp [List.intercalate, List.intersperse]
      rw [e]
      simp only [List.length_append, List.length_cons, List.length_nil] at h2 ⊢
      have : (r.length + 1 + 1) * (b + 1) = (r.length + 1) * (b + 1) + (b + 1) := by rw [Nat.succ_mul]
      omega
theorem netX_len {x : Nt} (h : netF x = 0) (h32 : is32 x.1) : (netX x).length ≤ 19 := by
  have h1 := h32.1; have h2 := h32.2
  have h3 := (netF_zero.1 h).2.1
  exact netT_length _ _ (by omega) (by omega)
theorem netsT_len {l : List Nt} (hl : l.length ≤ 1000) (hv : ∀ x ∈ l, netF x = 0 ∧ is32 x.1) : (netsT l).length ≤ 20000 := by
  have h := join_len (l.map netX) 19 (by
    intro y hy
    obtain ⟨x, hx, rfl⟩ := List.mem_map.1 hy
    exact netX_len (hv x hx).1 (hv x hx).2)
  unfold netsT
  rw [List.length_map] at h
  omega
set_option maxRecDepth 100000 in
set_option maxHeartbeats 4000000 in
theorem Texts_any {w : World} {A : Option Addr} {n c : Nat} {l : List Nt} (hr : R1 rdNets w (.slice A n c) l) (hl : l.length ≤ 1000) (hv : ∀ x ∈ l, netF x = 0 ∧ is32 x.1) (hw : HStr w) :
    Calls Tryz.prog 60 #[.slice A n c] w fun e w' => e = .returned (strV (netsT l)) ∧ Below w.heap.size w w' := by
  obtain ⟨hn, hnc, hcm⟩ := RdSlice.len hr
  have hn1 : n ≤ 1000 := by omega
  obtain ⟨i0, hi, hz0, hz1, hz2⟩ := info_parts strT_info
  have HR := Lib.hid hr
  have HN := Lib.hid hn
  have HV := Lib.hid hv
  have HW := Lib.hid hw
  have HLEN := Lib.hid (netsT_len hl hv)
  clear hr hcm hnc hn hv hw hl
  go_enter Tryz.func60, Tryz.ntmps60
  go_wp2
  go_loopw [3, 8] (fun v s wr => ∃ k : Nat, k ≤ n ∧ s = .int .i64 k ∧ wr.ownsRow w.heap.size 9 1 v k (netsV l k) ∧ Below w.heap.size w wr) (fun _ s _ => n - (intOf s).toNat)
  case atStart => exact ⟨0, by omega, rfl, World.ownsRow_nil _ _ _ _, Below.refl _ _⟩
  case round =>
    obtain ⟨k, hk, rfl, hown, hbel⟩ := hrel
    have hsz := hbel.size
    by_cases hlt : k < n
    · obtain ⟨b, o, ⟨x, x'⟩, rfl, hb, HX, ⟨wx, wy⟩, c0, c1⟩ := RdSlice.atN HR.out hlt
      have d0 := (hbel.cell (p := ⟨b, o + k * 2, none⟩) hb).trans c0
      have d1 := (hbel.cell (p := ⟨b, o + k * 2 + 1, none⟩) hb).trans c1
      obtain ⟨hz, h32⟩ := HV.out (x, x') (List.mem_of_getElem? HX.out)
      obtain ⟨p, rfl⟩ := Int.eq_ofNat_of_zero_le h32.1
      obtain ⟨q, hq, e, _⟩ := net_ok hz
      simp only at e h32
      subst e
      have hp : p < 4294967296 := by have := h32.2; omega
      have HS : Hid (netX ((p : Int), (q : Int)) = netT p q) := Lib.hid rfl
      have HQK := Lib.hid (netsV_succ HX.out)
      have HBEL := Lib.hid hbel
      clear c0 c1 wx wy hbel hz h32
      go_wp2_with (first
        | (go_at_call 58; (with_reducible refine (NText_any p q _ ((HW.out.below HBEL.out (Nat.le_refl _)).alloc _) hp hq).mono ?_); rintro e w1 ⟨rfl, hb1⟩; have hb0 := ((Below.refl wr.heap.size wr).alloc (Nat.le_refl _) (.cells #[.int .u32 (p : Int), .int .i64 (q : Int)] 47)).trans (hb1.mono (by simp)); have zw1 := hb0.size; have hown1 := own_below hown hb0; have HB1 := Lib.hid (HBEL.out.trans (hb0.mono hsz)); clear hb1 hb0)
        | (at_builtin; refine wpList_append_own _ rfl _ _ 23 rfl w.heap.size 9 i0 (.string .empty) 1 16 Tryz.underlying23 hi hz0 hz1 hz2 rfl (by decide) _ _ _ rfl (hown1.alloc _) ⟨w1.heap.size, 0, none⟩ 1 1 [strV (netT p q)] rfl rfl ?c1 ?c2 ?c3 ?c4 ?c5 ?_)
        | fail)
      case c1 => intro j u hu; match j, hu with
        | 0, hu => simp only [List.getElem?_cons_zero, Option.some.injEq] at hu; subst hu; rw [addr_add]; simp
      case c2 => intro u hu; simp only [List.mem_cons, List.not_mem_nil, or_false] at hu; subst hu; rfl
      case c3 => unfold maxLen; omega
      case c4 => omega
      case c5 => simp; omega
      intro v' w2 hown2 hgrow _
      have hb2 : Below w.heap.size w w2 := below_grown (HB1.out.alloc (by omega) _) (hown1.alloc _) hgrow (Nat.le_refl _) (by simp; omega)
      rw [← HS.out, ← HQK.out] at hown2
      have HB2 := Lib.hid hb2
      clear hb2 hown hgrow
      go_wp2
      exact ⟨⟨k + 1, by omega, by go_num, hown2, HB2.out⟩, by simp [intOf]; omega⟩
    · have : k = n := by omega
      subst this
      have HBEL := Lib.hid hbel
      have HJC : Hid (Calls Tryz.prog 85 #[u3, .string ⟨#[32]⟩] wr fun e w' => e = .returned (strV (netsT l)) ∧ Below wr.heap.size wr w') := Lib.hid (by
        by_cases h0 : k = 0
        · subst h0
          have hl0 : l = [] := List.length_eq_zero_iff.1 HN.out.symm
          obtain ⟨A', c', e⟩ := own_form hown
          rw [e, hl0]
          exact (Tryz.strings_Join_none A' c' ⟨#[32]⟩ wr).mono fun e w' ⟨he, hw⟩ => ⟨he, by rw [hw]; exact Below.refl _ _⟩
        · obtain ⟨g, cap, e, hg, hgs, hnc, hcells⟩ := own_pos hown (by omega)
          rw [e]
          have hL : (l.map fun x => (⟨(netX x).toArray⟩ : ByteArray)).length = k := by rw [List.length_map]; exact HN.out.symm
          have hd : (l.map fun x => (⟨(netX x).toArray⟩ : ByteArray)).map (·.data.toList) = l.map netX := by simp [List.map_map, Function.comp_def]
          have hj := Tryz.strings_Join g 0 cap (l.map fun x => (⟨(netX x).toArray⟩ : ByteArray)) ⟨#[32]⟩ wr (fun j x hx => hcells j _ (by
            have e2 : netsV l k = (l.map fun x => (⟨(netX x).toArray⟩ : ByteArray)).map Value.string := by
              unfold netsV
              rw [List.take_of_length_le (by rw [← HN.out]; exact Nat.le_refl _), List.map_map]; rfl
            rw [e2, List.getElem?_map, hx]; rfl)) hgs (by omega) (by omega) (by rw [hd]; have := HLEN.out; unfold netsT at this; exact Nat.le_trans this (by omega))
          rw [hL, hd] at hj
          exact hj)
      clear hown hbel
      go_wp2_with (first
        | (go_at_call 85; refine HJC.out.mono ?_; rintro e w3 ⟨rfl, hb3⟩; have HB3 := Lib.hid (HBEL.out.trans (hb3.mono hsz)); clear hb3)
        | fail)
      go_ret
      exact ⟨rfl, HB3.out⟩
end Go.Proofs.YtgdlkjahlajcpaaGreatDoor
namespace Go.Proofs.YtgdlkjahlajcpaaGreatDoor
open Go.ChangeShapes Go.WideShapes Go.ChangeAt Go.RowKit
set_option linter.unusedVariables false
set_option linter.unusedSimpArgs false

/-- how a form ends -/
def endA : Ans → Ending
  | .ok t => .returned (strV t)
  | .error k => panE k
abbrev deskV (T : Nat) : Value := .agg #[.pointer (some ⟨T, 0, none⟩)]
theorem all_nets {m : Tab} (h : MOk m) : (∀ x ∈ allM m, netF x = 0 ∧ is32 x.1) ∧ (allM m).length ≤ 64 := by
  refine ⟨fun x hx => h.net ((mem_all h x).1 hx), ?_⟩
  rw [all_length h]; exact h.len
theorem row1p {w : World} {R : Nat} {v0 : Value} {t : TypeId} (h : w.heap[R]? = some (.cells #[v0] t (0, 0))) : w.cell? ⟨R, 0, none⟩ = some v0 := by
  rw [cell_of_row _ R _ _ _ (0, 0) h]; rfl
section
variable {W w : World} {T : Nat} {m : Tab} {S : Nat → Prop} {v : Value}
theorem List_do (h : Tk W T m S w) (hw : HStr W) :
    Calls Tryz.prog 59 #[deskV T, v] w fun e w' => e = endA (.ok (netsT (allM m))) ∧ Below w.heap.size w w' := by
  have h1 := h.below ((Below.refl w.heap.size w).alloc (Nat.le_refl _) (.cells #[.pointer (some ⟨T, 0, none⟩)] 40))
  have HL := Lib.hid (List_t h1)
  have HW : Hid (HStr w) := Lib.hid (hw.below h.bel (Nat.le_refl _))
  have HA := Lib.hid (all_nets h.ok)
  clear h h1 hw
  go_enter Tryz.func59, Tryz.ntmps59
  go_wp2_with (first
    | (go_at_call 61; refine HL.out.mono ?_; rintro e w1 ⟨u, rfl, hown, hb1⟩; have hr := hown.read; obtain ⟨A, c, hu⟩ := hown.form; rw [hu] at hr ⊢; have HR := Lib.hid hr; have HB1 := Lib.hid (((Below.refl w.heap.size w).alloc (Nat.le_refl _) (.cells #[.pointer (some ⟨T, 0, none⟩)] 40)).trans (hb1.mono (by simp))); clear hown hb1 hr hu)
    | (go_at_call 60; (with_reducible refine (Texts_any HR.out (by have := HA.out.2; omega) HA.out.1 (HW.out.on HB1.out)).mono ?_); rintro e w2 ⟨rfl, hb2⟩; have HB2 := Lib.hid (HB1.out.trans (hb2.mono HB1.out.size)); clear hb2)
    | fail)
  trace_state
  go_ret
  exact ⟨rfl, HB2.out⟩
end
end Go.Proofs.YtgdlkjahlajcpaaGreatDoor
