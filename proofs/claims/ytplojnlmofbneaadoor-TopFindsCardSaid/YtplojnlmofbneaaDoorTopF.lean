/- waywardentop.TopFinds: its walk. -/
import Derived.Test.YtplojnlmofbneaaDoorTrieK
import Derived.Test.YtplojnlmofbneaaDoorCovF
namespace Go.Proofs.YtplojnlmofbneaaDoor
open Go.ChangeShapes Go.WideShapes Go.ChangeAt Go.RowKit
set_option linter.unusedVariables false
set_option linter.unusedSimpArgs false
theorem CovPost.casesF {w w' : World} {l : List Nn} {e : Ending} (h : CovPost w l e w') : (covF l ≠ 0 ∧ e = .returned (.tuple #[.slice none 0 0, .iface 41 (.int .i64 (covF l))]) ∧ Below w.heap.size w w') ∨
    (covF l = 0 ∧ ∃ A L c, L = (coverV l).length ∧ e = .returned (.tuple #[.slice A L c, .nilIface]) ∧ OwnN w' w.heap.size (.slice A L c) (coverV l) ∧ Below w.heap.size w w') := by
  obtain ⟨v, he, h1, h2, hb⟩ := h
  by_cases hF : covF l = 0
  · right
    have ho := h2 hF
    obtain ⟨A, c, rfl⟩ := ho.form
    exact ⟨hF, A, _, c, rfl, by rw [he, hF]; rfl, ho, hb⟩
  · left
    rw [h1 hF, errV_ne hF] at he
    exact ⟨hF, he, hb⟩
/-- blocks that lie as they lay -/
def Same (n : Nat) (w w' : World) : Prop := ∀ g, g < n → w'.heap[g]? = w.heap[g]?
theorem Same.refl (n : Nat) (w : World) : Same n w w := fun _ _ => rfl
theorem Same.trans {n : Nat} {a b c : World} (h : Same n a b) (k : Same n b c) : Same n a c := fun g hg => (k g hg).trans (h g hg)
theorem Same.below {n : Nat} {a b c : World} (h : Same n a b) (k : Below b.heap.size b c) (hn : n ≤ b.heap.size) : Same n a c := h.trans fun g hg => k.block g (Nat.lt_of_lt_of_le hg hn)
theorem Same.kept {n : Nat} {a b c : World} {S : Nat → Prop} (h : Same n a b) (k : KeptS S b c) (hS : ∀ g, g < n → S g) : Same n a c := h.trans fun g hg => k g (hS g hg)
theorem Same.rd {w w' : World} {v : Value} {l : List Nt} {n : Nat} (h : Same n w w') (hn : n = w.heap.size) (hr : rdNets w (· < w.heap.size) [v] l) (hz : n ≤ w'.heap.size) : R1 rdNets w' v l := by
  subst hn
  exact RdLaw.mono (RdLaw.keep hr fun p hp => World.cell?_of_block (h p.block hp)) (fun b hb => Nat.lt_of_lt_of_le hb hz)
abbrev tblO : Obj := .cells #[.bool false, .int .i64 0, .pointer none, .pointer none, .int .i64 0] 75 (0, 0)
theorem Tk.fresh {W w : World} {T : Nat} {S : Nat → Prop} (hO : w.heap[T]? = some tblO) (hb : Below W.heap.size W w) (hT : W.heap.size ≤ T) (hS : ∀ g, S g → g < w.heap.size ∧ g ≠ T) : Tk W T [] S w := by
  refine ⟨⟨fun x => if x = (0, 0) then some T else none, ⟨MOk.nil, by simp, ?_, ?_, ?_, ?_, ?_, ?_⟩, fun g hg => ⟨(hS g hg).1, fun x hx => ?_⟩⟩, hb⟩
  · intro x b hx
    split at hx
    · rename_i e; subst e; exact ⟨by decide, by decide, by decide⟩
    · cases hx
  · intro x b hx
    split at hx
    · simp at hx; omega
    · cases hx
  · intro x y b hx hy
    split at hx <;> split at hy
    · rename_i e e'; rw [e, e']
    · cases hy
    · cases hx
    · cases hx
  · intro x k hx hk
    split at hx
    · rename_i e; subst e; simp at hk; omega
    · exact absurd rfl hx
  · intro x hx; simp [look] at hx
  · intro x b hx
    split at hx
    · rename_i e
      subst e
      simp only [Option.some.injEq] at hx
      subst hx
      refine ⟨0, fun u hu => by simp [look] at hu, ?_⟩
      rw [hO]
      rfl
    · cases hx
  · have hx' : (if x = (0, 0) then some T else none) = some g := hx
    clear hx
    have hx := hx'
    split at hx
    · simp only [Option.some.injEq] at hx
      exact (hS g hg).2 hx.symm
    · cases hx
/-- what a table holds of a list of nets, each with 3 -/
def Threes (m : List (Nt × Int)) (L : List Nt) : Prop := (∀ y, look m y = if y ∈ L then some 3 else none) ∧ m.length ≤ L.length
theorem Threes.nil : Threes [] [] := ⟨fun y => by simp [look], Nat.le_refl _⟩
theorem Threes.put {m : List (Nt × Int)} {L : List Nt} (h : Threes m L) (hm : (keysM m).Nodup) (x : Nt) : Threes (putM m x 3) (L ++ [x]) := by
  refine ⟨fun y => ?_, ?_⟩
  · rw [look_put, h.1]
    by_cases e : y = x
    · rw [if_pos e, if_pos (by rw [e]; simp)]
    · rw [if_neg e]
      by_cases h2 : y ∈ L
      · rw [if_pos h2, if_pos (by simp [h2])]
      · rw [if_neg h2, if_neg (by simp [h2, e])]
  · rw [put_length hm, List.length_append]
    have := h.2
    split
    · simp; omega
    · simp; omega
theorem threes_put {m : List (Nt × Int)} {L : List Nt} {x : Nt} (h : Threes m L) (hm : MOk m) (hx : netF x = 0) (hl : L.length < 64) : putE m x = 0 ∧ Threes (putT m x 3) (L ++ [x]) := by
  have e : putE m x = 0 := by
    unfold putE; rw [if_pos hx, if_neg]
    rintro ⟨_, h2⟩
    have := h.2; omega
  refine ⟨e, ?_⟩
  unfold putT
  rw [if_pos e]
  exact h.put hm.nodup x
theorem threes_find {m : List (Nt × Int)} {L : List Nt} (h : Threes m L) (hv : ∀ x ∈ L, netF x = 0) (a : Int) : (hasL L a = false ∧ fnd m a 33 = none) ∨ (hasL L a = true ∧ ∃ j, fnd m a 33 = some (j, 3)) := by
  cases hf : fnd m a 33 with
  | none =>
    left
    refine ⟨?_, rfl⟩
    cases hh : hasL L a
    · rfl
    · obtain ⟨x, hx, hy⟩ := hasL_iff.1 hh
      obtain ⟨j, hj, rfl⟩ := has_trim hy
      have := fnd_none hf j (by omega)
      rw [h.1, if_pos hx] at this; cases this
  | some p =>
    obtain ⟨j, v⟩ := p
    right
    obtain ⟨h1, h2, _⟩ := fnd_some hf
    rw [h.1] at h2
    by_cases hx : trimN (a, 32) j ∈ L
    · rw [if_pos hx] at h2
      simp only [Option.some.injEq] at h2
      subst h2
      exact ⟨hasL_iff.2 ⟨_, hx, trim_has a (by omega)⟩, j, rfl⟩
    · rw [if_neg hx] at h2; cases h2
theorem chas_c {w0 w : World} {A : Option Addr} {n c : Nat} {l : List Nn} {a : Int} {r : Bool} (hr : R1 rdNets w (.slice A n c) l) (ha : is32 a) (hh : hasL l a = r) (d : Nat) (os : Array Obj) :
    Calls Tryd.prog 14 #[.slice A n c, .int .u32 a] (Sort.grow (redrawn w d) os) fun e w'' => e = .returned (.bool r) ∧ ∃ p : Regrown, w'' = Sort.grow (redrawn w p.d) p.os :=
  Calls.regrown_of ((CHas_any ha (hr.below (below_regrown w d os))).mono fun e w' ⟨he, hb⟩ => ⟨by rw [he, hh], hb⟩)
theorem is32_zero : is32 0 := ⟨by decide, by decide⟩
theorem put00 : putE [] (0, 0) = 0 := by decide
theorem drop00 (v : Int) : getE (putT [] (0, 0) v) (0, 0) = 0 ∧ dropT (putT [] (0, 0) v) (0, 0) = [] := by
  have e : putT [] (0, 0) v = putM [] (0, 0) v := by unfold putT; rw [if_pos put00]
  have h : getE (putM [] (0, 0) v) (0, 0) = 0 := by
    unfold getE; rw [if_pos (by decide), if_neg (by rw [look_put, if_pos rfl]; simp)]
  rw [e]
  refine ⟨h, ?_⟩
  unfold dropT; rw [if_pos h, del_put [] (0, 0) v rfl]
set_option maxRecDepth 100000 in
set_option maxHeartbeats 16000000 in
theorem TopFinds_any {W : World} {A : Option Addr} {n c : Nat} {l : List Nt} {a : Int} (hl : R1 rdNets W (.slice A n c) l) (ha : is32 a) (hg : HErr W) :
    Calls Tryd.prog 3 #[.slice A n c, .int .u32 a] W fun e w' => e = .returned (.bool true) ∧ Below W.heap.size W w' := by
  have hln := sl_form hl
  have HL := Lib.hid hl
  have HA := Lib.hid ha
  have HG := Lib.hid hg
  have HLN := Lib.hid hln
  have HI32 : Hid (∀ x ∈ l, is32 x.1) := Lib.hid (fun x hx => bounds_u32 (wf_of_rd hl x hx).1)
  clear hl ha hg hln
  go_enter Tryd.func3, Tryd.ntmps3
  go_wp2_with fail
  go_at_call 8
  (with_reducible refine (Cover_any HL.out).mono ?_)
  intro e w1 hp
  rcases hp.casesF with ⟨hF, rfl, hb1⟩ | ⟨hF, A1, L, c1, hL, rfl, ho1, hb1⟩
  · have HB1 := Lib.hid hb1
    clear hp hF hb1
    go_wp2_with fail
    go_at_call 9
    (with_reducible refine (New_s (W := W) HB1.out (fun _ => False) (fun g hg => hg.elim)).mono ?_)
    rintro e w2 ⟨rfl, hT2, hb2⟩
    have HT2 := Lib.hid hT2
    clear hT2 hb2
    go_wp2_with fail
    go_at_call 9
    (with_reducible refine (New_s (W := W) HT2.out.bel (fun _ => False) (fun g hg => hg.elim)).mono ?_)
    rintro e w3 ⟨rfl, hT3, hb3⟩
    have HT3 := Lib.hid (HT2.out.below hb3)
    clear hT3 hb3
    go_wp2_with fail
    go_at_call 10
    (with_reducible refine (Put_t (v := 3) HT3.out is32_zero (by decide)).mono ?_)
    rw [put00, errV_zero]
    rintro e w4 ⟨rfl, hT4, hk4, -⟩
    have HT4 := Lib.hid hT4
    clear hT4 hk4
    go_wp2_with fail
    go_at_call 11
    (with_reducible refine (Drop_t HT4.out is32_zero).mono ?_)
    rw [(drop00 3).1, errV_zero]
    rintro e w5 ⟨rfl, hT5, hk5, -⟩
    have HT5 := Lib.hid hT5
    clear hT5 hk5
    go_wp2
    go_ret
    exact ⟨rfl, HT5.out.bel⟩
  · have HV := Lib.hid (covF_zero.1 hF)
    have HLL := Lib.hid hL
    have HRC := Lib.hid (show rdNets w1 (· < w1.heap.size) [.slice A1 L c1] (coverV l) from ho1.read)
    have HB1 := Lib.hid hb1
    have hn64 : n ≤ 64 := by rw [← HLN.out]; exact HV.out.2
    have hL64 : L ≤ 64 := by have := (cover_all HV.out.1).2.2; rw [hL]; have := HV.out.2; omega
    have HC32 : Hid (∀ x ∈ coverV l, is32 x.1) := Lib.hid (cover_32 HI32.out)
    have HCV : Hid (∀ x ∈ coverV l, netF x = 0) := Lib.hid (cover_valid HV.out.1)
    have HCH : Hid (∀ y, hasL (coverV l) y = hasL l y) := Lib.hid (cover_all HV.out.1).2.1
    obtain ⟨C, hC⟩ : ∃ C, coverV l = C := ⟨_, rfl⟩
    rw [hC] at HLL HRC HC32 HCV HCH
    obtain ⟨n1, hn1⟩ : ∃ n1, w1.heap.size = n1 := ⟨_, rfl⟩
    have HN1 := Lib.hid hn1
    have HW1 : Hid (W.heap.size ≤ n1) := Lib.hid (by rw [← hn1]; exact hb1.size)
    clear hp hF hL ho1 hb1 hC
    go_wp2_with fail
    go_at_call 9
    (with_reducible refine (New_any w1).mono ?_)
    rintro e w2 ⟨rfl, hw2⟩
    have hb2 : Below w1.heap.size w1 w2 := by rw [hw2]; exact below_1 _ _
    have hO2 : w2.heap[n1]? = some tblO := by rw [hw2, ← HN1.out]; exact heap_alloc_new _ _
    have hz2 : w2.heap.size = n1 + 1 := by rw [hw2, ← HN1.out]; simp
    have HB2 := Lib.hid (HB1.out.trans (hb2.mono HB1.out.size))
    have HS2 : Hid (Same n1 w1 w2) := Lib.hid ((Same.refl n1 w1).below hb2 (by rw [HN1.out]; exact Nat.le_refl _))
    have HO2 := Lib.hid hO2
    have HZ2 := Lib.hid hz2
    try rw [HN1.out]
    clear hw2 hb2 hO2 hz2 hn1
    go_wp2_with fail
    go_at_call 9
    (with_reducible refine (New_any w2).mono ?_)
    rintro e w3 ⟨rfl, hw3⟩
    rw [HZ2.out]
    have hb3 : Below w2.heap.size w2 w3 := by rw [hw3]; exact below_1 _ _
    have HO3s := Lib.hid (below_block hb3 (size_of_block HO2.out) HO2.out)
    have HO3t : Hid (w3.heap[n1 + 1]? = some tblO) := Lib.hid (by rw [hw3, ← HZ2.out]; exact heap_alloc_new _ _)
    have HB3 := Lib.hid (HB2.out.trans (hb3.mono HB2.out.size))
    have HZ3 : Hid (w3.heap.size = n1 + 2) := Lib.hid (by rw [hw3]; simp; exact HZ2.out)
    have HS3 : Hid (Same n1 w1 w3) := Lib.hid (HS2.out.below hb3 (by rw [HZ2.out]; omega))
    have HT3 : Hid (Tk W n1 [] (fun g => g < n1 ∨ g = n1 + 1) w3) := Lib.hid (Tk.fresh HO3s.out HB3.out HW1.out (fun g hg => by have := HZ3.out; exact ⟨by omega, by omega⟩))
    clear hw3 hb3
    go_wp2_with fail
    go_at_call 10
    (with_reducible refine (Put_t (v := 3) HT3.out is32_zero (by decide)).mono ?_)
    rw [put00, errV_zero]
    rintro e w4 ⟨rfl, hT4, hk4, -⟩
    have HT4 := Lib.hid hT4
    have HO4 := Lib.hid (hk4.blk (.inr rfl) HO3t.out)
    have HS4 := Lib.hid (HS3.out.kept hk4 (fun g hg => .inl hg))
    clear hT4 hk4
    go_wp2_with fail
    go_at_call 11
    (with_reducible refine (Drop_t HT4.out is32_zero).mono ?_)
    rw [(drop00 3).1, errV_zero]
    rintro e w5 ⟨rfl, hT5, hk5, -⟩
    rw [(drop00 3).2] at hT5
    have HT5 := Lib.hid hT5
    have HO5 := Lib.hid (hk5.blk (.inr rfl) HO4.out)
    have HS5 := Lib.hid (HS4.out.kept hk5 (fun g hg => .inl hg))
    clear hT5 hk5
    go_wp2
    go_loopw [9] (fun iv wr => ∃ (k : Nat) (m : List (Nt × Int)), k ≤ n ∧ iv = .int .i64 k ∧ Tk W n1 m (fun g => g < n1 ∨ g = n1 + 1) wr ∧ Hid (Threes m (l.take k)) ∧ Hid (Same n1 w1 wr) ∧ wr.heap[n1 + 1]? = some tblO) (fun iv _ => n - (intOf iv).toNat)
    case atStart => exact ⟨0, [], Nat.zero_le _, rfl, HT5.out, Lib.hid Threes.nil, HS5, HO5.out⟩
    case round =>
      obtain ⟨k, m, hk, rfl, hT, HTH, HS, hO⟩ := hrel
      have HT := Lib.hid hT
      have HO := Lib.hid hO
      clear hT hO
      by_cases hlt : k < n
      · obtain ⟨b, o, ⟨p, q⟩, rfl, hb, HPQ, ⟨wx, wy⟩, e0, e1⟩ := RdSlice.atN HL.out hlt
        have d0 := (HT.out.bel.cell (p := ⟨b, o + k * 2, none⟩) hb).trans e0
        have d1 := (HT.out.bel.cell (p := ⟨b, o + k * 2 + 1, none⟩) hb).trans e1
        have i0 : (0 : Int) ≤ (k : Int) := by omega
        have i1 : (k : Int) < (n : Int) := by omega
        have HIx : Hid (is32 p) := Lib.hid (bounds_u32 wx)
        have HX := Lib.hid (threes_put (x := (p, q)) HTH.out HT.out.ok (HV.out.1 _ (List.mem_of_getElem? HPQ.out)) (by rw [List.length_take]; omega))
        have HTK : Hid (l.take (k + 1) = l.take k ++ [(p, q)]) := Lib.hid (takeN_succ HPQ.out)
        clear e0 e1 wx wy
        go_wp2_with fail
        go_at_call 10
        (with_reducible refine (Put_t (v := 3) HT.out HIx.out (by decide)).mono ?_)
        rw [HX.out.1, errV_zero]
        rintro e w6 ⟨rfl, hT6, hk6, -⟩
        have HT6 := Lib.hid hT6
        have HO6 := Lib.hid (hk6.blk (.inr rfl) HO.out)
        have HS6 := Lib.hid (HS.out.kept hk6 (fun g hg => .inl hg))
        clear hT6 d0 d1 hk6
        go_wp2
        go_roundw
        case rel => exact ⟨k + 1, _, by omega, by go_num, HT6.out, Lib.hid (by rw [HTK.out]; exact HX.out.2), HS6, HO6.out⟩
        case measure => simp [intOf]; omega
      · have HTS : Hid (Threes m l) := Lib.hid (by
          have h := HTH.out
          rw [List.take_of_length_le (by rw [HLN.out]; omega)] at h
          exact h)
        obtain ⟨Ns, hTs, hSs⟩ := HT.out.ex
        have HTs := Lib.hid hTs
        have HBW := Lib.hid HT.out.bel
        have hzr : n1 + 1 < wr.heap.size := size_of_block HO.out
        have HTt : Hid (Tk W (n1 + 1) [] (fun g => g < n1 ∨ ∃ x, Ns x = some g) wr) := Lib.hid (Tk.fresh HO.out HBW.out (by have := HW1.out; omega) (fun g hg => by
          rcases hg with hg | ⟨x, hx⟩
          · exact ⟨by omega, by omega⟩
          · exact ⟨hTs.lt hx, fun e => (hSs (n1 + 1) (.inr rfl)).2 x (by rw [hx, e])⟩))
        have HSr := HS
        obtain ⟨wA, hwA⟩ : ∃ wA, wr = wA := ⟨_, rfl⟩
        subst hwA
        clear hTs hSs HT HO HS
        go_wp2
        go_loopw [10] (fun iv wx => ∃ (k : Nat) (m : List (Nt × Int)), k ≤ L ∧ iv = .int .i64 k ∧ Tk W (n1 + 1) m (fun g => g < n1 ∨ ∃ x, Ns x = some g) wx ∧ Hid (Threes m (C.take k)) ∧ Hid (Same n1 w1 wx) ∧ Hid (∀ x b, Ns x = some b → wx.heap[b]? = wr.heap[b]?)) (fun iv _ => L - (intOf iv).toNat)
        case atStart => exact ⟨0, [], Nat.zero_le _, rfl, HTt.out, Lib.hid Threes.nil, HSr, Lib.hid (fun _ _ _ => rfl)⟩
        case round =>
          clear HTt HSr
          obtain ⟨i, mt, hi, rfl, hT, HTH2, HS, HNS⟩ := hrel
          have HT := Lib.hid hT
          have hzz : n1 ≤ wr.heap.size := by have h1 := HT.out.ex; obtain ⟨N2, h2, _⟩ := h1; have := h2.lt h2.root; omega
          have HRCr := Lib.hid (HS.out.rd HN1.out.symm HRC.out hzz)
          clear hT
          by_cases hlt2 : i < L
          · obtain ⟨b, o, ⟨p, q⟩, rfl, hb, HPQ, ⟨wx, wy⟩, e0, e1⟩ := RdSlice.atN HRCr.out hlt2
            have i0 : (0 : Int) ≤ (i : Int) := by omega
            have i1 : (i : Int) < (L : Int) := by omega
            have HIx : Hid (is32 p) := Lib.hid (bounds_u32 wx)
            have HX := Lib.hid (threes_put (x := (p, q)) HTH2.out HT.out.ok (HCV.out _ (List.mem_of_getElem? HPQ.out)) (by rw [List.length_take]; omega))
            have HTK : Hid (C.take (i + 1) = C.take i ++ [(p, q)]) := Lib.hid (takeN_succ HPQ.out)
            clear wx wy
            go_wp2_with fail
            go_at_call 10
            (with_reducible refine (Put_t (v := 3) HT.out HIx.out (by decide)).mono ?_)
            rw [HX.out.1, errV_zero]
            rintro e w6 ⟨rfl, hT6, hk6, -⟩
            have HT6 := Lib.hid hT6
            have HS6 := Lib.hid (HS.out.kept hk6 (fun g hg => .inl hg))
            have HNS6 := Lib.hid (fun x b (hx : Ns x = some b) => (hk6 b (.inr ⟨x, hx⟩)).trans (HNS.out x b hx))
            clear hT6 e0 e1 hk6
            go_wp2
            go_roundw
            case rel => exact ⟨i + 1, _, by omega, by go_num, HT6.out, Lib.hid (by rw [HTK.out]; exact HX.out.2), HS6, HNS6⟩
            case measure => simp [intOf]; omega
          · have HTC : Hid (Threes mt C) := Lib.hid (by
              have h := HTH2.out
              rw [List.take_of_length_le (by rw [← HLL.out]; omega)] at h
              exact h)
            have HTT : Hid (Tk W n1 m (fun _ => False) wr) := Lib.hid ⟨⟨Ns, HTs.out.kept HNS.out, fun g hg => hg.elim⟩, HT.out.bel⟩
            have hW1 := threes_find HTS.out HV.out.1 a
            have hW2 := threes_find HTC.out HCV.out a
            rw [HCH.out a] at hW2
            obtain ⟨h, hh⟩ : ∃ h, hasL l a = h := ⟨_, rfl⟩
            rw [hh] at hW1 hW2
            have HH := Lib.hid hh
            obtain ⟨r1, hr1⟩ : ∃ r, fnd m a 33 = r := ⟨_, rfl⟩
            obtain ⟨r2, hr2⟩ : ∃ r, fnd mt a 33 = r := ⟨_, rfl⟩
            rw [hr1] at hW1
            rw [hr2] at hW2
            have HR1 := Lib.hid hr1
            have HR2 := Lib.hid hr2
            have HWW : Hid (fW r1 = fW r2 ∧ fE r1 = fE r2 ∧ ((h = true ∧ fE r1 = 0) ∨ (h = false ∧ fE r1 = 2))) := Lib.hid (by
              rcases hW1 with ⟨h1, e1⟩ | ⟨h1, j1, e1⟩
              · rcases hW2 with ⟨_, e2⟩ | ⟨h2, _⟩
                · rw [e1, e2]; exact ⟨rfl, rfl, .inr ⟨h1, rfl⟩⟩
                · rw [h1] at h2; cases h2
              · rcases hW2 with ⟨h2, _⟩ | ⟨_, j2, e2⟩
                · rw [h1] at h2; cases h2
                · rw [e1, e2]; exact ⟨rfl, rfl, .inl ⟨h1, rfl⟩⟩)
            clear hr1 hr2 hh hW1 hW2
            go_wp2_with fail
            go_at_call 12
            (with_reducible refine (Find_t HTT.out HA.out HR1.out).mono ?_)
            rintro e w6 ⟨rfl, hb6⟩
            rw [findV_u]
            have hb6' := hb6.trans ((below_1 w6 (.cells #[.int .u32 (fX a r1), .int .i64 (fY r1)] 32)).mono hb6.size)
            have HT6 := Lib.hid (HT.out.below hb6')
            obtain ⟨x1, hx1⟩ : ∃ x, fX a r1 = x := ⟨_, rfl⟩
            obtain ⟨y1, hy1⟩ : ∃ x, fY r1 = x := ⟨_, rfl⟩
            rw [hx1, hy1] at HT6
            rw [hx1, hy1]
            clear hb6 hb6' hx1 hy1
            go_wp2_with fail
            go_at_call 12
            (with_reducible refine (Find_t HT6.out HA.out HR2.out).mono ?_)
            rintro e w7 ⟨rfl, hb7⟩
            rw [findV_u]
            have hb7' := hb7.trans ((below_1 w7 (.cells #[.int .u32 (fX a r2), .int .i64 (fY r2)] 32)).mono hb7.size)
            have HB7 := Lib.hid (HT6.out.below hb7').bel
            obtain ⟨x2, hx2⟩ : ∃ x, fX a r2 = x := ⟨_, rfl⟩
            obtain ⟨y2, hy2⟩ : ∃ x, fY r2 = x := ⟨_, rfl⟩
            rw [hx2, hy2] at HB7
            rw [hx2, hy2]
            have HG7 := Lib.hid (HG.out.below HB7.out)
            obtain ⟨z1, hz1⟩ : ∃ x, fW r1 = x := ⟨_, rfl⟩
            obtain ⟨z2, hz2⟩ : ∃ x, fW r2 = x := ⟨_, rfl⟩
            obtain ⟨E1, hE1⟩ : ∃ x, fE r1 = x := ⟨_, rfl⟩
            obtain ⟨E2, hE2⟩ : ∃ x, fE r2 = x := ⟨_, rfl⟩
            have hww := HWW.out
            rw [hz1, hz2, hE1, hE2] at hww
            rw [hz1, hz2, hE1, hE2]
            obtain ⟨rfl, rfl, hcase⟩ := hww
            have HL7 := Lib.hid (HL.out.below HB7.out)
            have tt : (z1 == z1) = true := by simp
            clear hb7 hb7' hx2 hy2 hz1 hz2 hE1 hE2
            rcases hcase with ⟨rfl, rfl⟩ | ⟨rfl, rfl⟩
            · go_wp2_with fail
              go_at_call 13
              (with_reducible refine (Told2_any 0 0 _ HG7.out).mono ?_)
              rw [show ((0 : Int) == 0) = true from rfl]
              rintro e w8 ⟨rfl, hb8⟩
              have HB8 := Lib.hid (HB7.out.trans (hb8.mono HB7.out.size))
              have HL8 := Lib.hid (HL.out.below HB8.out)
              have s8 := HB8.out.size
              clear hb8
              rw [errV_zero]
              go_wp2
              refine wp_region_quiet_below (by kernel_rfl) (by kernel_rfl) ?_
              repeat (go_big_quiet_step (first | (with_reducible exact chas_c (w0 := W) HL8.out HA.out HH.out _ _) | fail))
              refine wpQuiet_nil ?_
              intro w9 hw'
              obtain ⟨⟨dq, osq⟩, hw''⟩ := hw'
              have HB9 := Lib.hid (HB8.out.trans ((show Below w8.heap.size w8 w9 by rw [hw'']; exact below_regrown w8 dq osq).mono s8))
              clear hw''
              go_wp2
              go_ret
              exact ⟨rfl, HB9.out⟩
            · go_wp2_with fail
              go_at_call 13
              (with_reducible refine (Told2_any 2 2 _ HG7.out).mono ?_)
              rw [show ((2 : Int) == 2) = true from rfl]
              rintro e w8 ⟨rfl, hb8⟩
              have HB8 := Lib.hid (HB7.out.trans (hb8.mono HB7.out.size))
              have HL8 := Lib.hid (HL.out.below HB8.out)
              have s8 := HB8.out.size
              clear hb8
              rw [errV_ne (k := 2) (by decide)]
              go_wp2
              refine wp_region_quiet_below (by kernel_rfl) (by kernel_rfl) ?_
              repeat (go_big_quiet_step (first | (with_reducible exact chas_c (w0 := W) HL8.out HA.out HH.out _ _) | fail))
              refine wpQuiet_nil ?_
              intro w9 hw'
              obtain ⟨⟨dq, osq⟩, hw''⟩ := hw'
              have HB9 := Lib.hid (HB8.out.trans ((show Below w8.heap.size w8 w9 by rw [hw'']; exact below_regrown w8 dq osq).mono s8))
              clear hw''
              go_wp2
              go_ret
              exact ⟨rfl, HB9.out⟩
theorem TopFinds_walk (w : World) (A : Option Addr) (n c : Nat) (l : List Nt) (rr : RV rdNets w (.slice A n c) l) (q : l.length * 16 ≤ reachBytes ∧ ∀ x ∈ l, True ∧ True) (a : Int) (ba : 0 ≤ a ∧ a ≤ 4294967295) (hg : HErr w) :
    Calls Tryd.prog 3 #[.slice A n c, .int .u32 a] w fun e w' => e = .returned (.bool true) ∧ Below w.heap.size w w' :=
  TopFinds_any rr ba hg
end Go.Proofs.YtplojnlmofbneaaDoor
