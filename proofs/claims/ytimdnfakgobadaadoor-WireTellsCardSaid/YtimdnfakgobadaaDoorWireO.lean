/- WireShort: the walk. -/
import Derived.Test.YtimdnfakgobadaaDoorWireM
import Derived.Test.YtimdnfakgobadaaDoorHandle
namespace Go.Proofs.YtimdnfakgobadaaDoor
open Go.ChangeShapes Go.WideShapes Go.ChangeAt Go.RowKit
set_option linter.unusedVariables false
set_option linter.unusedSimpArgs false

theorem bytes_of {w : World} {A : Option Addr} {n c : Nat} {l : List Int} (hr : R1 rdBytes w (.slice A n c) l) : Bytes w w.heap.size A l := by
  have hn := (RdSlice.len hr).1
  refine ⟨⟨by simp, fun h0 => ?_⟩, rdBytes_rng hr⟩
  obtain ⟨b, o, rfl, hb⟩ := RdSlice.some_ hr (by omega)
  refine ⟨_, rfl, hb, fun j u hu => ?_⟩
  rw [List.getElem?_map] at hu
  cases hx : l[j]? with
  | none => rw [hx] at hu; simp at hu
  | some x =>
    rw [hx] at hu
    simp only [Option.map_some, Option.some.injEq] at hu
    have hj : j < n := by have := (List.getElem?_eq_some_iff.1 hx).1; omega
    obtain ⟨b', o', y, e, _, HY, _, hc⟩ := RdSlice.atI hr hj
    simp only [Option.some.injEq, Addr.mk.injEq] at e
    obtain ⟨rfl, rfl, _⟩ := e
    have := HY.out
    rw [hx] at this
    injection this with this
    rw [addr_add, hc, ← hu, this]
theorem own0 (w2 : World) (X : Obj) : OwnB 5 ((w2.alloc X).alloc (.cells #[] 5)) (w2.heap.size + 1) (.slice (some ⟨w2.heap.size + 1, 0, none⟩) 0 0) [] := by
  have h := OwnB.empty 5 (w2.alloc X)
  rwa [World.size_alloc] at h
theorem bel2 {W w2 : World} (h : Below W.heap.size W w2) (X Y : Obj) : Below W.heap.size W ((w2.alloc X).alloc Y) := (h.alloc h.size X).alloc (Nat.le_trans h.size (by simp)) Y
theorem OwnB.read {w : World} {base : Nat} {v : Value} {l : List Int} (h : OwnB 5 w base v l) : R1 rdBytes w v l := R1.of_own_ints h.1 (wf_bytes h.2)
theorem Decode_gen {w : World} {v : Value} {l : List Int} (hr : R1 rdBytes w v l) :
    Calls Tryd.prog 18 #[v] w fun e w' => ∃ q A n c, e = .returned (.tuple #[.agg #[.bool q, .slice A n c], errV (decM l).2]) ∧ Below w.heap.size w w' := by
  obtain ⟨A, c, rfl⟩ := R1.form hr
  refine (Decode_any hr).mono ?_
  rintro e w' ⟨q, ve, rfl, _, h1, h2⟩
  obtain ⟨A', c', rfl⟩ := R1.form h1
  exact ⟨q, A', _, c', rfl, h2⟩
set_option maxHeartbeats 4000000 in
theorem WireShort_walk (W : World) (A : Option Addr) (n c : Nat) (l : List Int) (hr : R1 rdBytes W (.slice A n c) l) (hcl : l.length * 1 ≤ reachBytes ∧ ∀ x ∈ l, True)
    (A' : Option Addr) (n' c' : Nat) (m : List Int) (hr' : R1 rdBytes W (.slice A' n' c') m) (hcm : m.length * 1 ≤ reachBytes ∧ ∀ x ∈ m, True) (hg : HErr W)
    (hk : bulkL (fun _ => 1) l + 1 + (bulkL (fun _ => 1) m + 1) ≤ 1048576) :
    Calls Tryd.prog 6 #[.slice A n c, .slice A' n' c'] W fun e w' => e = .returned (.bool true) ∧ Below W.heap.size W w' := by
  have k1 := bulkL_len (fun _ : Int => 1) (fun _ => Nat.le_refl _) l
  have k2 := bulkL_len (fun _ : Int => 1) (fun _ => Nat.le_refl _) m
  have hl : l.length ≤ 1048576 := by omega
  have hm : m.length ≤ 1048576 := by omega
  have HN := Lib.hid (RdSlice.len hr).1
  have HN' := Lib.hid (RdSlice.len hr').1
  have HBY : Hid (byteL (l ++ m)) := Lib.hid (fun x hx => (List.mem_append.1 hx).elim (rdBytes_rng hr x) (rdBytes_rng hr' x))
  have HLL := Lib.hid hl
  have HLM := Lib.hid hm
  clear hcl hcm hk k1 k2 hl hm
  obtain ⟨ka, hka⟩ : ∃ k, (decM l).2 = k := ⟨_, rfl⟩
  obtain ⟨kb, hkb⟩ : ∃ k, (decM (l ++ m)).2 = k := ⟨_, rfl⟩
  have HKA := Lib.hid hka
  have HKB := Lib.hid hkb
  by_cases h3 : ka = 3
  · have hne : kb ≠ 0 := fun h0 => dec_short HBY.out (by rw [hkb, h0]) (by rw [hka, h3])
    have HEB := Lib.hid (errV_ne hne)
    have t3 : (ka == 3) = true := by simpa using h3
    clear h3 hne hka hkb
    go_enter Tryd.func6, Tryd.ntmps6
    go_wp2_with (first
      | (go_at_call 11; refine (wired_any _).mono ?_; rintro e w1 ⟨rfl, hb1⟩; have HB1 := Lib.hid hb1; clear hb1)
      | (go_at_call 18; (with_reducible refine (Decode_gen (R1.below hr HB1.out)).mono ?_); rintro e w2 ⟨q2, A2, n2, c2, rfl, hb2⟩; rw [HKA.out]; have HB2 := Lib.hid (HB1.out.trans (hb2.mono HB1.out.size)); clear hb2)
      | (at_builtin; refine wpList_append_bytesG _ rfl (.tmp 18) (.tmp 19) _ rfl (w2.heap.size + 1) 5 Tryd.underlying36 byte_info _ [] rfl (own0 w2 (.cells #[.bool q2, .slice A2 n2 c2] 35)) _ A _ _ l rfl HN.out (bytes_of (R1.below hr (bel2 HB2.out (.cells #[.bool q2, .slice A2 n2 c2] 35) (.cells #[] 5)))) (by have := HLL.out; simp only [List.length_nil]; omega) (by simp) ?_; intro v3 w3 hown3 hg3; have HO3 := Lib.hid hown3; have HB3 := Lib.hid (hg3.below (bel2 HB2.out (.cells #[.bool q2, .slice A2 n2 c2] 35) (.cells #[] 5)) (own0 w2 (.cells #[.bool q2, .slice A2 n2 c2] 35)).1 (Nat.le_trans HB2.out.size (Nat.le_succ _)) (Nat.le_trans HB2.out.size (by simp; omega))); have hz3 : w2.heap.size + 1 ≤ w3.heap.size := Nat.le_trans (by simp) hg3.size; clear hown3 hg3)
      | (at_builtin; refine wpList_append_bytesG _ rfl (.tmp 20) (.tmp 21) _ rfl (w2.heap.size + 1) 5 Tryd.underlying36 byte_info _ ([] ++ l) rfl HO3.out _ A' _ _ m rfl HN'.out (bytes_of (R1.below hr' HB3.out)) (by have := HLL.out; have := HLM.out; simp only [List.nil_append]; omega) hz3 ?_; intro v4 w4 hown4 hg4; obtain ⟨A4, c4, rfl⟩ := own_form hown4.1; obtain ⟨N4, hN4⟩ : ∃ N, ([] ++ l ++ m).length = N := ⟨_, rfl⟩; rw [hN4] at hown4 hg4 ⊢; have HR4 : Hid (R1 rdBytes w4 (.slice A4 N4 c4) (l ++ m)) := Lib.hid hown4.read; clear hN4; have HB4 := Lib.hid (hg4.below HB3.out HO3.out.1 (Nat.le_trans HB2.out.size (Nat.le_succ _)) HB3.out.size); clear hown4 hg4)
      | (go_at_call 18; (with_reducible refine (Decode_gen HR4.out).mono ?_); rintro e w5 ⟨q5, A5, n5, c5, rfl, hb5⟩; rw [HKB.out, HEB.out]; have HB5 := Lib.hid (HB4.out.trans (hb5.mono HB4.out.size)); clear hb5)
      | (go_at_call 9; (with_reducible refine (Error_any ka 3 _ (hg.below (HB5.out.alloc HB5.out.size _))).mono ?_); rintro e w6 ⟨rfl, hb6⟩; rw [t3]; have HB6 := Lib.hid ((HB5.out.alloc HB5.out.size _).trans (hb6.mono (Nat.le_trans HB5.out.size (by simp)))); clear hb6)
      | fail)
    go_ret
    exact ⟨rfl, HB6.out⟩
  · have t3 : (ka == 3) = false := by simpa using h3
    clear h3 hka hkb
    go_enter Tryd.func6, Tryd.ntmps6
    go_wp2_with (first
      | (go_at_call 11; refine (wired_any _).mono ?_; rintro e w1 ⟨rfl, hb1⟩; have HB1 := Lib.hid hb1; clear hb1)
      | (go_at_call 18; (with_reducible refine (Decode_gen (R1.below hr HB1.out)).mono ?_); rintro e w2 ⟨q2, A2, n2, c2, rfl, hb2⟩; rw [HKA.out]; have HB2 := Lib.hid (HB1.out.trans (hb2.mono HB1.out.size)); clear hb2)
      | (at_builtin; refine wpList_append_bytesG _ rfl (.tmp 18) (.tmp 19) _ rfl (w2.heap.size + 1) 5 Tryd.underlying36 byte_info _ [] rfl (own0 w2 (.cells #[.bool q2, .slice A2 n2 c2] 35)) _ A _ _ l rfl HN.out (bytes_of (R1.below hr (bel2 HB2.out (.cells #[.bool q2, .slice A2 n2 c2] 35) (.cells #[] 5)))) (by have := HLL.out; simp only [List.length_nil]; omega) (by simp) ?_; intro v3 w3 hown3 hg3; have HO3 := Lib.hid hown3; have HB3 := Lib.hid (hg3.below (bel2 HB2.out (.cells #[.bool q2, .slice A2 n2 c2] 35) (.cells #[] 5)) (own0 w2 (.cells #[.bool q2, .slice A2 n2 c2] 35)).1 (Nat.le_trans HB2.out.size (Nat.le_succ _)) (Nat.le_trans HB2.out.size (by simp; omega))); have hz3 : w2.heap.size + 1 ≤ w3.heap.size := Nat.le_trans (by simp) hg3.size; clear hown3 hg3)
      | (at_builtin; refine wpList_append_bytesG _ rfl (.tmp 20) (.tmp 21) _ rfl (w2.heap.size + 1) 5 Tryd.underlying36 byte_info _ ([] ++ l) rfl HO3.out _ A' _ _ m rfl HN'.out (bytes_of (R1.below hr' HB3.out)) (by have := HLL.out; have := HLM.out; simp only [List.nil_append]; omega) hz3 ?_; intro v4 w4 hown4 hg4; obtain ⟨A4, c4, rfl⟩ := own_form hown4.1; obtain ⟨N4, hN4⟩ : ∃ N, ([] ++ l ++ m).length = N := ⟨_, rfl⟩; rw [hN4] at hown4 hg4 ⊢; have HR4 : Hid (R1 rdBytes w4 (.slice A4 N4 c4) (l ++ m)) := Lib.hid hown4.read; clear hN4; have HB4 := Lib.hid (hg4.below HB3.out HO3.out.1 (Nat.le_trans HB2.out.size (Nat.le_succ _)) HB3.out.size); clear hown4 hg4)
      | (go_at_call 18; (with_reducible refine (Decode_gen HR4.out).mono ?_); rintro e w5 ⟨q5, A5, n5, c5, rfl, hb5⟩; rw [HKB.out]; have HB5 := Lib.hid (HB4.out.trans (hb5.mono HB4.out.size)); clear hb5)
      | (go_at_call 9; (with_reducible refine (Error_any ka 3 _ (hg.below (HB5.out.alloc HB5.out.size _))).mono ?_); rintro e w6 ⟨rfl, hb6⟩; rw [t3]; have HB6 := Lib.hid ((HB5.out.alloc HB5.out.size _).trans (hb6.mono (Nat.le_trans HB5.out.size (by simp)))); clear hb6)
      | fail)
    go_ret
    exact ⟨rfl, HB6.out⟩
end Go.Proofs.YtimdnfakgobadaaDoor
