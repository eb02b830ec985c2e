/- The reference's NetOf. -/
import Derived.Test.YtohfeoahdbfjbaaGreatDoorRefN
namespace Go.Proofs.YtohfeoahdbfjbaaGreatDoor
open Go.ChangeShapes Go.WideShapes Go.ChangeAt Go.RowKit
set_option linter.unusedVariables false
set_option linter.unusedSimpArgs false

theorem Whole_yes (n : Nat) (s : ByteArray) (w : World) (hn : n ≤ 1000) (hs : s.data.toList = dd n) :
    Calls Tryz.prog 29 #[.string s] w fun e w' => e = .returned (.int .i64 n) ∧ Below w.heap.size w w' :=
  (Whole_any s w (by have := dd_len_bound n; rw [← size_data, hs]; omega)).mono fun e w' ⟨r, he, hr, hb⟩ => by
    rcases hr with ⟨m, _, h1, h2⟩ | ⟨h1, _⟩
    · rw [hs] at h1
      have := dd_inj h1
      subst this; subst h2
      exact ⟨he, hb⟩
    · exact absurd hs (h1 n (by omega))
theorem netof_end {W : World} {R : Nat} {a : Act} {v0 v1 e : Value} {t : TypeId} {K : Ending → World → Prop} (h : W.heap[R]? = some (.cells #[v0, v1] t (0, 0))) (h2 : a.tmps[2]?.getD undef = .pointer (some ⟨R, 0, none⟩)) (h3 : a.tmps[3]?.getD undef = e) (hd : a.defers = [])
    (hK : K (.returned (.tuple #[.agg #[v0, v1], e])) W) : bodyPost Tryz.prog Tryz.f8 K .ret a W := by
  have e0 : W.cell? ⟨R, 0, none⟩ = some v0 := by rw [cell_of_row _ R _ _ _ (0, 0) h]; rfl
  have e1 : W.cell? ⟨R, 1, none⟩ = some v1 := by rw [cell_of_row _ R _ _ _ (0, 0) h]; rfl
  exact bodyPost_ret (by simp [results, Tryz.results8, go_sem, h2, h3, e0, e1]) hd hK
theorem netof_len {L : List ByteArray} {s : List UInt8} {a k : Nat} (hL : L.map (·.data.toList) = segs 47 s) (he : s = netT a k) : L = [⟨(addrT a).toArray⟩, ⟨(dd k).toArray⟩] := by
  refine list_bytes ?_
  rw [hL, he, segs_net]
  rfl
theorem netof_is {p q : ByteArray} {s : List UInt8} {a k : Nat} (hL : [p, q].map (·.data.toList) = segs 47 s) (hp : p.data.toList = addrT a) (hq : q.data.toList = dd k) : s = netT a k := by
  refine net_of_segs ?_
  rw [← hL]
  simp only [List.map_cons, List.map_nil, hp, hq]
def NetOfAt (s : ByteArray) (w : World) (e : Ending) (w' : World) : Prop :=
  ((∃ a k : Nat, a < 4294967296 ∧ netF ((a : Int), (k : Int)) = 0 ∧ s.data.toList = netT a k ∧ e = .returned (.tuple #[.agg #[.int .u32 a, .int .i64 k], .bool true])) ∨
   ((∀ a k : Nat, a < 4294967296 → netF ((a : Int), (k : Int)) = 0 → s.data.toList ≠ netT a k) ∧ e = .returned (.tuple #[.agg #[.int .u32 0, .int .i64 0], .bool false]))) ∧ Below w.heap.size w w'
set_option maxRecDepth 100000 in
set_option maxHeartbeats 4000000 in
theorem NetOf_any (s : ByteArray) (w : World) (hs : s.size ≤ 1048576) :
    Calls Tryz.prog 8 #[.string s] w (NetOfAt s w) := by
  go_enter Tryz.func8, Tryz.ntmps8
  go_wp2_with fail
  go_at_call 27
  (with_reducible refine (RCut_c s 47 47 rfl _ (by omega)).mono ?_); rintro e w1 ⟨L, g, cap, hL, rfl, hc, hg, hb1⟩
  have HL := Lib.hid hL
  have HLS := Lib.hid (fun (k : Nat) (p : ByteArray) (h : L[k]? = some p) => piece_size hL h)
  have blk1 := below_block hb1 (by simp) (heap_alloc_new w _)
  obtain ⟨r0, r1, f0, f1⟩ := row2 blk1
  have BLK1 := Lib.hid blk1
  have HB1 := Lib.hid (((Below.refl w.heap.size w).alloc (Nat.le_refl _) _).trans (hb1.mono (by simp)))
  have zw1 := size_of_block blk1
  have HC := Lib.hid hc
  have hl1 : L.length ≤ 1048577 := by
    have h1 := congrArg List.length hL
    rw [List.length_map, segs_length] at h1
    have h2 := List.count_le_length (a := (47 : UInt8)) (l := s.data.toList)
    rw [size_data] at h2; omega
  clear hL hc hb1 blk1
  obtain ⟨N, hN⟩ : ∃ N, L.length = N := ⟨_, rfl⟩
  rw [hN] at hl1 ⊢
  have HN := Lib.hid hN
  clear hN
  by_cases h2 : N = 2
  · subst h2
    obtain ⟨p, q, hpq⟩ : ∃ p q, L = [p, q] := by
      have := HN.out
      match L, this with
      | [p, q], _ => exact ⟨p, q, rfl⟩
    have hcp : w1.cell? ⟨g, 0, none⟩ = some (.string p) := HC.out 0 p (by rw [hpq]; rfl)
    have hcq : w1.cell? ⟨g, 1, none⟩ = some (.string q) := HC.out 1 q (by rw [hpq]; rfl)
    have hps := HLS.out 0 p (by rw [hpq]; rfl)
    have hqs := HLS.out 1 q (by rw [hpq]; rfl)
    have HPQ : Hid ([p, q].map (·.data.toList) = segs 47 s.data.toList) := Lib.hid (by rw [← hpq]; exact HL.out)
    clear hpq HC HLS HL HN
    go_wp2_with fail
    go_at_call 28
    (with_reducible refine (AddrOf_any p w1 (by omega)).mono ?_); rintro e w2 ⟨v, b, rfl, hab, hb2⟩
    have hcq2 := (hb2.cell (p := ⟨g, 1, none⟩) hg).trans hcq
    have blk2 := below_block hb2 (size_of_block BLK1.out) BLK1.out
    obtain ⟨r0, r1, f0, f1⟩ := row2 blk2
    have BLK2 := Lib.hid blk2
    have HB2 := Lib.hid (HB1.out.trans (hb2.mono (Nat.le_of_lt zw1)))
    have zw2 := size_of_block blk2
    have HAB := Lib.hid hab
    clear hb2 blk2 hcp hcq hab
    go_wp2_with fail
    go_at_call 29
    (with_reducible refine (Whole_any q w2 (by omega)).mono ?_); rintro e w3 ⟨r, rfl, hr, hb3⟩
    have blk3 := below_block hb3 (size_of_block BLK2.out) BLK2.out
    obtain ⟨r0, r1, f0, f1⟩ := row2 blk3
    have BLK3 := Lib.hid blk3
    have HB3 := Lib.hid (HB2.out.trans (hb3.mono (Nat.le_of_lt zw2)))
    have zw3 := size_of_block blk3
    have HR := Lib.hid hr
    clear hb3 blk3
    cases b with
    | false =>
      have HNO : Hid (∀ a k : Nat, a < 4294967296 → netF ((a : Int), (k : Int)) = 0 → s.data.toList ≠ netT a k) := Lib.hid (fun a k ha _ e => by
        rcases HAB.out with ⟨h, _⟩ | ⟨_, _, h⟩
        · cases h
        · have := netof_len HPQ.out e
          simp only [List.cons.injEq] at this
          exact h a ha (by rw [this.1]))
      clear hr
      go_wp2
      exact netof_end (e := .bool false) (below_block ((Below.refl _ _).alloc (Nat.le_refl _) _) (by simpa using zw3) (set2_block _ _ BLK3.out)) rfl rfl rfl ⟨.inr ⟨HNO.out, rfl⟩, ((HB3.out.setCell (by simp) _).setCell (by simp) _).alloc (by simp; omega) _⟩
    | true =>
      obtain ⟨a, ha, hpa, hva⟩ : ∃ a : Nat, a < 4294967296 ∧ p.data.toList = addrT a ∧ v = a := by
        rcases HAB.out with ⟨_, h⟩ | ⟨h, _⟩
        · exact h
        · cases h
      subst hva
      have HPA := Lib.hid hpa
      clear hpa
      by_cases hr0 : r < 0
      · have HNO : Hid (∀ a k : Nat, a < 4294967296 → netF ((a : Int), (k : Int)) = 0 → s.data.toList ≠ netT a k) := Lib.hid (fun a k ha hz e => by
          have := netof_len HPQ.out e
          simp only [List.cons.injEq, and_true] at this
          have hk := (netF_zero.1 hz).2.1
          rcases HR.out with ⟨n, _, _, h⟩ | ⟨h, _⟩
          · omega
          · exact h k (by omega) (by rw [this.2]))
        clear hr
        go_wp2
        exact netof_end (e := .bool false) (below_block ((Below.refl _ _).alloc (Nat.le_refl _) _) (by simpa using zw3) (set2_block _ _ BLK3.out)) rfl rfl rfl ⟨.inr ⟨HNO.out, rfl⟩, ((HB3.out.setCell (by simp) _).setCell (by simp) _).alloc (by simp; omega) _⟩
      · obtain ⟨n, hn, hqn, e⟩ : ∃ n : Nat, n ≤ 1073741824 ∧ q.data.toList = dd n ∧ r = n := by
          rcases hr with h | ⟨_, h⟩
          · exact h
          · omega
        subst e
        have HNT := Lib.hid (netof_is HPQ.out HPA.out hqn)
        have HAI : Hid (is32 (a : Int)) := Lib.hid ⟨by omega, by omega⟩
        clear hr hqn
        by_cases hz : netF ((a : Int), (n : Int)) = 0
        · have HZ := Lib.hid hz
          clear hz
          go_wp2_with (first
            | (go_at_call 5; (with_reducible refine (fault_is HZ.out HAI.out _).mono ?_); rintro e w4 ⟨rfl, hb4⟩; have nlk := below_block hb4 (by simp) (heap_alloc_new w3 _); obtain ⟨d0, d1, _, _⟩ := row2 nlk; have hb5 : Below w3.heap.size w3 w4 := ((Below.refl _ _).alloc (Nat.le_refl _) _).trans (hb4.mono (by simp)); have blk4 := below_block hb5 (size_of_block BLK3.out) BLK3.out; obtain ⟨r0, r1, f0, f1⟩ := row2 blk4; have BLK4 := Lib.hid blk4; have HB4 := Lib.hid (HB3.out.trans (hb5.mono (Nat.le_of_lt zw3))); have zw4 := size_of_block blk4; clear hb4 hb5 nlk blk4)
            | fail)
          exact netof_end (e := .bool true) (set2_block _ _ BLK4.out) rfl rfl rfl ⟨.inl ⟨a, n, ha, HZ.out, HNT.out, rfl⟩, (HB4.out.setCell (by simp) _).setCell (by simp) _⟩
        · have HNO : Hid (∀ a' k : Nat, a' < 4294967296 → netF ((a' : Int), (k : Int)) = 0 → s.data.toList ≠ netT a' k) := Lib.hid (fun a' k ha' hz' e => by
            rw [HNT.out] at e
            obtain ⟨e1, e2⟩ := netT_inj e
            subst e1; subst e2
            exact hz hz')
          have hne : (netF ((a : Int), (n : Int)) != 0) = true := by simpa using hz
          obtain ⟨f, hf⟩ : ∃ f, netF ((a : Int), (n : Int)) = f := ⟨_, rfl⟩
          rw [hf] at hne
          have HF := Lib.hid hf
          clear hz hf
          go_wp2_with (first
            | (go_at_call 5; (with_reducible refine (fault_is HF.out HAI.out _).mono ?_); rintro e w4 ⟨rfl, hb4⟩; have hb5 : Below w3.heap.size w3 w4 := ((Below.refl _ _).alloc (Nat.le_refl _) _).trans (hb4.mono (by simp)); have blk4 := below_block hb5 (size_of_block BLK3.out) BLK3.out; obtain ⟨r0, r1, f0, f1⟩ := row2 blk4; have BLK4 := Lib.hid blk4; have HB4 := Lib.hid (HB3.out.trans (hb5.mono (Nat.le_of_lt zw3))); have zw4 := size_of_block blk4; clear hb4 hb5 blk4)
            | fail)
          exact netof_end (e := .bool false) (set2_block _ _ BLK4.out) rfl rfl rfl ⟨.inr ⟨HNO.out, rfl⟩, (HB4.out.setCell (by simp) _).setCell (by simp) _⟩
  · have h2' : ((N : Int) != 2) = true := by simp; omega
    have HNO : Hid (∀ a k : Nat, a < 4294967296 → netF ((a : Int), (k : Int)) = 0 → s.data.toList ≠ netT a k) := Lib.hid (fun a k _ _ e => by
      have := netof_len HL.out e
      have h3 := HN.out
      rw [this] at h3
      exact h2 h3.symm)
    go_wp2
    exact netof_end (e := .bool false) (set2_block _ _ BLK1.out) rfl rfl rfl ⟨.inr ⟨HNO.out, rfl⟩, (HB1.out.setCell (by simp) _).setCell (by simp) _⟩
end Go.Proofs.YtohfeoahdbfjbaaGreatDoor
