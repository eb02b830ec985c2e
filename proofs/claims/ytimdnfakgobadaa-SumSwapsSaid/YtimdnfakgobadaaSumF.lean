/- The walk of the law SumSwaps. -/
import Derived.Test.YtimdnfakgobadaaSumE
namespace Go.Proofs.Ytimdnfakgobadaa
open Go.ChangeShapes Go.WideShapes Go.ChangeAt Go.RowKit
set_option linter.unusedVariables false

set_option maxHeartbeats 1000000 in
theorem SumSwaps_in (w : World) (A : Option Addr) (n c : Nat) (l : List Int) (hb : Bytes w w.heap.size A l) (hn : n = l.length) (hl : n ≤ 140737488351232)
    (i : Nat) (hi : i + 2 ≤ n) (hev : i % 2 = 0) (m : Int) (hm0 : 0 ≤ m) (hm1 : m ≤ 65535) :
    Calls Try.prog 5 #[.slice A n c, .int .i64 i, .int .u16 m] w fun e w' => e = .returned (.bool true) ∧ Below w.heap.size w w' := by
  obtain ⟨b, o, x, rfl, hab, hcx, hx0, hx1, HX⟩ := hb.at2 (k := i) (by omega)
  obtain ⟨b', o', y, hA', _, hcy, hy0, hy1, HY⟩ := hb.at2 (k := i + 1) (by omega)
  injection hA' with hA'; injection hA' with e1 e2; subst e1; subst e2
  have HN := Lib.hid hn
  have hpl := swap_plain l i x y m hb.2 hev HX.out HY.out hm0 hm1
  have HP := Lib.hid hpl
  clear hpl hn
  have ho := or16 x y hx0 hx1 hy0 hy1
  have u1 : IntKind.u16.wrap x = x := by rw [IntKind.wrap_u16]; omega
  have u2 : IntKind.u16.wrap y = y := by rw [IntKind.wrap_u16]; omega
  have u3 : IntKind.u16.wrap (x * 256) = x * 256 := by rw [IntKind.wrap_u16]; omega
  have u4 : IntKind.u8.wrap (m / 256) = m / 256 := by rw [IntKind.wrap_u8']; omega
  have u5 : IntKind.u8.wrap m = m % 256 := by rw [IntKind.wrap_u8']
  have i0 : (0 : Int) ≤ (i : Int) := by omega
  have i1 : (i : Int) + 2 ≤ (n : Int) := by omega
  have i2 : (i : Int) < (n : Int) := by omega
  have i3 : (i : Int) + 1 < (n : Int) := by omega
  have i4 : (0 : Int) ≤ (i : Int) + 1 := by omega
  have i5 : ((i : Int) + 1).toNat = i + 1 := by omega
  have i6 : IntKind.i64.wrap ((i : Int) + 1) = (i : Int) + 1 := IntWalk.i64_in _ (by omega)
  have i7 : decide ((i : Int) < 0) = false := by simp
  have i8 : decide ((n : Int) - 2 < (i : Int)) = false := by simp; omega
  have tev : ((i : Int) % 2 != 0) = false := by simp; omega
  go_enter Try.func5, Try.ntmps5
  go_wp2_with fail
  refine (summed_any _).mono ?_
  rintro e w1 ⟨rfl, hb1⟩
  have hcx1 : w1.cell? ⟨b, o + i, none⟩ = some (.int .u8 x) := (hb1.cell hab).trans hcx
  have hcy1 : w1.cell? ⟨b, o + (i + 1), none⟩ = some (.int .u8 y) := (hb1.cell hab).trans hcy
  have hz1 := hb1.size
  go_wp2_with fail
  go_quiet (fail)
  go_wp2_with (at_builtin
               refine wpList_append_bytes _ rfl (.tmp 41) (.tmp 42) _ rfl w1.heap.size 5 Try.underlying22 info8 _ [] rfl (OwnB.empty _ _) w.heap.size _ _ _ l rfl HN.out ((hb.below (below_drewN hb1 _)).alloc hz1 _) (by have := HN.out; simp; omega) (by simp) ?_
               intro v2 w2 hown2 hg2
               have hb2 : Below w.heap.size w w2 := below_grown ((below_drewN hb1 _).alloc hz1 _) (OwnB.empty _ _).1 hg2 hz1 (by simp; omega)
               clear hg2
               obtain ⟨g, cap, hv, hgb, hgl⟩ := hown2.1.form (by have := HN.out; simp; omega)
               have hlen : ([] ++ l).length = n := by have := HN.out; simp; omega
               rw [hlen] at hv
               rw [hv] at hown2
               have how : w2.ownsRow w1.heap.size 5 1 (.slice (some ⟨g, 0, none⟩) n cap) n (l.map (Value.int .u8)) := by have h := hown2.1; rw [hlen] at h; exact h
               have hc1 : w2.cell? ⟨g, i, none⟩ = some (.int .u8 x) := by rw [how.cellAt i (by omega), List.getElem?_map, HX.out]; rfl
               have hc2 : w2.cell? ⟨g, i + 1, none⟩ = some (.int .u8 y) := by rw [how.cellAt (i + 1) (by omega), List.getElem?_map, HY.out]; rfl
               have hf1 : w2.frozen? ⟨g, i, none⟩ = false := how.frozenAt i
               have hf2 : w2.frozen? ⟨g, i + 1, none⟩ = false := how.frozenAt (i + 1)
               have hgn : w.heap.size ≤ g := by omega
               clear hlen hown2
               rw [hv]
               clear hv)
  have s1 := (how.stored i (.int .u8 (m / 256))).1
  have s2 := (s1.stored (i + 1) (.int .u8 (m % 256))).1
  have hlist : ((l.map (Value.int .u8)).set i (.int .u8 (m / 256))).set (i + 1) (.int .u8 (m % 256)) = (put2 l i (m / 256) (m % 256)).map (Value.int .u8) := by simp [put2, List.map_set]
  rw [hlist] at s2
  have bel3 : Below w.heap.size w ((w2.setCell ⟨g, i, none⟩ (.int .u8 (m / 256))).setCell ⟨g, i + 1, none⟩ (.int .u8 (m % 256))) := (hb2.setCell hgn _).setCell hgn _
  clear hlist s1 how hc1 hc2 hf1 hf2
  generalize (w2.setCell ⟨g, i, none⟩ (.int .u8 (m / 256))).setCell ⟨g, i + 1, none⟩ (.int .u8 (m % 256)) = W3 at *
  have hlen2 := put2_len l i (m / 256) (m % 256)
  have hlen3 : (put2 l i (m / 256) (m % 256)).length = n := by have := HN.out; omega
  have hB3 : Bytes W3 W3.heap.size (some ⟨g, 0, none⟩) (put2 l i (m / 256) (m % 256)) := by
    refine ⟨?_, put2_rng hb.2 (by omega) (by omega)⟩
    rw [hlen3]
    exact Reads.of_own s2
  have HL := Lib.hid hlen3
  clear hlen2 hlen3 s2
  generalize put2 l i (m / 256) (m % 256) = L at *
  have hbW := hb.below bel3
  clear hcx1 hcy1 hcx hcy u1 u2 u3 u4 u5 ho i2 i3 i4 i5 i6 i7 i8 tev hz1 hb2
  go_loop [10, 11] (fun v t => ∃ k : Nat, k ≤ n ∧ t = .int .i64 k ∧ v = .bool (someB (L.take k))) (fun _ t => n - (intOf t).toNat)
  case atStart => exact ⟨0, Nat.zero_le _, rfl, rfl⟩
  case round =>
    obtain ⟨k, hk, rfl, rfl⟩ := hrel
    by_cases hlt : k < n
    · obtain ⟨b', o', z, hA', _, hcz, hz0, hz1, HZ⟩ := hB3.at2 (k := k) (by have := HL.out; omega)
      injection hA' with hA'; injection hA' with e1 e2; subst e1; subst e2
      rw [Nat.zero_add] at hcz
      have hs := Lib.hid (someB_take HZ.out)
      generalize someB (L.take k) = sb at *
      cases sb
      · go_wp2
        exact ⟨⟨k + 1, by omega, by go_num, by rw [hs.out]; simp⟩, by simp [intOf]; omega⟩
      · go_wp2
        exact ⟨⟨k + 1, by omega, by go_num, by rw [hs.out]; simp⟩, by simp [intOf]; omega⟩
    · have e : L.take k = L := List.take_of_length_le (by have := HL.out; omega)
      rw [e]
      clear e
      cases hsb : someB L
      · clear hsb
        go_wp2
        go_ret
        exact ⟨rfl, bel3⟩
      · have hpl := HP.out hsb
        have HQ := Lib.hid hpl
        clear hpl hsb HP
        go_wp2_with (first
          | (go_at_call 11; first | (refine (Sum_any _ _ _ l _ _ hbW HN.out (by omega)).mono ?_; rintro e w' ⟨rfl, rfl⟩; clear hbW) | (refine (Sum_any _ _ _ L _ _ hB3 HL.out.symm (by omega)).mono ?_; rintro e w' ⟨rfl, rfl⟩; rw [← HQ.out]))
          | (go_at_call 13; refine (Swap_any _ _ _ _ (S16_rng _).1 (S16_rng _).2 (by omega) (by omega) hm0 hm1).mono ?_; rintro e w' ⟨rfl, rfl⟩))
        go_ret
        exact ⟨rfl, bel3⟩

theorem nope {b1 b2 b3 : Bool} (h : Hid ((b1 || b2 || b3) = true)) (h1 : ¬ b1 = true) (h2 : ¬ b2 = true) (h3 : b3 = false) : False := by
  have := h.out; rw [Bool.eq_false_iff.2 h1, Bool.eq_false_iff.2 h2, h3] at this; cases this

set_option maxHeartbeats 400000 in
theorem SumSwaps_out (w : World) (A : Option Addr) (n c : Nat) (hl : n ≤ 140737488351232)
    (i : Int) (hi0 : -9223372036854775808 ≤ i) (hi1 : i ≤ 9223372036854775807) (m : Int) (b1 b2 b3 : Bool) (t1 : decide (i < 0) = b1) (t2 : decide ((n : Int) - 2 < i) = b2) (t3 : (i.tmod 2 != 0) = b3) (hbb : Hid ((b1 || b2 || b3) = true)) :
    Calls Try.prog 5 #[.slice A n c, .int .i64 i, .int .u16 m] w fun e w' => e = .returned (.bool true) ∧ Below w.heap.size w w' := by
  go_enter Try.func5, Try.ntmps5
  go_wp2_with fail
  refine (summed_any _).mono ?_
  rintro e w1 ⟨rfl, hb1⟩
  go_wp2_with fail
  · go_ret; exact ⟨rfl, hb1⟩
  · go_ret; exact ⟨rfl, hb1⟩
  · go_ret; exact ⟨rfl, hb1⟩
  · exact (nope hbb ‹_› ‹_› ‹_›).elim

theorem SumSwaps_walk (w : World) (A : Option Addr) (n c : Nat) (l : List Int) (rr : RdBytes w w.heap.size (Value.slice A n c).cells.toList l) (hc : l.length * 1 ≤ reachBytes ∧ ∀ x ∈ l, True)
    (i : Int) (hi : -9223372036854775808 ≤ i ∧ i ≤ 9223372036854775807) (m : Int) (hm : 0 ≤ m ∧ m ≤ 65535) :
    Calls Try.prog 5 #[.slice A n c, .int .i64 i, .int .u16 m] w fun e w' => e = .returned (.bool true) ∧ Below w.heap.size w w' := by
  obtain ⟨hb, hn, _, _⟩ := bytes_of_rd rr
  have hl : n ≤ 140737488351232 := by have := hc.1; have := reach_le; omega
  clear rr hc
  by_cases h : 0 ≤ i ∧ i + 2 ≤ n ∧ i % 2 = 0
  · obtain ⟨k, rfl⟩ := Int.eq_ofNat_of_zero_le h.1
    exact SumSwaps_in w A n c l hb hn hl k (by omega) (by omega) m hm.1 hm.2
  · refine SumSwaps_out w A n c hl i hi.1 hi.2 m _ _ _ rfl rfl rfl (Lib.hid ?_)
    simp only [Bool.or_eq_true, decide_eq_true_eq, bne_iff_ne]
    by_cases h0 : i < 0
    · exact .inl (.inl h0)
    · have e : i.tmod 2 = i % 2 := Int.tmod_eq_emod_of_nonneg (by omega)
      rw [e]
      omega
end Go.Proofs.Ytimdnfakgobadaa
