/- spp: the closure of best, IndexFunc and ContainsFunc by it. -/
import Derived.Test.YtcpknghfdlmopaaDoorSlA
namespace Go.Proofs.YtcpknghfdlmopaaDoor
open Go.ChangeShapes Go.WideShapes Go.ChangeAt Go.RowKit
set_option linter.unusedVariables false

theorem RdSlice.tail_ {α : Type} {rd : Rdr α} {w : World} {ok : Nat → Prop} {b o n c : Nat} {l : List α} (h : RdSlice 1 rd w ok [.slice (some ⟨b, o, none⟩) n c] l) (hn : 1 ≤ n) (hb : ok b) : RdSlice 1 rd w ok [.slice (some ⟨b, o + 1, none⟩) (n - 1) (c - 1)] l.tail := by
  obtain ⟨e, h1, h2⟩ := h.len
  obtain ⟨A', c', e', _, _, h3⟩ := h
  simp only [List.cons.injEq, Value.slice.injEq, and_true] at e'
  obtain ⟨rfl, _, rfl⟩ := e'
  refine ⟨_, c - 1, by simp; omega, by simp; omega, by omega, fun h0 => ⟨b, o + 1, rfl, hb, fun i x hi => ?_⟩⟩
  obtain ⟨b', o', eA, _, hx⟩ := h3 (by simp at h0; omega)
  simp only [Option.some.injEq, Addr.mk.injEq, and_true] at eA
  obtain ⟨rfl, rfl⟩ := eA
  obtain ⟨cs, g1, g2, g3⟩ := hx (i + 1) x (by rw [← hi]; simp)
  exact ⟨cs, g1, g2, fun j u hu => by have := g3 j u hu; rw [show o + 1 + (i * 1 + j) = o + ((i + 1) * 1 + j) from by omega]; exact this⟩

set_option maxHeartbeats 400000 in
theorem clos_any {w : World} {ok ok' : Nat → Prop} {g : Nat} {A A' : Option Addr} {n n' c c' : Nat} {x u : List Int} (hx : rdInts w ok [.slice A n c] x) (hg : w.cell? ⟨g, 0, none⟩ = some (.slice A' n' c')) (hu : rdInts w ok' [.slice A' n' c'] u) (hn : 1 < n') :
    Calls Tryd.prog 24 #[.slice A n c, .pointer (some ⟨g, 0, none⟩)] w fun e w' => e = .returned (.bool (x == u.tail)) ∧ ∃ k, w' = w.drewN k := by
  obtain ⟨e1, h1, h2⟩ := hu.len
  obtain ⟨b, o, y, rfl, hb, _⟩ := hu.atI (i := 0) (by omega)
  have ht := hu.tail_ (by omega) hb
  have h3 : n' ≤ 9223372036854775807 := by unfold maxLen at h2; omega
  have h4 : c' ≤ 9223372036854775807 := by unfold maxLen at h2; omega
  have h5 : ¬ c' = 1 := by omega
  clear e1
  go_enter Tryd.func24, Tryd.ntmps24
  go_wp2_with (go_at_call 18; refine (Equal_any hx ht).mono ?_; rintro e w' ⟨rfl, k, rfl⟩)
  go_ret
  exact ⟨rfl, _, rfl⟩

/-- is a list among some -/
def inL (l : List (List Int)) (x : List Int) : Bool := l.any (· == x)
theorem inL_take {l : List (List Int)} {k : Nat} {y x : List Int} (h : l[k]? = some y) : inL (l.take (k + 1)) x = (inL (l.take k) x || y == x) := by
  rw [take_succ_of h]; simp [inL]
theorem inL_true {l : List (List Int)} {k : Nat} {y x : List Int} (h : l[k]? = some y) (hy : (y == x) = true) : inL l x = true :=
  List.any_eq_true.2 ⟨y, List.mem_of_getElem? h, hy⟩

set_option maxHeartbeats 400000 in
theorem IndexFunc_any {w : World} {ok ok' : Nat → Prop} {g : Nat} {A A' : Option Addr} {n n' c c' : Nat} {xs : List (List Int)} {u : List Int} (hx : rdInts2 w ok [.slice A n c] xs) (hg : w.cell? ⟨g, 0, none⟩ = some (.slice A' n' c')) (hu : rdInts w ok' [.slice A' n' c'] u) (hn : 1 < n') :
    Calls Tryd.prog 31 #[.slice A n c, .func (Fn.func 24) #[] #[.pointer (some ⟨g, 0, none⟩)]] w fun e w' =>
      ∃ r : Int, e = .returned (.int .i64 r) ∧ Hid (decide (0 ≤ r) = inL xs u.tail) ∧ -1 ≤ r ∧ r ≤ 9223372036854775807 ∧ ∃ k, w' = w.drewN k := by
  obtain ⟨hn, hnc, hcm⟩ := hx.len
  have hnm : n ≤ 9223372036854775807 := by unfold maxLen at hcm; omega
  have HN := Lib.hid hn
  clear hn hcm
  go_enter Tryd.func31, Tryd.ntmps31
  go_wp2
  go_loopw [8] (fun i wr => ∃ k : Nat, k ≤ n ∧ i = .int .i64 k ∧ inL (xs.take k) u.tail = false ∧ ∃ j, wr = w.drewN j) (fun i _ => n - (intOf i).toNat)
  case atStart => exact ⟨0, Nat.zero_le _, rfl, rfl, 0, rfl⟩
  case round =>
    obtain ⟨k, hk, rfl, hno, j, rfl⟩ := hrel
    have HNO := Lib.hid hno; clear hno
    by_cases hlt : k < n
    · obtain ⟨b, o, x, A2, c2, rfl, _, HX, hrx, hc⟩ := hx.atS hlt
      have hstep := Lib.hid (inL_take (x := u.tail) HX.out)
      cases hb : (x == u.tail)
      · have HB := Lib.hid hb; clear hb
        go_wp2_with (go_at_call 24; refine (clos_any (RdLaw.drewN hrx _) (g := g) (by simpa using hg) (RdLaw.drewN hu _) hn).mono ?_; rintro e w' ⟨rfl, k2, rfl⟩; rw [HB.out])
        exact ⟨⟨k + 1, by omega, by go_num, by rw [hstep.out, HNO.out, HB.out]; rfl, _, rfl⟩, by simp [intOf]; omega⟩
      · have hin := Lib.hid (inL_true HX.out hb)
        have HB := Lib.hid hb; clear hb
        go_wp2_with (go_at_call 24; refine (clos_any (RdLaw.drewN hrx _) (g := g) (by simpa using hg) (RdLaw.drewN hu _) hn).mono ?_; rintro e w' ⟨rfl, k2, rfl⟩; rw [HB.out])
        go_ret
        exact ⟨k, rfl, Lib.hid (by rw [hin.out]; simp), by omega, by omega, _, rfl⟩
    · have e : xs.take k = xs := List.take_of_length_le (by have := HN.out; omega)
      go_wp2
      go_ret
      have := HNO.out
      rw [e] at this
      exact ⟨-1, rfl, Lib.hid (by rw [this]; rfl), by omega, by omega, _, rfl⟩

set_option maxHeartbeats 400000 in
theorem ContainsFunc_any {w : World} {ok ok' : Nat → Prop} {g : Nat} {A A' : Option Addr} {n n' c c' : Nat} {xs : List (List Int)} {u : List Int} (hx : rdInts2 w ok [.slice A n c] xs) (hg : w.cell? ⟨g, 0, none⟩ = some (.slice A' n' c')) (hu : rdInts w ok' [.slice A' n' c'] u) (hn : 1 < n') :
    Calls Tryd.prog 23 #[.slice A n c, .func (Fn.func 24) #[] #[.pointer (some ⟨g, 0, none⟩)]] w fun e w' => e = .returned (.bool (inL xs u.tail)) ∧ ∃ k, w' = w.drewN k := by
  go_enter Tryd.func23, Tryd.ntmps23
  go_wp2_with (go_at_call 31; refine (IndexFunc_any hx hg hu hn).mono ?_; rintro e w' ⟨r, rfl, HR, hr0, hr1, k, rfl⟩)
  go_ret
  exact ⟨ret_bool HR.out, _, rfl⟩
end Go.Proofs.YtcpknghfdlmopaaDoor
