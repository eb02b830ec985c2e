/- waywardenref2: In, Once, Compared. -/
import Derived.Test.YtnihheikaddmoaaDoorGaoBetter
namespace Go.Proofs.YtnihheikaddmoaaDoor
open Go.ChangeShapes Go.WideShapes Go.ChangeAt Go.RowKit
set_option linter.unusedVariables false

def onceAt (l : List Int) (j : Nat) : Bool := match l[j]? with
  | some x => !inB (l.take j) x
  | none => true
def onceTo (l : List Int) (k : Nat) : Bool := (List.range k).all (onceAt l)
theorem onceTo_succ (l : List Int) (k : Nat) : onceTo l (k + 1) = (onceTo l k && onceAt l k) := by
  unfold onceTo; rw [List.range_succ, List.all_append]; simp

set_option maxHeartbeats 400000 in
theorem In_any {w : World} {ok : Nat → Prop} {A : Option Addr} {n c : Nat} {l : List Int} {x : Int} (hr : rdInts w ok [.slice A n c] l) (hx : -9223372036854775808 ≤ x ∧ x ≤ 9223372036854775807) :
    Calls Tryd.prog 26 #[.slice A n c, .int .i64 x] w fun e w' => e = .returned (.bool (inB l x)) ∧ w = w' := by
  obtain ⟨hn, hnc, hcm⟩ := hr.len
  have hnm : n ≤ 9223372036854775807 := by unfold maxLen at hcm; omega
  have HN := Lib.hid hn
  clear hn hcm
  go_enter Tryd.func26, Tryd.ntmps26
  go_wp2
  go_loop [5] (fun i => ∃ k : Nat, k ≤ n ∧ i = .int .i64 k ∧ inB (l.drop k) x = inB l x) (fun i => n - (intOf i).toNat)
  case atStart => exact ⟨0, Nat.zero_le _, rfl, rfl⟩
  case round =>
    obtain ⟨k, hk, rfl, hno⟩ := hrel
    have HNO := Lib.hid hno; clear hno
    by_cases hlt : k < n
    · obtain ⟨b, o, y, rfl, _, HY, _, hc⟩ := hr.atI hlt
      by_cases hyx : y = x
      · have ht : (y == x) = true := by simpa using hyx
        have hin := Lib.hid (inB_true HY.out hyx)
        clear hyx
        go_wp2
        go_ret
        exact ⟨ret_bool hin.out.symm, rfl⟩
      · have ht : (y == x) = false := by simpa using hyx
        have hin : Hid (inB (l.drop (k + 1)) x = inB l x) := Lib.hid (by rw [← HNO.out, drop_of HY.out]; simp [inB, ht])
        clear hyx
        go_wp2
        exact ⟨⟨k + 1, by omega, by go_num, hin.out⟩, by simp [intOf]; omega⟩
    · have e : Hid (inB l x = false) := Lib.hid (by rw [← HNO.out, List.drop_of_length_le (by have := HN.out; omega)]; rfl)
      go_wp2
      go_ret
      exact ⟨ret_bool e.out.symm, rfl⟩

def cmpD : List Int → List Int → Int
  | x :: a, y :: b => if x < y then -1 else if y < x then 1 else cmpD a b
  | a, b => (a.length : Int) - b.length
theorem cmpD_nil_r (a : List Int) : cmpD a [] = a.length := by cases a <;> simp [cmpD]
theorem cmpD_nil_l (b : List Int) : cmpD [] b = -(b.length : Int) := by cases b <;> simp [cmpD]
theorem cmpD_zero : ∀ {a b : List Int}, (cmpD a b == 0) = (a == b)
  | [], [] => rfl
  | [], y :: b => by simp [cmpD]; omega
  | x :: a, [] => by simp [cmpD]; omega
  | x :: a, y :: b => by
    unfold cmpD
    split
    · rename_i h; have : x ≠ y := by omega
      simp [this]
    · split
      · rename_i h; have : x ≠ y := by omega
        simp [this]
      · have : x = y := by omega
        subst this
        rw [cmpD_zero]
        simp
set_option maxHeartbeats 400000 in
theorem Compared_any {w : World} {ok ok' : Nat → Prop} {A A' : Option Addr} {n n' c c' : Nat} {l m : List Int} (hr : rdInts w ok [.slice A n c] l) (hr' : rdInts w ok' [.slice A' n' c'] m) :
    Calls Tryd.prog 29 #[.slice A n c, .slice A' n' c'] w fun e w' => e = .returned (.int .i64 (cmpD l m)) ∧ ∃ k, w' = w.drewN k := by
  obtain ⟨hn, hnc, hcm⟩ := hr.len
  have hnm : n ≤ 9223372036854775807 := by unfold maxLen at hcm; omega
  obtain ⟨hn', hnc', hcm'⟩ := hr'.len
  have hnm' : n' ≤ 9223372036854775807 := by unfold maxLen at hcm'; omega
  have HN := Lib.hid hn
  have HN' := Lib.hid hn'
  clear hn hcm hn' hcm'
  go_enter Tryd.func29, Tryd.ntmps29
  go_wp2
  go_loopw [5] (fun i wr => ∃ k : Nat, k ≤ n ∧ k ≤ n' ∧ i = .int .i64 k ∧ cmpD (l.drop k) (m.drop k) = cmpD l m ∧ ∃ j, wr = w.drewN j) (fun i _ => n - (intOf i).toNat)
  case atStart => exact ⟨0, Nat.zero_le _, Nat.zero_le _, rfl, rfl, 0, rfl⟩
  case round =>
    obtain ⟨k, hk, hk', rfl, hno, j, rfl⟩ := hrel
    have HNO := Lib.hid hno; clear hno
    by_cases hlt : k < n
    · by_cases hlt' : k < n'
      · obtain ⟨b, o, x, rfl, _, HX, _, hc⟩ := hr.atI hlt
        obtain ⟨b', o', y, rfl, _, HY, _, hc'⟩ := hr'.atI hlt'
        have i0 : (0 : Int) ≤ (k : Int) := by omega
        have i1 : (k : Int) < (n : Int) := by omega
        have i2 : (k : Int) < (n' : Int) := by omega
        have hs := HNO.out
        rw [drop_of HX.out, drop_of HY.out, cmpD] at hs
        have HS := Lib.hid hs; clear hs
        by_cases h1 : x < y
        · have e : Hid (cmpD l m = -1) := Lib.hid (by rw [← HS.out, if_pos h1])
          go_wp2
          go_quiet (fail)
          go_wp2
          go_ret
          exact ⟨ret_int e.out.symm, _, World.drewN_drewN _ _ _⟩
        · by_cases h2 : y < x
          · have e : Hid (cmpD l m = 1) := Lib.hid (by rw [← HS.out, if_neg h1, if_pos h2])
            go_wp2
            go_quiet (fail)
            go_wp2
            go_quiet (fail)
            go_wp2
            go_ret
            exact ⟨ret_int e.out.symm, _, (by first | rfl | exact World.drewN_drewN _ _ _ | (rw [World.drewN_drewN, World.drewN_drewN]))⟩
          · have e : Hid (cmpD (l.drop (k + 1)) (m.drop (k + 1)) = cmpD l m) := Lib.hid (by rw [← HS.out, if_neg h1, if_neg h2])
            go_wp2
            go_quiet (fail)
            go_wp2
            go_quiet (fail)
            go_wp2
            exact ⟨⟨k + 1, by omega, by omega, by go_num, e.out, _, (by first | rfl | exact World.drewN_drewN _ _ _ | (rw [World.drewN_drewN, World.drewN_drewN]))⟩, by simp [intOf]; omega⟩
      · have e : Hid (cmpD l m = (n : Int) - n') := Lib.hid (by rw [← HNO.out, List.drop_of_length_le (l := m) (by have := HN'.out; omega)]; rw [cmpD_nil_r, List.length_drop]; have h1 := HN.out; have h2 := HN'.out; omega)
        go_wp2
        go_ret
        exact ⟨ret_int e.out.symm, _, rfl⟩
    · have e : Hid (cmpD l m = (n : Int) - n') := Lib.hid (by rw [← HNO.out, List.drop_of_length_le (l := l) (by have := HN.out; omega)]; rw [cmpD_nil_l, List.length_drop]; have h1 := HN.out; have h2 := HN'.out; omega)
      go_wp2
      go_ret
      exact ⟨ret_int e.out.symm, _, rfl⟩
/-- at two lists of one length: the same sign -/
theorem cmpD_N : ∀ (a b : List Int), a.length = b.length → cmpD a b = Ga.cmpN a b
  | [], [], _ => rfl
  | [], _ :: _, h => by simp at h
  | _ :: _, [], h => by simp at h
  | x :: a, y :: b, h => by
    unfold cmpD Ga.cmpN
    rw [cmpD_N a b (by simpa using h)]
theorem once_nodup {p : List Int} (h : p.Nodup) : onceTo p p.length = true := by
  unfold onceTo
  rw [List.all_eq_true]
  intro k hk
  have hk := List.mem_range.1 hk
  unfold onceAt
  rw [List.getElem?_eq_getElem hk]
  simp only [Bool.not_eq_true']
  cases e : inB (p.take k) p[k] with
  | false => rfl
  | true =>
    have hm := inB_iff.1 e
    rw [← List.take_append_drop k p] at h
    have h2 := (List.nodup_append.1 h).2.2 _ hm p[k] (by rw [List.drop_eq_getElem_cons hk]; exact List.mem_cons_self)
    exact absurd rfl h2
end Go.Proofs.YtnihheikaddmoaaDoor
