/- waywardenref1.CostOf. -/
import Derived.Test.YtccgaflbhpagcaaDoorInts
import Derived.Test.YtccgaflbhpagcaaDoorSpanI
namespace Go.Proofs.YtccgaflbhpagcaaDoor
open Go.ChangeShapes Go.WideShapes Go.ChangeAt Go.RowKit Sp
set_option linter.unusedVariables false
def costR (a b : Int) : List Lnk → Int
  | [] => 16
  | x :: r => if pairB x (a, b, 0) = true then x.2.2 else costR a b r
def costL (l : List Lnk) (a b : Int) : Int := if a = b then 0 else costR a b l
theorem pair_no {x : Lnk} {a b : Int} (h : ¬ (x.1 = a ∧ x.2.1 = b ∨ x.1 = b ∧ x.2.1 = a)) : pairB x (a, b, 0) = false := by unfold pairB; exact decide_eq_false h
theorem pair_yes {x : Lnk} {a b : Int} (h : x.1 = a ∧ x.2.1 = b ∨ x.1 = b ∧ x.2.1 = a) : pairB x (a, b, 0) = true := by unfold pairB; exact decide_eq_true h
set_option maxRecDepth 100000 in
set_option maxHeartbeats 1000000 in
theorem Cost_any {w : World} {ok : Nat → Prop} {A : Option Addr} {m c : Nat} {l : List Lnk} (hl : rdLinks w ok [.slice A m c] l) (a b : Int) :
    Calls Tryd.prog 15 #[.slice A m c, .int .i64 a, .int .i64 b] w fun e w' => e = .returned (.int .i64 (costL l a b)) ∧ w = w' := by
  obtain ⟨hm, hle, hcm⟩ := RdSlice.len hl
  have hm0 : m ≤ 9223372036854775807 := by unfold maxLen at hcm; omega
  have HL := Lib.hid hl
  have HM := Lib.hid hm
  clear hl hm hle hcm
  by_cases hab : a = b
  · have HR : Hid (costL l a b = 0) := Lib.hid (by unfold costL; rw [if_pos hab])
    have t0 : (a == b) = true := by simpa using hab
    clear hab
    go_enter Tryd.func15, Tryd.ntmps15
    go_wp2
    go_ret
    exact ⟨by rw [HR.out]; rfl, rfl⟩
  · have HR : Hid (costL l a b = costR a b l) := Lib.hid (by unfold costL; rw [if_neg hab])
    have t0 : (a == b) = false := by simpa using hab
    clear hab
    go_enter Tryd.func15, Tryd.ntmps15
    go_wp2
    go_loop [7] (fun t => ∃ k : Nat, k ≤ m ∧ t = .int .i64 k ∧ costR a b (l.drop k) = costR a b l) (fun t => m - (intOf t).toNat)
    case atStart => exact ⟨0, Nat.zero_le _, rfl, rfl⟩
    case round =>
      obtain ⟨k, hk, rfl, he⟩ := hrel
      have HE := Lib.hid he
      clear he
      by_cases hlt : k < m
      · obtain ⟨g, o, x, y, z, rfl, hbb, HX, ⟨wx, wy, wz⟩, d0, d1, d2⟩ := RdSlice.atL HL.out hlt
        have HD := Lib.hid (drop_of HX.out)
        clear wx wy wz
        have i0 : (0 : Int) ≤ (k : Int) := by omega
        have i1 : (k : Int) < (m : Int) := by omega
        cases t1 : (x == a) <;> cases t2 : (y == b) <;> cases t3 : (x == b) <;> cases t4 : (y == a)
        all_goals
          go_wp2
          first
            | (have hp : pairB (x, y, z) (a, b, 0) = true := pair_yes (by first | exact .inl ⟨by simpa using t1, by simpa using t2⟩ | exact .inr ⟨by simpa using t3, by simpa using t4⟩)
               have hz : costR a b l = z := by rw [← HE.out, HD.out, costR, if_pos hp]
               have HZ := Lib.hid hz
               clear hz hp
               go_ret
               exact ⟨by rw [HR.out, HZ.out]; rfl, rfl⟩)
            | (have hp : pairB (x, y, z) (a, b, 0) = false := pair_no (by simp only [beq_eq_false_iff_ne, beq_iff_eq, ne_eq] at t1 t2 t3 t4; simp only; omega)
               have hz : costR a b (l.drop (k + 1)) = costR a b l := by rw [← HE.out, HD.out, costR, if_neg (by rw [hp]; simp)]
               have HZ := Lib.hid hz
               clear hz hp
               go_round
               case rel => exact ⟨k + 1, by omega, by go_num, HZ.out⟩
               case measure => simp [intOf]; omega)
            | fail
      · have ek : k = m := by omega
        subst ek
        have HE2 : Hid (costR a b l = 16) := Lib.hid (by rw [← HE.out, List.drop_of_length_le (by rw [HM.out]; exact Nat.le_refl _)]; rfl)
        go_wp2
        go_ret
        exact ⟨by rw [HR.out, HE2.out]; rfl, rfl⟩
/-- the cost of a link that there is -/
theorem cost_arc {n : Nat} {l : List Lnk} (ok : OkL n l) {y v : Nat} {c : Int} (hE : (y, v, c) ∈ arcsOf l) : 1 ≤ costL l v y ∧ costL l v y ≤ 15 := by
  obtain ⟨x, hx, h1, h2⟩ := mem_arcs.1 hE
  have hr := ok.rng x hx
  have hne : ¬ ((v : Int) = y) := by omega
  have hp : pairB x ((v : Int), (y : Int), 0) = true := pair_yes (by omega)
  unfold costL
  rw [if_neg hne]
  have key : ∀ (m : List Lnk), (∀ x ∈ m, x ∈ l) → x ∈ m → 1 ≤ costR (v : Int) y m ∧ costR (v : Int) y m ≤ 15 := by
    intro m
    induction m with
    | nil => intro _ h; cases h
    | cons z r ih =>
      intro hm hxm
      unfold costR
      by_cases hz : pairB z ((v : Int), (y : Int), 0) = true
      · rw [if_pos hz]; have := ok.rng z (hm z (by simp)); omega
      · rw [if_neg hz]
        rcases List.mem_cons.1 hxm with rfl | hxm
        · exact absurd hp hz
        · exact ih (fun q hq => hm q (by simp [hq])) hxm
  exact key l (fun _ h => h) hx
end Go.Proofs.YtccgaflbhpagcaaDoor
