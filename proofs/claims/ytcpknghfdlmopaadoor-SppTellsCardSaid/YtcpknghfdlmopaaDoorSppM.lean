/- waywardenref2: LikedBest, LikeFault. -/
import Derived.Test.YtcpknghfdlmopaaDoorSppK
namespace Go.Proofs.YtcpknghfdlmopaaDoor
open Go.ChangeShapes Go.WideShapes Go.ChangeAt Go.RowKit
set_option linter.unusedVariables false

def rngAt (n : Int) (w : List Int) (k : Nat) : Bool := match w[k]? with
  | some x => decide (0 ≤ x) && decide (x < n)
  | none => true
def rngTo (n : Int) (w : List Int) (k : Nat) : Bool := (List.range k).all (rngAt n w)
theorem rngTo_succ (n : Int) (w : List Int) (k : Nat) : rngTo n w (k + 1) = (rngTo n w k && (match w[k]? with
  | some x => decide (0 ≤ x) && decide (x < n)
  | none => true)) := by
  unfold rngTo; rw [List.range_succ, List.all_append]; simp [rngAt]
theorem rngTo_false {n : Int} {w : List Int} {k m : Nat} (hk : k < m) {x : Int} (hx : w[k]? = some x) (h : (decide (0 ≤ x) && decide (x < n)) = false) : rngTo n w m = false := by
  unfold rngTo; rw [List.all_eq_false]
  exact ⟨k, List.mem_range.2 hk, by unfold rngAt; rw [hx]; simpa using h⟩
theorem allAt_split (n : Int) (w : List Int) : ∀ k, allAt n w k = (onceTo w k && rngTo n w k)
  | 0 => rfl
  | k + 1 => by
    rw [allAt_succ, allAt_split n w k, rngTo_succ, onceTo_succ]
    unfold okAt onceAt
    cases w[k]? with
    | none => simp
    | some x => cases onceTo w k <;> cases rngTo n w k <;> simp [Bool.and_comm, Bool.and_assoc]
set_option maxHeartbeats 1000000 in
theorem LikedBest_any {w : World} {A1 A2 : Option Addr} {n1 n2 c1 c2 : Nat} {i : Nat} {likes : List (List (List Int))} {ways : List (List Int)} (hlk : R1 rdInts3 w (.slice A1 n1 c1) likes) (hw : R1 rdInts2 w (.slice A2 n2 c2) ways)
    (hi0 : 0 < i) (hi : i < n1) :
    Calls Tryd.prog 9 #[.slice A1 n1 c1, .slice A2 n2 c2, .int .i64 i] w fun e w' => ∃ r, e = .returned r ∧ R1 rdInts w' r (bestP likes ways i) ∧ ∃ k, w' = w.drewN k := by
  obtain ⟨_, _, hcm1⟩ := RdSlice.len hlk
  have hn1 : n1 ≤ 9223372036854775807 := by unfold maxLen at hcm1; omega
  obtain ⟨b1, o1, row, A3, c3, rfl, hb1, HROW, hrow, hc1⟩ := RdSlice.atS hlk hi
  have HB : Hid (bestP likes ways i = pickP row ways) := Lib.hid (by unfold bestP; rw [if_neg (by omega), HROW.out]; rfl)
  obtain ⟨_, hle3, hcm3⟩ := hrow.len
  have hn3 : row.length ≤ 9223372036854775807 := by unfold maxLen at hcm3; omega
  obtain ⟨m, hm⟩ : ∃ m, m = row.length := ⟨_, rfl⟩
  rw [← hm] at hrow hc1 hle3 hn3
  have HM := Lib.hid hm
  clear hm hcm1 hcm3
  have ti : ((i : Int) == 0) = false := by simp; omega
  have ti0 : (0 : Int) ≤ (i : Int) := by omega
  have ti1 : (i : Int) < (n1 : Int) := by omega
  go_enter Tryd.func9, Tryd.ntmps9
  go_wp2
  go_loopw [7] (fun t wr => ∃ k : Nat, k ≤ m ∧ t = .int .i64 k ∧ (row.take k).find? (mayB ways) = none ∧ ∃ q, wr = w.drewN q) (fun t _ => m - (intOf t).toNat)
  case atStart => exact ⟨0, Nat.zero_le _, rfl, rfl, 0, rfl⟩
  case round =>
    obtain ⟨k, hk, rfl, hno, q, rfl⟩ := hrel
    have HNO := Lib.hid hno; clear hno
    by_cases hlt : k < m
    · obtain ⟨b, o, x, A4, c4, rfl, hb, HX, hrx, hc⟩ := hrow.atS hlt
      obtain ⟨_, hlx, hcmx⟩ := hrx.len
      have hnx : x.length ≤ 9223372036854775807 := by unfold maxLen at hcmx; omega
      obtain ⟨nx, hnx'⟩ : ∃ nx, nx = x.length := ⟨_, rfl⟩
      rw [← hnx'] at hrx hlx hnx hc
      have HNX := Lib.hid hnx'; clear hnx' hcmx
      by_cases h1 : 1 < nx
      · obtain ⟨bx, ox, _, rfl, hbx, _, _, _⟩ := hrx.atI (i := 0) (by omega)
        have htl := RdSlice.tail_ hrx (by omega) hbx
        obtain ⟨hn2, hle2, hcm2⟩ := RdSlice.len hw
        have hn2' : n2 ≤ 9223372036854775807 := by unfold maxLen at hcm2; omega
        have HN2 := Lib.hid hn2; clear hn2 hcm2
        go_wp2
        go_loopw [9] (fun t wr => ∃ j : Nat, j ≤ n2 ∧ t = .int .i64 j ∧ inL (ways.drop j) x.tail = inL ways x.tail ∧ ∃ q, wr = w.drewN q) (fun t _ => n2 - (intOf t).toNat)
        case atStart => exact ⟨0, Nat.zero_le _, rfl, rfl, _, rfl⟩
        case round =>
          obtain ⟨j, hj, rfl, hin, q, rfl⟩ := hrel
          have HIN := Lib.hid hin; clear hin
          by_cases hlj : j < n2
          · obtain ⟨b5, o5, y, A5, c5, rfl, hb5, HY, hry, hc5⟩ := RdSlice.atS hw hlj
            have i0 : (0 : Int) ≤ (j : Int) := by omega
            have i1 : (j : Int) < (n2 : Int) := by omega
            cases hyx : (y == x.tail)
            · have hz : (cmpL y x.tail == 0) = false := by rw [cmpL_zero, hyx]
              have hs : Hid (inL (ways.drop (j + 1)) x.tail = inL ways x.tail) := Lib.hid (by rw [← HIN.out, drop_of HY.out]; simp [inL, hyx])
              clear hyx
              obtain ⟨z, hZ⟩ : ∃ z, cmpL y x.tail = z := ⟨_, rfl⟩
              rw [hZ] at hz
              have HZ := Lib.hid hZ; clear hZ
              go_wp2
              go_quiet ((go_at_call 17; exact quiet_add ((Compared_any (RdLaw.drewN hry _) (RdLaw.drewN htl _)).mono fun _ _ ⟨h1, h2⟩ => ⟨by rw [h1, HZ.out], h2⟩)))
              go_wp2
              exact ⟨⟨j + 1, by omega, by go_num, hs.out, _, rfl⟩, by simp [intOf]; omega⟩
            · have hz : (cmpL y x.tail == 0) = true := by rw [cmpL_zero, hyx]
              have HZ : Hid (cmpL y x.tail = 0) := Lib.hid (by simpa using hz)
              have hpk : pickP row ways = x := by
                unfold pickP
                rw [find_take_some HNO.out HX.out (by unfold mayB; rw [inL_true HY.out hyx]; have := HNX.out; simp; omega)]; rfl
              have HPK := Lib.hid hpk
              clear hpk hyx hz
              go_wp2
              go_quiet ((go_at_call 17; exact quiet_add ((Compared_any (RdLaw.drewN hry _) (RdLaw.drewN htl _)).mono fun _ _ ⟨h1, h2⟩ => ⟨by rw [h1, HZ.out], h2⟩)))
              go_wp2
              go_ret
              have hrx1 : R1 rdInts w (.slice (some ⟨bx, ox, none⟩) nx c4) x := hrx
              exact ⟨_, rfl, by rw [HB.out, HPK.out]; exact R1.drewN (R1.drewN hrx1 _) _, _, by first | rfl | exact World.drewN_drewN _ _ _⟩
          · have hz : inL ways x.tail = false := by rw [← HIN.out, List.drop_of_length_le (by have := HN2.out; omega)]; rfl
            have hnx := Lib.hid (find_take_none HNO.out HX.out (show mayB ways x = false by unfold mayB; rw [hz]; simp))
            clear hz
            go_wp2
            exact ⟨⟨k + 1, by omega, by go_num, hnx.out, _, rfl⟩, by simp [intOf]; omega⟩
      · have hnx := Lib.hid (find_take_none HNO.out HX.out (show mayB ways x = false by unfold mayB; have := HNX.out; simp; omega))
        go_wp2
        go_loopw [9] (fun t wr => t = .int .i64 0 ∧ ∃ q, wr = w.drewN q) (fun t _ => 0)
        case atStart => exact ⟨rfl, _, rfl⟩
        case round =>
          obtain ⟨rfl, q, rfl⟩ := hrel
          go_wp2
          exact ⟨⟨k + 1, by omega, by go_num, hnx.out, _, rfl⟩, by simp [intOf]; omega⟩
    · have e : row.take k = row := List.take_of_length_le (by have := HM.out; omega)
      have hpk : pickP row ways = [] := by unfold pickP; have h := HNO.out; rw [e] at h; rw [h]; rfl
      have HPK := Lib.hid hpk
      clear e hpk
      go_wp2
      go_ret
      exact ⟨_, rfl, by rw [HB.out, HPK.out]; exact RdSlice.nil_, _, rfl⟩
set_option maxHeartbeats 1000000 in
theorem LikeFault_any {w : World} {v : Value} {likes : List (List (List Int))} (hlk : R1 rdInts3 w v likes) :
    Calls Tryd.prog 5 #[v] w fun e w' => e = .returned (.int .i64 (sppF likes)) ∧ ∃ k, w' = w.drewN k := by
  obtain ⟨A, c, rfl⟩ := hlk.form
  obtain ⟨_, hnc, hcm⟩ := RdSlice.len hlk
  have hnm : likes.length ≤ 9223372036854775807 := by unfold maxLen at hcm; omega
  obtain ⟨n, hn⟩ : ∃ n, n = likes.length := ⟨_, rfl⟩
  rw [← hn] at hlk hnm ⊢
  by_cases hb : n < 1 ∨ 8 < n
  · have hF : sppF likes = 1 := by unfold sppF; rw [if_pos (by omega)]
    rw [hF]
    clear hF hn hlk
    rcases hb with h | h
    · go_enter Tryd.func5, Tryd.ntmps5
      go_wp2
      go_ret
      exact ⟨rfl, 0, rfl⟩
    · have h' : ¬ (n : Int) < 1 := by omega
      go_enter Tryd.func5, Tryd.ntmps5
      go_wp2
      go_ret
      exact ⟨rfl, 0, rfl⟩
  · have h1 : ¬ (n : Int) < 1 := by omega
    have h2 : ¬ 8 < (n : Int) := by omega
    have hF : sppF likes = if chkTo n likes n = true then 0 else 3 := by unfold sppF; rw [if_neg (by omega), hn]
    have HF := Lib.hid hF; have HN := Lib.hid hn
    clear hF hn hnc hcm
    go_enter Tryd.func5, Tryd.ntmps5
    go_wp2
    go_loopw [4] (fun t wr => ∃ k : Nat, k ≤ n ∧ t = .int .i64 k ∧ chkTo n likes k = true ∧ ∃ q, wr = w.drewN q) (fun t _ => n - (intOf t).toNat)
    case atStart => exact ⟨0, Nat.zero_le _, rfl, rfl, 0, rfl⟩
    case round =>
      obtain ⟨k, hk, rfl, hall, q, rfl⟩ := hrel
      have HALL := Lib.hid hall; clear hall
      by_cases hlt : k < n
      · obtain ⟨b, o, row, A2, c2, rfl, _, HROW, hrow, hc⟩ := RdSlice.atS hlk hlt
        obtain ⟨_, _, hcm2⟩ := hrow.len
        have hm2 : row.length ≤ 9223372036854775807 := by unfold maxLen at hcm2; omega
        have hrk := Lib.hid (show rowOk n likes k = row.all (rightB n k) by unfold rowOk; rw [HROW.out]; rfl)
        have hsuc := Lib.hid ((chkTo_succ n likes k).trans (by rw [HALL.out, hrk.out]))
        obtain ⟨m, hm⟩ : ∃ m, m = row.length := ⟨_, rfl⟩
        rw [← hm] at hrow hc hm2
        have HM := Lib.hid hm
        clear hm hcm2
        go_wp2
        go_loopw [5] (fun t wr => ∃ j : Nat, j ≤ m ∧ t = .int .i64 j ∧ (row.take j).all (rightB n k) = true ∧ ∃ q, wr = w.drewN q) (fun t _ => m - (intOf t).toNat)
        case atStart => exact ⟨0, Nat.zero_le _, rfl, rfl, _, rfl⟩
        case round =>
          obtain ⟨j, hj, rfl, hal, q, rfl⟩ := hrel
          have HAL := Lib.hid hal; clear hal
          by_cases hlj : j < m
          · obtain ⟨b3, o3, x, A3, c3, rfl, _, HX, hrx, hcx⟩ := hrow.atS hlj
            have hbad := fun hR => Lib.hid (chkTo_false (n := n) (likes := likes) hlt (hrk.out.trans (all_false_of HX.out hR)))
            obtain ⟨_, hle3, hcm3⟩ := hrx.len
            have hn3 : x.length ≤ 9223372036854775807 := by unfold maxLen at hcm3; omega
            obtain ⟨nx, hnx⟩ : ∃ nx, nx = x.length := ⟨_, rfl⟩
            rw [← hnx] at hrx hcx hn3 hle3
            by_cases h0 : nx = 0
            · have HB := hbad (by unfold rightB; have : x = [] := List.eq_nil_of_length_eq_zero (by omega); simp [this])
              subst h0
              clear hbad hnx
              go_wp2
              go_ret
              exact ⟨by rw [HF.out, HB.out]; rfl, _, rfl⟩
            · obtain ⟨b4, o4, x0, rfl, _, HX0, _, hc0⟩ := hrx.atI (i := 0) (by omega)
              obtain ⟨b5, o5, xl, e, _, HXL, _, hcl⟩ := hrx.atI (i := nx - 1) (by omega)
              simp only [Option.some.injEq, Addr.mk.injEq, and_true] at e
              obtain ⟨rfl, rfl⟩ := e
              rw [Nat.add_zero] at hc0
              have hne : x ≠ [] := by intro h; rw [h] at hnx; simp at hnx; omega
              have HH : x.head? = some x0 := by rw [List.head?_eq_getElem?]; exact HX0.out
              have HL : x.getLast? = some xl := by rw [List.getLast?_eq_getElem?, ← hnx]; exact HXL.out
              have hR : rightB n k x = ((x0 == (k : Int)) && (xl == 0) && (onceTo x nx && rngTo n x nx)) := by
                unfold rightB; rw [HH, HL, ← hnx, allAt_split]; simp [hne]
              have t0 : ((nx : Int) == 0) = false := by simp; omega
              have t1 : (0 : Int) < (nx : Int) := by omega
              have t2 : ((nx : Int) - 1).toNat = nx - 1 := by omega
              have HNX := Lib.hid hnx
              have HRR := Lib.hid hR
              clear hnx hne HH HL hR
              cases hx0 : (x0 == (k : Int))
              · have HB := hbad (by rw [HRR.out, hx0]; rfl)
                have hx0' : (x0 != (k : Int)) = true := by simp only [bne, hx0]; rfl
                clear hbad hx0
                go_wp2
                go_ret
                exact ⟨by rw [HF.out, HB.out]; rfl, _, rfl⟩
              · have hx0' : (x0 != (k : Int)) = false := by simp only [bne, hx0]; rfl
                cases hxl : (xl == 0)
                · have HB := hbad (by rw [HRR.out, hxl]; simp)
                  have hxl' : (xl != 0) = true := by simp only [bne, hxl]; rfl
                  clear hbad hxl hx0
                  go_wp2
                  go_ret
                  exact ⟨by rw [HF.out, HB.out]; rfl, _, rfl⟩
                · have hxl' : (xl != 0) = false := by simp only [bne, hxl]; rfl
                  cases hon : onceTo x nx
                  · have HB := hbad (by rw [HRR.out, hon]; simp)
                    have HON : Hid (onceTo x x.length = false) := Lib.hid (by rw [← HNX.out]; exact hon)
                    clear hbad hxl hx0 hon
                    go_wp2_with (go_at_call 14; refine (Once_any (RdLaw.drewN hrx _)).mono ?_; rintro e w' ⟨rfl, q2, rfl⟩; rw [HON.out])
                    go_ret
                    exact ⟨by rw [HF.out, HB.out]; rfl, _, (by first | rfl | exact World.drewN_drewN _ _ _)⟩
                  · have HON : Hid (onceTo x x.length = true) := Lib.hid (by rw [← HNX.out]; exact hon)
                    have HR2 : Hid (rightB n k x = rngTo n x nx) := Lib.hid (by rw [HRR.out, hx0, hxl, hon]; rfl)
                    clear HRR hxl hx0 hon
                    go_wp2_with (go_at_call 14; refine (Once_any (RdLaw.drewN hrx _)).mono ?_; rintro e w' ⟨rfl, q2, rfl⟩; rw [HON.out])
                    go_loopw [7] (fun t wr => ∃ i : Nat, i ≤ nx ∧ t = .int .i64 i ∧ rngTo n x i = true ∧ ∃ q, wr = w.drewN q) (fun t _ => nx - (intOf t).toNat)
                    case atStart => exact ⟨0, Nat.zero_le _, rfl, rfl, _, (by first | rfl | exact World.drewN_drewN _ _ _)⟩
                    case round =>
                      obtain ⟨i, hi, rfl, hrg, q, rfl⟩ := hrel
                      have HRG := Lib.hid hrg; clear hrg
                      by_cases hli : i < nx
                      · obtain ⟨b6, o6, z, e, _, HZ, hwz, hcz⟩ := hrx.atI hli
                        simp only [Option.some.injEq, Addr.mk.injEq, and_true] at e
                        obtain ⟨rfl, rfl⟩ := e
                        by_cases z0 : z < 0
                        · have HB := hbad (by rw [HR2.out]; exact rngTo_false hli HZ.out (by simp; omega))
                          clear hbad
                          go_wp2
                          go_ret
                          exact ⟨by rw [HF.out, HB.out]; rfl, _, rfl⟩
                        · by_cases z1 : z < n
                          · have hs : Hid (rngTo n x (i + 1) = true) := Lib.hid (by rw [rngTo_succ, HRG.out, HZ.out]; simp; omega)
                            clear hbad
                            go_wp2
                            exact ⟨⟨i + 1, by omega, by go_num, hs.out, _, rfl⟩, by simp [intOf]; omega⟩
                          · have HB := hbad (by rw [HR2.out]; exact rngTo_false hli HZ.out (by simp; omega))
                            clear hbad
                            go_wp2
                            go_ret
                            exact ⟨by rw [HF.out, HB.out]; rfl, _, rfl⟩
                      · have e : i = nx := by omega
                        subst e
                        have hs := Lib.hid ((all_take_succ (p := rightB n k) HX.out).trans (by rw [HAL.out, HR2.out, HRG.out]))
                        clear hbad
                        go_wp2
                        exact ⟨⟨j + 1, by omega, by go_num, hs.out, _, rfl⟩, by simp [intOf]; omega⟩
          · have e : row.take j = row := List.take_of_length_le (by have := HM.out; omega)
            have hS : Hid (chkTo n likes (k + 1) = true) := Lib.hid (by have h := HAL.out; rw [e] at h; rw [hsuc.out, h]; rfl)
            clear e
            go_wp2
            exact ⟨⟨k + 1, by omega, by go_num, hS.out, _, rfl⟩, by simp [intOf]; omega⟩
      · have e : k = n := by omega
        subst e
        go_wp2
        go_ret
        exact ⟨by rw [HF.out, HALL.out]; rfl, _, rfl⟩
end Go.Proofs.YtcpknghfdlmopaaDoor
