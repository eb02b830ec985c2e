/- gao.Ways. -/
import Derived.Test.YtnihheikaddmoaaDoorGaoG
import Derived.BigQuiet
import Derived.Deep.DeepCutAuto
namespace Go.Proofs.YtnihheikaddmoaaDoor
open Go.ChangeShapes Go.WideShapes Go.ChangeAt Go.RowKit Ga
set_option linter.unusedVariables false
set_option linter.unusedSimpArgs false
def bestK (l : List Ga.Way) (j : Nat) : Ga.Way := (l.take j).foldl (fun b x => if betterB x b = true then x else b) (0, [])
theorem bestK_succ {l : List Ga.Way} {j : Nat} {x : Ga.Way} (h : l[j]? = some x) : bestK l (j + 1) = if betterB x (bestK l j) = true then x else bestK l j := by
  unfold bestK; rw [take_succ_of h, List.foldl_append]; rfl
/-- the box of the best -/
structure BestB (w : World) (g gb : Nat) (b : Ga.Way) : Prop where
  ex : ∃ A c, w.heap[gb]? = some (.cells #[.int .i64 b.1, .slice A b.2.length c] 26 (0, 0)) ∧ (Lit.int .i64 b.1).wf = true ∧ RdSlice 1 (rdInt .i64) w (fun x => x < w.heap.size ∧ x ≠ gb ∧ x ≠ g) [.slice A b.2.length c] b.2
theorem BestB.below {w w' : World} {g gb : Nat} {b : Ga.Way} (h : BestB w g gb b) (hb : Below w.heap.size w w') : BestB w' g gb b := by
  obtain ⟨A, c, h1, h2, h3⟩ := h.ex
  exact ⟨A, c, below_block hb (size_of_block h1) h1, h2, RdLaw.mono (RdLaw.keep h3 (fun p hp => hb.cell hp.1)) (fun x hx => ⟨Nat.lt_of_lt_of_le hx.1 hb.size, hx.2⟩)⟩
/-- offers that came in at a world, while but one block is written -/
structure Keep (w5 w : World) (gb : Nat) : Prop where
  size : w5.heap.size ≤ w.heap.size
  block : ∀ k, k < w5.heap.size → k ≠ gb → w.heap[k]? = w5.heap[k]?
theorem Keep.refl (w : World) (gb : Nat) : Keep w w gb := ⟨Nat.le_refl _, fun _ _ _ => rfl⟩
theorem Keep.below {w5 w w' : World} {gb : Nat} (h : Keep w5 w gb) (hb : Below w.heap.size w w') : Keep w5 w' gb :=
  ⟨Nat.le_trans h.size hb.size, fun k hk hne => (hb.block k (Nat.lt_of_lt_of_le hk h.size)).trans (h.block k hk hne)⟩
theorem Keep.set {w5 w : World} {gb : Nat} (h : Keep w5 w gb) (o : Nat) (v : Value) : Keep w5 (w.setCell ⟨gb, o, none⟩ v) gb :=
  ⟨by simpa using h.size, fun k hk hne => (heap_setCell_other _ _ _ _ hne).trans (h.block k hk hne)⟩
theorem Keep.cell {w5 w : World} {gb : Nat} (h : Keep w5 w gb) {p : Addr} (hp : p.block < w5.heap.size) (hne : p.block ≠ gb) : w.cell? p = w5.cell? p := World.cell?_of_block (h.block _ hp hne)
theorem errno1 : errV 1 = .iface 28 (.int .i64 1) := errV_ne (by omega)
set_option maxRecDepth 100000 in
theorem Ways_bad {w : World} {n tz k : Int} {A : Option Addr} {m c : Nat} {d : List Deal} (hd : R1 rdDeals w (.slice A m c) d) (he : dealE n d = k) (h0 : k ≠ 0) :
    Calls Tryd.prog 8 #[.int .i64 n, .slice A m c, .int .i64 tz] w fun e w' => e = .returned (.tuple #[.slice none 0 0, .iface 28 (.int .i64 k)]) ∧ Below w.heap.size w w' := by
  have HC := Lib.hid (GaoCheck_any hd he)
  rw [errV_ne h0] at HC
  clear hd he
  go_enter Tryd.func8, Tryd.ntmps8
  go_wp2_with fail
  go_at_call 7
  (with_reducible refine HC.out.mono ?_)
  rintro e w1 ⟨rfl, hb⟩
  go_wp2
  go_ret2
  exact ⟨rfl, hb⟩
set_option maxRecDepth 100000 in
theorem Ways_out {w : World} {n tz : Int} {A : Option Addr} {m c : Nat} {d : List Deal} (hd : R1 rdDeals w (.slice A m c) d) (he : dealE n d = 0) (h0 : tz < 0 ∨ n ≤ tz) :
    Calls Tryd.prog 8 #[.int .i64 n, .slice A m c, .int .i64 tz] w fun e w' => e = .returned (.tuple #[.slice none 0 0, .iface 28 (.int .i64 1)]) ∧ Below w.heap.size w w' := by
  have HC := Lib.hid (GaoCheck_any hd he)
  rw [errV_zero] at HC
  clear hd he
  rcases h0 with h0 | h0
  all_goals
    go_enter Tryd.func8, Tryd.ntmps8
    go_wp2_with fail
    go_at_call 7
    (with_reducible refine HC.out.mono ?_)
    rintro e w1 ⟨rfl, hb⟩
    go_wp2
    all_goals (go_ret2; exact ⟨rfl, hb⟩)
def WaysPost (w : World) (W : Nat → Nat → Int) (n tz : Nat) (e : Ending) (w' : World) : Prop := ∃ g T, e = .returned (.tuple #[.slice (some ⟨g, 0, none⟩) n n, .nilIface]) ∧ WsRow w' g n T ∧ Ga.Rest W n tz T ∧ Small n T ∧ Below w.heap.size w w'
theorem made_way (n : Nat) : madeCells #[Value.int .i64 0, .slice none 0 0] (n * 2) = ((List.range (n * 2)).map fun i => if i % 2 = 0 then Value.int .i64 0 else .slice none 0 0).toArray := by
  apply Array.ext'
  unfold madeCells
  simp only [Array.toList_map, Array.toList_range]
  refine List.map_congr_left (fun i _ => ?_)
  have h : i % 2 = 0 ∨ i % 2 = 1 := by omega
  rcases h with h | h <;> simp [h]
theorem ws_start (w : World) (n : Nat) (hn : n ≤ 1000000) : WsRow (w.alloc (.cells ((List.range (n * 2)).map fun i => if i % 2 = 0 then Value.int .i64 0 else .slice none 0 0).toArray 26)) w.heap.size n (List.replicate n ((0 : Int), ([] : List Int))) := by
  refine ⟨⟨_, Blk.new w _ _, by simp, fun i x hi => ?_⟩, by simp⟩
  obtain ⟨h1, h2⟩ := List.getElem?_eq_some_iff.1 hi
  have hi' : i < n := by simpa using h1
  have hx : x = (0, []) := by rw [← h2]; simp
  subst hx
  refine ⟨none, 0, ?_, ?_, by decide, RdSlice.nil_⟩
  · rw [List.getElem?_map, List.getElem?_range (by omega)]; simp
  · rw [List.getElem?_map, List.getElem?_range (by omega)]
    have : (i * 2 + 1) % 2 = 1 := by omega
    simp [this]
theorem foldT_small {W : Nat → Nat → Int} {n tz : Nat} {T : List Ga.Way} (h : Small n T) (hl : T.length = n) : ∀ i, i ≤ n → Small n (foldT W n tz i T) ∧ (foldT W n tz i T).length = n
  | 0, _ => ⟨h, hl⟩
  | i + 1, hi => by
    obtain ⟨h1, h2⟩ := foldT_small h hl i (by omega)
    rw [foldT_succ]
    exact ⟨small_step h1 h2 (by omega), by rw [stepP_len]; exact h2⟩
theorem bestK_all (l : List Ga.Way) : bestK l l.length = bestP l := by unfold bestK; rw [List.take_length]; rfl
theorem ends_at {W : Nat → Nat → Int} {n tz : Nat} (ok : OkW W n) (hto : tz < n) {T : List Ga.Way} (h : InvW W n tz T) (hq : mov W n tz T = true) : rankT W n tz (passP W n tz T) < rankT W n tz T := rank_less (ends ok hto h) hq
set_option maxRecDepth 100000 in
set_option maxHeartbeats 32000000 in
theorem Ways_yes {w : World} {n tz : Nat} {A : Option Addr} {m c : Nat} {d : List Deal} (hd : R1 rdDeals w (.slice A m c) d) (he : dealE n d = 0) (ok : OkG n d) (hto : tz < n) :
    Calls Tryd.prog 8 #[.int .i64 n, .slice A m c, .int .i64 tz] w (WaysPost w (WL d) n tz) := by
  have HC := Lib.hid (GaoCheck_any hd he)
  rw [errV_zero] at HC
  have HD := Lib.hid hd
  have HOK := Lib.hid ok
  have h1 := ok.one
  have h8 := ok.eight
  have HWF := Lib.hid (fun a b : Nat => show (Lit.int .i64 (WL d a b)).wf = true from WalkArith.wf_i64 (by have := what_val ok.rng (a : Int) (b : Int); unfold WL; omega))
  obtain ⟨i0, hi0, hz0, hz1, hz2⟩ := info_parts way_info
  have hmk : ∀ W : World, (Instr.makeSlice 23 (.int .i64 (n : Int)) (.int .i64 (n : Int))).run Tryd.prog W = .ok (.slice (some ⟨W.heap.size, 0, none⟩) n n) (W.alloc (.cells ((List.range (n * 2)).map fun i => if i % 2 = 0 then Value.int .i64 0 else .slice none 0 0).toArray 26)) := fun W => by
    have h := run_make_rowN (P := Tryd.prog) 23 26 i0 _ Tryd.underlying23 hi0 hz0 .i64 .i64 n n (Nat.le_refl _) (by rw [hz2]; omega) (by omega) W
    rw [hz1, show (Value.agg #[.int .i64 0, .slice none 0 0]).cells = #[.int .i64 0, .slice none 0 0] from rfl, made_way] at h
    exact h
  clear hd he ok hi0 hz0 hz1 hz2
  go_enter Tryd.func8, Tryd.ntmps8
  go_wp2_with fail
  go_at_call 7
  (with_reducible refine HC.out.mono ?_)
  rintro e w1 ⟨rfl, hb1⟩
  have HB1 := Lib.hid hb1
  have s1 := hb1.size
  have HD1 := Lib.hid (HD.out.below hb1)
  have HT := Lib.hid (table_any HD1.out h1 h8 HOK.out.rng HOK.out.twice)
  have i1 : (0 : Int) ≤ (tz : Int) := by omega
  have i2 : (tz : Int) < (n : Int) := by omega
  clear hb1 HC
  go_wp2_with fail
  go_at_call 19
  (with_reducible refine HT.out.mono ?_)
  rintro e w2 ⟨vt, rfl, htab, hb2⟩
  obtain ⟨At, ct, rfl⟩ := htab.form
  have hlt' : (tabL n (WL d)).length = n := by unfold tabL; simp
  rw [hlt'] at htab ⊢
  have HTAB := Lib.hid htab
  have HB2 := Lib.hid (HB1.out.trans (hb2.mono s1))
  have s2 := HB2.out.size
  have hws0 := ws_start w2 n (by omega)
  have hb3 : Below w2.heap.size w2 (w2.alloc (.cells ((List.range (n * 2)).map fun i => if i % 2 = 0 then Value.int .i64 0 else .slice none 0 0).toArray 26)) := (Below.refl _ _).alloc (Nat.le_refl _) _
  clear htab hb2 hlt' HT
  go_upto_region 8 with (fail)
  obtain ⟨g, hg⟩ : ∃ g, w2.heap.size = g := ⟨_, rfl⟩
  generalize (w2.alloc (.cells ((List.range (n * 2)).map fun i => if i % 2 = 0 then Value.int .i64 0 else .slice none 0 0).toArray 26)) = w3 at *
  have HB3 := Lib.hid hb3
  have HTAB3 := Lib.hid (HTAB.out.below hb3)
  have HBW3 := Lib.hid (HB2.out.trans (hb3.mono s2))
  have s3 := HBW3.out.size
  have hgw : w.heap.size ≤ g := by omega
  have htlt : ∀ b, b < w2.heap.size → b < g := fun b hb => by omega
  rw [hg] at hws0 ⊢
  have hgl := hws0.lt
  obtain ⟨A0, c0, k0, k1, -, -, f0, f1⟩ := hws0.at_ (i := tz) (x := (0, [])) (by simp [hto])
  have hws1 := hws0.below ((Below.refl _ _).alloc (Nat.le_refl _) (.cells #[.int .i64 tz] 3))
  have hnd : RdSlice 1 (rdInt .i64) (w3.alloc (.cells #[.int .i64 tz] 3)) (fun b => b < (w3.alloc (.cells #[.int .i64 tz] 3)).heap.size ∧ b ≠ g) [.slice (some ⟨w3.heap.size, 0, none⟩) 1 1] [(tz : Int)] :=
    RdSlice.new1 (heap_alloc_new w3 (.cells #[.int .i64 tz] 3)) ⟨by simp, by omega⟩ rfl (Nat.le_refl _) (by decide) (fun i x hi => by
      match i, hi with
      | 0, hi => simp at hi; subst hi; exact ⟨_, rfl, rfl, WalkArith.wf_i64 (by omega)⟩)
  have hws2 := hws1.set hto (t := 0) (by decide) hnd
  rw [World.setCell_alloc_past _ _ _ _ hgl, World.setCell_alloc_past _ _ _ _ (by simpa using hgl)] at hws2
  have HWS := Lib.hid hws2
  clear hws2
  have HB4 : Hid (Below w.heap.size w (((w3.setCell ⟨g, tz * 2, none⟩ (.int .i64 0)).setCell ⟨g, tz * 2 + 1, none⟩ (.slice (some ⟨w3.heap.size, 0, none⟩) 1 1)).alloc (.cells #[.int .i64 tz] 3))) := Lib.hid (((HBW3.out.setCell hgw _).setCell hgw _).alloc (by simpa using s3) _)
  have ng : ¬ g = w3.heap.size := by omega
  have ng' : ¬ w3.heap.size = g := by omega
  have HG := Lib.hid hg
  have HBW2 : Hid (Below w2.heap.size w2 (((w3.setCell ⟨g, tz * 2, none⟩ (.int .i64 0)).setCell ⟨g, tz * 2 + 1, none⟩ (.slice (some ⟨w3.heap.size, 0, none⟩) 1 1)).alloc (.cells #[.int .i64 tz] 3))) := Lib.hid (((hb3.setCell (by rw [hg]; exact Nat.le_refl _) _).setCell (by rw [hg]; exact Nat.le_refl _) _).alloc (by simpa using hb3.size) _)
  clear hws0 hws1 hnd hb3 hmk hg htlt
  go_wp2
  go_loopw [11] (fun ch wr => ∃ (q : Bool) (T : List Ga.Way), ch = .bool q ∧ InvW (WL d) n tz T ∧ (q = false → mov (WL d) n tz T = false) ∧ Small n T ∧ WsRow wr g n T ∧ Below w2.heap.size w2 wr) (fun ch wr => muW (WL d) n tz g (boolOf ch) wr)
  case atStart => exact ⟨true, _, rfl, inv_start hto, (fun h => by cases h), small_start hto, HWS.out, HBW2.out⟩
  case round =>
    obtain ⟨q, T, rfl, hinv, hq, hsm, hws, hbw⟩ := hrel
    have HINV := Lib.hid hinv
    have HQ := Lib.hid hq
    have HSM := Lib.hid hsm
    have HW0 := Lib.hid hws
    have HBO := Lib.hid hbw
    clear hinv hq hsm hws hbw HWS HB4 HBW2 k0 k1 f0 f1
    cases q
    · have hm := HQ.out rfl
      have HR := Lib.hid (rest_of HINV.out.len HINV.out.dest hm)
      clear HQ hm
      go_wp2
      go_ret2
      exact ⟨g, T, rfl, HW0.out, HR.out, HSM.out, HB2.out.trans (HBO.out.mono s2)⟩
    · clear HQ
      obtain ⟨wo, rfl⟩ : ∃ wo : World, wo = wr := ⟨_, rfl⟩
      go_wp2
      go_loopw [11, 43] (fun ch t wr => ∃ (i : Nat), i ≤ n ∧ t = .int .i64 i ∧ ch = .bool (movK (WL d) n tz T i) ∧ WsRow wr g n (foldT (WL d) n tz i T) ∧ Below w2.heap.size w2 wr) (fun _ t _ => n - (intOf t).toNat)
      case atStart => exact ⟨0, Nat.zero_le _, rfl, rfl, HW0.out, HBO.out⟩
      case round =>
        obtain ⟨i, hi, rfl, rfl, hws, hbw⟩ := hrel
        have HW1 := Lib.hid hws
        have HBM := Lib.hid hbw
        have sm := hbw.size
        clear hws hbw
        by_cases hil : i < n
        · obtain ⟨hsu, hlu⟩ := foldT_small (W := WL d) (tz := tz) HSM.out HINV.out.len i hi
          have HSU := Lib.hid hsu
          have HLU := Lib.hid hlu
          have HST := Lib.hid (foldT_succ (WL d) n tz i T)
          have HMK := Lib.hid (movK_succ (WL d) n tz i T)
          obtain ⟨U, hU⟩ : ∃ U, foldT (WL d) n tz i T = U := ⟨_, rfl⟩
          obtain ⟨q, hq⟩ : ∃ q, movK (WL d) n tz T i = q := ⟨_, rfl⟩
          rw [hU] at HW1 HSU HLU HST HMK
          rw [hq] at HMK ⊢
          clear hsu hlu hU hq
          by_cases hit : i = tz
          · have t0 : ((i : Int) == (tz : Int)) = true := by rw [hit]; simp
            have HS1 : Hid (foldT (WL d) n tz (i + 1) T = U) := Lib.hid (by rw [HST.out]; unfold stepP; rw [if_pos hit])
            have HM1 : Hid (movK (WL d) n tz T (i + 1) = q) := Lib.hid (by rw [HMK.out]; unfold movS; simp [hit])
            clear hit
            go_wp2
            go_roundw
            case rel => exact ⟨i + 1, by omega, by go_num, by rw [HM1.out], by rw [HS1.out]; exact HW1.out, HBM.out⟩
            case measure => simp [intOf]; omega
          · have t0 : ((i : Int) == (tz : Int)) = false := by simp; omega
            have HIT := Lib.hid hit
            obtain ⟨wm, rfl⟩ : ∃ wm : World, wm = wr := ⟨_, rfl⟩
            clear hit
            have hgw2 : g < w2.heap.size + 1 := by rw [HG.out]; omega
            have hgm : g < wm.heap.size := HW1.out.lt
            have hbx := heap_alloc_new wm (.cells #[.int .i64 0, .slice none 0 0] 26)
            have hba : Below wm.heap.size wm (wm.alloc (.cells #[.int .i64 0, .slice none 0 0] 26)) := (Below.refl _ _).alloc (Nat.le_refl _) _
            have HTA := Lib.hid (HTAB.out.below (HBM.out.trans (hba.mono sm)))
            have HWA := Lib.hid (HW1.out.below hba)
            have HBA := Lib.hid (HBM.out.trans (hba.mono sm))
            have HBX := Lib.hid hbx
            have sa := HBA.out.size
            have hsz : (wm.alloc (.cells #[.int .i64 0, .slice none 0 0] 26)).heap.size = wm.heap.size + 1 := by simp
            obtain ⟨gb, hgb⟩ : ∃ gb, wm.heap.size = gb := ⟨_, rfl⟩
            rw [hgb] at hsz
            have HSZ := Lib.hid hsz
            have HGB := Lib.hid hgb
            have HOFF := Lib.hid (offers_any HTA.out (HWA.out.read (by omega)) hil h8 HWF.out (HSU.out.len h8))
            have hgbg : g < gb := by omega
            have hw2gb : w2.heap.size ≤ gb := by omega
            clear hbx hsz hgb
            go_wp2_with fail
            go_at_call 24
            (with_reducible refine HOFF.out.mono ?_)
            rintro e w5 ⟨v5, rfl, hown5, hb5⟩
            obtain ⟨A5, c5, rfl⟩ := hown5.form
            obtain ⟨O, hO⟩ : ∃ O, offersP (WL d) n U i = O := ⟨_, rfl⟩
            rw [hO] at hown5 ⊢
            obtain ⟨L, hL⟩ : ∃ L, O.length = L := ⟨_, rfl⟩
            rw [hL] at hown5 ⊢
            have hLn : L ≤ n := by rw [← hL, ← hO]; exact offK_len (WL d) U i n
            have HO5 := Lib.hid hown5.read
            rw [HSZ.out] at HO5
            have HB5 := Lib.hid (HBA.out.trans (hb5.mono sa))
            have HBG5 : Hid (Below gb wm w5) := Lib.hid (by rw [← HGB.out]; exact hba.trans (hb5.mono hba.size))
            have hb5x := below_block hb5 (size_of_block HBX.out) HBX.out
            rw [HGB.out] at hb5x ⊢
            have HBB : Hid (BestB w5 g gb (bestK O 0)) := Lib.hid ⟨⟨none, 0, hb5x, (show (Lit.int .i64 0).wf = true by decide), RdSlice.nil_⟩⟩
            have HOO := Lib.hid hO
            have HLL := Lib.hid hL
            have s5 := HB5.out.size
            clear hown5 hb5 hO hL hb5x hba
            go_wp2
            go_loopw [54] (fun t wr => ∃ j : Nat, j ≤ L ∧ t = .int .i64 j ∧ BestB wr g gb (bestK O j) ∧ Keep w5 wr gb ∧ Below gb wm wr) (fun t _ => L - (intOf t).toNat)
            case atStart => exact ⟨0, Nat.zero_le _, rfl, HBB.out, Keep.refl _ _, HBG5.out⟩
            case round =>
              obtain ⟨j, hj, rfl, hbest, hkeep, hbw⟩ := hrel
              have HBE := Lib.hid hbest
              have HKE := Lib.hid hkeep
              have HB6 := Lib.hid hbw
              have s6 : gb ≤ wr.heap.size := by have := hbw.size; rw [HGB.out] at this; exact this
              have hk6 := hkeep.size
              obtain ⟨Ab, cb, hbb, hbw1, hbr⟩ := hbest.ex
              obtain ⟨b, hbeq⟩ : ∃ b, bestK O j = b := ⟨_, rfl⟩
              rw [hbeq] at hbb hbw1 hbr
              obtain ⟨bt, bp⟩ := b
              obtain ⟨bn, hbn⟩ : ∃ bn, bp.length = bn := ⟨_, rfl⟩
              simp only at hbb hbw1 hbr
              rw [hbn] at hbb hbr
              have HBEQ := Lib.hid hbeq
              have HBB6 := Lib.hid hbb
              have HBR := Lib.hid hbr
              have HBN := Lib.hid hbn
              have HBW := Lib.hid hbw1
              have hgbl := size_of_block hbb
              obtain ⟨q0, q1, f0, f1⟩ := row2 hbb
              clear hbest hkeep hbw hbeq hbb hbw1 hbr hbn
              by_cases hjl : j < L
              · obtain ⟨bo, oo, tx, px, A', c', rfl, hbo, HX, wtx, hpx, d0, d1⟩ := RdSlice.atW HO5.out hjl
                obtain ⟨np, hnp⟩ : ∃ np, px.length = np := ⟨_, rfl⟩
                rw [hnp] at hpx d1
                have HNP := Lib.hid hnp
                have e0 := (HKE.out.cell (p := ⟨bo, oo + j * 2, none⟩) hbo.2 (by have := hbo.1; simp only; omega)).trans d0
                have e1 := (HKE.out.cell (p := ⟨bo, oo + j * 2 + 1, none⟩) hbo.2 (by have := hbo.1; simp only; omega)).trans d1
                have hpr : RdSlice 1 (rdInt .i64) wr (fun b => gb + 1 ≤ b ∧ b < wr.heap.size) [.slice A' np c'] px := RdLaw.mono (RdLaw.keep hpx (fun y hy => HKE.out.cell hy.2 (by have := hy.1; omega))) (fun b hb => ⟨hb.1, Nat.lt_of_lt_of_le hb.2 hk6⟩)
                obtain ⟨r, hr⟩ : ∃ r, betterB (tx, px) (bt, bp) = r := ⟨_, rfl⟩
                have hw7 : Below wr.heap.size wr (wr.alloc (.cells #[.int .i64 tx, .slice A' np c'] 26)) := (Below.refl _ _).alloc (Nat.le_refl _) _
                have HBT := Lib.hid (Better_any (w := wr.alloc (.cells #[.int .i64 tx, .slice A' np c'] 26)) (ok := fun b => gb + 1 ≤ b ∧ b < wr.heap.size) (ok' := fun x => x < wr.heap.size ∧ x ≠ gb ∧ x ≠ g) (RdLaw.keep hpr (fun y hy => hw7.cell hy.2)) (RdLaw.keep HBR.out (fun y hy => hw7.cell hy.1)) (fun b hb => by simp; omega) (fun b hb => by simp; omega) hr)
                have HPR := Lib.hid hpr
                have HBS := Lib.hid (show bestK O (j + 1) = if r = true then (tx, px) else (bt, bp) by rw [bestK_succ HX.out, HBEQ.out, hr])
                have HBXX := Lib.hid (heap_alloc_new wr (.cells #[.int .i64 tx, .slice A' np c'] 26))
                have HWTX := Lib.hid wtx
                have nb : ¬ gb = wr.heap.size := by omega
                have nb2 : ¬ wr.heap.size = gb := by omega
                have j0 : (0 : Int) ≤ (j : Int) := by omega
                have j1 : (j : Int) < (L : Int) := by omega
                clear hr hnp hpx hpr d0 d1 hw7 wtx
                go_wp2_with fail
                go_at_call 12
                (with_reducible refine HBT.out.mono ?_)
                rintro e w7 ⟨rfl, hb7⟩
                have hx7 := below_block hb7 (size_of_block HBXX.out) HBXX.out
                obtain ⟨x0, x1, -, -⟩ := row2 hx7
                have hal : Below wr.heap.size wr (wr.alloc (.cells #[.int .i64 tx, .slice A' np c'] 26)) := (Below.refl _ _).alloc (Nat.le_refl _) _
                have hw77 : Below wr.heap.size wr w7 := hal.trans (hb7.mono hal.size)
                have hq7 := below_block hw77 hgbl HBB6.out
                obtain ⟨g0, g1, f0', f1'⟩ := row2 hq7
                have HBB7 := Lib.hid hq7
                have HB77 := Lib.hid hw77
                have HKE7 := Lib.hid (HKE.out.below hw77)
                have HBW7 := Lib.hid (HB6.out.trans (hw77.mono s6))
                have s7 := hw77.size
                clear hb7 hx7 hal hw77 hq7 q0 q1 f0 f1 e0 e1
                cases r
                · have HB8 : Hid (BestB w7 g gb (bestK O (j + 1))) := Lib.hid (by
                    rw [HBS.out, if_neg (by simp)]
                    exact ⟨⟨Ab, cb, by have h := HBB7.out; simpa only [HBN.out] using h, HBW.out, by show RdSlice _ _ _ _ [.slice Ab bp.length cb] bp; rw [HBN.out]; exact RdLaw.mono (RdLaw.keep HBR.out (fun y hy => HB77.out.cell hy.1)) (fun x hx => ⟨Nat.lt_of_lt_of_le hx.1 s7, hx.2⟩)⟩⟩)
                  go_wp2
                  go_roundw
                  case rel => exact ⟨j + 1, by omega, by go_num, HB8.out, HKE7.out, HBW7.out⟩
                  case measure => simp [intOf]; omega
                · have HB8 : Hid (BestB ((w7.setCell ⟨gb, 0, none⟩ (.int .i64 tx)).setCell ⟨gb, 1, none⟩ (.slice A' np c')) g gb (bestK O (j + 1))) := Lib.hid (by
                    rw [HBS.out, if_pos rfl]
                    exact ⟨⟨A', c', by have h := set2_block (.int .i64 tx) (.slice A' np c') HBB7.out; simpa only [HNP.out] using h, HWTX.out, by show RdSlice _ _ _ _ [.slice A' px.length c'] px; rw [HNP.out]; exact RdLaw.mono (RdLaw.keep HPR.out (fun y hy => by rw [World.cell?_setCell_far _ _ _ _ (by have := hy.1; simp only; omega), World.cell?_setCell_far _ _ _ _ (by have := hy.1; simp only; omega)]; exact HB77.out.cell hy.2)) (fun x hx => ⟨by simp; exact Nat.lt_of_lt_of_le hx.2 s7, by omega, by omega⟩)⟩⟩)
                  have HKE8 := Lib.hid ((HKE7.out.set 0 (.int .i64 tx)).set 1 (.slice A' np c'))
                  have HBW8 : Hid (Below gb wm ((w7.setCell ⟨gb, 0, none⟩ (.int .i64 tx)).setCell ⟨gb, 1, none⟩ (.slice A' np c'))) := Lib.hid ((HBW7.out.setCell (Nat.le_refl _) _).setCell (Nat.le_refl _) _)
                  go_wp2
                  go_roundw
                  case rel => exact ⟨j + 1, by omega, by go_num, HB8.out, HKE8.out, HBW8.out⟩
                  case measure => simp [intOf]; omega
              · have ej : j = L := by omega
                subst ej
                have HBP : Hid (bestP O = (bt, bp)) := Lib.hid (by rw [← bestK_all, HLL.out]; exact HBEQ.out)
                have HW6 := Lib.hid (HW1.out.below (show Below wm.heap.size wm wr by rw [HGB.out]; exact HB6.out))
                have HBZ : Hid (Below w2.heap.size w2 wr) := Lib.hid (HBM.out.trans (show Below w2.heap.size wm wr from HB6.out.mono hw2gb))
                obtain ⟨⟨ut, up⟩, hui⟩ : ∃ x, U[i]? = some x := ⟨_, List.getElem?_eq_getElem (by rw [HLU.out]; exact hil)⟩
                obtain ⟨Au, cu, u0, u1, -, hur, fu0, fu1⟩ := HW6.out.at_ hui
                have HUI := Lib.hid (wy_at hui)
                obtain ⟨un, hun⟩ : ∃ un, up.length = un := ⟨_, rfl⟩
                simp only at u0 u1 hur
                rw [hun] at u1 hur
                have HUR := Lib.hid hur
                have i3 : (0 : Int) ≤ (i : Int) := by omega
                have i4 : (i : Int) < (n : Int) := by omega
                have HEQ := Lib.hid (fun nn : Nat => Equal_any (w := wr.drewN nn) (RdLaw.drewN HBR.out nn) (RdLaw.drewN HUR.out nn))
                obtain ⟨eq, heq⟩ : ∃ eq, (bp == up) = eq := ⟨_, rfl⟩
                rw [heq] at HEQ
                have HEE := Lib.hid heq
                clear hui hun hur heq
                have nn1 : ¬ g = gb := by omega
                by_cases hbt : bt = ut
                · have t1 : (bt != ut) = false := by simpa using hbt
                  have HBTU := Lib.hid hbt
                  clear hbt
                  cases eq
                  · have HNE : Hid ((bt, bp) ≠ (ut, up)) := Lib.hid (fun h => by have := HEE.out; simp only [Prod.mk.injEq] at h; rw [h.2] at this; simp at this)
                    go_wp2
                    go_quiet ((go_at_call 25; exact Calls.quiet_of (HEQ.out _)))
                    have HS1 : Hid (foldT (WL d) n tz (i + 1) T = U.set i (bt, bp)) := Lib.hid (by rw [HST.out]; unfold stepP; rw [if_neg HIT.out, HOO.out, HBP.out])
                    have HM1 : Hid (movK (WL d) n tz T (i + 1) = true) := Lib.hid (by rw [HMK.out]; unfold movS; rw [HOO.out, HBP.out, HUI.out, decide_eq_false HIT.out, bne_iff_ne.2 HNE.out]; simp)
                    have HWN := Lib.hid ((HW6.out.below (below_drewN (Below.refl _ _) nq)).set hil HBW.out (RdLaw.mono (RdLaw.keep HBR.out (fun _ _ => rfl)) (fun x hx => ⟨hx.1, hx.2.2⟩)))
                    have HBN2 : Hid (Below w2.heap.size w2 (((wr.drewN nq).setCell ⟨g, i * 2, none⟩ (.int .i64 bt)).setCell ⟨g, i * 2 + 1, none⟩ (.slice Ab bn cb))) := Lib.hid (((below_drewN HBZ.out nq).setCell (by rw [HG.out]; exact Nat.le_refl _) _).setCell (by rw [HG.out]; exact Nat.le_refl _) _)
                    go_wp2
                    go_roundw
                    case rel => exact ⟨i + 1, by omega, by go_num, by rw [HM1.out], by rw [HS1.out]; exact HWN.out, HBN2.out⟩
                    case measure => simp [intOf]; omega
                  · have HNE : Hid ((bt, bp) = (ut, up)) := Lib.hid (by have := HEE.out; rw [HBTU.out, eq_of_beq this])
                    have HS1 : Hid (foldT (WL d) n tz (i + 1) T = U) := Lib.hid (by rw [HST.out]; exact step_same HLU.out hil (fun _ => by rw [HUI.out, ← HNE.out, HOO.out, HBP.out]))
                    have HM1 : Hid (movK (WL d) n tz T (i + 1) = q) := Lib.hid (by rw [HMK.out]; unfold movS; rw [HOO.out, HBP.out, HUI.out, HNE.out]; simp)
                    go_wp2
                    go_quiet ((go_at_call 25; exact Calls.quiet_of (HEQ.out _)))
                    have HWN := Lib.hid (HW6.out.below (below_drewN (Below.refl _ _) nq))
                    go_wp2
                    go_roundw
                    case rel => exact ⟨i + 1, by omega, by go_num, by rw [HM1.out], by rw [HS1.out]; exact HWN.out, below_drewN HBZ.out nq⟩
                    case measure => simp [intOf]; omega
                · have t1 : (bt != ut) = true := by simpa using hbt
                  have HNE : Hid ((bt, bp) ≠ (ut, up)) := Lib.hid (fun h => hbt (by simp only [Prod.mk.injEq] at h; exact h.1))
                  clear hbt
                  go_wp2
                  go_quiet ((go_at_call 25; exact Calls.quiet_of (HEQ.out _)))
                  have HS1 : Hid (foldT (WL d) n tz (i + 1) T = U.set i (bt, bp)) := Lib.hid (by rw [HST.out]; unfold stepP; rw [if_neg HIT.out, HOO.out, HBP.out])
                  have HM1 : Hid (movK (WL d) n tz T (i + 1) = true) := Lib.hid (by rw [HMK.out]; unfold movS; rw [HOO.out, HBP.out, HUI.out, decide_eq_false HIT.out, bne_iff_ne.2 HNE.out]; simp)
                  have HWN := Lib.hid ((HW6.out.below (below_drewN (Below.refl _ _) nq)).set hil HBW.out (RdLaw.mono (RdLaw.keep HBR.out (fun _ _ => rfl)) (fun x hx => ⟨hx.1, hx.2.2⟩)))
                  have HBN2 : Hid (Below w2.heap.size w2 (((wr.drewN nq).setCell ⟨g, i * 2, none⟩ (.int .i64 bt)).setCell ⟨g, i * 2 + 1, none⟩ (.slice Ab bn cb))) := Lib.hid (((below_drewN HBZ.out nq).setCell (by rw [HG.out]; exact Nat.le_refl _) _).setCell (by rw [HG.out]; exact Nat.le_refl _) _)
                  go_wp2
                  go_roundw
                  case rel => exact ⟨i + 1, by omega, by go_num, by rw [HM1.out], by rw [HS1.out]; exact HWN.out, HBN2.out⟩
                  case measure => simp [intOf]; omega
        · have ei : i = n := by omega
          subst ei
          have hml : movK (WL d) i tz T i = mov (WL d) i tz T := rfl
          rw [hml]
          obtain ⟨q, hq⟩ : ∃ q, mov (WL d) i tz T = q := ⟨_, rfl⟩
          rw [hq]
          have HQ := Lib.hid hq
          have HPI := Lib.hid (pass_inv HOK.out.okw hto HINV.out)
          have HPS := Lib.hid (foldT_small (W := WL d) (tz := tz) HSM.out HINV.out.len i (Nat.le_refl _)).1
          have HMU0 := Lib.hid (@muW_of (WL d) i tz g true _ T HW0.out)
          have HMU1 := Lib.hid (@muW_of (WL d) i tz g q _ _ HW1.out)
          have HNO : Hid (q = false → mov (WL d) i tz (foldT (WL d) i tz i T) = false) := Lib.hid (fun h => by
            have h1 := HQ.out.trans h
            have h2 := (mov_no HINV.out.len (List.range i) (fun k hk => by simpa using hk) h1).1
            have h3 : foldT (WL d) i tz i T = T := h2
            rw [h3]; exact h1)
          have HLT : Hid (2 * rankT (WL d) i tz (foldT (WL d) i tz i T) + (if q then 1 else 0) < 2 * rankT (WL d) i tz T + 1) := Lib.hid (by
            cases q
            · have h2 := (mov_no HINV.out.len (List.range i) (fun k hk => by simpa using hk) HQ.out).1
              have h3 : foldT (WL d) i tz i T = T := h2
              rw [h3]; simp
            · have h2 := ends_at HOK.out.okw hto HINV.out HQ.out
              have h3 : rankT (WL d) i tz (foldT (WL d) i tz i T) < rankT (WL d) i tz T := h2
              simp; omega)
          clear hq hml
          go_wp2
          go_roundw
          case rel => exact ⟨q, _, rfl, HPI.out, HNO.out, HPS.out, HW1.out, HBM.out⟩
          case measure =>
            have h1 := HLT.out
            show muW _ _ _ _ (boolOf (.bool q)) _ < muW _ _ _ _ (boolOf (.bool true)) _
            simp only [boolOf]
            rw [HMU0.out, HMU1.out]
            simpa using h1
end Go.Proofs.YtnihheikaddmoaaDoor
