/- waywardenref2.UpOf. -/
import Derived.Test.YtccgaflbhpagcaaDoorRootOf
import Derived.Test.YtccgaflbhpagcaaDoorLongOf
namespace Go.Proofs.YtccgaflbhpagcaaDoor
open Go.ChangeShapes Go.WideShapes Go.ChangeAt Go.RowKit Sp
set_option linter.unusedVariables false
set_option linter.unusedSimpArgs false
def upAt (u : Int) (k : Nat) : Int := if 0 ≤ u ∧ u < k then u else -1
theorem upAt_lo (u : Int) (k : Nat) : -1 ≤ upAt u k := by unfold upAt; split <;> omega
theorem upAt_yes {u : Int} {k : Nat} (h : u = k) : upAt u k = -1 ∧ upAt u (k + 1) = k := by unfold upAt; rw [if_neg (by omega), if_pos (by omega)]; exact ⟨rfl, h⟩
theorem upAt_no {u : Int} {k : Nat} (h : u ≠ k) : upAt u (k + 1) = upAt u k := by
  unfold upAt
  by_cases h1 : 0 ≤ u ∧ u < k
  · rw [if_pos h1, if_pos (by omega)]
  · rw [if_neg h1, if_neg (by omega)]
theorem upAt_in {u : Int} {k : Nat} (h0 : 0 ≤ u) (h : u < k) : upAt u k = u := by unfold upAt; rw [if_pos ⟨h0, h⟩]
theorem upAt_end {u : Int} {n : Nat} (h : u = -1 ∨ 0 ≤ u ∧ u < n) : upAt u n = u := by unfold upAt; split <;> omega
theorem cost_bd {n : Nat} {l : List Lnk} (ok : OkL n l) (a b : Int) : 0 ≤ costL l a b ∧ costL l a b ≤ 16 := by
  unfold costL
  split
  · omega
  · have key : ∀ (m : List Lnk), (∀ x ∈ m, x ∈ l) → 0 ≤ costR a b m ∧ costR a b m ≤ 16 := by
      intro m
      induction m with
      | nil => intro _; exact ⟨by simp [costR], by simp [costR]⟩
      | cons z q ih =>
        intro hm
        unfold costR
        split
        · have := ok.rng z (hm z (by simp)); omega
        · exact ih (fun x hx => hm x (by simp [hx]))
    exact key l (fun _ h => h)
set_option maxRecDepth 100000 in
set_option maxHeartbeats 8000000 in
theorem UpOf_any {w : World} {n i : Nat} {A : Option Addr} {m c : Nat} {l : List Lnk} {B : List Bel} (hl : R1 rdLinks w (.slice A m c) l) (hok : OkL n l) (hf : Fin n (arcsOf l) B) (hi : i < n) (h8 : n ≤ 8) (hbd : ∀ k, k < n → (at_ B k).2.1 ≤ 1000) :
    Calls Tryd.prog 7 #[.int .i64 n, .slice A m c, .int .i64 i] w fun e w' => e = .returned (.int .i64 (at_ B i).2.2) ∧ Below w.heap.size w w' := by
  obtain ⟨r, hr, hr1, hr2, -, -⟩ := root_root (ok_arcs hok) hf hi
  have HL := Lib.hid hl
  have HOK := Lib.hid hok
  have HF := Lib.hid hf
  have HR1 := Lib.hid hr1
  have HR2 := Lib.hid hr2
  have HBD := Lib.hid hbd
  have HUB : Hid ((at_ B i).2.2 = -1 ∨ 0 ≤ (at_ B i).2.2 ∧ (at_ B i).2.2 < n) := Lib.hid (by
    rcases (hf.node i hi).2.2.2 with ⟨e, _⟩ | ⟨y, c, e, hE, _⟩
    · exact .inl e
    · have := ((ok_arcs hok).lt _ hE).1; simp only at this; exact .inr ⟨by omega, by omega⟩)
  have HRC := Lib.hid (RootOf_any hl hok hf hi h8)
  rw [hr1] at HRC
  obtain ⟨u, hu⟩ : ∃ u, (at_ B i).2.2 = u := ⟨_, rfl⟩
  rw [hu] at HUB ⊢
  have HU := Lib.hid hu
  clear hl hok hf hr1 hr2 hbd hu
  go_enter Tryd.func7, Tryd.ntmps7
  go_wp2_with fail
  go_at_call 6
  (with_reducible refine HRC.out.mono ?_)
  rintro e w1 ⟨rfl, hb1⟩
  have HB1 := Lib.hid hb1
  have s1 := hb1.size
  have HL1 := Lib.hid (HL.out.below hb1)
  clear hb1
  go_wp2_with fail
  go_at_call 14
  (with_reducible refine (LongOf_any HL1.out HOK.out HF.out hr HR2.out h8 HBD.out).mono ?_)
  rintro e w2 ⟨v2, D, rfl, hown, hlt, hb2⟩
  have hDl := hlt.lng.len
  obtain ⟨gd, cd, rfl, -, -⟩ := hown.some_ (by omega)
  rw [hDl] at hown ⊢
  have HB2 := Lib.hid (HB1.out.trans (hb2.mono s1))
  have HO := Lib.hid hown
  have HT := Lib.hid hlt
  have HL2 := Lib.hid (HL1.out.below hb2)
  have HDL := Lib.hid hDl
  have HG := Lib.hid (fun (k : Nat) (hk : k < n) => good_iff HOK.out HF.out hlt hi hk HR1.out)
  obtain ⟨e0, -⟩ := hown.at_ (dGet_at (i := i) (by rw [hDl]; exact hi))
  obtain ⟨d0, d1⟩ := hlt.lng.bd i hi
  obtain ⟨di, hdi⟩ : ∃ di, dGet D i = di := ⟨_, rfl⟩
  rw [hdi] at e0 d0 d1
  have HDI := Lib.hid hdi
  rw [HU.out] at HG
  clear hown hlt hb2 hDl hdi
  go_wp2
  go_loopw [8, 9] (fun v t wr => ∃ k : Nat, k ≤ n ∧ t = .int .i64 k ∧ v = .int .i64 (upAt u k) ∧ Below w2.heap.size w2 wr) (fun _ t _ => n - (intOf t).toNat)
  case atStart => exact ⟨0, Nat.zero_le _, rfl, by rw [show upAt u 0 = -1 from by unfold upAt; rw [if_neg (by omega)]], Below.refl _ _⟩
  case round =>
    obtain ⟨k, hk, rfl, rfl, hb⟩ := hrel
    have HB := Lib.hid hb
    have e0' := (hb.cell (World.block_lt_of_cell? w2 _ e0)).trans e0
    by_cases hlt : k < n
    · obtain ⟨ek, -⟩ := HO.out.at_ (dGet_at (i := k) (by rw [HDL.out]; exact hlt))
      obtain ⟨dk0, dk1⟩ := HT.out.lng.bd k hlt
      have hcb := cost_bd HOK.out i k
      have hg := HG.out k hlt
      have hcc := Cost_any (w := wr) (ok := (· < wr.heap.size)) (show rdLinks wr (· < wr.heap.size) [.slice A m c] l from HL2.out.below hb) (i : Int) (k : Int)
      have ek' := (hb.cell (World.block_lt_of_cell? w2 _ ek)).trans ek
      obtain ⟨cc, hcc'⟩ : ∃ cc, costL l i k = cc := ⟨_, rfl⟩
      obtain ⟨dk, hdk⟩ : ∃ dk, dGet D k = dk := ⟨_, rfl⟩
      rw [hcc'] at hcb hcc
      rw [hdk] at dk0 dk1 ek'
      obtain ⟨cb0, cb1⟩ := hcb
      have HCC := Lib.hid hcc
      have HGG : Hid ((0 < di ∧ (k : Int) ≠ i ∧ cc < 16 ∧ dk + cc = di → 0 ≤ u ∧ u ≤ k) ∧ (u = (k : Int) → 0 < di ∧ (k : Int) ≠ i ∧ cc < 16 ∧ dk + cc = di)) := Lib.hid (by
        rw [← hcc', ← hdk, ← HDI.out]
        exact ⟨fun ⟨a, b, c, d⟩ => hg.1 ⟨a, b, c, d⟩, fun h => by have g := hg.2 h; exact ⟨g.pos, g.ne, g.lt, g.eq⟩⟩)
      clear hcc hcc' hdk hg ek hb e0
      have hwr : IntKind.i64.wrap (dk + cc) = dk + cc := by rw [IntKind.wrap_i64]; omega
      have i0 : (0 : Int) ≤ (i : Int) := by omega
      have i1 : (i : Int) < (n : Int) := by omega
      have i2 : (0 : Int) ≤ (k : Int) := by omega
      have i3 : (k : Int) < (n : Int) := by omega
      by_cases huk : u = (k : Int)
      · obtain ⟨g1, g2, g3, g4⟩ := HGG.out.2 huk
        have ha := upAt_yes huk
        rw [ha.1]
        have HA := Lib.hid ha.2
        have t1 : decide (0 < di) = true := decide_eq_true g1
        have t2 : ((k : Int) != (i : Int)) = true := by simpa using g2
        have t3 : decide (cc < 16) = true := decide_eq_true g3
        have t4 : (dk + cc == di) = true := by simpa using g4
        clear huk ha g1 g2 g3 g4
        go_wp2_with fail
        go_at_call 15
        (with_reducible refine HCC.out.mono ?_)
        rintro e w4 ⟨rfl, rfl⟩
        go_wp2
        go_quiet (fail)
        go_wp2
        go_roundw
        case rel => exact ⟨k + 1, by omega, by go_num, by rw [HA.out], below_drewN HB.out _⟩
        case measure => simp [intOf]; omega
      · have HA := Lib.hid (upAt_no huk)
        have hal := upAt_lo u k
        have HUA := Lib.hid (fun (h0 : 0 ≤ u) (h : u < k) => upAt_in h0 h)
        obtain ⟨av, hav⟩ : ∃ av, upAt u k = av := ⟨_, rfl⟩
        rw [hav] at HA hal HUA ⊢
        clear hav
        by_cases g1 : 0 < di
        · have t1 : decide (0 < di) = true := decide_eq_true g1
          by_cases g2 : (k : Int) ≠ i
          · have t2 : ((k : Int) != (i : Int)) = true := by simpa using g2
            by_cases g3 : cc < 16
            · have t3 : decide (cc < 16) = true := decide_eq_true g3
              by_cases g4 : dk + cc = di
              · have t4 : (dk + cc == di) = true := by simpa using g4
                have hh := HGG.out.1 ⟨g1, g2, g3, g4⟩
                have hav2 := HUA.out hh.1 (by omega)
                have t5 : decide (av < 0) = false := decide_eq_false (by omega)
                clear g2 g4 hh hav2 huk
                go_wp2_with fail
                go_at_call 15
                (with_reducible refine HCC.out.mono ?_)
                rintro e w4 ⟨rfl, rfl⟩
                go_wp2
                go_quiet (fail)
                go_wp2
                go_roundw
                case rel => exact ⟨k + 1, by omega, by go_num, by rw [HA.out], below_drewN HB.out _⟩
                case measure => simp [intOf]; omega
              · have t4 : (dk + cc == di) = false := by simpa using g4
                clear g2 g4 huk
                go_wp2_with fail
                go_at_call 15
                (with_reducible refine HCC.out.mono ?_)
                rintro e w4 ⟨rfl, rfl⟩
                go_wp2
                go_quiet (fail)
                go_wp2
                go_roundw
                case rel => exact ⟨k + 1, by omega, by go_num, by rw [HA.out], below_drewN HB.out _⟩
                case measure => simp [intOf]; omega
            · have t3 : decide (cc < 16) = false := decide_eq_false g3
              clear g2 huk
              go_wp2_with fail
              go_at_call 15
              (with_reducible refine HCC.out.mono ?_)
              rintro e w4 ⟨rfl, rfl⟩
              go_wp2
              go_quiet (fail)
              go_wp2
              go_roundw
              case rel => exact ⟨k + 1, by omega, by go_num, by rw [HA.out], below_drewN HB.out _⟩
              case measure => simp [intOf]; omega
          · have t2 : ((k : Int) != (i : Int)) = false := by simpa using g2
            clear g2 huk
            go_wp2_with fail
            go_at_call 15
            (with_reducible refine HCC.out.mono ?_)
            rintro e w4 ⟨rfl, rfl⟩
            go_wp2
            go_quiet (fail)
            go_wp2
            go_roundw
            case rel => exact ⟨k + 1, by omega, by go_num, by rw [HA.out], below_drewN HB.out _⟩
            case measure => simp [intOf]; omega
        · have t1 : decide (0 < di) = false := decide_eq_false g1
          clear huk
          go_wp2_with fail
          go_at_call 15
          (with_reducible refine HCC.out.mono ?_)
          rintro e w4 ⟨rfl, rfl⟩
          go_wp2
          go_quiet (fail)
          go_wp2
          go_roundw
          case rel => exact ⟨k + 1, by omega, by go_num, by rw [HA.out], below_drewN HB.out _⟩
          case measure => simp [intOf]; omega
    · have ek : k = n := by omega
      subst ek
      have HE := Lib.hid (upAt_end HUB.out)
      go_wp2
      go_ret
      exact ⟨by show Ending.returned (.int .i64 (upAt u k)) = _; rw [HE.out], HB2.out.trans (HB.out.mono HB2.out.size)⟩
end Go.Proofs.YtccgaflbhpagcaaDoor
