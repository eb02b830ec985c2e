/- slices.stableCmpFunc and slices.SortStableFunc over indices that are compared by their keys. -/
import Derived.Test.YtplojnlmofbneaaDoorStabU
import Derived.Test.YtplojnlmofbneaaDoorStabQ
namespace Go.Proofs.YtplojnlmofbneaaDoor
open Go.ChangeShapes Go.WideShapes Go.ChangeAt Go.RowKit
set_option linter.unusedVariables false
set_option linter.unusedSimpArgs false
theorem sym_all {w0 : World} {g G n c N : Nat} {K : Int → Int} (hC : CmpC w0 g G N K) (h63 : n ≤ 1000) (sz : Nat) : SymC w0 g G n c N K sz := by
  induction sz with
  | zero => intro w P U V Q x m y hs hu hv; omega
  | succ sz ih =>
    intro w P U V Q x m y hs hu hv hS hU hV sU sV hF hn hx hm hy
    by_cases h1 : U.length = 1
    · obtain ⟨u, rfl⟩ := List.length_eq_one_iff.1 h1
      exact sym_left (by simpa using hS) hC (hU u (by simp)) hV sV (fun z hz => hF u (by simp) z hz) (by simpa using hn) h63 hx (by simpa using hm) (by simpa using hy)
    · by_cases h2 : V.length = 1
      · obtain ⟨v, rfl⟩ := List.length_eq_one_iff.1 h2
        exact sym_right (by simpa using hS) hC (hV v (by simp)) hU sU (fun z hz => hF z hz v (by simp)) (by omega) (by simpa using hn) h63 hx hm (by simpa using hy)
      · exact sym_step ih hS hC hU hV sU sV hF (by omega) (by omega) (by omega) hn h63 hx hm hy
theorem dvd_le {d a b : Nat} (ha : d ∣ a) (hb : d ∣ b) (h : b < a + d) : b ≤ a := by
  rcases Nat.lt_or_ge a b with h1 | h1
  · have := Nat.le_of_dvd (by omega) (Nat.dvd_sub hb ha)
    omega
  · exact h1
/-- insertion on a piece of the row -/
theorem insertion_seg {w0 w : World} {g G n c N s : Nat} {K : Int → Int} {U X : List Int} {a : Nat} {x y : Int} (h : St w0 g X w) (hC : CmpC w0 g G N K) (hN : InN N U) (hA : U.Pairwise (· < ·)) (hl : X.length = U.length) (hd : X.drop a = U.drop a) (ha : a ≤ X.length) (hn : n = X.length) (h63 : n ≤ 1000) (hx : x = (a : Int)) (hy : y = ((min (a + s) n : Nat) : Int)) :
    Calls Tryd.prog 72 #[.slice (some ⟨g, 0, none⟩) n c, .int .i64 x, .int .i64 y, cmpV G] w fun e w' => e = .returned (.tuple #[]) ∧ ∃ W, (W.Perm (Seg U a s) ∧ Srtd K W) ∧ St w0 g (X.take a ++ (W ++ X.drop (a + s))) w' := by
  have e : Seg X a s = Seg U a s := by unfold Seg; rw [hd]
  have hta : (X.take a).length = a := by rw [List.length_take]; omega
  have hsp := seg_split X a s
  rw [hsp] at h
  have hh := insertion_any (P := X.take a) (U := Seg X a s) (Q := X.drop (a + s)) (n := n) (c := c) (x := x) (y := y) h hC (by rw [e]; exact fun z hz => hN z (seg_sub hz)) (by rw [e]; exact (hA.sublist ((List.take_sublist _ _).trans (List.drop_sublist _ _)))) (by rw [← hsp]; exact hn) h63 (by rw [hta]; exact hx) (by rw [hta, seg_len, hy]; omega)
  exact hh.mono fun e' w' ⟨h1, W, h2, h3, h4⟩ => ⟨h1, W, ⟨by rw [← e]; exact h2, h3⟩, h4⟩
/-- the merge of two pieces of the row that lie one behind the other -/
theorem merge_seg {w0 w : World} {g G n c N s t : Nat} {K : Int → Int} {U X : List Int} {a : Nat} {x m y : Int} (h : St w0 g X w) (hC : CmpC w0 g G N K) (hN : InN N U) (hA : U.Pairwise (· < ·)) (hl : X.length = U.length) (g1 : Gd K U X a s) (g2 : Gd K U X (a + s) t) (hs : 0 < s) (ht : 0 < t) (has : a + s < X.length) (hn : n = X.length) (h63 : n ≤ 1000) (hx : x = (a : Int)) (hm : m = ((a + s : Nat) : Int)) (hy : y = ((min (a + s + t) n : Nat) : Int)) :
    Calls Tryd.prog 73 #[.slice (some ⟨g, 0, none⟩) n c, .int .i64 x, .int .i64 m, .int .i64 y, cmpV G] w fun e w' => e = .returned (.tuple #[]) ∧ ∃ W, (W.Perm (Seg U a (s + t)) ∧ Srtd K W) ∧ St w0 g (X.take a ++ (W ++ X.drop (a + (s + t)))) w' := by
  have hta : (X.take a).length = a := by rw [List.length_take]; omega
  have hsp : X = X.take a ++ (Seg X a s ++ (Seg X (a + s) t ++ X.drop (a + (s + t)))) := by
    have h1 := seg_split X a s
    have h2 := seg_split X (a + s) t
    have h3 := seg_split X a (s + t)
    rw [seg_add] at h3
    rw [List.append_assoc] at h3
    exact h3
  have l1 : (Seg X a s).length = s := by rw [seg_len]; omega
  have l2 : (Seg X (a + s) t).length = min t (X.length - (a + s)) := seg_len _ _ _
  have hS := h
  rw [hsp] at hS
  have hh := sym_all (w0 := w0) (g := g) (G := G) (n := n) (c := c) (N := N) (K := K) hC h63 ((Seg X a s).length + (Seg X (a + s) t).length) (w := w) (P := X.take a) (U := Seg X a s) (V := Seg X (a + s) t) (Q := X.drop (a + (s + t))) (x := x) (m := m) (y := y) (Nat.le_refl _) (by omega) (by omega) hS
    (fun z hz => hN z (seg_sub (g1.2.mem_iff.1 hz))) (fun z hz => hN z (seg_sub (g2.2.mem_iff.1 hz))) g1.1 g2.1 ((seg_fb hA).perm g1.2 g2.2) (by rw [← hsp]; exact hn) (by rw [hta]; exact hx) (by rw [hta, l1, hm]; simp) (by rw [hta, l1, l2, hy]; omega)
  exact hh.mono fun e' w' ⟨h1, W, ⟨h2, h3⟩, h4⟩ => ⟨h1, W, ⟨(merged hl g1 g2 h2 h3).1, h3⟩, h4⟩
set_option maxRecDepth 100000 in
set_option maxHeartbeats 8000000 in
theorem stable_any {w0 w : World} {g G n c N : Nat} {K : Int → Int} {U : List Int} (h : St w0 g U w) (hC : CmpC w0 g G N K) (hN : InN N U) (hA : U.Pairwise (· < ·)) (hn : n = U.length) (h63 : n ≤ 1000) :
    Calls Tryd.prog 62 #[.slice (some ⟨g, 0, none⟩) n c, .int .i64 n, cmpV G] w fun e w' => e = .returned (.tuple #[]) ∧ ∃ W, (W.Perm U ∧ Srtd K W) ∧ St w0 g W w' := by
  have HS := Lib.hid h
  have HC := Lib.hid hC
  have HN := Lib.hid hN
  have HA := Lib.hid hA
  have HL := Lib.hid hn
  clear h hC hN hA hn
  go_enter Tryd.func62, Tryd.ntmps62
  go_wp2
  go_loopw [7, 8] (fun av bv wr => ∃ (a : Nat) (X : List Int), a ≤ n ∧ av = .int .i64 (a : Int) ∧ bv = .int .i64 ((a : Int) + 20) ∧ Hid (20 ∣ a ∧ X.length = U.length ∧ X.drop a = U.drop a ∧ ∀ a', 20 ∣ a' → a' < a → Gd K U X a' 20) ∧ St w0 g X wr) (fun av _ _ => n - (intOf av).toNat)
  case atStart => exact ⟨0, U, by omega, rfl, by congr 1, Lib.hid ⟨Nat.dvd_zero _, rfl, rfl, fun a' _ h => by omega⟩, HS.out⟩
  case round =>
    obtain ⟨a, X, han, rfl, rfl, HX, hS⟩ := hrel
    have HSx := Lib.hid hS
    clear hS
    by_cases hlt : a + 20 ≤ n
    · have HI : Hid (∀ x y : Int, x = (a : Int) → y = (a : Int) + 20 → Calls Tryd.prog 72 #[.slice (some ⟨g, 0, none⟩) n c, .int .i64 x, .int .i64 y, cmpV G] wr fun e w' => e = .returned (.tuple #[]) ∧ ∃ W, (W.Perm (Seg U a 20) ∧ Srtd K W) ∧ St w0 g (X.take a ++ (W ++ X.drop (a + 20))) w') := Lib.hid (fun x y hx hy => by
        obtain ⟨h1, h2, h3, h4⟩ := HX.out
        exact insertion_seg HSx.out HC.out HN.out HA.out h2 h3 (by rw [h2, ← HL.out]; omega) (by rw [h2]; exact HL.out) h63 hx (by rw [hy]; omega))
      go_wp2_with fail
      (with_reducible refine (HI.out _ _ rfl rfl).mono ?_)
      rintro e w2 ⟨rfl, W, hW, hS2⟩
      have HS2 := Lib.hid hS2
      have HX2 : Hid (20 ∣ a + 20 ∧ (X.take a ++ (W ++ X.drop (a + 20))).length = U.length ∧ (X.take a ++ (W ++ X.drop (a + 20))).drop (a + 20) = U.drop (a + 20) ∧ ∀ a', 20 ∣ a' → a' < a + 20 → Gd K U (X.take a ++ (W ++ X.drop (a + 20))) a' 20) := Lib.hid (by
        obtain ⟨h1, h2, h3, h4⟩ := HX.out
        obtain ⟨p1, p2, p3, p4, p5⟩ := put_seg (s := 20) h2 hW.1 hW.2 (by rw [h2, ← HL.out]; omega)
        refine ⟨by omega, p1, by rw [p5, ← List.drop_drop, h3, List.drop_drop], fun a' hd hlt => ?_⟩
        by_cases e : a' = a
        · rw [e]; exact p2
        · exact p3 a' 20 (by omega) (h4 a' hd (by omega)))
      clear hS2 hW
      go_wp2
      go_roundw
      case rel => exact ⟨a + 20, _, by omega, by go_num, by go_num, HX2, HS2.out⟩
      case measure => simp [intOf]; try omega
    · have HI : Hid (∀ x y : Int, x = (a : Int) → y = (n : Int) → Calls Tryd.prog 72 #[.slice (some ⟨g, 0, none⟩) n c, .int .i64 x, .int .i64 y, cmpV G] wr fun e w' => e = .returned (.tuple #[]) ∧ ∃ W, (W.Perm (Seg U a 20) ∧ Srtd K W) ∧ St w0 g (X.take a ++ (W ++ X.drop (a + 20))) w') := Lib.hid (fun x y hx hy => by
        obtain ⟨h1, h2, h3, h4⟩ := HX.out
        exact insertion_seg HSx.out HC.out HN.out HA.out h2 h3 (by rw [h2, ← HL.out]; omega) (by rw [h2]; exact HL.out) h63 hx (by rw [hy]; omega))
      go_wp2_with fail
      (with_reducible refine (HI.out _ _ rfl rfl).mono ?_)
      rintro e w2 ⟨rfl, W, hW, hS2⟩
      have HS2 := Lib.hid hS2
      have HX2 : Hid ((X.take a ++ (W ++ X.drop (a + 20))).length = U.length ∧ ∀ a', 20 ∣ a' → Gd K U (X.take a ++ (W ++ X.drop (a + 20))) a' 20) := Lib.hid (by
        obtain ⟨h1, h2, h3, h4⟩ := HX.out
        obtain ⟨p1, p2, p3, p4, p5⟩ := put_seg (s := 20) h2 hW.1 hW.2 (by rw [h2, ← HL.out]; omega)
        refine ⟨p1, fun a' hd => ?_⟩
        rcases Nat.lt_trichotomy a' a with h | h | h
        · exact p3 a' 20 (by omega) (h4 a' hd h)
        · rw [h]; exact p2
        · exact Gd.empty p1 (by rw [← HL.out]; omega))
      clear hS2 hW
      obtain ⟨Y, hY⟩ : ∃ Y, X.take a ++ (W ++ X.drop (a + 20)) = Y := ⟨_, rfl⟩
      rw [hY] at HX2 HS2
      clear hY HX HSx HI
      go_wp2
      go_loopw [6] (fun sv wr => ∃ (s : Nat) (X : List Int), 20 ≤ s ∧ s ≤ 2000 ∧ sv = .int .i64 (s : Int) ∧ Hid (X.length = U.length ∧ ∀ a', s ∣ a' → Gd K U X a' s) ∧ St w0 g X wr) (fun sv _ => n - (intOf sv).toNat)
      case atStart => exact ⟨20, Y, Nat.le_refl _, by omega, rfl, HX2, HS2.out⟩
      case round =>
        obtain ⟨s, X, hs1, hs2, rfl, HX, hS⟩ := hrel
        have HSx := Lib.hid hS
        clear hS
        by_cases hlt2 : s < n
        · go_wp2
          go_loopw [7, 8] (fun av bv wr => ∃ (a : Nat) (X : List Int), a ≤ n ∧ av = .int .i64 (a : Int) ∧ bv = .int .i64 ((a : Int) + 2 * (s : Int)) ∧ Hid ((s + s) ∣ a ∧ X.length = U.length ∧ (∀ a', (s + s) ∣ a' → a' < a → Gd K U X a' (s + s)) ∧ ∀ a', s ∣ a' → a ≤ a' → Gd K U X a' s) ∧ St w0 g X wr) (fun av _ _ => n - (intOf av).toNat)
          case atStart => exact ⟨0, X, by omega, rfl, by congr 1; omega, Lib.hid ⟨Nat.dvd_zero _, HX.out.1, fun a' _ h => by omega, fun a' h _ => HX.out.2 a' h⟩, HSx.out⟩
          case round =>
            clear HX HSx
            obtain ⟨a, X, han, rfl, rfl, HX, hS⟩ := hrel
            have HSx := Lib.hid hS
            clear hS
            by_cases hlt3 : a + (s + s) ≤ n
            · have hd3 : decide ((a : Int) + 2 * (s : Int) ≤ (n : Int)) = true := by simp; omega
              have HI : Hid (∀ x m y : Int, x = (a : Int) → m = (a : Int) + s → y = (a : Int) + 2 * s → Calls Tryd.prog 73 #[.slice (some ⟨g, 0, none⟩) n c, .int .i64 x, .int .i64 m, .int .i64 y, cmpV G] wr fun e w' => e = .returned (.tuple #[]) ∧ ∃ W, (W.Perm (Seg U a (s + s)) ∧ Srtd K W) ∧ St w0 g (X.take a ++ (W ++ X.drop (a + (s + s)))) w') := Lib.hid (fun x m y hx hm hy => by
                obtain ⟨h1, h2, h3, h4⟩ := HX.out
                have hsa : s ∣ a := Nat.dvd_trans (Nat.dvd_add (Nat.dvd_refl s) (Nat.dvd_refl s)) h1
                exact merge_seg HSx.out HC.out HN.out HA.out h2 (h4 a hsa (Nat.le_refl _)) (h4 (a + s) (Nat.dvd_add hsa (Nat.dvd_refl s)) (by omega)) (by omega) (by omega) (by rw [h2, ← HL.out]; omega) (by rw [h2]; exact HL.out) h63 hx (by rw [hm]; simp) (by rw [hy]; omega))
              go_wp2_with fail
              (with_reducible refine (HI.out _ _ _ rfl rfl rfl).mono ?_)
              rintro e w2 ⟨rfl, W, hW, hS2⟩
              have HS2 := Lib.hid hS2
              have HX2 : Hid ((s + s) ∣ a + (s + s) ∧ (X.take a ++ (W ++ X.drop (a + (s + s)))).length = U.length ∧ (∀ a', (s + s) ∣ a' → a' < a + (s + s) → Gd K U (X.take a ++ (W ++ X.drop (a + (s + s)))) a' (s + s)) ∧ ∀ a', s ∣ a' → a + (s + s) ≤ a' → Gd K U (X.take a ++ (W ++ X.drop (a + (s + s)))) a' s) := Lib.hid (by
                obtain ⟨h1, h2, h3, h4⟩ := HX.out
                obtain ⟨p1, p2, p3, p4, p5⟩ := put_seg (s := s + s) h2 hW.1 hW.2 (by rw [h2, ← HL.out]; omega)
                refine ⟨Nat.dvd_add h1 (Nat.dvd_refl _), p1, fun a' hd hlt => ?_, fun a' hd hle => p4 a' s hle (h4 a' hd (by omega))⟩
                by_cases e : a' = a
                · rw [e]; exact p2
                · have hle := dvd_le h1 hd hlt
                  exact p3 a' (s + s) (by
                    rcases Nat.lt_or_ge a (a' + (s + s)) with hx | hx
                    · have := dvd_le hd h1 hx; omega
                    · exact hx) (h3 a' hd (by omega)))
              clear hS2 hW
              go_wp2
              go_roundw
              case rel => exact ⟨a + (s + s), _, by omega, by congr 1; omega, by congr 1; omega, HX2, HS2.out⟩
              case measure => simp [intOf]; try omega
            · have hd3 : decide ((a : Int) + 2 * (s : Int) ≤ (n : Int)) = false := by simp; omega
              by_cases hlt4 : a + s < n
              · have HI : Hid (∀ x m y : Int, x = (a : Int) → m = (a : Int) + s → y = (n : Int) → Calls Tryd.prog 73 #[.slice (some ⟨g, 0, none⟩) n c, .int .i64 x, .int .i64 m, .int .i64 y, cmpV G] wr fun e w' => e = .returned (.tuple #[]) ∧ ∃ W, (W.Perm (Seg U a (s + s)) ∧ Srtd K W) ∧ St w0 g (X.take a ++ (W ++ X.drop (a + (s + s)))) w') := Lib.hid (fun x m y hx hm hy => by
                  obtain ⟨h1, h2, h3, h4⟩ := HX.out
                  have hsa : s ∣ a := Nat.dvd_trans (Nat.dvd_add (Nat.dvd_refl s) (Nat.dvd_refl s)) h1
                  exact merge_seg HSx.out HC.out HN.out HA.out h2 (h4 a hsa (Nat.le_refl _)) (h4 (a + s) (Nat.dvd_add hsa (Nat.dvd_refl s)) (by omega)) (by omega) (by omega) (by rw [h2, ← HL.out]; omega) (by rw [h2]; exact HL.out) h63 hx (by rw [hm]; simp) (by rw [hy]; omega))
                go_wp2_with fail
                (with_reducible refine (HI.out _ _ _ rfl rfl rfl).mono ?_)
                rintro e w2 ⟨rfl, W, hW, hS2⟩
                have HS2 := Lib.hid hS2
                have HX2 : Hid ((X.take a ++ (W ++ X.drop (a + (s + s)))).length = U.length ∧ ∀ a', (s + s) ∣ a' → Gd K U (X.take a ++ (W ++ X.drop (a + (s + s)))) a' (s + s)) := Lib.hid (by
                  obtain ⟨h1, h2, h3, h4⟩ := HX.out
                  obtain ⟨p1, p2, p3, p4, p5⟩ := put_seg (s := s + s) h2 hW.1 hW.2 (by rw [h2, ← HL.out]; omega)
                  refine ⟨p1, fun a' hd => ?_⟩
                  rcases Nat.lt_trichotomy a' a with h | h | h
                  · exact p3 a' (s + s) (by
                      rcases Nat.lt_or_ge a (a' + (s + s)) with hx | hx
                      · have := dvd_le hd h1 hx; omega
                      · exact hx) (h3 a' hd h)
                  · rw [h]; exact p2
                  · refine Gd.empty p1 ?_
                    rcases Nat.lt_or_ge a' (a + (s + s)) with hx | hx
                    · have := dvd_le h1 hd hx; omega
                    · rw [← HL.out]; omega)
                clear hS2 hW
                go_wp2
                go_roundw
                case rel => exact ⟨s + s, _, by omega, by omega, by congr 1; omega, HX2, HS2.out⟩
                case measure => simp [intOf]; try omega
              · have HX2 : Hid (X.length = U.length ∧ ∀ a', (s + s) ∣ a' → Gd K U X a' (s + s)) := Lib.hid (by
                  obtain ⟨h1, h2, h3, h4⟩ := HX.out
                  refine ⟨h2, fun a' hd => ?_⟩
                  rcases Nat.lt_trichotomy a' a with h | h | h
                  · exact h3 a' hd h
                  · rw [h]
                    have hsa : s ∣ a := Nat.dvd_trans (Nat.dvd_add (Nat.dvd_refl s) (Nat.dvd_refl s)) h1
                    have g := h4 a hsa (Nat.le_refl _)
                    unfold Gd at g ⊢
                    rw [seg_all (by rw [h2, ← HL.out]; omega), seg_all (by rw [← HL.out]; omega)] at g
                    rw [seg_all (by rw [h2, ← HL.out]; omega), seg_all (by rw [← HL.out]; omega)]
                    exact g
                  · refine Gd.empty h2 ?_
                    rcases Nat.lt_or_ge a' (a + (s + s)) with hx | hx
                    · have := dvd_le h1 hd hx; omega
                    · rw [← HL.out]; omega)
                go_wp2
                go_roundw
                case rel => exact ⟨s + s, X, by omega, by omega, by congr 1; omega, HX2, HSx.out⟩
                case measure => simp [intOf]; try omega
        · have HF : Hid (X.Perm U ∧ Srtd K X) := Lib.hid (by
            obtain ⟨h1, h2⟩ := HX.out
            have g := h2 0 (Nat.dvd_zero _)
            unfold Gd at g
            rw [seg_all (by rw [h1, ← HL.out]; omega), seg_all (by rw [← HL.out]; omega)] at g
            exact ⟨by simpa using g.2, by simpa using g.1⟩)
          go_wp2
          go_end0
          exact ⟨rfl, X, HF.out, HSx.out⟩
end Go.Proofs.YtplojnlmofbneaaDoor
