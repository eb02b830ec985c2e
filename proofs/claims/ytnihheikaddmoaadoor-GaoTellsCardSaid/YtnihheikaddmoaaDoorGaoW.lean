/- Whom it goes up to: one comes back to himself just if some are never done; no program in sight. -/
import Derived.Test.YtnihheikaddmoaaDoorGaoR
namespace Go.Proofs.YtnihheikaddmoaaDoor
set_option linter.unusedVariables false
set_option linter.unusedSimpArgs false
namespace Ga
/-- can one go up from a to b in so many steps -/
def climbB (W : Nat → Nat → Int) (n : Nat) : Nat → Nat → Nat → Bool
  | 0, a, b => a == b
  | s + 1, a, b => a == b || (List.range n).any fun k => decide (W a k = 3) && climbB W n s k b
def cycB (W : Nat → Nat → Int) (n : Nat) : Bool := (List.range n).any fun i => (List.range n).any fun k => decide (W i k = 3) && climbB W n n k i
theorem climb_self (W : Nat → Nat → Int) (n s a : Nat) : climbB W n s a a = true := by cases s <;> simp [climbB]
theorem climb_rank {W : Nat → Nat → Int} {n : Nat} {rk : Nat → Nat} (h : ∀ i k, i < n → k < n → W i k = 3 → rk k < rk i) : ∀ s a b, a < n → climbB W n s a b = true → rk b ≤ rk a
  | 0, a, b, _, hc => by simp [climbB] at hc; subst hc; exact Nat.le_refl _
  | s + 1, a, b, ha, hc => by
    unfold climbB at hc
    rw [Bool.or_eq_true] at hc
    rcases hc with hc | hc
    · rw [eq_of_beq hc]; exact Nat.le_refl _
    · obtain ⟨k, hk, hc⟩ := List.any_eq_true.1 hc
      rw [Bool.and_eq_true, decide_eq_true_eq] at hc
      have hk := List.mem_range.1 hk
      have h1 := climb_rank h s k b hk hc.2
      have h2 := h a k ha hk hc.1
      omega
theorem cyc_no {W : Nat → Nat → Int} {n : Nat} {rk : Nat → Nat} (h : ∀ i k, i < n → k < n → W i k = 3 → rk k < rk i) : cycB W n = false := by
  cases e : cycB W n with
  | false => rfl
  | true =>
    obtain ⟨i, hi, h1⟩ := List.any_eq_true.1 e
    obtain ⟨k, hk, h2⟩ := List.any_eq_true.1 h1
    rw [Bool.and_eq_true, decide_eq_true_eq] at h2
    have hi := List.mem_range.1 hi
    have hk := List.mem_range.1 hk
    have h3 := climb_rank h n k i hk h2.2
    have h4 := h i k hi hk h2.1
    omega
theorem cnt_step {W : Nat → Nat → Int} {n : Nat} {D : List Bool} (hD : D.length = n) {i : Nat} (hi : i < n) : doneS W n D i = D ∨ (doneS W n D i).count false + 1 ≤ D.count false := by
  have hl : i < D.length := by omega
  have hg : doneG D i = D[i] := by unfold doneG; rw [List.getD_eq_getElem?_getD, List.getElem?_eq_getElem hl]; rfl
  unfold doneS
  rw [hg]
  cases hv : D[i] with
  | true =>
    left
    have : D.set i D[i] = D := List.set_getElem_self hl
    rw [hv] at this
    exact this
  | false =>
    cases openB W n D i with
    | true =>
      left
      have : D.set i D[i] = D := List.set_getElem_self hl
      rw [hv] at this
      exact this
    | false =>
      right
      rw [List.count_set hl, hv]
      have : 0 < D.count false := List.count_pos_iff.2 (by rw [← hv]; exact List.getElem_mem hl)
      simp
      omega
theorem cnt_fold {W : Nat → Nat → Int} {n : Nat} : ∀ (l : List Nat) {D : List Bool}, D.length = n → (∀ i ∈ l, i < n) → (l.foldl (doneS W n) D = D ∧ ∀ i ∈ l, doneS W n D i = D) ∨ (l.foldl (doneS W n) D).count false + 1 ≤ D.count false
  | [], D, _, _ => .inl ⟨rfl, by simp⟩
  | i :: l, D, hD, hl => by
    have hs := cnt_step (W := W) hD (hl i (by simp))
    have ih := cnt_fold (W := W) l (D := doneS W n D i) (by rw [doneS_len, hD]) (fun k hk => hl k (by simp [hk]))
    rw [List.foldl_cons]
    rcases hs with hs | hs
    · rw [hs] at ih ⊢
      rcases ih with ⟨h1, h2⟩ | ih
      · left
        refine ⟨h1, fun k hk => ?_⟩
        rcases List.mem_cons.1 hk with rfl | hk
        · exact hs
        · exact h2 k hk
      · exact .inr ih
    · right
      rcases ih with ⟨h1, _⟩ | ih
      · rw [h1]; exact hs
      · omega
def Fixed (W : Nat → Nat → Int) (n : Nat) (D : List Bool) : Prop := ∀ i, i < n → doneS W n D i = D
theorem fixed_fold {W : Nat → Nat → Int} {n : Nat} {D : List Bool} (h : Fixed W n D) : ∀ (l : List Nat), (∀ i ∈ l, i < n) → l.foldl (doneS W n) D = D
  | [], _ => rfl
  | i :: l, hl => by rw [List.foldl_cons, h i (hl i (by simp))]; exact fixed_fold h l (fun k hk => hl k (by simp [hk]))
theorem cnt_N {W : Nat → Nat → Int} {n : Nat} : ∀ t, Fixed W n (doneN W n t (List.replicate n false)) ∨ (doneN W n t (List.replicate n false)).count false + t ≤ n
  | 0 => .inr (by show (List.replicate n false).count false + 0 ≤ n; rw [List.count_replicate_self]; omega)
  | t + 1 => by
    have hl : (doneN W n t (List.replicate n false)).length = n := by rw [doneN_len]; simp
    have hr : ∀ i ∈ List.range n, i < n := fun i hi => List.mem_range.1 hi
    show Fixed W n (doneR W n (doneN W n t (List.replicate n false))) ∨ (doneR W n (doneN W n t (List.replicate n false))).count false + (t + 1) ≤ n
    rcases cnt_fold (W := W) (List.range n) hl hr with ⟨h1, h2⟩ | h1
    · left
      unfold doneR
      rw [h1]
      exact fun i hi => h2 i (List.mem_range.2 hi)
    · rcases cnt_N (W := W) (n := n) t with h | h
      · left
        unfold doneR
        rw [fixed_fold h _ hr]
        exact h
      · right
        unfold doneR
        omega
/-- a way that never ends goes round -/
theorem climb_seq {W : Nat → Nat → Int} {n : Nat} {f : Nat → Nat} (hf : ∀ j, f j < n) (hw : ∀ j, W (f j) (f (j + 1)) = 3) : ∀ m s a, m ≤ s → climbB W n s (f a) (f (a + m)) = true
  | 0, s, a, _ => climb_self W n s (f a)
  | m + 1, 0, a, h => by omega
  | m + 1, s + 1, a, h => by
    unfold climbB
    rw [Bool.or_eq_true]
    right
    refine List.any_eq_true.2 ⟨f (a + 1), List.mem_range.2 (hf _), ?_⟩
    rw [Bool.and_eq_true, decide_eq_true_eq]
    refine ⟨hw a, ?_⟩
    have := climb_seq hf hw m s (a + 1) (by omega)
    rw [show a + (m + 1) = a + 1 + m by omega]
    exact this
theorem nodup_len' : ∀ (m : Nat) (p : List Nat), p.Nodup → (∀ v ∈ p, v < m) → p.length ≤ m
  | 0, p, _, h => by
    cases p with
    | nil => simp
    | cons a l => exact absurd (h a (by simp)) (by omega)
  | m + 1, p, hp, h => by
    have h1 := nodup_len' m (p.filter fun v => v != m) (hp.filter _) (fun v hv => by
      have h2 := List.mem_filter.1 hv
      have h3 := h v h2.1
      have h4 : v ≠ m := by simpa using h2.2
      omega)
    have h2 : p.length ≤ (p.filter fun v => v != m).length + 1 := by
      have h3 := List.length_eq_countP_add_countP (fun v => v != m) (l := p)
      rw [List.countP_eq_length_filter] at h3
      have h4 : p.countP (fun v => decide ¬((v != m) = true)) ≤ 1 := by
        have h5 : p.countP (fun v => decide ¬((v != m) = true)) = p.count m := by
          unfold List.count
          congr 1
          funext v
          by_cases e : v = m <;> simp [e]
        rw [h5]
        exact List.nodup_iff_count.1 hp m
      omega
    omega
theorem seq_meets {n : Nat} {f : Nat → Nat} (hf : ∀ j, f j < n) : ∃ a b, a < b ∧ b ≤ n ∧ f a = f b := by
  by_cases h : ((List.range (n + 1)).map f).Nodup
  · have := nodup_len' n _ h (fun v hv => by obtain ⟨j, _, rfl⟩ := List.mem_map.1 hv; exact hf j)
    simp at this
    omega
  · unfold List.Nodup at h
    rw [List.pairwise_iff_getElem] at h
    simp only [List.length_map, List.length_range, List.getElem_map, List.getElem_range] at h
    have h2 : ∃ a b, a < b ∧ b < n + 1 ∧ f a = f b := by
      apply Classical.byContradiction
      intro hc
      exact h (fun i j hi hj hij e => hc ⟨i, j, hij, hj, e⟩)
    obtain ⟨a, b, h3, h4, h5⟩ := h2
    exact ⟨a, b, h3, by omega, h5⟩
theorem cyc_yes {W : Nat → Nat → Int} {n : Nat} {D : List Bool} (hD : D.length = n) (hfx : Fixed W n D) (hna : D.all id = false) : cycB W n = true := by
  obtain ⟨v, hv, hvf⟩ := List.all_eq_false.1 hna
  obtain ⟨i0, hi0, rfl⟩ := List.getElem_of_mem hv
  have hi0n : i0 < n := by omega
  have hd0 : doneG D i0 = false := by unfold doneG; rw [List.getD_eq_getElem?_getD, List.getElem?_eq_getElem hi0]; simpa using hvf
  have hstep : ∀ i, i < n ∧ doneG D i = false → ∃ k, (k < n ∧ doneG D k = false) ∧ W i k = 3 := by
    rintro i ⟨hi, hd⟩
    have h1 := hfx i hi
    have h2 := doneG_set (D := D) (i := i) (j := i) (b := doneG D i || !openB W n D i) (by omega)
    rw [if_pos rfl] at h2
    have h3 : doneG (doneS W n D i) i = doneG D i := by rw [h1]
    have h4 : doneG D i = (doneG D i || !openB W n D i) := h3.symm.trans h2
    rw [hd] at h4
    have h5 : openB W n D i = true := by simpa using h4
    obtain ⟨k, hk, h6⟩ := List.any_eq_true.1 h5
    rw [Bool.and_eq_true, decide_eq_true_eq] at h6
    exact ⟨k, ⟨List.mem_range.1 hk, by simpa using h6.2⟩, h6.1⟩
  let T := { i : Nat // i < n ∧ doneG D i = false }
  let s : T → T := fun x => ⟨Classical.choose (hstep x.1 x.2), (Classical.choose_spec (hstep x.1 x.2)).1⟩
  have hs : ∀ x : T, W x.1 (s x).1 = 3 := fun x => (Classical.choose_spec (hstep x.1 x.2)).2
  let g : Nat → T := fun j => Nat.rec (⟨i0, hi0n, hd0⟩ : T) (fun _ x => s x) j
  have hf : ∀ j, (g j).1 < n := fun j => (g j).2.1
  have hw : ∀ j, W (g j).1 (g (j + 1)).1 = 3 := fun j => hs (g j)
  obtain ⟨a, b, hab, hbn, he⟩ := seq_meets (n := n) (f := fun j => (g j).1) hf
  have hc := climb_seq (W := W) (n := n) (f := fun j => (g j).1) hf hw (b - a - 1) n (a + 1) (by omega)
  rw [show a + 1 + (b - a - 1) = b by omega] at hc
  have he' : (g a).1 = (g b).1 := he
  have hc' : climbB W n n (g (a + 1)).1 (g b).1 = true := hc
  rw [← he'] at hc'
  refine List.any_eq_true.2 ⟨(g a).1, List.mem_range.2 (hf a), List.any_eq_true.2 ⟨(g (a + 1)).1, List.mem_range.2 (hf (a + 1)), ?_⟩⟩
  rw [Bool.and_eq_true, decide_eq_true_eq]
  exact ⟨hw a, hc'⟩
theorem cyc_done (n : Nat) (d : List Deal) : cycB (WL d) n = !allDone n d := by
  have hl : (doneN (WL d) n n (List.replicate n false)).length = n := by rw [doneN_len]; simp
  cases hA : allDone n d with
  | true =>
    obtain ⟨rk, hr⟩ := ranked_all (W := WL d) (n := n) n
    refine cyc_no (rk := rk) (fun i k hi hk hw => (hr i hi ?_ k hk hw).2)
    unfold allDone at hA
    unfold doneG
    rw [List.getD_eq_getElem?_getD, List.getElem?_eq_getElem (by omega)]
    exact List.all_eq_true.1 hA _ (List.getElem_mem (by omega))
  | false =>
    refine cyc_yes hl ?_ hA
    rcases cnt_N (W := WL d) (n := n) n with h | h
    · exact h
    · exfalso
      have h0 : (doneN (WL d) n n (List.replicate n false)).count false = 0 := by omega
      have h1 : allDone n d = true := by
        unfold allDone
        rw [List.all_eq_true]
        intro v hv
        cases v with
        | true => rfl
        | false => exact absurd hv (List.count_eq_zero.1 h0)
      rw [hA] at h1
      cases h1
end Ga
end Go.Proofs.YtnihheikaddmoaaDoor
