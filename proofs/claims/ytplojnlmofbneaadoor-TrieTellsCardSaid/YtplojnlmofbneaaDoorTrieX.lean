/- The reference's table is the list that the table holds: places, the longest one, the order; no program in sight. -/
import Derived.Test.YtplojnlmofbneaaDoorTrieS
namespace Go.Proofs.YtplojnlmofbneaaDoor
open Go.ChangeShapes Go.WideShapes Go.ChangeAt Go.RowKit
set_option linter.unusedVariables false

def valsM (m : List (Nt × Int)) : List Int := m.map Prod.snd
theorem place_none {m : List (Nt × Int)} {x : Nt} (h : look m x = none) : ∀ i : Int, placeI x (keysM m) i = -1 := by
  induction m with
  | nil => intro i; rfl
  | cons e r ih =>
    intro i
    simp only [look] at h
    by_cases he : e.1 = x
    · rw [if_pos he] at h; cases h
    · rw [if_neg he] at h
      show (if e.1 = x then i else placeI x (keysM r) (i + 1)) = -1
      rw [if_neg he, ih h]
theorem place_some {m : List (Nt × Int)} {x : Nt} {v : Int} (h : look m x = some v) : ∀ i : Int, ∃ k : Nat, placeI x (keysM m) i = i + k ∧ m[k]? = some (x, v) := by
  induction m with
  | nil => simp [look] at h
  | cons e r ih =>
    intro i
    simp only [look] at h
    by_cases he : e.1 = x
    · rw [if_pos he] at h
      simp only [Option.some.injEq] at h
      refine ⟨0, ?_, ?_⟩
      · show (if e.1 = x then i else placeI x (keysM r) (i + 1)) = i + ((0 : Nat) : Int)
        rw [if_pos he]; simp
      · subst h; subst he; rfl
    · rw [if_neg he] at h
      obtain ⟨k, h1, h2⟩ := ih h (i + 1)
      refine ⟨k + 1, ?_, by simpa using h2⟩
      show (if e.1 = x then i else placeI x (keysM r) (i + 1)) = i + ((k + 1 : Nat) : Int)
      rw [if_neg he, h1]; omega
theorem keys_at {m : List (Nt × Int)} {k : Nat} {x : Nt} {v : Int} (h : m[k]? = some (x, v)) : (keysM m)[k]? = some x ∧ (valsM m)[k]? = some v := by
  unfold keysM valsM; rw [List.getElem?_map, List.getElem?_map, h]; exact ⟨rfl, rfl⟩
theorem findL_none (a : Int) : ∀ (l : List Nt) (i : Nat) (b : Option (Nat × Nt)), findL a l i b = none → b = none ∧ ∀ z ∈ l, hasB z a = false
  | [], _, _, h => ⟨h, fun _ h => by cases h⟩
  | y :: r, i, b, h => by
    obtain ⟨h1, h2⟩ := findL_none a r (i + 1) _ h
    cases b with
    | some p =>
      obtain ⟨j, z⟩ := p
      unfold findS at h1; simp only at h1; split at h1 <;> cases h1
    | none =>
      refine ⟨rfl, fun z hz => ?_⟩
      rcases List.mem_cons.1 hz with rfl | hz
      · unfold findS at h1; simp only at h1
        cases hh : hasB z a
        · rfl
        · rw [if_pos hh] at h1; cases h1
      · exact h2 z hz
theorem findL_some (a : Int) : ∀ (l : List Nt) (i : Nat) (b : Option (Nat × Nt)) {j : Nat} {y : Nt}, findL a l i b = some (j, y) →
    (b = some (j, y) ∨ ∃ k, j = i + k ∧ l[k]? = some y ∧ hasB y a = true) ∧ (∀ z ∈ l, hasB z a = true → z.2 ≤ y.2) ∧ (∀ c ∈ b, c.2.2 ≤ y.2)
  | [], _, b, j, y, h => by
    have hb : b = some (j, y) := h
    refine ⟨.inl hb, (fun z hz => by cases hz), fun c hc => ?_⟩
    rw [hb] at hc; cases hc; exact Int.le_refl _
  | x :: r, i, b, j, y, h => by
    obtain ⟨h1, h2, h3⟩ := findL_some a r (i + 1) _ h
    have hS : (findS a x i b = b ∧ (hasB x a = true → ∀ c ∈ b, x.2 ≤ c.2.2) ∧ (hasB x a = true → b ≠ none)) ∨ (findS a x i b = some (i, x) ∧ hasB x a = true ∧ ∀ c ∈ b, c.2.2 ≤ x.2) := by
      cases b with
      | none =>
        unfold findS
        by_cases hh : hasB x a = true
        · right; simp only; rw [if_pos hh]; exact ⟨rfl, hh, fun c hc => by cases hc⟩
        · left; simp only; rw [if_neg hh]; exact ⟨rfl, fun e => absurd e hh, fun e => absurd e hh⟩
      | some p =>
        obtain ⟨k, z⟩ := p
        unfold findS
        by_cases hh : hasB x a = true ∧ z.2 < x.2
        · right; simp only; rw [if_pos hh]; exact ⟨rfl, hh.1, fun c hc => by cases hc; simp only; omega⟩
        · left; simp only; rw [if_neg hh]
          exact ⟨rfl, fun e c hc => by cases hc; simp only; exact Int.not_lt.1 fun e2 => hh ⟨e, e2⟩, fun _ => by simp⟩
    rcases hS with ⟨e, hs, hs2⟩ | ⟨e, hx, hs⟩
    · rw [e] at h1 h3
      refine ⟨h1.imp_right fun ⟨k, e1, e2, e3⟩ => ⟨k + 1, by omega, by simpa using e2, e3⟩, fun z hz hza => ?_, h3⟩
      rcases List.mem_cons.1 hz with rfl | hz
      · obtain ⟨c, hc⟩ := Option.ne_none_iff_exists'.1 (hs2 hza)
        have := hs hza c hc
        have := h3 c hc
        omega
      · exact h2 z hz hza
    · rw [e] at h1 h3
      have hxy := h3 (i, x) rfl
      refine ⟨.inr ?_, fun z hz hza => ?_, fun c hc => by have := hs c hc; simp only at hxy; omega⟩
      · rcases h1 with h1 | ⟨k, e1, e2, e3⟩
        · simp only [Option.some.injEq, Prod.mk.injEq] at h1
          obtain ⟨rfl, rfl⟩ := h1
          exact ⟨0, rfl, rfl, hx⟩
        · exact ⟨k + 1, by omega, by simpa using e2, e3⟩
      · rcases List.mem_cons.1 hz with rfl | hz
        · exact hxy
        · exact h2 z hz hza
/-- what the reference finds and what the table finds -/
theorem find_same {m : List (Nt × Int)} (hm : MOk m) {a : Int} :
    (fnd m a 33 = none ∧ findL a (keysM m) 0 none = none) ∨ ∃ j v i, fnd m a 33 = some (j, v) ∧ findL a (keysM m) 0 none = some (i, trimN (a, 32) j) ∧ m[i]? = some (trimN (a, 32) j, v) := by
  cases hF : findL a (keysM m) 0 none with
  | none =>
    left
    refine ⟨?_, rfl⟩
    obtain ⟨_, h2⟩ := findL_none a _ _ _ hF
    cases hf : fnd m a 33 with
    | none => rfl
    | some p =>
      obtain ⟨j, v⟩ := p
      obtain ⟨h3, h4, _⟩ := fnd_some hf
      have hmem : trimN (a, 32) j ∈ keysM m := Classical.not_not.1 fun h => by rw [look_none.2 h] at h4; cases h4
      have := h2 _ hmem
      rw [trim_has a (by omega)] at this; cases this
  | some p =>
    obtain ⟨i, y⟩ := p
    right
    obtain ⟨h1, h2, _⟩ := findL_some a _ _ _ hF
    rcases h1 with h1 | ⟨k, e1, e2, e3⟩
    · cases h1
    obtain rfl : i = k := by omega
    obtain ⟨jj, hj, ey⟩ := has_trim e3
    have hy : y ∈ keysM m := List.mem_of_getElem? e2
    have hl : look m y ≠ none := fun h => look_none.1 h hy
    cases hf : fnd m a 33 with
    | none =>
      have := fnd_none hf jj (by omega)
      rw [← ey] at this; exact absurd this hl
    | some p =>
      obtain ⟨j, v⟩ := p
      obtain ⟨h3, h4, h5⟩ := fnd_some hf
      have hle : jj ≤ j := by
        rcases Nat.lt_or_ge j jj with h | h
        · exact absurd (by rw [ey]; exact h5 jj h (by omega)) hl
        · exact h
      have hmem : trimN (a, 32) j ∈ keysM m := Classical.not_not.1 fun h => by rw [look_none.2 h] at h4; cases h4
      have := h2 _ hmem (trim_has a (by omega))
      have e4 : y.2 = (jj : Int) := by rw [ey]; rfl
      have e5 : (trimN (a, 32) j).2 = (j : Int) := rfl
      obtain rfl : jj = j := by omega
      refine ⟨jj, v, i, rfl, by rw [← ey], ?_⟩
      -- the place of y in m
      obtain ⟨e, he⟩ : ∃ e, m[i]? = some e := by
        unfold keysM at e2; rw [List.getElem?_map] at e2
        cases hmi : m[i]? with
        | none => rw [hmi] at e2; cases e2
        | some e => exact ⟨e, rfl⟩
      have he1 : e.1 = y := by
        unfold keysM at e2; rw [List.getElem?_map, he] at e2; simpa using e2
      have he2 : look m e.1 = some e.2 := by
        have : ∀ {m : List (Nt × Int)}, (keysM m).Nodup → e ∈ m → look m e.1 = some e.2 := by
          intro m hn hmem
          induction m with
          | nil => cases hmem
          | cons b r ih =>
            simp only [keysM, List.map_cons, List.nodup_cons] at hn
            simp only [look]
            rcases List.mem_cons.1 hmem with rfl | hr
            · rw [if_pos rfl]
            · rw [if_neg (fun h => hn.1 (by rw [h]; exact List.mem_map_of_mem hr))]
              exact ih hn.2 hr
        exact this hm.nodup (List.mem_of_getElem? he)
      rw [he1, ey, h4] at he2
      rw [he]
      have : e = (e.1, e.2) := rfl
      rw [this, he1, ey]
      simp only [Option.some.injEq] at he2
      rw [he2]

/-! ### in order -/
def insN (x : Nt) : List Nt → List Nt
  | [] => [x]
  | y :: r => if lessB y x = true then y :: insN x r else x :: y :: r
theorem mem_ins (x y : Nt) : ∀ l : List Nt, y ∈ insN x l ↔ y = x ∨ y ∈ l
  | [] => by simp [insN]
  | z :: r => by
    unfold insN
    split
    · rw [List.mem_cons, mem_ins x y r, List.mem_cons]
      exact ⟨fun h => h.elim (fun h => .inr (.inl h)) (fun h => h.imp_right .inr), fun h => h.elim (fun h => .inr (.inl h)) (fun h => h.imp_right .inr)⟩
    · rw [List.mem_cons]
theorem ins_sorted {x : Nt} : ∀ {l : List Nt}, l.Pairwise (fun a b => lessB a b = true) → x ∉ l → (insN x l).Pairwise fun a b => lessB a b = true
  | [], _, _ => List.pairwise_singleton _ _
  | z :: r, h, hx => by
    obtain ⟨h1, h2⟩ := List.pairwise_cons.1 h
    simp only [List.mem_cons, not_or] at hx
    unfold insN
    by_cases hz : lessB z x = true
    · rw [if_pos hz]
      refine List.pairwise_cons.2 ⟨fun y hy => ?_, ins_sorted h2 hx.2⟩
      rcases (mem_ins x y r).1 hy with rfl | hy
      · exact hz
      · exact h1 y hy
    · rw [if_neg hz]
      have hxz : lessB x z = true := by
        have := less_one (a := x) (b := z) hx.1
        cases hq : lessB x z
        · rw [hq] at this; exact absurd this hz
        · rfl
      refine List.pairwise_cons.2 ⟨fun y hy => ?_, h⟩
      rcases List.mem_cons.1 hy with rfl | hy
      · exact hxz
      · exact less_trans hxz (h1 y hy)
def ordL (l : List Nt) : List Nt := l.foldl (fun o x => insN x o) []
theorem ord_go : ∀ (l o : List Nt), l.Nodup → (∀ x ∈ l, x ∉ o) → o.Pairwise (fun a b => lessB a b = true) → (l.foldl (fun o x => insN x o) o).Pairwise (fun a b => lessB a b = true) ∧ ∀ x, x ∈ l.foldl (fun o x => insN x o) o ↔ x ∈ l ∨ x ∈ o
  | [], o, _, _, h => ⟨h, fun x => by simp⟩
  | y :: r, o, hn, hd, h => by
    obtain ⟨n1, n2⟩ := List.nodup_cons.1 hn
    obtain ⟨a, b⟩ := ord_go r (insN y o) n2 (fun x hx hx2 => by
      rcases (mem_ins y x o).1 hx2 with rfl | h3
      · exact n1 hx
      · exact hd x (List.mem_cons_of_mem _ hx) h3) (ins_sorted h (hd y (by simp)))
    refine ⟨a, fun x => ?_⟩
    rw [List.foldl_cons, b, mem_ins, List.mem_cons]
    exact ⟨fun h => h.elim (fun h => .inl (.inr h)) (fun h => h.elim (fun h => .inl (.inl h)) .inr), fun h => h.elim (fun h => h.elim (fun h => .inr (.inl h)) .inl) (fun h => .inr (.inr h))⟩
theorem ord_all {m : List (Nt × Int)} (hm : MOk m) : ordL (keysM m) = allM m := by
  obtain ⟨a, b⟩ := ord_go (keysM m) [] hm.nodup (fun _ _ h => by cases h) List.Pairwise.nil
  refine sorted_ext a (all_sorted hm) fun x => ?_
  rw [ordL, b, mem_all hm, ne_eq, look_none, Classical.not_not]
  simp
/-- how many are ahead of x -/
def aheadN (x : Nt) : List Nt → Nat
  | [] => 0
  | y :: r => if lessB y x = true then aheadN x r + 1 else 0
theorem ins_at (x : Nt) : ∀ l : List Nt, insN x l = l.take (aheadN x l) ++ x :: l.drop (aheadN x l)
  | [] => rfl
  | y :: r => by
    unfold insN aheadN
    split
    · rw [ins_at x r]; simp
    · simp
theorem ahead_le (x : Nt) : ∀ l : List Nt, aheadN x l ≤ l.length
  | [] => Nat.le_refl _
  | y :: r => by
    unfold aheadN
    split
    · have := ahead_le x r; simp only [List.length_cons]; omega
    · omega
theorem keys_put (m : List (Nt × Int)) (x : Nt) (v : Int) : keysM (putM m x v) = keysM (delM m x) ++ [x] := by unfold putM keysM; simp
theorem vals_put (m : List (Nt × Int)) (x : Nt) (v : Int) : valsM (putM m x v) = valsM (delM m x) ++ [v] := by unfold putM valsM; simp
end Go.Proofs.YtplojnlmofbneaaDoor
