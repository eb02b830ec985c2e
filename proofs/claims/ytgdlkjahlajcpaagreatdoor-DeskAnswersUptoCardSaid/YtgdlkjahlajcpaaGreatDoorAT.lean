/- The reference's Answered is lineA. Rows of texts of the call's own; a table beside what a law has made. waywardensame.Texts at equal lists; how lists of texts read. The desk's forms: the map that is made anew for each line, and what is looked up in it. One line of the desk: a line that is none of it -/
import Derived.Test.YtgdlkjahlajcpaaGreatDoorAQ
import Derived.Test.YtgdlkjahlajcpaaGreatDoorAR
import Derived.Test.YtgdlkjahlajcpaaGreatDoorAS
import Derived.Test.YtgdlkjahlajcpaaGreatDoorAI
import Derived.Test.YtgdlkjahlajcpaaGreatDoorAB
import Derived.Test.YtgdlkjahlajcpaaGreatDoorAK
import Derived.BigQuiet
import Derived.Test.YtgdlkjahlajcpaaGreatDoorAG
namespace Go.Proofs.YtgdlkjahlajcpaaGreatDoor
open Go.ChangeShapes Go.WideShapes Go.ChangeAt Go.RowKit
set_option linter.unusedVariables false
set_option linter.unusedSimpArgs false

theorem one_word {s W0 : ByteArray} (hL : [W0].map (·.data.toList) = segs 32 s.data.toList) : s.data.toList = W0.data.toList := by
  have e := join_segs 32 s.data.toList
  rw [← hL] at e
  exact e.symm
theorem place0 {m : Tab} {x : Nt} {v : Int} (h : look m x = some v) : ∃ k : Nat, placeI x (keysM m) 0 = k ∧ m[k]? = some (x, v) := by
  obtain ⟨k, h1, h2⟩ := place_some h 0
  exact ⟨k, by rw [h1]; omega, h2⟩
theorem net_of_nat {x : Nt} (h1 : netF x = 0) (h2 : is32 x.1) : ∃ p q : Nat, p < 4294967296 ∧ q ≤ 32 ∧ x = ((p : Int), (q : Int)) := by
  obtain ⟨a, b⟩ := x
  obtain ⟨p, rfl⟩ := Int.eq_ofNat_of_zero_le h2.1
  obtain ⟨q, hq, e, _⟩ := net_ok h1
  simp only at e h2
  subst e
  exact ⟨p, q, by have := h2.2; omega, hq, rfl⟩
section
variable {M : Nat → Prop} {W : World} {m : Tab} {A A' : Option Addr} {n c n' c' : Nat} {s : ByteArray}
theorem Ans_any2 {W0 W1 : ByteArray} (hT : TabR M W m A n c A' n' c') (hM : ∀ b, M b → b < W.heap.size) (hd : DOk m) (hs : s.size ≤ 2097152) (hL : [W0, W1].map (·.data.toList) = segs 32 s.data.toList) (k0 : s.data.toList ≠ nList) (k1 : s.data.toList ≠ nCover) :
    Calls Tryz.prog 8 #[.agg #[.slice A n c, .slice A' n' c'], .string s] W (AnsPost M W (lineW2 m W0.data.toList W1.data.toList)) := by
  by_cases hF : W0.data.toList = nFind
  · have e : lineW2 m W0.data.toList W1.data.toList = (findX m (addrO W1.data.toList), m) := by unfold lineW2; rw [hF, if_neg (by decide), if_neg (by decide), if_pos rfl]
    rw [e]
    rcases addrO_cases W1.data.toList with ⟨a, ha, hsa, e2⟩ | ⟨hno, e2⟩
    · rw [e2]
      show Calls _ _ _ _ (AnsPost M W (findT (a : Int) (fnd m (a : Int) 33), m))
      have hn : W0.data.toList ≠ nSum := by rw [hF]; decide
      rcases find_same (a := (a : Int)) hd.ok with ⟨h1, h2⟩ | ⟨j, v, i, h1, h2, h3⟩
      · rw [h1]
        exact Ans_findnone hT hM hd hs hL k0 k1 hF hn ha hsa h2
      · rw [h1]
        have hmem := List.mem_of_getElem? h3
        obtain ⟨hn1, hn2⟩ := hd.ok.nets _ hmem
        obtain ⟨v1, v2⟩ := hd.num _ hmem
        obtain ⟨p, q, hp, hq, ex⟩ := net_of_nat hn1 hn2
        obtain ⟨v, rfl⟩ := Int.eq_ofNat_of_zero_le v1
        have eq2 : q = j := by have := congrArg Prod.snd ex; simp only [trimN] at this; omega
        have ep : fl (lowI j) (a : Int) = (p : Int) := congrArg Prod.fst ex
        subst eq2
        have ef : findT (a : Int) (some (q, (v : Int))) = .ok (netT p q ++ 32 :: dd v) := by
          show Except.ok (netT (fl (lowI q) (a : Int)).toNat q ++ 32 :: dd (v : Int).toNat) = _
          rw [ep]; rfl
        rw [ef]
        simp only at ex
        rw [ex] at h2 h3
        exact Ans_find hT hM hd hs hL k0 k1 hF hn ha hsa hp hq (by simp only at v2; omega) h2 h3
    · rw [e2]
      exact Ans_findbad hT hM hd hs hL k0 k1 hF hno
  · by_cases hS : W0.data.toList = nSum
    · have e : lineW2 m W0.data.toList W1.data.toList = (sumX (addrO W1.data.toList), m) := by unfold lineW2; rw [hS, if_neg (by decide), if_neg (by decide), if_neg (by decide), if_pos rfl]
      rw [e]
      rcases addrO_cases W1.data.toList with ⟨a, ha, hsa, e2⟩ | ⟨hno, e2⟩
      · rw [e2]
        have hr := S16_rng (sumL a)
        obtain ⟨q, hq⟩ := Int.eq_ofNat_of_zero_le hr.1
        have hX : sumX (some a) = .ok (dd q) := by show Except.ok (dd (S16 (sumL (a : Int))).toNat) = _; rw [hq]; rfl
        rw [hX]
        exact Ans_sum hT hM hd hs hL k0 k1 hF hS ha hsa (by have := hr.2; omega) hq
      · rw [e2]
        exact Ans_sumbad hT hM hd hs hL k0 k1 hF hS hno
    · rcases netO_cases W1.data.toList with ⟨a, k, ha, hk, hnf, hsn, e2⟩ | ⟨hno, e2⟩
      · by_cases hD : W0.data.toList = nDrop
        · have e : lineW2 m W0.data.toList W1.data.toList = dropX m (netO W1.data.toList) := by unfold lineW2; rw [if_pos hD]
          have hG : W0.data.toList ≠ nGet := by rw [hD]; decide
          rw [e, e2]
          show Calls _ _ _ _ (AnsPost M W (if getE m ((a : Int), (k : Int)) = 0 then (.ok okT, dropT m ((a : Int), (k : Int))) else (.error (getE m ((a : Int), (k : Int))), m)))
          cases hl : look m ((a : Int), (k : Int)) with
          | none =>
            obtain ⟨g1, _, _⟩ := get_none hnf hl
            rw [g1, if_neg (by decide)]
            exact Ans_dropnone hT hM hd hs hL k0 k1 hF hS hD ha hnf hsn hl
          | some v =>
            obtain ⟨g1, _, g3⟩ := get_some hnf hl
            rw [g1, if_pos rfl, g3]
            obtain ⟨i, hi, _⟩ := place0 hl
            exact Ans_drop hT hM hd hs hL k0 k1 hF hS hD hG ha hnf hsn (v := v) hi
        · by_cases hG : W0.data.toList = nGet
          · have e : lineW2 m W0.data.toList W1.data.toList = (getX m (netO W1.data.toList), m) := by unfold lineW2; rw [if_neg hD, if_pos hG]
            rw [e, e2]
            show Calls _ _ _ _ (AnsPost M W ((if getE m ((a : Int), (k : Int)) = 0 then .ok (dd (getV m ((a : Int), (k : Int))).toNat) else .error (getE m ((a : Int), (k : Int)))), m))
            cases hl : look m ((a : Int), (k : Int)) with
            | none =>
              obtain ⟨g1, _, _⟩ := get_none hnf hl
              rw [g1, if_neg (by decide)]
              exact Ans_getnone hT hM hd hs hL k0 k1 hF hS hD hG ha hnf hsn hl
            | some v =>
              obtain ⟨g1, g2, _⟩ := get_some hnf hl
              rw [g1, if_pos rfl, g2]
              obtain ⟨i, hi, h3⟩ := place0 hl
              obtain ⟨v1, v2⟩ := hd.num _ (List.mem_of_getElem? h3)
              obtain ⟨v, rfl⟩ := Int.eq_ofNat_of_zero_le v1
              exact Ans_get hT hM hd hs hL k0 k1 hF hS hD hG ha hnf hsn (by simp only at v2; omega) hi h3
          · have e : lineW2 m W0.data.toList W1.data.toList = (.error 7, m) := by unfold lineW2; rw [if_neg hD, if_neg hG, if_neg hF, if_neg hS]
            rw [e]
            exact Ans_oth2 hT hM hd hs hL k0 k1 hF hS hD hG ha hnf hsn
      · have e : lineW2 m W0.data.toList W1.data.toList = (.error 7, m) := by
          unfold lineW2
          rw [e2]
          split
          · rfl
          · split
            · rfl
            · rfl
        rw [e]
        exact Ans_bad2 hT hM hd hs hL k0 k1 hF hS hno
theorem Ans_any3 {W0 W1 W2 : ByteArray} (hT : TabR M W m A n c A' n' c') (hM : ∀ b, M b → b < W.heap.size) (hd : DOk m) (hs : s.size ≤ 2097152) (hL : [W0, W1, W2].map (·.data.toList) = segs 32 s.data.toList) (k0 : s.data.toList ≠ nList) (k1 : s.data.toList ≠ nCover) :
    Calls Tryz.prog 8 #[.agg #[.slice A n c, .slice A' n' c'], .string s] W (AnsPost M W (lineW3 m W0.data.toList W1.data.toList W2.data.toList)) := by
  rcases netO_cases W1.data.toList with ⟨a, k, ha, hk, hnf, hsn, e2⟩ | ⟨hno, e2⟩
  · by_cases hC : W0.data.toList = nCommon
    · have e : lineW3 m W0.data.toList W1.data.toList W2.data.toList = (comX (netO W1.data.toList) (netO W2.data.toList), m) := by unfold lineW3; rw [hC, if_neg (by decide), if_pos rfl]
      rw [e, e2]
      rcases netO_cases W2.data.toList with ⟨b, j, hb, hj, hnf1, hsn1, e3⟩ | ⟨hno, e3⟩
      · rw [e3]
        obtain ⟨p, q, hp, hq, hCm⟩ : ∃ p q : Nat, p < 4294967296 ∧ q ≤ 32 ∧ comN ((a : Int), (k : Int)) ((b : Int), (j : Int)) = ((p : Int), (q : Int)) := by
          have h32 : is32 (comN ((a : Int), (k : Int)) ((b : Int), (j : Int))).1 := trim_is ⟨by simp only; omega, by simp only; omega⟩ _
          obtain ⟨p, hpe⟩ := Int.eq_ofNat_of_zero_le h32.1
          exact ⟨p, comL ((a : Int), (k : Int)) ((b : Int), (j : Int)), by have := h32.2; omega, comL_le _ _, Prod.ext hpe rfl⟩
        have hX : comX (some ((a : Int), (k : Int))) (some ((b : Int), (j : Int))) = .ok (netT p q) := by show Except.ok (netX (comN ((a : Int), (k : Int)) ((b : Int), (j : Int)))) = _; rw [hCm]; rfl
        rw [hX]
        exact Ans_com hT hM hd hs hL k0 k1 hC ha hnf hsn hb hnf1 hsn1 hp hq hCm
      · rw [e3]
        exact Ans_combad hT hM hd hs hL k0 k1 hC ha hnf hsn hno
    · by_cases hP : W0.data.toList = nPut
      · have e : lineW3 m W0.data.toList W1.data.toList W2.data.toList = putX m (netO W1.data.toList) (numO W2.data.toList) := by unfold lineW3; rw [if_pos hP]
        rw [e, e2]
        rcases numO_cases W2.data.toList with ⟨v, hv, hsv, e3⟩ | ⟨hno, e3⟩
        · rw [e3]
          show Calls _ _ _ _ (AnsPost M W (if putE m ((a : Int), (k : Int)) = 0 then (.ok okT, putT m ((a : Int), (k : Int)) (v : Int)) else (.error (putE m ((a : Int), (k : Int))), m)))
          have hlen := hd.ok.len
          by_cases hf : look m ((a : Int), (k : Int)) = none ∧ m.length = 64
          · obtain ⟨g1, _⟩ := put_full4 (v := (v : Int)) hnf hf
            rw [g1, if_neg (by decide)]
            exact Ans_putfull hT hM hd hs hL k0 k1 hC hP ha hnf hsn hv hsv hf.1 (by omega)
          · obtain ⟨g1, g2⟩ := put_eq (v := (v : Int)) hnf hf
            rw [g1, if_pos rfl, g2]
            exact Ans_put hT hM hd hs hL k0 k1 hC hP ha hnf hsn hv hsv fun h => hf ⟨h.1, by omega⟩
        · rw [e3]
          exact Ans_putbad hT hM hd hs hL k0 k1 hC hP ha hnf hsn hno
      · have e : lineW3 m W0.data.toList W1.data.toList W2.data.toList = (.error 7, m) := by unfold lineW3; rw [if_neg hP, if_neg hC]
        rw [e]
        exact Ans_oth3 hT hM hd hs hL k0 k1 hC hP ha hnf hsn
  · have e : lineW3 m W0.data.toList W1.data.toList W2.data.toList = (.error 7, m) := by
      unfold lineW3
      rw [e2]
      split
      · rfl
      · split
        · rfl
        · rfl
    rw [e]
    exact Ans_badm (r := []) hT hM hd hs hL k0 k1 hno
theorem Answered_any (hT : TabR M W m A n c A' n' c') (hM : ∀ b, M b → b < W.heap.size) (hd : DOk m) (hs : s.size ≤ 2097152) :
    Calls Tryz.prog 8 #[.agg #[.slice A n c, .slice A' n' c'], .string s] W (AnsPost M W (lineA m s.data.toList)) := by
  obtain ⟨L, hL⟩ : ∃ L : List ByteArray, L.map (·.data.toList) = segs 32 s.data.toList := ⟨(segs 32 s.data.toList).map fun l => ⟨l.toArray⟩, by simp [List.map_map, Function.comp_def]⟩
  by_cases k0 : s.data.toList = nList
  · have e : lineA m s.data.toList = (.ok (netsT (allM m)), m) := by
      unfold lineA
      rw [k0, segs_miss (by decide)]
      show lineW1 m nList = _
      unfold lineW1; rw [if_pos rfl]
    rw [e]
    exact Ans_list hT hM hd hs hL k0
  by_cases k1 : s.data.toList = nCover
  · have e : lineA m s.data.toList = (.ok (netsT (coverV (allM m))), m) := by
      unfold lineA
      rw [k1, segs_miss (by decide)]
      show lineW1 m nCover = _
      unfold lineW1; rw [if_neg (by decide), if_pos rfl]
    rw [e]
    exact Ans_cover hT hM hd hs hL k0 k1
  have hA : lineA m s.data.toList = lineW m (L.map (·.data.toList)) := by unfold lineA; rw [hL]
  rw [hA]
  match L, hL with
  | [], hL => exact absurd hL.symm (segs_ne 32 _)
  | [W0], hL =>
    have e : lineW m ([W0].map (·.data.toList)) = (.error 7, m) := by
      show lineW1 m W0.data.toList = _
      rw [← one_word hL]
      unfold lineW1; rw [if_neg k0, if_neg k1]
    rw [e]
    exact Ans_one hT hM hd hs hL k0 k1
  | [W0, W1], hL => exact Ans_any2 hT hM hd hs hL k0 k1
  | [W0, W1, W2], hL => exact Ans_any3 hT hM hd hs hL k0 k1
  | W0 :: W1 :: W2 :: W3 :: r, hL =>
    show Calls _ _ _ _ (AnsPost M W (.error 7, m))
    rcases netO_cases W1.data.toList with ⟨a, k, ha, hk, hnf, hsn, _⟩ | ⟨hno, _⟩
    · exact Ans_many hT hM hd hs hL k0 k1 ha hnf hsn
    · exact Ans_badm (r := W3 :: r) hT hM hd hs hL k0 k1 hno
end
end Go.Proofs.YtgdlkjahlajcpaaGreatDoor
namespace Go.Proofs.YtgdlkjahlajcpaaGreatDoor
open Go.ChangeShapes Go.WideShapes Go.ChangeAt Go.RowKit
set_option linter.unusedVariables false
set_option linter.unusedSimpArgs false

def OwnS (w : World) (base : Nat) (v : Value) (xs : List (List UInt8)) : Prop := w.ownsRow base 9 1 v xs.length (xs.map strV)
theorem OwnS.nil_ (w : World) (base : Nat) : OwnS w base (.slice none 0 0) [] := ⟨rfl, .inl ⟨rfl, rfl⟩⟩
theorem OwnS.alloc {w : World} {base : Nat} {v : Value} {xs : List (List UInt8)} (h : OwnS w base v xs) (o : Obj) : OwnS (w.alloc o) base v xs := World.ownsRow.alloc h o
theorem OwnS.below {w w' : World} {base : Nat} {v : Value} {xs : List (List UInt8)} (h : OwnS w base v xs) (hb : Below w.heap.size w w') : OwnS w' base v xs := own_below h hb
theorem OwnS.form {w : World} {base : Nat} {v : Value} {xs : List (List UInt8)} (h : OwnS w base v xs) : ∃ A c, v = .slice A xs.length c := own_form h
theorem OwnS.kept {w w' : World} {base : Nat} {v : Value} {xs : List (List UInt8)} (h : OwnS w base v xs) (hk : ∀ b, v.ownBlock = some b → w'.heap[b]? = w.heap[b]?) : OwnS w' base v xs := by
  obtain ⟨h1, h2⟩ := h
  refine ⟨h1, ?_⟩
  rcases h2 with h2 | ⟨g, cap, cur, e, h3, h4, h5⟩
  · exact .inl h2
  · exact .inr ⟨g, cap, cur, e, h3, (hk g (by rw [e]; rfl)).trans h4, h5⟩
theorem OwnS.blk {w : World} {base : Nat} {v : Value} {xs : List (List UInt8)} (h : OwnS w base v xs) : ∀ b, v.ownBlock = some b → base ≤ b ∧ b < w.heap.size := own_blk h
theorem wpList_append_text {w : World} {ops : Array Oper} {rest : List Oper} {o : Oper} {a : Act} {Q : Exit → Act → World → Prop} (hgd : o.guard = none) (s x : Operand) (t : TypeId) (ht : Tryz.prog.underlying t = some (.slice 9))
    (ho : o.op = .call { callee := .builtin .append, args := #[s, x], argTypes := #[t, t] })
    (base : Nat) (v : Value) (xs : List (List UInt8)) (hs : a.eval s = v) (hown : OwnS w base v xs)
    (G : Nat) (y : List UInt8) (t2 : TypeId) (hx : a.eval x = .slice (some ⟨G, 0, none⟩) 1 1) (hG : w.heap[G]? = some (.cells #[strV y] t2 (0, 0)))
    (hl : xs.length ≤ 1000000000) (hbase : base ≤ w.heap.size)
    (h : ∀ v' w', OwnS w' base v' (xs ++ [y]) → Grow w v w' v' → wpList Tryz.prog ops Q rest (a.put o.dst v') w') : wpList Tryz.prog ops Q (o :: rest) a w := by
  have hinfo : (Tryz.prog.info? 9).map (fun i => (i.zero, i.size, i.bytes)) = some (some (.string .empty), 1, 16) := by kernel_rfl
  obtain ⟨i0, hi, hz0, hz1, hz2⟩ := info_parts hinfo
  have hr : Reads w w.heap.size 1 (some ⟨G, 0, none⟩) 1 [strV y] := ⟨rfl, fun _ => ⟨_, rfl, size_of_block hG, fun j u hu => by
    rw [addr_add, cell_of_row _ G _ _ t2 (0, 0) hG]; simpa using hu⟩⟩
  refine wpList_append_any w hgd s x t ho base 9 i0 _ 1 16 ht hi hz0 hz1 hz2 (by rfl) (by omega) v xs.length _ hs hown w.heap.size _ 1 1 [strV y] hx hr (by intro u hu; simp only [List.mem_cons, List.not_mem_nil, or_false] at hu; subst hu; rfl) (by simp only [maxLen]; omega) (by omega) hbase ?_
  intro v' w' h1 h2 h3
  refine h v' w' (show w'.ownsRow base 9 1 v' (xs ++ [y]).length ((xs ++ [y]).map strV) by simpa using h1) ⟨h2, ?_⟩
  rcases h3 with h3 | h3
  · exact .inl h3
  · exact .inr ⟨_, h3, Nat.le_refl _⟩
section
variable {W w w' : World} {T : Nat} {m : Tab} {S : Nat → Prop} {v v' : Value}
theorem Tk.grow (h : Tk W T m S w) (hg : Grow w v w' v') (hv : ∀ b, v.ownBlock = some b → S b ∧ W.heap.size ≤ b) : Tk W T m (fun b => S b ∨ w.heap.size ≤ b ∧ b < w'.heap.size) w' ∧ (∀ b, S b → (∀ k, v.ownBlock = some k → b ≠ k) → w'.heap[b]? = w.heap[b]?) := by
  have hsz := hg.size
  obtain ⟨N, hT, hS⟩ := h.ex
  refine ⟨⟨⟨N, hT.kept fun x b hx => hg.1.block b (hT.lt hx) fun e => ?_, fun g hg' => ?_⟩, ?_⟩, fun b hb hn => hg.1.block b (hS b hb).1 fun e => hn b e.symm rfl⟩
  · exact (hS b (hv b e.symm).1).2 x hx
  · rcases hg' with hg' | hg'
    · exact ⟨Nat.lt_of_lt_of_le (hS g hg').1 hsz, (hS g hg').2⟩
    · exact ⟨hg'.2, hT.fresh hg'.1⟩
  · have hb := h.bel
    exact ⟨by rw [hg.1.os, hb.os], by rw [hg.1.tape, hb.tape], by rw [hg.1.output, hb.output], Nat.le_trans hb.size hsz, fun i hi => (hg.1.block i (Nat.lt_of_lt_of_le hi hb.size) fun e => by have := (hv i e.symm).2; omega).trans (hb.block i hi)⟩
end
end Go.Proofs.YtgdlkjahlajcpaaGreatDoor
namespace Go.Proofs.YtgdlkjahlajcpaaGreatDoor
open Go.ChangeShapes Go.WideShapes Go.ChangeAt Go.RowKit
set_option linter.unusedVariables false
set_option linter.unusedSimpArgs false

def RdT (w : World) (A : Option Addr) (n : Nat) (L : List (List UInt8)) : Prop := n = L.length ∧ (0 < n → ∃ g o, A = some ⟨g, o, none⟩ ∧ g < w.heap.size ∧ ∀ k l, L[k]? = some l → w.cell? ⟨g, o + k, none⟩ = some (strV l))
theorem RdT.below {w w' : World} {A : Option Addr} {n : Nat} {L : List (List UInt8)} (h : RdT w A n L) (hb : Below w.heap.size w w') : RdT w' A n L := by
  refine ⟨h.1, fun hn => ?_⟩
  obtain ⟨g, o, e, hg, hc⟩ := h.2 hn
  exact ⟨g, o, e, Nat.lt_of_lt_of_le hg hb.size, fun k l hl => (hb.cell (p := ⟨g, o + k, none⟩) hg).trans (hc k l hl)⟩
theorem OwnS.rd {w : World} {base n c : Nat} {A : Option Addr} {L : List (List UInt8)} (h : OwnS w base (.slice A n c) L) : RdT w A n L ∧ n = L.length ∧ n ≤ c := by
  obtain ⟨A', c', e⟩ := h.form
  simp only [Value.slice.injEq] at e
  obtain ⟨_, e2, _⟩ := e
  have hle : n ≤ c := by
    obtain ⟨_, h2⟩ := h
    rcases h2 with ⟨h2, _⟩ | ⟨g, cap, cur, e, _, _, h4, _⟩
    · simp only [Value.slice.injEq] at h2; omega
    · simp only [Value.slice.injEq] at e; omega
  refine ⟨⟨e2, fun hn => ?_⟩, e2, hle⟩
  obtain ⟨g, cap, e, _, hg, _, hc⟩ := own_pos h (by omega)
  simp only [Value.slice.injEq] at e
  exact ⟨g, 0, e.1, hg, fun k l hl => hc k _ (by rw [List.getElem?_map, hl]; rfl)⟩
theorem RdT.pre {w : World} {A : Option Addr} {n : Nat} {L : List (List UInt8)} (h : RdT w A n L) {k : Nat} (hk : k ≤ n) : RdT w A k (L.take k) := by
  have h1 := h.1
  refine ⟨by rw [List.length_take]; omega, fun hn => ?_⟩
  obtain ⟨g, o, e, hg, hc⟩ := h.2 (by omega)
  refine ⟨g, o, e, hg, fun j l hl => hc j l ?_⟩
  have hj : j < k := by
    have := (List.getElem?_eq_some_iff.1 hl).1
    rw [List.length_take] at this; omega
  rwa [List.getElem?_take_of_lt hj] at hl
theorem RdT.from {w : World} {g o n : Nat} {L : List (List UInt8)} (h : RdT w (some ⟨g, o, none⟩) n L) {k m : Nat} (hk : k + m = n) : RdT w (some ⟨g, o + k, none⟩) m (L.drop k) := by
  have h1 := h.1
  refine ⟨by rw [List.length_drop]; omega, fun hn => ?_⟩
  obtain ⟨g', o', e, hg, hc⟩ := h.2 (by omega)
  simp only [Option.some.injEq, Addr.mk.injEq, and_true] at e
  obtain ⟨rfl, rfl⟩ := e
  refine ⟨g, o + k, rfl, hg, fun j l hl => ?_⟩
  rw [List.getElem?_drop] at hl
  rw [Nat.add_assoc]
  exact hc (k + j) l hl
set_option maxRecDepth 100000 in
set_option maxHeartbeats 2000000 in
theorem Texts_same {w : World} {A A' : Option Addr} {n c c' : Nat} {L : List (List UInt8)} (h : RdT w A n L) (h' : RdT w A' n L) (hn : n ≤ 1000000000) :
    Calls Tryz.prog 5 #[.slice A n c, .slice A' n c'] w fun e w' => e = .returned (.bool true) ∧ Below w.heap.size w w' := by
  have H := Lib.hid h
  have H' := Lib.hid h'
  clear h h'
  go_enter Tryz.func5, Tryz.ntmps5
  go_wp2
  go_loopw [5] (fun i wr => ∃ k : Nat, k ≤ n ∧ i = .int .i64 k ∧ ∃ j, wr = w.drewN j) (fun i _ => n - (intOf i).toNat)
  case atStart => exact ⟨0, Nat.zero_le _, rfl, 0, rfl⟩
  case round =>
    obtain ⟨k, hk, rfl, j, rfl⟩ := hrel
    by_cases hlt : k < n
    · obtain ⟨g, o, rfl, _, hc⟩ := H.out.2 (by omega)
      obtain ⟨g', o', rfl, _, hc'⟩ := H'.out.2 (by omega)
      obtain ⟨l, hl⟩ : ∃ l, L[k]? = some l := ⟨L[k]'(by have := H.out.1; omega), List.getElem?_eq_getElem _⟩
      obtain ⟨X, hX⟩ : ∃ X : ByteArray, X = ⟨l.toArray⟩ := ⟨_, rfl⟩
      have c0 : w.cell? ⟨g, o + k, none⟩ = some (.string X) := by rw [hX]; exact hc k l hl
      have c1 : w.cell? ⟨g', o' + k, none⟩ = some (.string X) := by rw [hX]; exact hc' k l hl
      have i0 : (0 : Int) ≤ (k : Int) := by omega
      have i1 : (k : Int) < (n : Int) := by omega
      clear hc hc' hl hX
      go_wp2
      go_quiet (fail)
      go_wp2
      go_roundw
      case rel => exact ⟨k + 1, by omega, by go_num, _, (by first | rfl | exact World.drewN_drewN _ _ _)⟩
      case measure => simp [intOf]; omega
    · have : k = n := by omega
      subst this
      go_wp2
      go_ret
      exact ⟨rfl, below_drewN (Below.refl _ _) _⟩
end Go.Proofs.YtgdlkjahlajcpaaGreatDoor
namespace Go.Proofs.YtgdlkjahlajcpaaGreatDoor
open Go.ChangeShapes Go.WideShapes Go.ChangeAt Go.RowKit
set_option linter.unusedVariables false
set_option linter.unusedSimpArgs false

def entM (x : ByteArray × Value × Nat) : MapEntry := { key := .string x.1, val := x.2.1, born := x.2.2 }
def seekK (k : ByteArray) : List (ByteArray × Value × Nat) → Nat → Option (Nat × Value)
  | [], _ => none
  | e :: es, i => if k == e.1 then some (i, e.2.1) else seekK k es (i + 1)
theorem findNow_str (k : ByteArray) : ∀ (es : List (ByteArray × Value × Nat)) (i : Nat), Instr.findNow .string (.string k) (es.map entM) i = some (seekK k es i)
  | [], i => rfl
  | e :: es, i => by
    have ih := findNow_str k es (i + 1)
    simp only [List.map_cons, Instr.findNow, seekK, entM, Instr.sameNow] at ih ⊢
    cases h : k == e.1 with
    | true => simp
    | false => simpa using ih
theorem set_last (w : World) (o o' : Obj) : ({ w.alloc o with heap := (w.alloc o).heap.setIfInBounds w.heap.size o' } : World) = w.alloc o' := by
  have e : (w.alloc o).heap.setIfInBounds w.heap.size o' = w.heap.push o' := by
    show (w.heap.push o).setIfInBounds w.heap.size o' = w.heap.push o'
    apply Array.ext_getElem?
    intro i
    simp only [Array.getElem?_setIfInBounds, Array.getElem?_push, Array.size_push]
    by_cases h : i = w.heap.size
    · subst h; simp
    · have h' : w.heap.size ≠ i := fun e => h e.symm
      simp [h, h']
  rw [e]; rfl
theorem insert_run {P : Program} {t kt et : TypeId} (ht : P.underlying t = some (.map kt et)) (hk : P.underlying kt = some .string) (w : World) (es : List (ByteArray × Value × Nat)) (c : Nat) (k : ByteArray) (v : Value) (h : seekK k es 0 = none) :
    (Instr.mapUpdate t (.map (some w.heap.size)) (.string k) v).run P (w.alloc (.map (es.map entM).toArray c)) = .ok () (w.alloc (.map ((es ++ [(k, v, c)]).map entM).toArray (c + 1))) := by
  have hf := findNow_str k es 0
  rw [h] at hf
  have hb : (w.alloc (.map (es.map entM).toArray c)).heap[w.heap.size]? = some (.map (es.map entM).toArray c) := heap_alloc_new _ _
  have hf' : Instr.findNow .string (.string k) (es.map entM).toArray.toList 0 = some none := hf
  unfold Instr.mapUpdate
  simp only [Sem.run_bind, run_underlying ht, MapKept.run_getObj_map hb, MapKept.run_checkKey hk (k := .string k) trivial, MapKept.run_findKey hk hf', MapKept.run_setObj_map _ hb, Result.andThen]
  rw [set_last]
  simp [entM]
theorem lookup_run {P : Program} {t kt et : TypeId} (ht : P.underlying t = some (.map kt et)) (hk : P.underlying kt = some .string) {w : World} {b c : Nat} {es : List (ByteArray × Value × Nat)} (hb : w.heap[b]? = some (.map (es.map entM).toArray c)) (k : ByteArray) {z : Value} (hz : (zeroValue et).run P w = .ok z w) :
    (Instr.lookup t (.map (some b)) (.string k) true).run P w = .ok (match seekK k es 0 with | some (_, v) => .tuple #[v, .bool true] | none => .tuple #[z, .bool false]) w := by
  have hf := findNow_str k es 0
  have hf' : Instr.findNow .string (.string k) (es.map entM).toArray.toList 0 = some (seekK k es 0) := hf
  unfold Instr.lookup
  simp only [Sem.run_bind, run_underlying ht, MapKept.run_getObj_map hb, MapKept.run_checkKey hk (k := .string k) trivial, MapKept.run_findKey hk hf', Result.andThen, Sem.run_pure]
  cases seekK k es 0 with
  | none => simp [hz]
  | some p => simp
/-! ### forms -/
def kPut : ByteArray := ⟨#[112, 117, 116]⟩
def kDrop : ByteArray := ⟨#[100, 114, 111, 112]⟩
def kGet : ByteArray := ⟨#[103, 101, 116]⟩
def kFind : ByteArray := ⟨#[102, 105, 110, 100]⟩
def kList : ByteArray := ⟨#[108, 105, 115, 116]⟩
def kCover : ByteArray := ⟨#[99, 111, 118, 101, 114]⟩
def kCommon : ByteArray := ⟨#[99, 111, 109, 109, 111, 110]⟩
def kSum : ByteArray := ⟨#[115, 117, 109]⟩
abbrev formV (n : Int) (F : Nat) : Value := .agg #[.int .i64 n, .func (.func F) #[] #[]]
def formE : List (ByteArray × Value × Nat) :=
  [(kPut, formV 2 43, 0), (kDrop, formV 1 48, 1), (kGet, formV 1 50, 2), (kFind, formV 1 54, 3),
   (kList, formV 0 59, 4), (kCover, formV 0 62, 5), (kCommon, formV 2 65, 6), (kSum, formV 1 68, 7)]
def formO (i : Nat) : Obj := .map ((formE.take i).map entM).toArray i
theorem form_put (w : World) (i : Nat) (k : ByteArray) (v : Value) (h : formE[i]? = some (k, v, i)) (hf : seekK k (formE.take i) 0 = none) :
    (Instr.mapUpdate 72 (.map (some w.heap.size)) (.string k) v).run Tryz.prog (w.alloc (formO i)) = .ok () (w.alloc (formO (i + 1))) := by
  have e := insert_run Tryz.underlying72 Tryz.underlying9 w (formE.take i) i k v hf
  have e2 : formE.take i ++ [(k, v, i)] = formE.take (i + 1) := by rw [List.take_add_one, h]; rfl
  rw [e2] at e
  exact e
theorem forms_any (w : World) :
    Calls Tryz.prog 30 #[] w fun e w' => e = .returned (.map (some w.heap.size)) ∧ w' = w.alloc (formO 8) := by
  have h0 : ∀ w : World, (Instr.makeMap 72 none).run Tryz.prog w = .ok (.map (some w.heap.size)) (w.alloc (formO 0)) := fun w => rfl
  have h1 := form_put w 0 _ _ rfl (by decide)
  have h2 := form_put w 1 _ _ rfl (by decide)
  have h3 := form_put w 2 _ _ rfl (by decide)
  have h4 := form_put w 3 _ _ rfl (by decide)
  have h5 := form_put w 4 _ _ rfl (by decide)
  have h6 := form_put w 5 _ _ rfl (by decide)
  have h7 := form_put w 6 _ _ rfl (by decide)
  have h8 := form_put w 7 _ _ rfl (by decide)
  simp only [kPut, kDrop, kGet, kFind, kList, kCover, kCommon, kSum, Nat.zero_add, Nat.reduceAdd] at h1 h2 h3 h4 h5 h6 h7 h8
  go_enter Tryz.func30, Tryz.ntmps30
  go_wp2
  go_ret
  exact ⟨rfl, rfl⟩
theorem form_zero (w : World) : (zeroValue 76).run Tryz.prog w = .ok (.agg #[.int .i64 0, .nilFunc]) w := by kernel_rfl
theorem form_hit {w : World} {b : Nat} (hb : w.heap[b]? = some (formO 8)) {k : ByteArray} {i : Nat} {v : Value} (h : seekK k formE 0 = some (i, v)) :
    (Instr.lookup 72 (.map (some b)) (.string k) true).run Tryz.prog w = .ok (.tuple #[v, .bool true]) w := by
  have e := lookup_run Tryz.underlying72 Tryz.underlying9 (es := formE) (c := 8) hb k (form_zero w)
  rw [h] at e
  exact e
theorem form_miss {w : World} {b : Nat} (hb : w.heap[b]? = some (formO 8)) {k : ByteArray} (h : seekK k formE 0 = none) :
    (Instr.lookup 72 (.map (some b)) (.string k) true).run Tryz.prog w = .ok (.tuple #[.agg #[.int .i64 0, .nilFunc], .bool false]) w := by
  have e := lookup_run Tryz.underlying72 Tryz.underlying9 (es := formE) (c := 8) hb k (form_zero w)
  rw [h] at e
  exact e
end Go.Proofs.YtgdlkjahlajcpaaGreatDoor
namespace Go.Proofs.YtgdlkjahlajcpaaGreatDoor
open Go.ChangeShapes Go.WideShapes Go.ChangeAt Go.RowKit
set_option linter.unusedVariables false
set_option linter.unusedSimpArgs false

abbrev LinePost (W : World) (T : Nat) (S : Nat → Prop) (w : World) (r : Ans × Tab) (e : Ending) (w' : World) : Prop := e = .returned (strV (ansT r.1)) ∧ Tk W T r.2 S w' ∧ KeptS S w w'
abbrev doorD (b : Nat) : List Deferred := [{ target := .fn (.func 29) #[.pointer (some ⟨b, 0, none⟩)], args := #[] }]
set_option maxRecDepth 100000 in
theorem door_ret {Q : Ending → World → Prop} {tm : Array Value} {w' : World} {b : Nat} {t : Value} (h4 : tm[4]?.getD undef = .pointer (some ⟨b, 0, none⟩)) (hc : w'.cell? ⟨b, 0, none⟩ = some t) (hQ : Q (.returned t) w') :
    bodyPostD Tryz.prog Tryz.f12 Q Exit.ret { tmps := tm, defers := doorD b } w' := by
  refine leaves_cons (f := 29) (args := #[.pointer (some ⟨b, 0, none⟩)]) (by simp) (by simp [go_sem]) ?_
  refine (catch_idle ⟨b, 0, none⟩ w').mono ?_
  rintro e u' w'' ⟨rfl, rfl, rfl⟩
  exact ⟨t, by simp [results, Tryz.results12, go_sem, h4, hc], hQ⟩
set_option maxRecDepth 100000 in
theorem door_pan {Q : Ending → World → Prop} {tm : Array Value} {w' : World} {b : Nat} {k : Int} {old : Value} (h4 : tm[4]?.getD undef = .pointer (some ⟨b, 0, none⟩)) (h0 : 0 ≤ k) (h7 : k ≤ 7) (hc : w'.cell? ⟨b, 0, none⟩ = some old) (hz : w'.frozen? ⟨b, 0, none⟩ = false)
    (hQ : Q (.returned (bsV (nameE k))) (w'.setCell ⟨b, 0, none⟩ (bsV (nameE k)))) :
    bodyPostD Tryz.prog Tryz.f12 Q (Exit.panic [{ v := .iface 35 (.int .i64 k), recovered := false }]) { tmps := tm, defers := doorD b } w' := by
  refine leaves_cons (f := 29) (args := #[.pointer (some ⟨b, 0, none⟩)]) (by simp) (by simp [go_sem]) ?_
  refine (catch_pan ⟨b, 0, none⟩ k old [] w' h0 h7 hc hz).mono ?_
  rintro e u' w'' ⟨rfl, rfl, rfl⟩
  have hc2 : (w'.setCell ⟨b, 0, none⟩ (bsV (nameE k))).cell? ⟨b, 0, none⟩ = some (bsV (nameE k)) := World.cell?_setCell_same _ _ _ hc
  exact ⟨bsV (nameE k), by simp [results, Tryz.results12, go_sem, h4, hc2], hQ⟩
section
variable {W w : World} {T : Nat} {m : Tab} {S : Nat → Prop} {s c0 : ByteArray} {L : List ByteArray}
set_option maxRecDepth 100000 in
set_option maxHeartbeats 4000000 in
theorem line_miss (h : Tk W T m S w) (hw : HStr W) (hs : s.size ≤ 2097152) (hL : L.map (·.data.toList) = segs 32 s.data.toList) (hc : L[0]? = some c0) (hk : seekK c0 formE 0 = none) :
    Calls Tryz.prog 12 #[deskV T, .string s] w (LinePost W T S w (.error 7, m)) := by
  have hmf : ∀ (fn : Fn) (first cap : Array Value) (w : World), (Instr.makeFunc fn first cap).run Tryz.prog w = .ok (.func fn first cap) w := fun _ _ _ _ => rfl
  have HT := Lib.hid h
  have HW : Hid (HStr w) := Lib.hid (hw.below h.bel (Nat.le_refl _))
  have HL := Lib.hid hL
  have HC := Lib.hid hc
  have HK := Lib.hid hk
  obtain ⟨PP, hPP⟩ : ∃ PP, LinePost W T S w (.error 7, m) = PP := ⟨_, rfl⟩
  have HPP := Lib.hid hPP
  rw [hPP]
  clear h hw hL hc hk hPP
  go_enter_defers Tryz.func12, Tryz.ntmps12
  go_wp2_with fail
  go_at_call 9
  (with_reducible refine (Split_r 32 s _ ((HW.out.alloc _).alloc _) hs).mono ?_)
  rintro e w1 ⟨L', g, hL', rfl, hcs, hg, hb1⟩
  obtain rfl : L' = L := list_bytes (hL'.trans HL.out.symm)
  have hb0 : Below w.heap.size w ((w.alloc (.cells #[.pointer (some ⟨T, 0, none⟩)] 40)).alloc (.cells #[.string ⟨#[]⟩] 9)) := ((Below.refl w.heap.size w).alloc (Nat.le_refl _) _).alloc (by simp) _
  obtain ⟨bx0, ba0⟩ := box2 hb1
  have HB1 := Lib.hid (hb0.trans (hb1.mono hb0.size))
  have BX1 := Lib.hid bx0
  have BA1 := Lib.hid ba0
  have e0 := hcs 0 _ HC.out
  have E0 := Lib.hid e0
  have zw1 := size_of_block ba0
  clear hb0 hb1 bx0 ba0 hcs hL'
  go_wp2_with fail
  go_at_call 30
  (with_reducible refine (forms_any _).mono ?_)
  rintro e w2 ⟨rfl, hw2⟩
  have hb2 : Below w1.heap.size w1 w2 := by rw [hw2]; exact (Below.refl _ _).alloc (Nat.le_refl _) _
  have hm2 : w2.heap[w1.heap.size]? = some (formO 8) := by rw [hw2]; exact heap_alloc_new _ _
  have HB2 := Lib.hid (HB1.out.trans (hb2.mono HB1.out.size))
  have bx2 := below_block hb2 (size_of_block BX1.out) BX1.out
  have ba2 := below_block hb2 (size_of_block BA1.out) BA1.out
  have BX2 := Lib.hid bx2
  have BA2 := Lib.hid ba2
  have e2 := (hb2.cell (p := ⟨g, 0, none⟩) hg).trans E0.out
  have hlk := form_miss hm2 HK.out
  have hNp : 0 < L'.length := (List.getElem?_eq_some_iff.1 HC.out).1
  have hd1 := row1p bx2
  have hd2 := row1p ba2
  have zw2 := HB2.out.size
  have ha2 := size_of_block ba2
  have hf2 : w2.frozen? ⟨w.heap.size + 1, 0, none⟩ = false := frozen_of_row _ _ _ _ _ ba2
  clear hb2 hm2 e0 bx2 ba2 hw2
  obtain ⟨N, hN⟩ : ∃ N, L'.length = N := ⟨_, rfl⟩
  rw [hN] at hNp ⊢
  have HN := Lib.hid hN
  clear hN
  go_wp2_with (first
    | (go_at_call 10; (with_reducible refine (Name_any 7 (by decide) (by decide) _).mono ?_); rintro e w3 ⟨rfl, rfl⟩)
    | fail)
  have hbe : Below w.heap.size w ((w2.setCell ⟨w.heap.size + 1, 0, none⟩ (bsV (nameE 7))).alloc (.cells #[.int .i64 0, .nilFunc] 76)) := (HB2.out.setCell (p := ⟨w.heap.size + 1, 0, none⟩) (by simp) _).alloc (by simp; omega) _
  rw [← HPP.out]
  exact door_ret rfl ((World.cell?_alloc_lt _ _ _ (by simp; omega)).trans (World.cell?_setCell_same _ _ _ hd2)) ⟨rfl, HT.out.below hbe, fun g hg => hbe.block g (HT.out.lt hg)⟩
set_option maxRecDepth 100000 in
set_option maxHeartbeats 4000000 in
theorem line_len {i kk F : Nat} (h : Tk W T m S w) (hw : HStr W) (hs : s.size ≤ 2097152) (hL : L.map (·.data.toList) = segs 32 s.data.toList) (hc : L[0]? = some c0) (hk : seekK c0 formE 0 = some (i, formV (kk : Int) F)) (hkk : kk ≤ 2) (hne : L.length ≠ kk + 1) :
    Calls Tryz.prog 12 #[deskV T, .string s] w (LinePost W T S w (.error 7, m)) := by
  have hmf : ∀ (fn : Fn) (first cap : Array Value) (w : World), (Instr.makeFunc fn first cap).run Tryz.prog w = .ok (.func fn first cap) w := fun _ _ _ _ => rfl
  have HT := Lib.hid h
  have HW : Hid (HStr w) := Lib.hid (hw.below h.bel (Nat.le_refl _))
  have HL := Lib.hid hL
  have HC := Lib.hid hc
  have HK := Lib.hid hk
  obtain ⟨PP, hPP⟩ : ∃ PP, LinePost W T S w (.error 7, m) = PP := ⟨_, rfl⟩
  have HPP := Lib.hid hPP
  rw [hPP]
  clear h hw hL hc hk hPP
  go_enter_defers Tryz.func12, Tryz.ntmps12
  go_wp2_with fail
  go_at_call 9
  (with_reducible refine (Split_r 32 s _ ((HW.out.alloc _).alloc _) hs).mono ?_)
  rintro e w1 ⟨L', g, hL', rfl, hcs, hg, hb1⟩
  obtain rfl : L' = L := list_bytes (hL'.trans HL.out.symm)
  have hb0 : Below w.heap.size w ((w.alloc (.cells #[.pointer (some ⟨T, 0, none⟩)] 40)).alloc (.cells #[.string ⟨#[]⟩] 9)) := ((Below.refl w.heap.size w).alloc (Nat.le_refl _) _).alloc (by simp) _
  obtain ⟨bx0, ba0⟩ := box2 hb1
  have HB1 := Lib.hid (hb0.trans (hb1.mono hb0.size))
  have BX1 := Lib.hid bx0
  have BA1 := Lib.hid ba0
  have e0 := hcs 0 _ HC.out
  have E0 := Lib.hid e0
  have zw1 := size_of_block ba0
  clear hb0 hb1 bx0 ba0 hcs hL'
  go_wp2_with fail
  go_at_call 30
  (with_reducible refine (forms_any _).mono ?_)
  rintro e w2 ⟨rfl, hw2⟩
  have hb2 : Below w1.heap.size w1 w2 := by rw [hw2]; exact (Below.refl _ _).alloc (Nat.le_refl _) _
  have hm2 : w2.heap[w1.heap.size]? = some (formO 8) := by rw [hw2]; exact heap_alloc_new _ _
  have HB2 := Lib.hid (HB1.out.trans (hb2.mono HB1.out.size))
  have bx2 := below_block hb2 (size_of_block BX1.out) BX1.out
  have ba2 := below_block hb2 (size_of_block BA1.out) BA1.out
  have BX2 := Lib.hid bx2
  have BA2 := Lib.hid ba2
  have e2 := (hb2.cell (p := ⟨g, 0, none⟩) hg).trans E0.out
  have hlk := form_hit hm2 HK.out
  have hNp : 0 < L'.length := (List.getElem?_eq_some_iff.1 HC.out).1
  have hd1 := row1p bx2
  have hd2 := row1p ba2
  have zw2 := HB2.out.size
  have ha2 := size_of_block ba2
  have hf2 : w2.frozen? ⟨w.heap.size + 1, 0, none⟩ = false := frozen_of_row _ _ _ _ _ ba2
  clear hb2 hm2 e0 bx2 ba2 hw2
  obtain ⟨N, hN⟩ : ∃ N, L'.length = N := ⟨_, rfl⟩
  rw [hN] at hNp ⊢
  have HN := Lib.hid hN
  clear hN
  have hx : ((N : Int) != (kk : Int) + 1) = true := by simpa using (by have := HN.out; omega : (N : Int) ≠ (kk : Int) + 1)
  have hk0 : (kk : Int) ≤ 2 := by omega
  go_wp2_with (first
    | (go_at_call 10; (with_reducible refine (Name_any 7 (by decide) (by decide) _).mono ?_); rintro e w3 ⟨rfl, rfl⟩)
    | fail)
  have hbe : Below w.heap.size w ((w2.setCell ⟨w.heap.size + 1, 0, none⟩ (bsV (nameE 7))).alloc (.cells #[.int .i64 (kk : Int), .func (.func F) #[] #[]] 76)) := (HB2.out.setCell (p := ⟨w.heap.size + 1, 0, none⟩) (by simp) _).alloc (by simp; omega) _
  rw [← HPP.out]
  exact door_ret rfl ((World.cell?_alloc_lt _ _ _ (by simp; omega)).trans (World.cell?_setCell_same _ _ _ hd2)) ⟨rfl, HT.out.below hbe, fun g hg => hbe.block g (HT.out.lt hg)⟩
end
end Go.Proofs.YtgdlkjahlajcpaaGreatDoor
