/- slices.SortFunc and slices.SortedFunc at nets: the same nets, in order. -/
import Derived.Test.YtplojnlmofbneaaDoorCovA
import Derived.Test.YtplojnlmofbneaaDoorCovB
import Derived.Test.YtplojnlmofbneaaDoorShelf
namespace Go.Proofs.YtplojnlmofbneaaDoor
open Go.ChangeShapes Go.WideShapes Go.ChangeAt Go.RowKit
set_option linter.unusedVariables false
set_option linter.unusedSimpArgs false
open Go.Sort in
theorem flat_eq (zs : List Nn) : flatK nC 2 zs.toArray = (zs.flatMap nC).toArray := by
  apply Array.ext
  · simp only [size_flatK, List.size_toArray]; exact (nC_len zs).symm
  · intro t h1 h2
    have ht : t < zs.length * 2 := by simpa using h1
    have e0 := get_flatK nC 2 zs.toArray t (by simpa using ht)
    have hq : t / 2 < zs.length := by omega
    have hx : zs[t / 2]? = some zs[t / 2] := List.getElem?_eq_getElem hq
    have e1 := nC_at zs (t / 2) (t % 2) _ hx (by omega)
    rw [show t / 2 * 2 + t % 2 = t from by omega] at e1
    have e2 : (flatK nC 2 zs.toArray)[t]! = (flatK nC 2 zs.toArray)[t] := getElem!_pos _ t h1
    rw [← e2, e0]
    have e3 : zs.toArray[t / 2]! = zs[t / 2] := by rw [getElem!_pos zs.toArray (t / 2) (by simpa using hq)]; simp
    rw [e3]
    have h2' : t < (zs.flatMap nC).length := by rw [nC_len]; exact ht
    rw [List.getElem?_eq_getElem h2'] at e1
    have hm : t % 2 < (nC zs[t / 2]).length := by simp [nC]; omega
    rw [List.getElem?_eq_getElem hm] at e1
    simp only [Option.some.injEq] at e1
    rw [getElem!_pos (nC zs[t / 2]) (t % 2) hm, ← e1]; simp
open Go.Sort in
theorem holds_of_blockV {w : World} {g : Nat} {cur : Array Value} {e : TypeId} {ss : List Value} (hb : w.heap[g]? = some (.cells cur e (0, 0))) (ht : cur.toList.take ss.length = ss) : Holds id w g 0 ss.toArray := by
  intro j hj
  have hj' : j < ss.length := by simpa using hj
  refine ⟨?_, by simp [World.frozen?, hb]⟩
  have h1 : (cur.toList.take ss.length)[j]? = ss[j]? := by rw [ht]
  rw [List.getElem?_take_of_lt hj'] at h1
  simp only [World.cell?, hb, Nat.zero_add]
  simp only [Option.isSome_none, Bool.false_eq_true, if_false]
  rw [← Array.getElem?_toList, h1]
  simp [hj']
open Go.Sort in
theorem heap_sortedV {w : World} {g n : Nat} {os : Array Obj} {cur : Array Value} {e : TypeId} {fr : Nat × Nat} (d : Array Value) (hb : w.heap[g]? = some (.cells cur e fr)) :
    (grow (putRow id (Sort.ahead w n) g 0 d) os).heap[g]? = some (.cells (putCells id 0 d cur) e fr) := by
  have hg : g < w.heap.size := (Array.getElem?_eq_some_iff.1 hb).1
  rw [heap_grow_old _ _ (by simpa using hg)]
  simp [putRow, mapBlock, Sort.ahead, Array.getElem?_modify, hb, onCells]
open Go.Sort in
theorem grownBy_sortedV {w : World} {g n : Nat} {os : Array Obj} (d : Array Value) : w.grownBy (grow (putRow id (Sort.ahead w n) g 0 d) os) (some g) := by
  refine ⟨rfl, rfl, rfl, by simp, fun k hk hne => ?_⟩
  rw [heap_grow_old _ _ (by simpa using hk)]
  have : g ≠ k := fun e => hne (by rw [e])
  simp [putRow, mapBlock, Sort.ahead, Array.getElem?_modify, this]
open Go.Sort in
theorem take_putCellsV (cur : Array Value) (ts : List Value) (h : ts.length ≤ cur.size) : (putCells id 0 ts.toArray cur).toList.take ts.length = ts := by
  apply List.ext_getElem?
  intro j
  by_cases hj : j < ts.length
  · rw [List.getElem?_take_of_lt hj, Array.getElem?_toList]
    simp [putCells, hj, show j < cur.size by omega]
  · rw [List.getElem?_take_eq_none (by omega), List.getElem?_eq_none (by omega)]
theorem sort_fun : (fun x y : Nn => !(ltOf cmpN) y x) = fun x y => !lessB y x := by funext x y; rw [cmp_lt]
theorem sort_nil : sortN [] = [] := by unfold sortN; simp
theorem SortFunc_any {w : World} {base : Nat} {v : Value} {zs : List Nn} (ho : OwnN w base v zs) (hl : zs.length ≤ 1000) :
    Calls Tryd.prog 55 #[v, .func (.func 33) #[] #[]] w fun e w' => e = .returned (.tuple #[]) ∧ OwnN w' base v (sortN zs) ∧ Grow w v w' v := by
  by_cases hz : zs = []
  · subst hz
    obtain ⟨A, c, rfl⟩ := ho.form
    have hcon := AnyF.slices_SortFunc_none Tryd.sortN A c (.func (.func 33) #[] #[]) w
    change Calls Tryd.prog 55 _ _ _ at hcon
    refine hcon.mono fun e w' hh => ⟨hh.1, ?_⟩
    rw [hh.2, sort_nil]
    exact ⟨ho, Grow.refl _ _⟩
  · have hpos : 0 < zs.length := List.length_pos_iff.2 hz
    obtain ⟨⟨h1, h2⟩, h3⟩ := ho
    rcases h2 with ⟨_, h2⟩ | ⟨g, cap, cur, rfl, hg, hb, hc, hm, hs, ht⟩
    · omega
    · have hlen := nC_len zs
      have hH : Sort.HoldsK nC 2 w g 0 zs.toArray := by
        unfold Sort.HoldsK
        rw [flat_eq]
        exact holds_of_blockV hb (by rw [hlen]; exact ht)
      have eg : ∀ args w, (callFunc 33 args).run Tryd.prog w = .ok (.enter 33 args) w := enters_of Tryd.func33 (by kernel_rfl) rfl
      have hcmp : CmpLays Tryd.prog 33 #[] nC 2 cmpN g 0 zs.toArray.size w := fun m os dk hs x y =>
        (Order_g x.1 x.2 y.1 y.2 _).mono fun e w' hh => ⟨hh.1, by obtain ⟨os', e'⟩ := hh.2; exact ⟨0, os', e'⟩⟩
      have hcon := AnyQ.slices_SortFunc_total Tryd.sortN 2 Tryd.isAgg32 Tryd.sizeOf32 nC (fun _ => rfl) (fun x v hv => one_nC x v hv) cmpN cmp_swo 33 #[] g 0 cap zs.toArray w eg hcmp hH (size_of_block hb) (by simp; omega) (fun x y a b => by
        rw [cmp_lt] at a b
        by_cases e : x = y
        · exact e
        · have := less_one e; rw [a, b] at this; cases this)
      change Calls Tryd.prog 55 _ _ _ at hcon
      rw [List.size_toArray] at hcon
      refine hcon.mono fun e w' hh => ⟨hh.1, ?_⟩
      obtain ⟨n, os, e'⟩ := hh.2
      rw [sort_fun] at e'
      have e2 : w' = Sort.grow (Sort.putRow id (Sort.ahead w n) g 0 ((sortN zs).flatMap nC).toArray) os := by rw [e', ← flat_eq]; rfl
      have hp := (sortN_perm zs).length_eq
      have hl2 : ((sortN zs).flatMap nC).length = zs.length * 2 := by rw [nC_len, hp]
      have hb' := heap_sortedV (n := n) (os := os) ((sortN zs).flatMap nC).toArray hb
      rw [← e2] at hb'
      refine ⟨⟨⟨nC_len _, .inr ⟨g, cap, _, by rw [hp], hg, hb', by rw [hp]; exact hc, hm, by simp [Sort.putCells, hs], ?_⟩⟩, fun x hx => h3 x ((sortN_perm zs).mem_iff.1 hx)⟩, ?_, .inl rfl⟩
      · rw [← nC_len]
        exact take_putCellsV cur _ (by rw [hl2, hs]; omega)
      · rw [e2]; exact grownBy_sortedV _
set_option maxHeartbeats 400000 in
theorem SortedFunc_any {Bs : Nat} {A : Option Addr} {len cap : Nat} {zs : List Nn} {w : World} (hz : zs.length ≤ 1000) (hBs : Bs < w.heap.size)
    (hc : w.cell? ⟨Bs, 0, none⟩ = some (.slice A len cap)) (hr : R1 rdNets w (.slice A len cap) zs) :
    Calls Tryd.prog 31 #[.func (.func 56) #[] #[.pointer (some ⟨Bs, 0, none⟩)], .func (.func 33) #[] #[]] w fun e W' =>
      ∃ v, e = .returned v ∧ OwnN W' w.heap.size v (sortN zs) ∧ Below w.heap.size w W' := by
  have HC := Lib.hid (Collect_any (by omega) hBs hc hr)
  have HZ := Lib.hid hz
  clear hz hBs hc hr
  go_enter Tryd.func31, Tryd.ntmps31
  go_wp2_with fail
  (with_reducible refine HC.out.mono ?_)
  rintro e w1 ⟨v, rfl, ho, hb⟩
  have HS := Lib.hid (SortFunc_any ho HZ.out)
  have HB := Lib.hid hb
  have HO := Lib.hid ho
  obtain ⟨A1, c1, rfl⟩ := ho.form
  clear ho hb
  go_wp2_with fail
  (with_reducible refine HS.out.mono ?_)
  rintro e w2 ⟨rfl, ho2, hg2⟩
  have HO2 := Lib.hid ho2
  have HB2 := Lib.hid (hg2.below HB.out HO.out.1 (Nat.le_refl _) HB.out.size)
  clear ho2 hg2
  go_wp2
  go_ret
  exact ⟨_, rfl, HO2.out, HB2.out⟩
end Go.Proofs.YtplojnlmofbneaaDoor
