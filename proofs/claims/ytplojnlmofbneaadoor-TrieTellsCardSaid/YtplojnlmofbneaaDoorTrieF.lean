/- trie.List, as a contract. -/
import Derived.Test.YtplojnlmofbneaaDoorTrieE
import Derived.Laws.EntriesVeiled
namespace Go.Proofs.YtplojnlmofbneaaDoor
open Go.ChangeShapes Go.WideShapes Go.ChangeAt Go.RowKit
set_option linter.unusedVariables false
set_option linter.unusedSimpArgs false
section
variable {w : World} {T B : Nat} {N : NM} {m : List (Nt × Int)}
theorem walk_all (hT : Tri w T B N m) : ∀ k, WalkC w N m k
  | 0 => walk_zero hT
  | k + 1 => walk_succ hT (walk_all hT k)
def ListPost (w : World) (m : List (Nt × Int)) (e : Ending) (w' : World) : Prop := ∃ v, e = .returned v ∧ OwnN w' (w.heap.size + 2) v (allM m) ∧ Below w.heap.size w w'
set_option maxRecDepth 100000 in
set_option maxHeartbeats 1000000 in
theorem List_any (h : Tri w T B N m) :
    Calls Tryd.prog 23 #[.pointer (some ⟨T, 0, none⟩)] w (ListPost w m) := by
  have hA : (allM m).length ≤ 64 := by rw [all_length h.ok]; exact h.ok.len
  have hR : N (0, ((0 : Nat) : Int)) = some T := h.root
  have key : ∀ K : Nat, K = 32 → (lst m K (0, 0)).length ≤ 64 → ∀ w1, LInv w [] w1 → Calls Tryd.prog 47 #[.pointer (some ⟨T, 0, none⟩), .agg #[.int .u32 0, .int .i64 0], .pointer (some ⟨w.heap.size, 0, none⟩), .pointer (some ⟨w.heap.size + 1, 0, none⟩)] w1 fun e w' => e = .returned (.tuple #[]) ∧ LInv w (lst m K (0, 0)) w' ∧ Frm w w1 w' := by
    intro K hK hl w1 h1
    have h2 := walk_all h K (a := 0) (n := 0) (by omega) net00 ⟨by omega, by omega⟩ h1 (by simpa using hl)
    rw [hR] at h2
    exact h2
  have HW : Hid (∀ w1, LInv w [] w1 → Calls Tryd.prog 47 #[.pointer (some ⟨T, 0, none⟩), .agg #[.int .u32 0, .int .i64 0], .pointer (some ⟨w.heap.size, 0, none⟩), .pointer (some ⟨w.heap.size + 1, 0, none⟩)] w1 fun e w' => e = .returned (.tuple #[]) ∧ LInv w (allM m) w' ∧ Frm w w1 w') := Lib.hid (key 32 rfl hA)
  clear key hR hA
  clear h
  go_enter Tryd.func23, Tryd.ntmps23
  go_wp2
  have hI : LInv w [] ((w.alloc (.cells #[.slice none 0 0] 22)).alloc (.cells #[.func (.func 47) #[] #[.pointer (some ⟨w.heap.size, 0, none⟩), .pointer (some ⟨w.heap.size + 1, 0, none⟩)]] 89)) := by
    refine ⟨below_2 _ _ _, ⟨_, below_block (below_1 _ _) (by simp) (heap_alloc_new w _), (OwnN.nil_ _ _)⟩, 89, ?_⟩
    have h := heap_alloc_new (w.alloc (.cells #[.slice none 0 0] 22)) (.cells #[.func (.func 47) #[] #[.pointer (some ⟨w.heap.size, 0, none⟩), .pointer (some ⟨w.heap.size + 1, 0, none⟩)]] 89)
    rwa [World.size_alloc] at h
  generalize (w.alloc (.cells #[.slice none 0 0] 22)).alloc (.cells #[.func (.func 47) #[] #[.pointer (some ⟨w.heap.size, 0, none⟩), .pointer (some ⟨w.heap.size + 1, 0, none⟩)]] 89) = w1 at *
  obtain ⟨tf, hf⟩ := hI.fn
  have kf : w1.cell? ⟨w.heap.size + 1, 0, none⟩ = some (.func (.func 47) #[] #[.pointer (some ⟨w.heap.size, 0, none⟩), .pointer (some ⟨w.heap.size + 1, 0, none⟩)]) := by rw [cell_of_row _ _ _ _ _ (0, 0) hf]; rfl
  have HI := Lib.hid (hI.below (w' := w1.drew) ((Below.refl _ _).drew))
  clear hI hf
  go_still_tail 5, (by kernel_rfl)
  change wpList _ _ _ _ _ w1.drew
  go_wp2_with fail
  (with_reducible refine (HW.out _ HI.out).mono ?_)
  rintro e w2 ⟨rfl, hI2, -⟩
  obtain ⟨vo, ho, hown⟩ := hI2.out
  have ho0 : w2.cell? ⟨w.heap.size, 0, none⟩ = some vo := by rw [cell_of_row _ _ _ _ _ (0, 0) ho]; rfl
  obtain ⟨A2, c2, rfl⟩ := hown.form
  have HO := Lib.hid hown
  have HB := Lib.hid hI2.bel
  obtain ⟨L2, hL2⟩ : ∃ L2, (allM m).length = L2 := ⟨_, rfl⟩
  rw [hL2] at HO ho0
  clear hown ho hI2 hL2 kf
  go_wp2
  go_ret
  exact ⟨_, rfl, HO.out, HB.out⟩
end
end Go.Proofs.YtplojnlmofbneaaDoor
