/- The readings of api.Entry and api.Message. -/
import Derived.Test.YtimdnfakgobadaaDoorTypes
namespace Go.Proofs.YtimdnfakgobadaaDoor
open Go.ChangeShapes Go.WideShapes Go.ChangeAt Go.RowKit
theorem opens_struct4 {P : Program} {t : TypeId} {f0 f1 f2 f3 : Field} {α β γ δ : Type} {ra : Rdr α} {rb : Rdr β} {rc : Rdr γ} {rd : Rdr δ} {sa : α → Nat} {sb : β → Nat} {sc : γ → Nat} {sd : δ → Nat} {ca : α → Prop} {cb : β → Prop} {cc : γ → Prop} {cd : δ → Prop} {n0 n1 n2 n3 : Nat}
    (ht : P.underlying t = some (.struct #[f0, f1, f2, f3])) (oa : Opens P f0.type ra sa ca) (ob : Opens P f1.type rb sb cb) (oc : Opens P f2.type rc sc cc) (od : Opens P f3.type rd sd cd)
    (h0 : f0.offset = 0) (h1 : f1.offset = n0) (h2 : f2.offset = n0 + n1) (h3 : f3.offset = n0 + n1 + n2)
    (hn0 : P.cellsOf f0.type = n0) (hn1 : P.cellsOf f1.type = n1) (hn2 : P.cellsOf f2.type = n2) (hn3 : P.cellsOf f3.type = n3) (hn : P.cellsOf t = n0 + (n1 + (n2 + n3))) :
    Opens P t (RdPair ra (RdPair rb (RdPair rc rd))) (fun x => sa x.1 + sb x.2.1 + sc x.2.2.1 + sd x.2.2.2 + 1) (fun x => ca x.1 ∧ cb x.2.1 ∧ cc x.2.2.1 ∧ cd x.2.2.2) where
  ok {H enc w B fuel cs d ps} h hlt := by
    obtain ⟨xs, m, _, hx, hl, hxl, hf⟩ := DataW.trod_struct ht h
    obtain ⟨rfl, rfl⟩ := Prod.mk.inj hx
    match xs, hxl with
    | [y0, y1, y2, y3], _ =>
      have t0 := hf 0 f0 rfl
      have t1 := hf 1 f1 rfl
      have t2 := hf 2 f2 rfl
      have t3 := hf 3 f3 rfl
      rw [h0, hn0, List.drop_zero] at t0
      rw [h1, hn1] at t1
      rw [h2, hn2] at t2
      rw [h3, hn3] at t3
      obtain ⟨d0, q0⟩ := y0
      obtain ⟨d1, q1⟩ := y1
      obtain ⟨d2, q2⟩ := y2
      obtain ⟨d3, q3⟩ := y3
      obtain ⟨a, la, ra', za, wa⟩ := oa.ok t0 (fun p hp => hlt p (by simp [hp]))
      obtain ⟨b, lb, rb', zb, wb⟩ := ob.ok t1 (fun p hp => hlt p (by simp [hp]))
      obtain ⟨c, lc, rc', zc, wc⟩ := oc.ok t2 (fun p hp => hlt p (by simp [hp]))
      obtain ⟨e, le, rd', zd, wd⟩ := od.ok t3 (fun p hp => hlt p (by simp [hp]))
      refine ⟨(a, b, c, e), hl, ⟨cs.take n0, (cs.drop n0).take n1 ++ ((cs.drop (n0 + n1)).take n2 ++ (cs.drop (n0 + n1 + n2)).take n3), ?_, ra', _, _, rfl, rb', _, _, rfl, rc', rd'⟩, ?_, fun hw => ⟨wa fun n hn' => hw n ?_, wb fun n hn' => hw n ?_, wc fun n hn' => hw n ?_, wd fun n hn' => hw n ?_⟩⟩
      · have e1 : cs.drop (n0 + n1) = (cs.drop n0).drop n1 := by rw [List.drop_drop]
        have e2 : cs.drop (n0 + n1 + n2) = (cs.drop (n0 + n1)).drop n2 := by rw [List.drop_drop]
        rw [List.take_of_length_le (l := cs.drop (n0 + n1 + n2)) (by simp; omega), e2, List.take_append_drop, e1, List.take_append_drop, List.take_append_drop]
      · simp only [List.map_cons, List.map_nil, Rows.uptoBulk, Rows.uptoBulkAll]; omega
      · simp only [DataW.weights, ht]
        exact weightsEach_mem (j := 0) rfl rfl n hn'
      · simp only [DataW.weights, ht]
        exact weightsEach_mem (j := 1) rfl rfl n hn'
      · simp only [DataW.weights, ht]
        exact weightsEach_mem (j := 2) rfl rfl n hn'
      · simp only [DataW.weights, ht]
        exact weightsEach_mem (j := 3) rfl rfl n hn'
abbrev Entry := (Int × Int) × Int × Int × Int
abbrev rdEntry : Rdr Entry := RdPair rdNet (RdPair (rdInt .i64) (RdPair (rdInt .u32) (rdInt .i64)))
theorem opens_entry : Opens Tryd.prog 58 rdEntry (fun _ => 3 + 1 + 1 + 1 + 1) (fun _ => (True ∧ True) ∧ True ∧ True ∧ True) :=
  opens_struct4 (n0 := 2) (n1 := 1) (n2 := 1) (n3 := 1) Tryd.underlying58 opens_net oI (opens_int Tryd.underlying22 (by kernel_rfl)) oI rfl rfl rfl rfl (by kernel_rfl) (by kernel_rfl) (by kernel_rfl) (by kernel_rfl) (by kernel_rfl)
abbrev rdEntries : Rdr (List Entry) := RdSlice 5 rdEntry
theorem opens_entries : Opens Tryd.prog 33 rdEntries (fun xs => bulkL (fun _ => 3 + 1 + 1 + 1 + 1) xs + 1) (fun xs => xs.length * 40 ≤ reachBytes ∧ ∀ x ∈ xs, (True ∧ True) ∧ True ∧ True ∧ True) :=
  opens_slice opens_entry Tryd.underlying33 (by kernel_rfl) (by kernel_rfl) (by omega) (by kernel_rfl)
abbrev rdMessage : Rdr (Bool × List Entry) := RdPair rdBool rdEntries
theorem opens_message : Opens Tryd.prog 35 rdMessage (fun x => 1 + (bulkL (fun _ => 3 + 1 + 1 + 1 + 1) x.2 + 1) + 1) (fun x => True ∧ x.2.length * 40 ≤ reachBytes ∧ ∀ y ∈ x.2, (True ∧ True) ∧ True ∧ True ∧ True) :=
  opens_struct2 (n0 := 1) (n1 := 1) Tryd.underlying35 (opens_bool Tryd.underlying4 (by kernel_rfl)) opens_entries rfl rfl (by kernel_rfl) (by kernel_rfl) (by kernel_rfl)
end Go.Proofs.YtimdnfakgobadaaDoor
