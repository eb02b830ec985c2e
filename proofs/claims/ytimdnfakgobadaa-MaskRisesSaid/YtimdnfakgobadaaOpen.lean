/- How a law's arguments read: one predicate for each make of type, and the row's last step, the same for every law. -/
import Derived.Test.YtimdnfakgobadaaWords
import Derived.Deep.DeepHandedRow
namespace Go.Proofs.Ytimdnfakgobadaa
open Go.ChangeShapes Go.WideShapes Go.ChangeAt Go.RowKit

/-- What cells read as, below a block. -/
abbrev Rdr (α : Type) := World → Nat → List Value → α → Prop

structure Opens (P : Program) (t : TypeId) {α : Type} (rd : Rdr α) (sz : α → Nat) (rc : α → Prop) : Prop where
  size : ∀ {w : World} {B : Nat} {cs : List Value} {x : α}, rd w B cs x → cs.length = P.cellsOf t
  keep : ∀ {w w' : World} {B : Nat} {cs : List Value} {x : α}, rd w B cs x → (∀ p : Addr, p.block < B → w'.cell? p = w.cell? p) → rd w' B cs x
  ok : ∀ {H : Type} {enc : TypeId × Value → H} {w : World} {B fuel : Nat} {cs : List Value} {d : DataW H} {ps : List MemPlace}, DataW.trod enc P w 0 (fun _ => true) true fuel t cs = some (d, ps) →
    (∀ p ∈ ps, p.block < B) → ∃ x, rd w B cs x ∧ sz x ≤ Rows.uptoBulk d ∧ ((∀ n ∈ d.weights P t, n ≤ reachBytes) → rc x)

def rdInt (k : IntKind) : Rdr Int := fun _ _ cs x => cs = [.int k x] ∧ (Lit.int k x).wf = true
def rdBool : Rdr Bool := fun _ _ cs x => cs = [.bool x]
def rdStr : Rdr ByteArray := fun _ _ cs x => cs = [.string x] ∧ x.size ≤ maxLen
def RdSlice {α : Type} (size : Nat) (rd : Rdr α) : Rdr (List α) := fun w B cs xs =>
  ∃ A c, cs = [.slice A xs.length c] ∧ xs.length ≤ c ∧ c ≤ maxLen ∧ (0 < xs.length → ∃ ad, A = some ad ∧ ad.block < B ∧
    ∀ i x, xs[i]? = some x → ∃ cs', rd w B cs' x ∧ ∀ j u, cs'[j]? = some u → w.cell? (ad.add (i * size + j)) = some u)

theorem opens_int {P : Program} {t : TypeId} {k : IntKind} (ht : P.underlying t = some (.int k)) (hc : P.cellsOf t = 1) : Opens P t (rdInt k) (fun _ => 1) (fun _ => True) where
  size h := by rw [h.1, hc]; rfl
  keep h _ := h
  ok h _ := by
    obtain ⟨n, rfl, hx, hw⟩ := DataW.trod_int ht h
    obtain ⟨rfl, rfl⟩ := Prod.mk.inj hx
    exact ⟨n, ⟨rfl, hw⟩, by simp [Rows.uptoBulk], fun _ => trivial⟩
theorem opens_bool {P : Program} {t : TypeId} (ht : P.underlying t = some .bool) (hc : P.cellsOf t = 1) : Opens P t rdBool (fun _ => 1) (fun _ => True) where
  size h := by rw [show _ = _ from h, hc]; rfl
  keep h _ := h
  ok h _ := by
    obtain ⟨n, rfl, hx⟩ := DataW.trod_bool ht h
    obtain ⟨rfl, rfl⟩ := Prod.mk.inj hx
    exact ⟨n, rfl, by simp [Rows.uptoBulk], fun _ => trivial⟩
theorem opens_str {P : Program} {t : TypeId} (ht : P.underlying t = some .string) (hc : P.cellsOf t = 1) : Opens P t rdStr (fun s => s.size + 1) (fun s => s.size ≤ reachBytes) where
  size h := by rw [h.1, hc]; rfl
  keep h _ := h
  ok h _ := by
    obtain ⟨n, rfl, hx, hw⟩ := DataW.trod_string ht h
    obtain ⟨rfl, rfl⟩ := Prod.mk.inj hx
    have e : n.data.toList.length = n.size := by rw [Array.length_toList]; rfl
    exact ⟨n, ⟨rfl, hw⟩, by simp [Rows.uptoBulk, e], fun hw' => by simpa [DataW.weights, e] using hw'⟩

/-- the bulk of the parts -/
def bulkL {α : Type} (sz : α → Nat) : List α → Nat
  | [] => 0
  | x :: r => sz x + bulkL sz r
theorem bulkL_len {α : Type} (sz : α → Nat) (h : ∀ x, 1 ≤ sz x) (l : List α) : l.length ≤ bulkL sz l := by
  induction l with
  | nil => simp [bulkL]
  | cons x r ih => have := h x; simp only [bulkL, List.length_cons]; omega
theorem bulkL_map {α : Type} {H : Type} (sz : α → Nat) (f : Nat → α) (D : Nat → DataW H) (l : List Nat) (h : ∀ i ∈ l, sz (f i) ≤ Rows.uptoBulk (D i)) :
    bulkL sz (l.map f) ≤ Rows.uptoBulkAll (l.map D) := by
  induction l with
  | nil => simp [bulkL]
  | cons x r ih =>
    have h1 := h x (by simp)
    have h2 := ih (fun i hi => h i (by simp [hi]))
    simp only [List.map_cons, bulkL, Rows.uptoBulkAll]
    omega
theorem weightsAll_mem {H : Type} {P : Program} {e : TypeId} {d : DataW H} {l : List (DataW H)} (h : d ∈ l) {n : Nat} (hn : n ∈ d.weights P e) : n ∈ DataW.weightsAll P e l := by
  induction l with
  | nil => cases h
  | cons x r ih =>
    simp only [DataW.weightsAll, List.mem_append]
    rcases List.mem_cons.1 h with rfl | h
    · exact .inl hn
    · exact .inr (ih h)

theorem opens_slice {P : Program} {t e : TypeId} {α : Type} {rd : Rdr α} {sz : α → Nat} {rc : α → Prop} {size bytes : Nat} (he : Opens P e rd sz rc) (ht : P.underlying t = some (.slice e)) (hc : P.cellsOf t = 1)
    (hs : P.cellsOf e = size) (hp : 0 < size) (hb : P.bytesOf e = bytes) :
    Opens P t (RdSlice size rd) (fun xs => bulkL sz xs + 1) (fun xs => xs.length * bytes ≤ reachBytes ∧ ∀ x ∈ xs, rc x) where
  size h := by obtain ⟨A, c, rfl, _⟩ := h; rw [hc]; rfl
  keep h hk := by
    obtain ⟨A, c, rfl, h1, h2, h3⟩ := h
    refine ⟨A, c, rfl, h1, h2, fun hn => ?_⟩
    obtain ⟨ad, hA, hbk, hx⟩ := h3 hn
    refine ⟨ad, hA, hbk, fun i x hi => ?_⟩
    obtain ⟨cs', hr, hcell⟩ := hx i x hi
    exact ⟨cs', he.keep hr hk, fun j u hu => (hk _ (by rw [block_of_add]; exact hbk)).trans (hcell j u hu)⟩
  ok {H enc w B fuel cs d ps} h hlt := by
    rcases Deep.open_slice ht h with ⟨rfl, hx⟩ | ⟨a, len, cap, m, n, D, Pl, rfl, _, hl, hm, hmm, hx, hi⟩
    · obtain ⟨rfl, rfl⟩ := Prod.mk.inj hx
      exact ⟨[], ⟨none, 0, rfl, Nat.le_refl _, Nat.zero_le _, fun h0 => absurd h0 (by simp)⟩, by simp [bulkL, Rows.uptoBulk], fun _ => ⟨by simp, by simp⟩⟩
    · obtain ⟨rfl, rfl⟩ := Prod.mk.inj hx
      have hm' : m = cap := by simpa using hmm
      subst hm'
      have hpl : ∀ i, i < m → ∀ p ∈ Pl i, p.block < B := fun i hi' p hp' => hlt p (List.mem_append.2 (.inr (List.mem_flatMap.2 ⟨i, List.mem_range.2 hi', hp'⟩)))
      have hex : ∀ i, i < len → ∃ x, (∃ cs', rd w B cs' x ∧ ∀ j u, cs'[j]? = some u → w.cell? (a.add (i * size + j)) = some u) ∧ sz x ≤ Rows.uptoBulk (D i) ∧ ((∀ n ∈ (D i).weights P e, n ≤ reachBytes) → rc x) := by
        intro i hil
        obtain ⟨cs', hcs, htr⟩ := hi i (by omega)
        obtain ⟨x, hr, hsz', hrc⟩ := he.ok htr (hpl i (by omega))
        obtain ⟨_, hcl, hat⟩ := World.cells?_some hcs
        refine ⟨x, ⟨cs', hr, fun j u hu => ?_⟩, hsz', hrc⟩
        have hj : j < cs'.length := by
          rcases Nat.lt_or_ge j cs'.length with h' | h'
          · exact h'
          · rw [List.getElem?_eq_none h'] at hu; cases hu
        rw [← add_of_add, ← hs, hat j (by omega), hu]
      have hf : ∃ f : Nat → Option α, ∀ i, i < len → ∃ x, f i = some x ∧ (∃ cs', rd w B cs' x ∧ ∀ j u, cs'[j]? = some u → w.cell? (a.add (i * size + j)) = some u) ∧ sz x ≤ Rows.uptoBulk (D i) ∧ ((∀ n ∈ (D i).weights P e, n ≤ reachBytes) → rc x) :=
        Deep.choose_lt (p := fun i o => ∃ x, o = some x ∧ (∃ cs', rd w B cs' x ∧ ∀ j u, cs'[j]? = some u → w.cell? (a.add (i * size + j)) = some u) ∧ sz x ≤ Rows.uptoBulk (D i) ∧ ((∀ n ∈ (D i).weights P e, n ≤ reachBytes) → rc x)) (fun i hi' => by obtain ⟨x, hx⟩ := hex i hi'; exact ⟨some x, x, rfl, hx⟩)
      obtain ⟨f, hf⟩ := hf
      rcases Nat.eq_zero_or_pos len with h0 | hpos
      · subst h0
        exact ⟨[], ⟨some a, m, rfl, Nat.zero_le _, hm, fun h0 => absurd h0 (by simp)⟩, by simp [bulkL, Rows.uptoBulk], fun _ => ⟨by simp, by simp⟩⟩
      · obtain ⟨x0, _, _⟩ := hf 0 hpos
        have hg : ∀ i, i < len → f i = some ((f i).getD x0) := fun i hil => by obtain ⟨x, e1, _⟩ := hf i hil; rw [e1]; rfl
        refine ⟨(List.range len).map fun i => (f i).getD x0, ⟨some a, m, by simp, by simpa using hl, hm, fun _ => ⟨a, rfl, ?_, fun i x hx' => ?_⟩⟩, ?_, fun hw => ⟨?_, ?_⟩⟩
        · have : MemPlace.cell a.block (a.off + 0) ∈ MemPlace.row a (m * P.cellsOf e) := by
            unfold MemPlace.row
            exact List.mem_map.2 ⟨0, List.mem_range.2 (by rw [hs]; exact Nat.mul_pos (by omega) hp), rfl⟩
          exact hlt _ (List.mem_append.2 (.inl this))
        · have hil : i < len := by
            rcases Nat.lt_or_ge i len with h' | h'
            · exact h'
            · rw [List.getElem?_eq_none (by simpa using h')] at hx'; cases hx'
          rw [List.getElem?_map, List.getElem?_range hil] at hx'
          obtain ⟨y, e1, hy, _⟩ := hf i hil
          simp [e1] at hx'
          subst hx'
          exact hy
        · have := bulkL_map sz (fun i => (f i).getD x0) D (List.range len) (fun i hi' => by
            obtain ⟨y, e1, _, hy, _⟩ := hf i (List.mem_range.1 hi')
            simpa [e1] using hy)
          simp only [Rows.uptoBulk]
          omega
        · have := hw ((((List.range len).map D).length + ((List.range (m - len)).map fun j => D (len + j)).length) * P.bytesOf e) (by simp [DataW.weights, ht])
          simp only [List.length_map, List.length_range, hb] at this
          have h2 : len * bytes ≤ (len + (m - len)) * bytes := Nat.mul_le_mul_right _ (by omega)
          simp only [List.length_map, List.length_range]
          omega
        · intro x hx'
          obtain ⟨i, hi', rfl⟩ := List.mem_map.1 hx'
          obtain ⟨y, e1, _, _, hy⟩ := hf i (List.mem_range.1 hi')
          simp only [e1, Option.getD_some]
          exact hy fun n hn => hw n (by
            simp only [DataW.weights, ht]
            exact List.mem_cons_of_mem _ (List.mem_append.2 (.inl (weightsAll_mem (List.mem_map.2 ⟨i, hi', rfl⟩) hn))))

theorem Opens.arg {P : Program} {t : TypeId} {α : Type} {rd : Rdr α} {sz : α → Nat} {rc : α → Prop} (o : Opens P t rd sz rc) {H : Type} {enc : TypeId × Value → H} {W : World} {v : Value} {d : DataW H} {ps : List MemPlace}
    (h : DataW.Trod enc P W 0 (fun _ => true) true t v d ps) (hlt : ∀ p ∈ ps, p.block < W.heap.size) :
    ∃ x, rd W W.heap.size v.cells.toList x ∧ sz x ≤ Rows.uptoBulk d ∧ ((∀ n ∈ d.weights P t, n ≤ reachBytes) → rc x) := by
  obtain ⟨fuel, hf⟩ := h
  exact o.ok hf hlt

theorem trodAll_below {H : Type} {enc : TypeId × Value → H} {P : Program} {W W' : World} (hl : laidOutB P = true) (hb : Below W.heap.size W W') :
    ∀ (ts : List TypeId) (vs : List Value) (ds : List (DataW H)) (ps : List MemPlace), (∀ t ∈ ts, P.readableRec t = true ∧ t < P.types.size) →
      DataW.TrodAll enc P W 0 (fun _ => true) true ts vs ds ps → (∀ x ∈ ps, x.block < W.heap.size) → DataW.TrodAll enc P W' 0 (fun b => decide (b < W.heap.size)) true ts vs ds ps
  | [], [], [], _, _, h, _ => h
  | t :: ts, v :: vs, d :: ds, ps, hr, ⟨p, q, h1, h2, he⟩, hlt => by
    subst he
    exact ⟨p, q, Below.trod hl (hr t (by simp)).1 (hr t (by simp)).2 h1 hb (fun x hx => hlt x (by simp [hx])),
      trodAll_below hl hb ts vs ds q (fun t' ht' => hr t' (by simp [ht'])) h2 (fun x hx => hlt x (by simp [hx])), rfl⟩
  | [], [], _ :: _, _, _, h, _ => by cases h
  | [], _ :: _, _, _, _, h, _ => by cases h
  | _ :: _, [], _, _, _, h, _ => by cases h
  | _ :: _, _ :: _, [], _, _, h, _ => by cases h

/-- THE ROW's LAST STEP, FOR EVERY LAW: it returned true, and nothing that was there has turned. -/
theorem law_post {P : Program} {f : Func} {s : ChangeSpec} {H : Type} {enc : TypeId × Value → H} {W W' : World} {args : Array Value} {ds gs : List (DataW H)} {before : List MemPlace} {tb : TypeId}
    (hl : laidOutB P = true) (hr : ∀ t ∈ f.params.toList, P.readableRec t = true ∧ t < P.types.size) (hv : s.vars = [])
    (hres : f.resultTypes = #[tb]) (htb : P.underlying tb = some .bool)
    (hfn : (s.fn H (ds ++ gs)).results = [.lit (.bool true)] ∧ (s.fn H (ds ++ gs)).args = ds ∧ (s.fn H (ds ++ gs)).vars = [])
    (hW : DataW.Whole enc P f.params.toList s.vars false W args.toList ds gs before) (hb : Below W.heap.size W W') :
    s.post enc P f false true false false W args (.bool true) W' := by
  have hW' := hW
  obtain ⟨p, q, hA, hV, rfl, _, _⟩ := hW
  rw [hv] at hV
  obtain ⟨rfl, rfl⟩ := trodVars_none hV
  have hlt : ∀ x ∈ p, x.block < W.heap.size := fun x hx => hW'.lt x (by simp [hx])
  obtain ⟨e1, e2, e3⟩ := hfn
  refine ⟨ds, [], p ++ [], [], p, [], hW', ?_, ?_, ?_, hb.frame _, fun h => by cases h⟩
  · rw [hres, e1]
    exact trodAll_mk1 (shut_bool htb _)
  · rw [e2]
    exact trodAll_below hl hb _ _ _ _ hr hA hlt
  · rw [e3, hv]
    rfl

theorem bulk_int {H : Type} (k : IntKind) (n : Int) : Rows.uptoBulk (DataW.lit (H := H) (.int k n)) = 1 := by simp [Rows.uptoBulk]
theorem bulk_str {H : Type} (s : ByteArray) : Rows.uptoBulk (DataW.lit (H := H) (.string s.data.toList)) = s.size + 1 := by
  have e : s.data.toList.length = s.size := by rw [Array.length_toList]; rfl
  simp [Rows.uptoBulk, e]
theorem reach_le : reachBytes = 140737488351232 := rfl

/-- A slice of bytes. -/
abbrev RdBytes : Rdr (List Int) := RdSlice 1 (rdInt .u8)
theorem opens_bytes : Opens Try.prog 22 RdBytes (fun xs => bulkL (fun _ => 1) xs + 1) (fun xs => xs.length * 1 ≤ reachBytes ∧ ∀ x ∈ xs, True) :=
  opens_slice (opens_int (t := 5) Try.underlying5 (by kernel_rfl)) Try.underlying22 (by kernel_rfl) (by kernel_rfl) (by omega) (by kernel_rfl)
theorem bytes_of_rd {w : World} {B : Nat} {A : Option Addr} {n c : Nat} {l : List Int} (h : RdSlice 1 (rdInt .u8) w B (Value.slice A n c).cells.toList l) : Bytes w B A l ∧ n = l.length ∧ n ≤ c ∧ c ≤ maxLen := by
  obtain ⟨A', c', hcs, h1, h2, h3⟩ := h
  have e : (Value.slice A n c) = .slice A' l.length c' := by simpa [Value.cells] using hcs
  injection e with e1 e2 e3
  subst e1; subst e2; subst e3
  have hx : ∀ i x, l[i]? = some x → ∃ ad, A = some ad ∧ ad.block < B ∧ w.cell? (ad.add i) = some (.int .u8 x) ∧ (Lit.int .u8 x).wf = true := fun i x hi => by
    have hl : i < l.length := (List.getElem?_eq_some_iff.1 hi).1
    obtain ⟨ad, hA, hb, hh⟩ := h3 (by omega)
    obtain ⟨cs', ⟨rfl, hwf⟩, hc⟩ := hh i x hi
    exact ⟨ad, hA, hb, by simpa using hc 0 (.int .u8 x) rfl, hwf⟩
  refine ⟨⟨⟨by simp, fun hn => ?_⟩, fun x hxm => ?_⟩, rfl, h1, h2⟩
  · obtain ⟨ad, hA, hb, _⟩ := h3 hn
    refine ⟨ad, hA, hb, fun j u hu => ?_⟩
    rw [List.getElem?_map] at hu
    cases hj : l[j]? with
    | none => rw [hj] at hu; cases hu
    | some x =>
      rw [hj] at hu
      obtain ⟨ad', hA', _, hcell, _⟩ := hx j x hj
      rw [hA] at hA'; injection hA' with hA'; subst hA'
      rw [hcell]; exact hu
  · obtain ⟨i, hi, rfl⟩ := List.getElem_of_mem hxm
    obtain ⟨_, _, _, _, hwf⟩ := hx i l[i] (List.getElem?_eq_getElem hi)
    exact bounds_u8 hwf
end Go.Proofs.Ytimdnfakgobadaa
