/- What cells read as (a list behind a slice, slices of slices, structs), where only some blocks may be looked into; and the row's last step, the same for every law. The readings of this program's own types. Rows of the call's own that grow by append, one step after the other. -/
import Derived.Test.YtgdlkjahlajcpaaGreatDoorKB
import Derived.Deep.DeepHandedRow
import Derived.Deep.DeepWitnessRowRef
namespace Go.Proofs.YtgdlkjahlajcpaaGreatDoor
open Go.ChangeShapes Go.WideShapes Go.ChangeAt Go.RowKit

/-- What cells read as; 'ok': the blocks that may be looked into. -/
abbrev Rdr (α : Type) := World → (Nat → Prop) → List Value → α → Prop

class RdLaw {α : Type} (rd : Rdr α) : Prop where
  keep : ∀ {w w' : World} {ok : Nat → Prop} {cs : List Value} {x : α}, rd w ok cs x → (∀ p : Addr, ok p.block → w'.cell? p = w.cell? p) → rd w' ok cs x
  mono : ∀ {w : World} {ok ok' : Nat → Prop} {cs : List Value} {x : α}, rd w ok cs x → (∀ b, ok b → ok' b) → rd w ok' cs x

def rdInt (k : IntKind) : Rdr Int := fun _ _ cs x => cs = [.int k x] ∧ (Lit.int k x).wf = true
def rdBool : Rdr Bool := fun _ _ cs x => cs = [.bool x]
def rdStr : Rdr ByteArray := fun _ _ cs x => cs = [.string x] ∧ x.size ≤ maxLen
def RdSlice {α : Type} (size : Nat) (rd : Rdr α) : Rdr (List α) := fun w ok cs xs =>
  ∃ A c, cs = [.slice A xs.length c] ∧ xs.length ≤ c ∧ c ≤ maxLen ∧ (0 < xs.length → ∃ b o, A = some ⟨b, o, none⟩ ∧ ok b ∧
    ∀ i x, xs[i]? = some x → ∃ cs', cs'.length = size ∧ rd w ok cs' x ∧ ∀ j u, cs'[j]? = some u → w.cell? ⟨b, o + (i * size + j), none⟩ = some u)
/-- two parts in a row -/
def RdPair {α β : Type} (ra : Rdr α) (rb : Rdr β) : Rdr (α × β) := fun w ok cs x => ∃ c0 c1, cs = c0 ++ c1 ∧ ra w ok c0 x.1 ∧ rb w ok c1 x.2

instance {k : IntKind} : RdLaw (rdInt k) := ⟨fun h _ => h, fun h _ => h⟩
instance : RdLaw rdBool := ⟨fun h _ => h, fun h _ => h⟩
instance : RdLaw rdStr := ⟨fun h _ => h, fun h _ => h⟩
instance {α : Type} {size : Nat} {rd : Rdr α} [RdLaw rd] : RdLaw (RdSlice size rd) where
  keep h hk := by
    obtain ⟨A, c, rfl, h1, h2, h3⟩ := h
    refine ⟨A, c, rfl, h1, h2, fun hn => ?_⟩
    obtain ⟨b, o, hA, hb, hx⟩ := h3 hn
    refine ⟨b, o, hA, hb, fun i x hi => ?_⟩
    obtain ⟨cs', hl, hr, hc⟩ := hx i x hi
    exact ⟨cs', hl, RdLaw.keep hr hk, fun j u hu => (hk _ hb).trans (hc j u hu)⟩
  mono h hk := by
    obtain ⟨A, c, rfl, h1, h2, h3⟩ := h
    refine ⟨A, c, rfl, h1, h2, fun hn => ?_⟩
    obtain ⟨b, o, hA, hb, hx⟩ := h3 hn
    refine ⟨b, o, hA, hk b hb, fun i x hi => ?_⟩
    obtain ⟨cs', hl, hr, hc⟩ := hx i x hi
    exact ⟨cs', hl, RdLaw.mono hr hk, hc⟩
instance {α β : Type} {ra : Rdr α} {rb : Rdr β} [RdLaw ra] [RdLaw rb] : RdLaw (RdPair ra rb) where
  keep h hk := by obtain ⟨c0, c1, rfl, h0, h1⟩ := h; exact ⟨c0, c1, rfl, RdLaw.keep h0 hk, RdLaw.keep h1 hk⟩
  mono h hk := by obtain ⟨c0, c1, rfl, h0, h1⟩ := h; exact ⟨c0, c1, rfl, RdLaw.mono h0 hk, RdLaw.mono h1 hk⟩

/-- A value reads so in a world. -/
def RV {α : Type} (rd : Rdr α) (w : World) (v : Value) (x : α) : Prop := rd w (· < w.heap.size) v.cells.toList x
theorem RV.below {α : Type} {rd : Rdr α} [RdLaw rd] {w w' : World} {v : Value} {x : α} (h : RV rd w v x) (hb : Below w.heap.size w w') : RV rd w' v x :=
  RdLaw.mono (RdLaw.keep h (fun _ hp => hb.cell hp)) (fun _ hp => Nat.lt_of_lt_of_le hp hb.size)
theorem RV.drewN {α : Type} {rd : Rdr α} [RdLaw rd] {w : World} {v : Value} {x : α} (h : RV rd w v x) (n : Nat) : RV rd (w.drewN n) v x := RdLaw.keep h (fun _ _ => rfl)
theorem RV.alloc {α : Type} {rd : Rdr α} [RdLaw rd] {w : World} {v : Value} {x : α} (h : RV rd w v x) (o : Obj) : RV rd (w.alloc o) v x := h.below ((Below.refl _ _).alloc (Nat.le_refl _) o)

theorem RdLaw.drewN {α : Type} {rd : Rdr α} [RdLaw rd] {w : World} {ok : Nat → Prop} {cs : List Value} {x : α} (h : rd w ok cs x) (k : Nat) : rd (w.drewN k) ok cs x := RdLaw.keep h (fun _ _ => rfl)
/-- A value of one cell reads so in a world. -/
def R1 {α : Type} (rd : Rdr α) (w : World) (v : Value) (x : α) : Prop := rd w (· < w.heap.size) [v] x
theorem R1.below {α : Type} {rd : Rdr α} [RdLaw rd] {w w' : World} {v : Value} {x : α} (h : R1 rd w v x) (hb : Below w.heap.size w w') : R1 rd w' v x :=
  RdLaw.mono (RdLaw.keep h (fun _ hp => hb.cell hp)) (fun _ hp => Nat.lt_of_lt_of_le hp hb.size)
theorem R1.drewN {α : Type} {rd : Rdr α} [RdLaw rd] {w : World} {v : Value} {x : α} (h : R1 rd w v x) (n : Nat) : R1 rd (w.drewN n) v x := RdLaw.keep h (fun _ _ => rfl)
theorem R1.alloc {α : Type} {rd : Rdr α} [RdLaw rd] {w : World} {v : Value} {x : α} (h : R1 rd w v x) (o : Obj) : R1 rd (w.alloc o) v x := h.below ((Below.refl _ _).alloc (Nat.le_refl _) o)
theorem R1.form {α : Type} {size : Nat} {rd : Rdr α} {w : World} {v : Value} {xs : List α} (h : R1 (RdSlice size rd) w v xs) : ∃ A c, v = .slice A xs.length c := by
  obtain ⟨A, c, e, _⟩ := h
  simp only [List.cons.injEq, and_true] at e
  exact ⟨A, c, e⟩

section
variable {α : Type} {size : Nat} {rd : Rdr α} {w : World} {ok : Nat → Prop} {A : Option Addr} {n c : Nat} {xs : List α}
theorem RdSlice.len (h : RdSlice size rd w ok [.slice A n c] xs) : n = xs.length ∧ n ≤ c ∧ c ≤ maxLen := by
  obtain ⟨A', c', e, h1, h2, _⟩ := h
  simp only [List.cons.injEq, Value.slice.injEq, and_true] at e
  obtain ⟨rfl, rfl, rfl⟩ := e
  exact ⟨rfl, h1, h2⟩
theorem RdSlice.at_ (h : RdSlice size rd w ok [.slice A n c] xs) {k : Nat} (hk : k < n) :
    ∃ b o x cs, A = some ⟨b, o, none⟩ ∧ ok b ∧ Hid (xs[k]? = some x) ∧ cs.length = size ∧ rd w ok cs x ∧ ∀ j u, cs[j]? = some u → w.cell? ⟨b, o + (k * size + j), none⟩ = some u := by
  obtain ⟨A', c', e, h1, h2, h3⟩ := h
  simp only [List.cons.injEq, Value.slice.injEq, and_true] at e
  obtain ⟨rfl, rfl, rfl⟩ := e
  obtain ⟨b, o, hA, hb, hx⟩ := h3 (by omega)
  have e : xs[k]? = some xs[k] := List.getElem?_eq_getElem hk
  obtain ⟨cs, h4, h5, h6⟩ := hx k _ e
  exact ⟨b, o, xs[k], cs, hA, hb, Lib.hid e, h4, h5, h6⟩
theorem RdSlice.at1 (h : RdSlice 1 rd w ok [.slice A n c] xs) {k : Nat} (hk : k < n) :
    ∃ b o x u, A = some ⟨b, o, none⟩ ∧ ok b ∧ Hid (xs[k]? = some x) ∧ rd w ok [u] x ∧ w.cell? ⟨b, o + k, none⟩ = some u := by
  obtain ⟨b, o, x, cs, hA, hb, hx, hl, hr, hc⟩ := h.at_ hk
  match cs, hl with
  | [u], _ => exact ⟨b, o, x, u, hA, hb, hx, hr, by simpa using hc 0 u rfl⟩
theorem RdSlice.nil_ : RdSlice size rd w ok [.slice none 0 0] ([] : List α) := ⟨none, 0, rfl, Nat.le_refl _, Nat.zero_le _, fun h => absurd h (by simp)⟩
theorem RdSlice.nil' (hc : c ≤ maxLen) : RdSlice size rd w ok [.slice A 0 c] ([] : List α) := ⟨A, c, rfl, Nat.zero_le _, hc, fun h => absurd h (by simp)⟩
end
/-- an integer out of a slice of them -/
theorem RdSlice.atI {k : IntKind} {w : World} {ok : Nat → Prop} {A : Option Addr} {n c : Nat} {xs : List Int} (h : RdSlice 1 (rdInt k) w ok [.slice A n c] xs) {i : Nat} (hi : i < n) :
    ∃ b o x, A = some ⟨b, o, none⟩ ∧ ok b ∧ Hid (xs[i]? = some x) ∧ (Lit.int k x).wf = true ∧ w.cell? ⟨b, o + i, none⟩ = some (.int k x) := by
  obtain ⟨b, o, x, u, hA, hb, hx, ⟨hu, hw⟩, hc⟩ := h.at1 hi
  simp only [List.cons.injEq, and_true] at hu
  subst hu
  exact ⟨b, o, x, hA, hb, hx, hw, hc⟩
/-- a slice out of a slice of slices -/
theorem RdSlice.atS {α : Type} {size : Nat} {rd : Rdr α} {w : World} {ok : Nat → Prop} {A : Option Addr} {n c : Nat} {xs : List (List α)} (h : RdSlice 1 (RdSlice size rd) w ok [.slice A n c] xs) {i : Nat} (hi : i < n) :
    ∃ b o x A' c', A = some ⟨b, o, none⟩ ∧ ok b ∧ Hid (xs[i]? = some x) ∧ RdSlice size rd w ok [.slice A' x.length c'] x ∧ w.cell? ⟨b, o + i, none⟩ = some (.slice A' x.length c') := by
  obtain ⟨b, o, x, u, hA, hb, hx, hu, hc⟩ := h.at1 hi
  have hu' := hu
  obtain ⟨A', c', e, _⟩ := hu'
  simp only [List.cons.injEq, and_true] at e
  subst e
  exact ⟨b, o, x, A', c', hA, hb, hx, hu, hc⟩

/-- a row of the call's own reads as what was put there -/
theorem RdSlice.of_own {α : Type} {rd : Rdr α} {w : World} {ok : Nat → Prop} {base : Nat} {e : TypeId} {size : Nat} {A : Option Addr} {n c : Nat} {us : List Value} {xs : List α}
    (h : w.ownsRow base e size (.slice A n c) n us) (hn : xs.length = n) (hok : ∀ g, (Value.slice A n c).ownBlock = some g → ok g)
    (hx : ∀ i x, xs[i]? = some x → ∃ cs', cs'.length = size ∧ rd w ok cs' x ∧ ∀ j u, cs'[j]? = some u → us[i * size + j]? = some u) : RdSlice size rd w ok [.slice A n c] xs := by
  subst hn
  rcases h.2 with ⟨e1, e2⟩ | ⟨g, cap, cur, e1, _, hg, hnc, hcm, _, _⟩
  · simp only [Value.slice.injEq] at e1
    obtain ⟨rfl, _, rfl⟩ := e1
    refine ⟨none, 0, by simp, by omega, Nat.zero_le _, fun h0 => absurd h0 (by omega)⟩
  · simp only [Value.slice.injEq] at e1
    obtain ⟨rfl, _, rfl⟩ := e1
    refine ⟨some ⟨g, 0, none⟩, c, rfl, hnc, hcm, fun h0 => ⟨g, 0, rfl, hok g rfl, fun i x hi => ?_⟩⟩
    obtain ⟨cs', h1, h2, h3⟩ := hx i x hi
    refine ⟨cs', h1, h2, fun j u hu => ?_⟩
    have := h.cells (g := g) rfl _ _ (h3 j u hu)
    rwa [addr_add] at this
theorem R1.of_own_ints {k : IntKind} {w : World} {base : Nat} {e : TypeId} {v : Value} {n : Nat} {xs : List Int} (h : w.ownsRow base e 1 v n (xs.map (Value.int k))) (hr : ∀ x ∈ xs, (Lit.int k x).wf = true) : R1 (RdSlice 1 (rdInt k)) w v xs := by
  obtain ⟨A, c, rfl⟩ := own_form h
  have hn : xs.length = n := by have := h.1; simpa using this
  refine RdSlice.of_own (xs := xs) h hn (fun g hg => (own_blk h g hg).2) (fun (i : Nat) (x : Int) hi => ⟨[.int k x], rfl, ⟨rfl, hr x (List.mem_of_getElem? hi)⟩, fun j u hu => ?_⟩)
  match j, hu with
  | 0, hu => simp only [List.getElem?_cons_zero, Option.some.injEq] at hu; subst hu; simp [hi]
/-- a new block reads as what it was made of -/
theorem RdSlice.new1 {α : Type} {rd : Rdr α} {w : World} {ok : Nat → Prop} {g n c : Nat} {cs : Array Value} {t : TypeId} {xs : List α} (h : w.heap[g]? = some (.cells cs t (0, 0))) (hok : ok g) (hn : xs.length = n) (hc : n ≤ c) (hm : c ≤ maxLen)
    (hx : ∀ (i : Nat) (x : α), xs[i]? = some x → ∃ u, cs[i]? = some u ∧ rd w ok [u] x) : RdSlice 1 rd w ok [.slice (some ⟨g, 0, none⟩) n c] xs := by
  subst hn
  refine ⟨_, c, rfl, hc, hm, fun _ => ⟨g, 0, rfl, hok, fun i x hi => ?_⟩⟩
  obtain ⟨u, hu, hr⟩ := hx i x hi
  refine ⟨[u], rfl, hr, fun j u' hu' => ?_⟩
  match j, hu' with
  | 0, hu' =>
    simp only [List.getElem?_cons_zero, Option.some.injEq] at hu'
    subst hu'
    rw [cell_of_row _ g _ cs t (0, 0) h]
    simpa using hu

/-- a new block of what reads so -/
theorem R1.new {α : Type} {rd : Rdr α} [RdLaw rd] {w : World} {g n : Nat} {us : Array Value} {xs : List α} {t : TypeId} (hg : w.heap.size = g) (hx : xs.length = n) (hm : n ≤ maxLen)
    (h : ∀ (i : Nat) (x : α), xs[i]? = some x → ∃ u, us[i]? = some u ∧ R1 rd w u x) : R1 (RdSlice 1 rd) (w.alloc (.cells us t)) (.slice (some ⟨g, 0, none⟩) n n) xs := by
  subst hg
  refine RdSlice.new1 (heap_alloc_new w _) (by simp) hx (Nat.le_refl _) hm (fun i x hi => ?_)
  obtain ⟨u, hu, hr⟩ := h i x hi
  exact ⟨u, hu, R1.alloc hr _⟩
theorem R1.int_ {k : IntKind} {w : World} {x : Int} (h : (Lit.int k x).wf = true) : R1 (rdInt k) w (.int k x) x := ⟨rfl, h⟩
theorem new_ints {k : IntKind} {w : World} {g n : Nat} {us : Array Value} {xs : List Int} {t : TypeId} (hg : w.heap.size = g) (hn : us.size = n) (hx : us.toList = xs.map (Value.int k)) (hm : n ≤ maxLen) (hw : ∀ x ∈ xs, (Lit.int k x).wf = true) :
    R1 (RdSlice 1 (rdInt k)) (w.alloc (.cells us t)) (.slice (some ⟨g, 0, none⟩) n n) xs := by
  refine R1.new hg (by have := congrArg List.length hx; simp at this; omega) hm (fun i x hi => ⟨.int k x, ?_, R1.int_ (hw x (List.mem_of_getElem? hi))⟩)
  have : us.toList[i]? = some (.int k x) := by rw [hx, List.getElem?_map, hi]; rfl
  simpa using this
def All2 {α : Type} (p : Value → α → Prop) : List Value → List α → Prop
  | [], [] => True
  | u :: us, x :: xs => p u x ∧ All2 p us xs
  | _, _ => False
theorem all2 {α : Type} {rd : Rdr α} {w : World} {us : Array Value} {xs : List α} (h : All2 (fun u x => R1 rd w u x) us.toList xs) : ∀ (i : Nat) (x : α), xs[i]? = some x → ∃ u, us[i]? = some u ∧ R1 rd w u x := by
  have gen : ∀ (us : List Value) (xs : List α), All2 (fun u x => R1 rd w u x) us xs → ∀ (i : Nat) (x : α), xs[i]? = some x → ∃ u, us[i]? = some u ∧ R1 rd w u x := by
    intro us
    induction us with
    | nil => intro xs h i x hi; cases xs with
      | nil => simp at hi
      | cons y ys => exact h.elim
    | cons a us ih => intro xs h i x hi; cases xs with
      | nil => exact h.elim
      | cons y ys =>
        cases i with
        | zero => simp at hi; subst hi; exact ⟨a, rfl, h.1⟩
        | succ i =>
          obtain ⟨u, hu, hr⟩ := ih ys h.2 i x (by simpa using hi)
          exact ⟨u, by simpa using hu, hr⟩
  intro i x hi
  obtain ⟨u, hu, hr⟩ := gen _ _ h i x hi
  exact ⟨u, by simpa using hu, hr⟩

/-! ### What comes in -/
structure Opens (P : Program) (t : TypeId) {α : Type} (rd : Rdr α) (sz : α → Nat) (rc : α → Prop) : Prop where
  ok : ∀ {H : Type} {enc : TypeId × Value → H} {w : World} {B fuel : Nat} {cs : List Value} {d : DataW H} {ps : List MemPlace}, DataW.trod enc P w 0 (fun _ => true) true fuel t cs = some (d, ps) →
    (∀ p ∈ ps, p.block < B) → ∃ x, cs.length = P.cellsOf t ∧ rd w (· < B) cs x ∧ sz x ≤ Rows.uptoBulk d ∧ ((∀ n ∈ d.weights P t, n ≤ reachBytes) → rc x)

theorem opens_int {P : Program} {t : TypeId} {k : IntKind} (ht : P.underlying t = some (.int k)) (hc : P.cellsOf t = 1) : Opens P t (rdInt k) (fun _ => 1) (fun _ => True) where
  ok h _ := by
    obtain ⟨n, rfl, hx, hw⟩ := DataW.trod_int ht h
    obtain ⟨rfl, rfl⟩ := Prod.mk.inj hx
    exact ⟨n, by simp [hc], ⟨rfl, hw⟩, by simp [Rows.uptoBulk], fun _ => trivial⟩
theorem opens_bool {P : Program} {t : TypeId} (ht : P.underlying t = some .bool) (hc : P.cellsOf t = 1) : Opens P t rdBool (fun _ => 1) (fun _ => True) where
  ok h _ := by
    obtain ⟨n, rfl, hx⟩ := DataW.trod_bool ht h
    obtain ⟨rfl, rfl⟩ := Prod.mk.inj hx
    exact ⟨n, by simp [hc], rfl, by simp [Rows.uptoBulk], fun _ => trivial⟩
theorem opens_str {P : Program} {t : TypeId} (ht : P.underlying t = some .string) (hc : P.cellsOf t = 1) : Opens P t rdStr (fun s => s.size + 1) (fun s => s.size ≤ reachBytes) where
  ok h _ := by
    obtain ⟨n, rfl, hx, hw⟩ := DataW.trod_string ht h
    obtain ⟨rfl, rfl⟩ := Prod.mk.inj hx
    have e : n.data.toList.length = n.size := by rw [Array.length_toList]; rfl
    exact ⟨n, by simp [hc], ⟨rfl, hw⟩, by simp [Rows.uptoBulk, e], fun hw' => by simpa [DataW.weights, e] using hw'⟩

/-- the bulk of the parts -/
def bulkL {α : Type} (sz : α → Nat) : List α → Nat
  | [] => 0
  | x :: r => sz x + bulkL sz r
theorem bulkL_len {α : Type} (sz : α → Nat) (h : ∀ x, 1 ≤ sz x) (l : List α) : l.length ≤ bulkL sz l := by
  induction l with
  | nil => simp [bulkL]
  | cons x r ih => have := h x; simp only [bulkL, List.length_cons]; omega
theorem bulkL_mem {α : Type} (sz : α → Nat) {l : List α} {x : α} (h : x ∈ l) : sz x ≤ bulkL sz l := by
  induction l with
  | nil => cases h
  | cons y r ih =>
    simp only [bulkL]
    rcases List.mem_cons.1 h with rfl | h
    · omega
    · have := ih h; omega
theorem bulkL_map {α : Type} {H : Type} (sz : α → Nat) (f : Nat → α) (D : Nat → DataW H) (l : List Nat) (h : ∀ i ∈ l, sz (f i) ≤ Rows.uptoBulk (D i)) :
    bulkL sz (l.map f) ≤ Rows.uptoBulkAll (l.map D) := by
  induction l with
  | nil => simp [bulkL]
  | cons x r ih =>
    have h1 := h x (by simp)
    have h2 := ih (fun i hi => h i (by simp [hi]))
    simp only [List.map_cons, bulkL, Rows.uptoBulkAll]
    omega
theorem weightsAll_mem {H : Type} {P : Program} {e : TypeId} {d : DataW H} {l : List (DataW H)} (h : d ∈ l) {n : Nat} (hn : n ∈ d.weights P e) : n ∈ DataW.weightsAll P e l := by
  induction l with
  | nil => cases h
  | cons x r ih =>
    simp only [DataW.weightsAll, List.mem_append]
    rcases List.mem_cons.1 h with rfl | h
    · exact .inl hn
    · exact .inr (ih h)

theorem opens_slice {P : Program} {t e : TypeId} {α : Type} {rd : Rdr α} {sz : α → Nat} {rc : α → Prop} {size bytes : Nat} (he : Opens P e rd sz rc) (ht : P.underlying t = some (.slice e)) (hc : P.cellsOf t = 1)
    (hs : P.cellsOf e = size) (hp : 0 < size) (hb : P.bytesOf e = bytes) :
    Opens P t (RdSlice size rd) (fun xs => bulkL sz xs + 1) (fun xs => xs.length * bytes ≤ reachBytes ∧ ∀ x ∈ xs, rc x) where
  ok {H enc w B fuel cs d ps} h hlt := by
    rcases Deep.open_slice ht h with ⟨rfl, hx⟩ | ⟨a, len, cap, m, n, D, Pl, rfl, _, hl, hm, hmm, hx, hi⟩
    · obtain ⟨rfl, rfl⟩ := Prod.mk.inj hx
      exact ⟨[], by simp [hc], ⟨none, 0, rfl, Nat.le_refl _, Nat.zero_le _, fun h0 => absurd h0 (by simp)⟩, by simp [bulkL, Rows.uptoBulk], fun _ => ⟨by simp, by simp⟩⟩
    · obtain ⟨rfl, rfl⟩ := Prod.mk.inj hx
      have hm' : m = cap := by simpa using hmm
      subst hm'
      have hpl : ∀ i, i < m → ∀ p ∈ Pl i, p.block < B := fun i hi' p hp' => hlt p (List.mem_append.2 (.inr (List.mem_flatMap.2 ⟨i, List.mem_range.2 hi', hp'⟩)))
      have hspot : 0 < len → a.spot = none := fun h0 => by
        obtain ⟨cs', hcs, _⟩ := hi 0 (by omega)
        obtain ⟨_, hcl, hat⟩ := World.cells?_some hcs
        have h1 := hat 0 (by omega)
        rw [List.getElem?_eq_getElem (by omega)] at h1
        have h2 := World.cell?_spot h1
        simpa [Addr.add] using h2
      have hex : ∀ i, i < len → ∃ x, (∃ cs', cs'.length = size ∧ rd w (· < B) cs' x ∧ ∀ j u, cs'[j]? = some u → w.cell? (a.add (i * size + j)) = some u) ∧ sz x ≤ Rows.uptoBulk (D i) ∧ ((∀ n ∈ (D i).weights P e, n ≤ reachBytes) → rc x) := by
        intro i hil
        obtain ⟨cs', hcs, htr⟩ := hi i (by omega)
        obtain ⟨x, hln, hr, hsz', hrc⟩ := he.ok htr (hpl i (by omega))
        obtain ⟨_, hcl, hat⟩ := World.cells?_some hcs
        refine ⟨x, ⟨cs', by omega, hr, fun j u hu => ?_⟩, hsz', hrc⟩
        have hj : j < cs'.length := by
          rcases Nat.lt_or_ge j cs'.length with h' | h'
          · exact h'
          · rw [List.getElem?_eq_none h'] at hu; cases hu
        rw [← add_of_add, ← hs, hat j (by omega), hu]
      have hf : ∃ f : Nat → Option α, ∀ i, i < len → ∃ x, f i = some x ∧ (∃ cs', cs'.length = size ∧ rd w (· < B) cs' x ∧ ∀ j u, cs'[j]? = some u → w.cell? (a.add (i * size + j)) = some u) ∧ sz x ≤ Rows.uptoBulk (D i) ∧ ((∀ n ∈ (D i).weights P e, n ≤ reachBytes) → rc x) :=
        Deep.choose_lt (p := fun i o => ∃ x, o = some x ∧ (∃ cs', cs'.length = size ∧ rd w (· < B) cs' x ∧ ∀ j u, cs'[j]? = some u → w.cell? (a.add (i * size + j)) = some u) ∧ sz x ≤ Rows.uptoBulk (D i) ∧ ((∀ n ∈ (D i).weights P e, n ≤ reachBytes) → rc x)) (fun i hi' => by obtain ⟨x, hx⟩ := hex i hi'; exact ⟨some x, x, rfl, hx⟩)
      obtain ⟨f, hf⟩ := hf
      rcases Nat.eq_zero_or_pos len with h0 | hpos
      · subst h0
        exact ⟨[], by simp [hc], ⟨some a, m, rfl, Nat.zero_le _, hm, fun h0 => absurd h0 (by simp)⟩, by simp [bulkL, Rows.uptoBulk], fun _ => ⟨by simp, by simp⟩⟩
      · obtain ⟨x0, _, _⟩ := hf 0 hpos
        obtain ⟨ab, ao, asp⟩ := a
        have has : asp = none := hspot hpos
        subst has
        refine ⟨(List.range len).map fun i => (f i).getD x0, by simp [hc], ⟨some ⟨ab, ao, none⟩, m, by simp, by simpa using hl, hm, fun _ => ⟨ab, ao, rfl, ?_, fun i x hx' => ?_⟩⟩, ?_, fun hw => ⟨?_, ?_⟩⟩
        · have : MemPlace.cell ab (ao + 0) ∈ MemPlace.row ⟨ab, ao, none⟩ (m * P.cellsOf e) := by
            unfold MemPlace.row
            exact List.mem_map.2 ⟨0, List.mem_range.2 (by rw [hs]; exact Nat.mul_pos (by omega) hp), rfl⟩
          exact hlt _ (List.mem_append.2 (.inl this))
        · have hil : i < len := by
            rcases Nat.lt_or_ge i len with h' | h'
            · exact h'
            · rw [List.getElem?_eq_none (by simpa using h')] at hx'; cases hx'
          rw [List.getElem?_map, List.getElem?_range hil] at hx'
          obtain ⟨y, e1, hy, _⟩ := hf i hil
          simp [e1] at hx'
          subst hx'
          simpa only [addr_add] using hy
        · have := bulkL_map sz (fun i => (f i).getD x0) D (List.range len) (fun i hi' => by
            obtain ⟨y, e1, _, hy, _⟩ := hf i (List.mem_range.1 hi')
            simpa [e1] using hy)
          simp only [Rows.uptoBulk]
          omega
        · have := hw ((((List.range len).map D).length + ((List.range (m - len)).map fun j => D (len + j)).length) * P.bytesOf e) (by simp [DataW.weights, ht])
          simp only [List.length_map, List.length_range, hb] at this
          have h2 : len * bytes ≤ (len + (m - len)) * bytes := Nat.mul_le_mul_right _ (by omega)
          simp only [List.length_map, List.length_range]
          omega
        · intro x hx'
          obtain ⟨i, hi', rfl⟩ := List.mem_map.1 hx'
          obtain ⟨y, e1, _, _, hy⟩ := hf i (List.mem_range.1 hi')
          simp only [e1, Option.getD_some]
          exact hy fun n hn => hw n (by
            simp only [DataW.weights, ht]
            exact List.mem_cons_of_mem _ (List.mem_append.2 (.inl (weightsAll_mem (List.mem_map.2 ⟨i, hi', rfl⟩) hn))))

theorem weightsEach_mem {H : Type} {P : Program} {ts : List TypeId} {ds : List (DataW H)} {j : Nat} {t : TypeId} {d : DataW H} (ht : ts[j]? = some t) (hd : ds[j]? = some d) : ∀ n ∈ d.weights P t, n ∈ DataW.weightsEach P ts ds := DataW.weights_mem_each ht hd

/-- a struct of two fields -/
theorem opens_struct2 {P : Program} {t : TypeId} {f0 f1 : Field} {α β : Type} {ra : Rdr α} {rb : Rdr β} {sa : α → Nat} {sb : β → Nat} {ca : α → Prop} {cb : β → Prop} {n0 n1 : Nat}
    (ht : P.underlying t = some (.struct #[f0, f1])) (oa : Opens P f0.type ra sa ca) (ob : Opens P f1.type rb sb cb) (h0 : f0.offset = 0) (h1 : f1.offset = n0) (hn0 : P.cellsOf f0.type = n0) (hn1 : P.cellsOf f1.type = n1) (hn : P.cellsOf t = n0 + n1) :
    Opens P t (RdPair ra rb) (fun x => sa x.1 + sb x.2 + 1) (fun x => ca x.1 ∧ cb x.2) where
  ok {H enc w B fuel cs d ps} h hlt := by
    obtain ⟨xs, m, _, hx, hl, hxl, hf⟩ := DataW.trod_struct ht h
    obtain ⟨rfl, rfl⟩ := Prod.mk.inj hx
    match xs, hxl with
    | [y0, y1], _ =>
      have t0 := hf 0 f0 rfl
      have t1 := hf 1 f1 rfl
      rw [h0, hn0, List.drop_zero] at t0
      rw [h1, hn1] at t1
      obtain ⟨d0, q0⟩ := y0
      obtain ⟨d1, q1⟩ := y1
      obtain ⟨a, la, ra', za, wa⟩ := oa.ok t0 (fun p hp => hlt p (by simp [hp]))
      obtain ⟨b, lb, rb', zb, wb⟩ := ob.ok t1 (fun p hp => hlt p (by simp [hp]))
      refine ⟨(a, b), hl, ⟨cs.take n0, (cs.drop n0).take n1, ?_, ra', rb'⟩, ?_, fun hw => ⟨wa fun n hn' => hw n ?_, wb fun n hn' => hw n ?_⟩⟩
      · rw [List.take_of_length_le (l := cs.drop n0) (by simp; omega), List.take_append_drop]
      · simp only [List.map_cons, List.map_nil, Rows.uptoBulk, Rows.uptoBulkAll]; omega
      · simp only [DataW.weights, ht]
        exact weightsEach_mem (j := 0) rfl rfl n hn'
      · simp only [DataW.weights, ht]
        exact weightsEach_mem (j := 1) rfl rfl n hn'
theorem opens_struct3 {P : Program} {t : TypeId} {f0 f1 f2 : Field} {α β γ : Type} {ra : Rdr α} {rb : Rdr β} {rc : Rdr γ} {sa : α → Nat} {sb : β → Nat} {sc : γ → Nat} {ca : α → Prop} {cb : β → Prop} {cc : γ → Prop} {n0 n1 n2 : Nat}
    (ht : P.underlying t = some (.struct #[f0, f1, f2])) (oa : Opens P f0.type ra sa ca) (ob : Opens P f1.type rb sb cb) (oc : Opens P f2.type rc sc cc) (h0 : f0.offset = 0) (h1 : f1.offset = n0) (h2 : f2.offset = n0 + n1)
    (hn0 : P.cellsOf f0.type = n0) (hn1 : P.cellsOf f1.type = n1) (hn2 : P.cellsOf f2.type = n2) (hn : P.cellsOf t = n0 + (n1 + n2)) :
    Opens P t (RdPair ra (RdPair rb rc)) (fun x => sa x.1 + sb x.2.1 + sc x.2.2 + 1) (fun x => ca x.1 ∧ cb x.2.1 ∧ cc x.2.2) where
  ok {H enc w B fuel cs d ps} h hlt := by
    obtain ⟨xs, m, _, hx, hl, hxl, hf⟩ := DataW.trod_struct ht h
    obtain ⟨rfl, rfl⟩ := Prod.mk.inj hx
    match xs, hxl with
    | [y0, y1, y2], _ =>
      have t0 := hf 0 f0 rfl
      have t1 := hf 1 f1 rfl
      have t2 := hf 2 f2 rfl
      rw [h0, hn0, List.drop_zero] at t0
      rw [h1, hn1] at t1
      rw [h2, hn2] at t2
      obtain ⟨d0, q0⟩ := y0
      obtain ⟨d1, q1⟩ := y1
      obtain ⟨d2, q2⟩ := y2
      obtain ⟨a, la, ra', za, wa⟩ := oa.ok t0 (fun p hp => hlt p (by simp [hp]))
      obtain ⟨b, lb, rb', zb, wb⟩ := ob.ok t1 (fun p hp => hlt p (by simp [hp]))
      obtain ⟨c, lc, rc', zc, wc⟩ := oc.ok t2 (fun p hp => hlt p (by simp [hp]))
      refine ⟨(a, b, c), hl, ⟨cs.take n0, (cs.drop n0).take n1 ++ (cs.drop (n0 + n1)).take n2, ?_, ra', _, _, rfl, rb', rc'⟩, ?_, fun hw => ⟨wa fun n hn' => hw n ?_, wb fun n hn' => hw n ?_, wc fun n hn' => hw n ?_⟩⟩
      · have e : cs.drop (n0 + n1) = (cs.drop n0).drop n1 := by rw [List.drop_drop]
        rw [List.take_of_length_le (l := cs.drop (n0 + n1)) (by simp; omega), e, List.take_append_drop, List.take_append_drop]
      · simp only [List.map_cons, List.map_nil, Rows.uptoBulk, Rows.uptoBulkAll]; omega
      · simp only [DataW.weights, ht]
        exact weightsEach_mem (j := 0) rfl rfl n hn'
      · simp only [DataW.weights, ht]
        exact weightsEach_mem (j := 1) rfl rfl n hn'
      · simp only [DataW.weights, ht]
        exact weightsEach_mem (j := 2) rfl rfl n hn'
theorem Opens.map {P : Program} {t : TypeId} {α β : Type} {ra : Rdr α} {rb : Rdr β} {sa : α → Nat} {ca : α → Prop} {sb : β → Nat} {cb : β → Prop} (o : Opens P t ra sa ca) (f : α → β)
    (hr : ∀ {w ok cs x}, ra w ok cs x → rb w ok cs (f x)) (hs : ∀ x, sb (f x) ≤ sa x) (hc : ∀ x, ca x → cb (f x)) : Opens P t rb sb cb where
  ok h hlt := by
    obtain ⟨x, h1, h2, h3, h4⟩ := o.ok h hlt
    exact ⟨f x, h1, hr h2, Nat.le_trans (hs x) h3, fun hw => hc x (h4 hw)⟩

theorem Opens.arg {P : Program} {t : TypeId} {α : Type} {rd : Rdr α} {sz : α → Nat} {rc : α → Prop} (o : Opens P t rd sz rc) {H : Type} {enc : TypeId × Value → H} {W : World} {v : Value} {d : DataW H} {ps : List MemPlace}
    (h : DataW.Trod enc P W 0 (fun _ => true) true t v d ps) (hlt : ∀ p ∈ ps, p.block < W.heap.size) :
    ∃ x, RV rd W v x ∧ sz x ≤ Rows.uptoBulk d ∧ ((∀ n ∈ d.weights P t, n ≤ reachBytes) → rc x) := by
  obtain ⟨fuel, hf⟩ := h
  obtain ⟨x, _, h2⟩ := o.ok hf hlt
  exact ⟨x, h2⟩

theorem trodAll_below {H : Type} {enc : TypeId × Value → H} {P : Program} {W W' : World} (hl : laidOutB P = true) (hb : Below W.heap.size W W') :
    ∀ (ts : List TypeId) (vs : List Value) (ds : List (DataW H)) (ps : List MemPlace), (∀ t ∈ ts, P.readableRec t = true ∧ t < P.types.size) →
      DataW.TrodAll enc P W 0 (fun _ => true) true ts vs ds ps → (∀ x ∈ ps, x.block < W.heap.size) → DataW.TrodAll enc P W' 0 (fun b => decide (b < W.heap.size)) true ts vs ds ps
  | [], [], [], _, _, h, _ => h
  | t :: ts, v :: vs, d :: ds, ps, hr, ⟨p, q, h1, h2, he⟩, hlt => by
    subst he
    exact ⟨p, q, Below.trod hl (hr t (by simp)).1 (hr t (by simp)).2 h1 hb (fun x hx => hlt x (by simp [hx])),
      trodAll_below hl hb ts vs ds q (fun t' ht' => hr t' (by simp [ht'])) h2 (fun x hx => hlt x (by simp [hx])), rfl⟩
  | [], [], _ :: _, _, _, h, _ => by cases h
  | [], _ :: _, _, _, _, h, _ => by cases h
  | _ :: _, [], _, _, _, h, _ => by cases h
  | _ :: _, _ :: _, [], _, _, h, _ => by cases h

/-- THE ROW's LAST STEP, FOR EVERY LAW: it returned true, and nothing that was there has turned. -/
theorem law_post {P : Program} {f : Func} {s : ChangeSpec} {H : Type} {enc : TypeId × Value → H} {W W' : World} {args : Array Value} {ds gs : List (DataW H)} {before : List MemPlace} {tb : TypeId}
    (hl : laidOutB P = true) (hr : ∀ t ∈ f.params.toList, P.readableRec t = true ∧ t < P.types.size) (hv : s.vars = [])
    (hres : f.resultTypes = #[tb]) (htb : P.underlying tb = some .bool)
    (hfn : (s.fn H (ds ++ gs)).results = [.lit (.bool true)] ∧ (s.fn H (ds ++ gs)).args = ds ∧ (s.fn H (ds ++ gs)).vars = [])
    (hW : DataW.Whole enc P f.params.toList s.vars false W args.toList ds gs before) (hb : Below W.heap.size W W') :
    s.post enc P f false true false false W args (.bool true) W' := by
  have hW' := hW
  obtain ⟨p, q, hA, hV, rfl, _, _⟩ := hW
  rw [hv] at hV
  obtain ⟨rfl, rfl⟩ := trodVars_none hV
  have hlt : ∀ x ∈ p, x.block < W.heap.size := fun x hx => hW'.lt x (by simp [hx])
  obtain ⟨e1, e2, e3⟩ := hfn
  refine ⟨ds, [], p ++ [], [], p, [], hW', ?_, ?_, ?_, hb.frame _, fun h => by cases h⟩
  · rw [hres, e1]
    exact trodAll_mk1 (shut_bool htb _)
  · rw [e2]
    exact trodAll_below hl hb _ _ _ _ hr hA hlt
  · rw [e3, hv]
    rfl
theorem one_ints (k : IntKind) (l : List Int) : ∀ u ∈ l.map (Value.int k), u.oneCell' = true := by
  intro u hu
  obtain ⟨y, _, rfl⟩ := List.mem_map.1 hu
  rfl
theorem own_empty (E : TypeId) (size : Nat) (w : World) : (w.alloc (.cells #[] E)).ownsRow w.heap.size E size (.slice (some ⟨w.heap.size, 0, none⟩) 0 0) 0 [] :=
  World.ownsRow_made w #[] 0 (Nat.le_refl _) (by decide) (by simp)
theorem run_eq_nil {P : Program} (w : World) {t e : TypeId} (A : Option Addr) (n c : Nat) (ht : P.underlying t = some (.slice e)) :
    (binOp .eql t (.slice A n c) (.slice none 0 0)).run P w = .ok (.bool A.isNone) w := by
  have h : ∀ d : Nat, (Op.equalIn (d + 1) t (.slice A n c) (.slice none 0 0)).run P w = .ok A.isNone w := fun d => by
    cases A <;> simp [Op.equalIn, run_underlying ht]
  simp only [binOp]
  simp [Op.equal, Op.maxDepth, h 9999]
theorem quiet_add {P : Program} {f : FuncId} {args : Array Value} {w : World} {a n : Nat} {v : Value}
    (h : Calls P f args (w.drewN (a + n)) fun e w' => e = .returned v ∧ ∃ m, w' = (w.drewN (a + n)).drewN m) :
    Calls P f args (w.drewN (a + n)) fun e w'' => e = .returned v ∧ ∃ m, w'' = w.drewN (a + m) :=
  h.mono fun _ _ ⟨he, m, hm⟩ => ⟨he, n + m, by rw [hm, World.drewN_drewN, Nat.add_assoc]⟩
theorem quiet_add_same {P : Program} {f : FuncId} {args : Array Value} {w : World} {a n : Nat} {v : Value}
    (h : Calls P f args (w.drewN (a + n)) fun e w' => e = .returned v ∧ w' = w.drewN (a + n)) :
    Calls P f args (w.drewN (a + n)) fun e w'' => e = .returned v ∧ ∃ m, w'' = w.drewN (a + m) :=
  h.mono fun _ _ ⟨he, hm⟩ => ⟨he, n, hm⟩
theorem quiet_add_left {P : Program} {f : FuncId} {args : Array Value} {w : World} {a n : Nat} {v : Value}
    (h : Calls P f args (w.drewN (a + n)) fun e w' => e = .returned v ∧ w.drewN (a + n) = w') :
    Calls P f args (w.drewN (a + n)) fun e w'' => e = .returned v ∧ ∃ m, w'' = w.drewN (a + m) :=
  h.mono fun _ _ ⟨he, hm⟩ => ⟨he, n, hm.symm⟩
theorem quiet_left {P : Program} {f : FuncId} {args : Array Value} {w : World} {n : Nat} {v : Value}
    (h : Calls P f args (w.drewN n) fun e w' => e = .returned v ∧ w.drewN n = w') : Calls P f args (w.drewN n) fun e w'' => e = .returned v ∧ ∃ m, w'' = w.drewN m :=
  h.mono fun _ _ ⟨he, hm⟩ => ⟨he, n, hm.symm⟩
theorem run_make_rowN {P : Program} (t e : TypeId) (i : TypeInfo) (z : Value) (ht : P.underlying t = some (.slice e)) (hi : P.info? e = some i) (hz : i.zero = some z)
    (kl kc : IntKind) (n c : Nat) (hnc : n ≤ c) (hbytes : i.bytes * c ≤ 281474976710656) (h63 : c ≤ 9223372036854775807) (w : World) :
    (Instr.makeSlice t (.int kl (n : Int)) (.int kc (c : Int))).run P w = .ok (.slice (some ⟨w.heap.size, 0, none⟩) n c) (w.alloc (.cells (madeCells z.cells (c * i.size)) e)) := by
  have hb : (i.bytes : Int) * (c : Int) ≤ 281474976710656 := by
    have h : ((i.bytes * c : Nat) : Int) ≤ 281474976710656 := by omega
    rwa [Int.natCast_mul] at h
  have hr := run_make (P := P) w t e i z ht hi hz kl kc n c (by omega) (by omega) hb (by omega)
  simp only [Int.toNat_natCast] at hr
  exact hr
theorem run_makeMap_hint {P : Program} (t k e : TypeId) (kd : IntKind) (n : Int) (ht : P.underlying t = some (.map k e)) (w : World) :
    (Instr.makeMap t (some (.int kd n))).run P w = .ok (.map (some w.heap.size)) (w.alloc (.map #[] 0)) := by
  simp [Instr.makeMap, run_underlying ht]; rfl
theorem bulk_int {H : Type} (k : IntKind) (n : Int) : Rows.uptoBulk (DataW.lit (H := H) (.int k n)) = 1 := by simp [Rows.uptoBulk]
theorem bulk_str {H : Type} (s : ByteArray) : Rows.uptoBulk (DataW.lit (H := H) (.string s.data.toList)) = s.size + 1 := by
  have e : s.data.toList.length = s.size := by rw [Array.length_toList]; rfl
  simp [Rows.uptoBulk, e]
theorem reach_le : reachBytes = 140737488351232 := rfl
end Go.Proofs.YtgdlkjahlajcpaaGreatDoor
namespace Go.Proofs.YtgdlkjahlajcpaaGreatDoor
open Go.ChangeShapes Go.WideShapes Go.ChangeAt Go.RowKit
/-- an error of a number: 0 nil -/
def errV (k : Int) : Value := if k = 0 then .nilIface else .iface 35 (.int .i64 k)
theorem errV_ne {k : Int} (h : k ≠ 0) : errV k = .iface 35 (.int .i64 k) := by unfold errV; rw [if_neg h]
theorem errV_zero : errV 0 = .nilIface := rfl
theorem oI : Opens Tryz.prog 3 (rdInt .i64) (fun _ => 1) (fun _ => True) := opens_int Tryz.underlying3 (by kernel_rfl)
abbrev rdInts : Rdr (List Int) := RdSlice 1 (rdInt .i64)
theorem opens_ints : Opens Tryz.prog 27 rdInts (fun xs => bulkL (fun _ => 1) xs + 1) (fun xs => xs.length * 8 ≤ reachBytes ∧ ∀ x ∈ xs, True) :=
  opens_slice oI Tryz.underlying27 (by kernel_rfl) (by kernel_rfl) (by omega) (by kernel_rfl)
abbrev rdNet : Rdr (Int × Int) := RdPair (rdInt .u32) (rdInt .i64)
theorem opens_net : Opens Tryz.prog 47 rdNet (fun _ => 3) (fun _ => True ∧ True) :=
  opens_struct2 (n0 := 1) (n1 := 1) Tryz.underlying47 (opens_int Tryz.underlying45 (by kernel_rfl)) oI rfl rfl (by kernel_rfl) (by kernel_rfl) (by kernel_rfl)
abbrev rdNets : Rdr (List (Int × Int)) := RdSlice 2 rdNet
theorem opens_nets : Opens Tryz.prog 26 rdNets (fun xs => bulkL (fun _ => 3) xs + 1) (fun xs => xs.length * 16 ≤ reachBytes ∧ ∀ x ∈ xs, True ∧ True) :=
  opens_slice opens_net Tryz.underlying26 (by kernel_rfl) (by kernel_rfl) (by omega) (by kernel_rfl)
end Go.Proofs.YtgdlkjahlajcpaaGreatDoor
namespace Go.Proofs.YtgdlkjahlajcpaaGreatDoor
open Go.ChangeShapes Go.WideShapes Go.ChangeAt Go.RowKit
set_option linter.unusedVariables false

/-- from the world w with the row v to the world w' with the row v': new blocks, and writes to the row alone -/
def Grow (w : World) (v : Value) (w' : World) (v' : Value) : Prop :=
  w.grownBy w' v.ownBlock ∧ (v'.ownBlock = v.ownBlock ∨ ∃ g, v'.ownBlock = some g ∧ w.heap.size ≤ g)
theorem Grow.refl (w : World) (v : Value) : Grow w v w v := ⟨World.grownBy.refl _ _, .inl rfl⟩
theorem Grow.trans {a b c : World} {v v' v'' : Value} (h : Grow a v b v') (k : Grow b v' c v'') : Grow a v c v'' := by
  obtain ⟨h1, h2⟩ := h
  obtain ⟨k1, k2⟩ := k
  refine ⟨⟨by rw [k1.os, h1.os], by rw [k1.tape, h1.tape], by rw [k1.output, h1.output], Nat.le_trans h1.size k1.size, fun i hi hne => ?_⟩, ?_⟩
  · rw [k1.block i (Nat.lt_of_lt_of_le hi h1.size) ?_, h1.block i hi hne]
    rcases h2 with h2 | ⟨g, h2, hg⟩
    · rw [h2]; exact hne
    · rw [h2]; intro e; injection e with e; omega
  · rcases k2 with k2 | ⟨g, k2, hg⟩
    · rw [k2]; exact h2
    · exact .inr ⟨g, k2, Nat.le_trans h1.size hg⟩
theorem Grow.of_alloc {w w' : World} {v v' : Value} {o : Obj} (h : Grow (w.alloc o) v w' v') : Grow w v w' v' := by
  obtain ⟨h1, h2⟩ := h
  refine ⟨World.grownBy.trans (World.grownBy_alloc w o _) h1, ?_⟩
  rcases h2 with h2 | ⟨g, h2, hg⟩
  · exact .inl h2
  · exact .inr ⟨g, h2, by simp at hg; omega⟩
theorem Grow.below {B : Nat} {a w w' : World} {v v' : Value} {base : Nat} {e : TypeId} {size n : Nat} {xs : List Value} (h : Grow w v w' v') (hb : Below B a w) (hown : w.ownsRow base e size v n xs) (hB : B ≤ base) (hbw : B ≤ w.heap.size) : Below B a w' := below_grown hb hown h.1 hB hbw
theorem Grow.cell {w w' : World} {v v' : Value} (h : Grow w v w' v') {base : Nat} {e : TypeId} {size n : Nat} {xs : List Value} (hown : w.ownsRow base e size v n xs) {p : Addr} {B : Nat} (hlt : p.block < w.heap.size) (hne : ∀ g, v.ownBlock = some g → p.block ≠ g) : w'.cell? p = w.cell? p :=
  World.cell?_of_block (h.1.block p.block hlt (fun e => hne _ e.symm rfl))
theorem Grow.size {w w' : World} {v v' : Value} (h : Grow w v w' v') : w.heap.size ≤ w'.heap.size := h.1.size

/-- append on a row of bytes of the call's own. -/
theorem wpList_append_bytesG {P : Program} (w : World) {ops : Array Oper} {rest : List Oper} {o : Oper} {a : Act} {Q : Exit → Act → World → Prop} (hgd : o.guard = none) (s x : Operand) (t : TypeId)
    (ho : o.op = .call { callee := .builtin .append, args := #[s, x], argTypes := #[t, t] })
    (base : Nat) (e : TypeId) (ht : P.underlying t = some (.slice e)) (hinfo : (P.info? e).map (fun i => (i.zero, i.size, i.bytes)) = some (some (.int .u8 0), 1, 1))
    (v : Value) (l : List Int) (hs : a.eval s = v) (hown : OwnB e w base v l)
    (B : Nat) (A : Option Addr) (m c : Nat) (l2 : List Int) (hx : a.eval x = .slice A m c) (hm : m = l2.length) (hr : Bytes w B A l2)
    (hbytes : l.length + l2.length ≤ 140737488355328) (hbase : base ≤ w.heap.size)
    (h : ∀ v' w', OwnB e w' base v' (l ++ l2) → Grow w v w' v' → wpList P ops Q rest (a.put o.dst v') w') : wpList P ops Q (o :: rest) a w := by
  subst hm
  obtain ⟨i0, hi, hz0, hz1, hz2⟩ := info_parts hinfo
  refine wpList_append_any w hgd s x t ho base e i0 _ 1 1 ht hi hz0 hz1 hz2 rfl (by omega) v l.length _ hs hown.1 B A l2.length c _ hx hr.1 ?_ (by simp only [maxLen]; omega) (by omega) hbase ?_
  · intro u hu
    obtain ⟨y, _, rfl⟩ := List.mem_map.1 hu
    rfl
  · intro v' w' h1 h2 h3
    refine h v' w' ⟨by simpa using h1, fun y hy => ?_⟩ ⟨h2, ?_⟩
    · rcases List.mem_append.1 hy with hy | hy
      · exact hown.2 y hy
      · exact hr.2 y hy
    · rcases h3 with h3 | h3
      · exact .inl h3
      · exact .inr ⟨_, h3, Nat.le_refl _⟩
end Go.Proofs.YtgdlkjahlajcpaaGreatDoor
