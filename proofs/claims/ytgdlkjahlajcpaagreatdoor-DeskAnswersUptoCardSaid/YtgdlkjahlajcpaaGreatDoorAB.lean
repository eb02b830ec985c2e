/- What cells read as (a list behind a slice, slices of slices, structs), where only some blocks may be looked into; and the row's last step, the same for every law. The readings of this program's own types. Rows of the call's own that grow by append, one step after the other. A block of two cells of t -/
import Derived.Test.YtgdlkjahlajcpaaGreatDoorAA
import Derived.Deep.DeepHandedRow
import Derived.Deep.DeepWitnessRowRef
import Derived.Lib.SmallJoins
import Derived.Lib.AppendIntMem
import Derived.LaidSub
import Derived.MakeChecks
import Derived.Stop.LaidErr
import Derived.Lay
import Derived.Lib.BitFns
import Derived.Lib.Walk
import Derived.Lib.Tables
namespace Go.Proofs.YtgdlkjahlajcpaaGreatDoor
open Go.ChangeShapes Go.WideShapes Go.ChangeAt Go.RowKit

abbrev Rdr (α : Type) := World → (Nat → Prop) → List Value → α → Prop

class RdLaw {α : Type} (rd : Rdr α) : Prop where
  keep : ∀ {w w' : World} {ok : Nat → Prop} {cs : List Value} {x : α}, rd w ok cs x → (∀ p : Addr, ok p.block → w'.cell? p = w.cell? p) → rd w' ok cs x
  mono : ∀ {w : World} {ok ok' : Nat → Prop} {cs : List Value} {x : α}, rd w ok cs x → (∀ b, ok b → ok' b) → rd w ok' cs x

def rdInt (k : IntKind) : Rdr Int := fun _ _ cs x => cs = [.int k x] ∧ (Lit.int k x).wf = true
def rdBool : Rdr Bool := fun _ _ cs x => cs = [.bool x]
def rdStr : Rdr ByteArray := fun _ _ cs x => cs = [.string x] ∧ x.size ≤ maxLen
def RdSlice {α : Type} (size : Nat) (rd : Rdr α) : Rdr (List α) := fun w ok cs xs =>
  ∃ A c, cs = [.slice A xs.length c] ∧ xs.length ≤ c ∧ c ≤ maxLen ∧ (0 < xs.length → ∃ b o, A = some ⟨b, o, none⟩ ∧ ok b ∧
    ∀ i x, xs[i]? = some x → ∃ cs', cs'.length = size ∧ rd w ok cs' x ∧ ∀ j u, cs'[j]? = some u → w.cell? ⟨b, o + (i * size + j), none⟩ = some u)
def RdPair {α β : Type} (ra : Rdr α) (rb : Rdr β) : Rdr (α × β) := fun w ok cs x => ∃ c0 c1, cs = c0 ++ c1 ∧ ra w ok c0 x.1 ∧ rb w ok c1 x.2

instance {k : IntKind} : RdLaw (rdInt k) := ⟨fun h _ => h, fun h _ => h⟩
instance : RdLaw rdBool := ⟨fun h _ => h, fun h _ => h⟩
instance : RdLaw rdStr := ⟨fun h _ => h, fun h _ => h⟩
instance {α : Type} {size : Nat} {rd : Rdr α} [RdLaw rd] : RdLaw (RdSlice size rd) where
  keep h hk := by
    obtain ⟨A, c, rfl, h1, h2, h3⟩ := h
    refine ⟨A, c, rfl, h1, h2, fun hn => ?_⟩
    obtain ⟨b, o, hA, hb, hx⟩ := h3 hn
    refine ⟨b, o, hA, hb, fun i x hi => ?_⟩
    obtain ⟨cs', hl, hr, hc⟩ := hx i x hi
    exact ⟨cs', hl, RdLaw.keep hr hk, fun j u hu => (hk _ hb).trans (hc j u hu)⟩
  mono h hk := by
    obtain ⟨A, c, rfl, h1, h2, h3⟩ := h
    refine ⟨A, c, rfl, h1, h2, fun hn => ?_⟩
    obtain ⟨b, o, hA, hb, hx⟩ := h3 hn
    refine ⟨b, o, hA, hk b hb, fun i x hi => ?_⟩
    obtain ⟨cs', hl, hr, hc⟩ := hx i x hi
    exact ⟨cs', hl, RdLaw.mono hr hk, hc⟩
instance {α β : Type} {ra : Rdr α} {rb : Rdr β} [RdLaw ra] [RdLaw rb] : RdLaw (RdPair ra rb) where
  keep h hk := by obtain ⟨c0, c1, rfl, h0, h1⟩ := h; exact ⟨c0, c1, rfl, RdLaw.keep h0 hk, RdLaw.keep h1 hk⟩
  mono h hk := by obtain ⟨c0, c1, rfl, h0, h1⟩ := h; exact ⟨c0, c1, rfl, RdLaw.mono h0 hk, RdLaw.mono h1 hk⟩

def RV {α : Type} (rd : Rdr α) (w : World) (v : Value) (x : α) : Prop := rd w (· < w.heap.size) v.cells.toList x
theorem RV.below {α : Type} {rd : Rdr α} [RdLaw rd] {w w' : World} {v : Value} {x : α} (h : RV rd w v x) (hb : Below w.heap.size w w') : RV rd w' v x :=
  RdLaw.mono (RdLaw.keep h (fun _ hp => hb.cell hp)) (fun _ hp => Nat.lt_of_lt_of_le hp hb.size)
theorem RV.drewN {α : Type} {rd : Rdr α} [RdLaw rd] {w : World} {v : Value} {x : α} (h : RV rd w v x) (n : Nat) : RV rd (w.drewN n) v x := RdLaw.keep h (fun _ _ => rfl)
theorem RV.alloc {α : Type} {rd : Rdr α} [RdLaw rd] {w : World} {v : Value} {x : α} (h : RV rd w v x) (o : Obj) : RV rd (w.alloc o) v x := h.below ((Below.refl _ _).alloc (Nat.le_refl _) o)

theorem RdLaw.drewN {α : Type} {rd : Rdr α} [RdLaw rd] {w : World} {ok : Nat → Prop} {cs : List Value} {x : α} (h : rd w ok cs x) (k : Nat) : rd (w.drewN k) ok cs x := RdLaw.keep h (fun _ _ => rfl)
def R1 {α : Type} (rd : Rdr α) (w : World) (v : Value) (x : α) : Prop := rd w (· < w.heap.size) [v] x
theorem R1.below {α : Type} {rd : Rdr α} [RdLaw rd] {w w' : World} {v : Value} {x : α} (h : R1 rd w v x) (hb : Below w.heap.size w w') : R1 rd w' v x :=
  RdLaw.mono (RdLaw.keep h (fun _ hp => hb.cell hp)) (fun _ hp => Nat.lt_of_lt_of_le hp hb.size)
theorem R1.drewN {α : Type} {rd : Rdr α} [RdLaw rd] {w : World} {v : Value} {x : α} (h : R1 rd w v x) (n : Nat) : R1 rd (w.drewN n) v x := RdLaw.keep h (fun _ _ => rfl)
theorem R1.alloc {α : Type} {rd : Rdr α} [RdLaw rd] {w : World} {v : Value} {x : α} (h : R1 rd w v x) (o : Obj) : R1 rd (w.alloc o) v x := h.below ((Below.refl _ _).alloc (Nat.le_refl _) o)
theorem R1.form {α : Type} {size : Nat} {rd : Rdr α} {w : World} {v : Value} {xs : List α} (h : R1 (RdSlice size rd) w v xs) : ∃ A c, v = .slice A xs.length c := by
  obtain ⟨A, c, e, _⟩ := h
  simp only [List.cons.injEq, and_true] at e
  exact ⟨A, c, e⟩

section
variable {α : Type} {size : Nat} {rd : Rdr α} {w : World} {ok : Nat → Prop} {A : Option Addr} {n c : Nat} {xs : List α}
theorem RdSlice.len (h : RdSlice size rd w ok [.slice A n c] xs) : n = xs.length ∧ n ≤ c ∧ c ≤ maxLen := by
  obtain ⟨A', c', e, h1, h2, _⟩ := h
  simp only [List.cons.injEq, Value.slice.injEq, and_true] at e
  obtain ⟨rfl, rfl, rfl⟩ := e
  exact ⟨rfl, h1, h2⟩
theorem RdSlice.at_ (h : RdSlice size rd w ok [.slice A n c] xs) {k : Nat} (hk : k < n) :
    ∃ b o x cs, A = some ⟨b, o, none⟩ ∧ ok b ∧ Hid (xs[k]? = some x) ∧ cs.length = size ∧ rd w ok cs x ∧ ∀ j u, cs[j]? = some u → w.cell? ⟨b, o + (k * size + j), none⟩ = some u := by
  obtain ⟨A', c', e, h1, h2, h3⟩ := h
  simp only [List.cons.injEq, Value.slice.injEq, and_true] at e
  obtain ⟨rfl, rfl, rfl⟩ := e
  obtain ⟨b, o, hA, hb, hx⟩ := h3 (by omega)
  have e : xs[k]? = some xs[k] := List.getElem?_eq_getElem hk
  obtain ⟨cs, h4, h5, h6⟩ := hx k _ e
  exact ⟨b, o, xs[k], cs, hA, hb, Lib.hid e, h4, h5, h6⟩
theorem RdSlice.at1 (h : RdSlice 1 rd w ok [.slice A n c] xs) {k : Nat} (hk : k < n) :
    ∃ b o x u, A = some ⟨b, o, none⟩ ∧ ok b ∧ Hid (xs[k]? = some x) ∧ rd w ok [u] x ∧ w.cell? ⟨b, o + k, none⟩ = some u := by
  obtain ⟨b, o, x, cs, hA, hb, hx, hl, hr, hc⟩ := h.at_ hk
  match cs, hl with
  | [u], _ => exact ⟨b, o, x, u, hA, hb, hx, hr, by simpa using hc 0 u rfl⟩
theorem RdSlice.nil_ : RdSlice size rd w ok [.slice none 0 0] ([] : List α) := ⟨none, 0, rfl, Nat.le_refl _, Nat.zero_le _, fun h => absurd h (by simp)⟩
end
theorem RdSlice.atI {k : IntKind} {w : World} {ok : Nat → Prop} {A : Option Addr} {n c : Nat} {xs : List Int} (h : RdSlice 1 (rdInt k) w ok [.slice A n c] xs) {i : Nat} (hi : i < n) :
    ∃ b o x, A = some ⟨b, o, none⟩ ∧ ok b ∧ Hid (xs[i]? = some x) ∧ (Lit.int k x).wf = true ∧ w.cell? ⟨b, o + i, none⟩ = some (.int k x) := by
  obtain ⟨b, o, x, u, hA, hb, hx, ⟨hu, hw⟩, hc⟩ := h.at1 hi
  simp only [List.cons.injEq, and_true] at hu
  subst hu
  exact ⟨b, o, x, hA, hb, hx, hw, hc⟩
theorem RdSlice.of_own {α : Type} {rd : Rdr α} {w : World} {ok : Nat → Prop} {base : Nat} {e : TypeId} {size : Nat} {A : Option Addr} {n c : Nat} {us : List Value} {xs : List α}
    (h : w.ownsRow base e size (.slice A n c) n us) (hn : xs.length = n) (hok : ∀ g, (Value.slice A n c).ownBlock = some g → ok g)
    (hx : ∀ i x, xs[i]? = some x → ∃ cs', cs'.length = size ∧ rd w ok cs' x ∧ ∀ j u, cs'[j]? = some u → us[i * size + j]? = some u) : RdSlice size rd w ok [.slice A n c] xs := by
  subst hn
  rcases h.2 with ⟨e1, e2⟩ | ⟨g, cap, cur, e1, _, hg, hnc, hcm, _, _⟩
  · simp only [Value.slice.injEq] at e1
    obtain ⟨rfl, _, rfl⟩ := e1
    refine ⟨none, 0, by simp, by omega, Nat.zero_le _, fun h0 => absurd h0 (by omega)⟩
  · simp only [Value.slice.injEq] at e1
    obtain ⟨rfl, _, rfl⟩ := e1
    refine ⟨some ⟨g, 0, none⟩, c, rfl, hnc, hcm, fun h0 => ⟨g, 0, rfl, hok g rfl, fun i x hi => ?_⟩⟩
    obtain ⟨cs', h1, h2, h3⟩ := hx i x hi
    refine ⟨cs', h1, h2, fun j u hu => ?_⟩
    have := h.cells (g := g) rfl _ _ (h3 j u hu)
    rwa [addr_add] at this
theorem R1.of_own_ints {k : IntKind} {w : World} {base : Nat} {e : TypeId} {v : Value} {n : Nat} {xs : List Int} (h : w.ownsRow base e 1 v n (xs.map (Value.int k))) (hr : ∀ x ∈ xs, (Lit.int k x).wf = true) : R1 (RdSlice 1 (rdInt k)) w v xs := by
  obtain ⟨A, c, rfl⟩ := own_form h
  have hn : xs.length = n := by have := h.1; simpa using this
  refine RdSlice.of_own (xs := xs) h hn (fun g hg => (own_blk h g hg).2) (fun (i : Nat) (x : Int) hi => ⟨[.int k x], rfl, ⟨rfl, hr x (List.mem_of_getElem? hi)⟩, fun j u hu => ?_⟩)
  match j, hu with
  | 0, hu => simp only [List.getElem?_cons_zero, Option.some.injEq] at hu; subst hu; simp [hi]
theorem RdSlice.new1 {α : Type} {rd : Rdr α} {w : World} {ok : Nat → Prop} {g n c : Nat} {cs : Array Value} {t : TypeId} {xs : List α} (h : w.heap[g]? = some (.cells cs t (0, 0))) (hok : ok g) (hn : xs.length = n) (hc : n ≤ c) (hm : c ≤ maxLen)
    (hx : ∀ (i : Nat) (x : α), xs[i]? = some x → ∃ u, cs[i]? = some u ∧ rd w ok [u] x) : RdSlice 1 rd w ok [.slice (some ⟨g, 0, none⟩) n c] xs := by
  subst hn
  refine ⟨_, c, rfl, hc, hm, fun _ => ⟨g, 0, rfl, hok, fun i x hi => ?_⟩⟩
  obtain ⟨u, hu, hr⟩ := hx i x hi
  refine ⟨[u], rfl, hr, fun j u' hu' => ?_⟩
  match j, hu' with
  | 0, hu' =>
    simp only [List.getElem?_cons_zero, Option.some.injEq] at hu'
    subst hu'
    rw [cell_of_row _ g _ cs t (0, 0) h]
    simpa using hu

theorem R1.new {α : Type} {rd : Rdr α} [RdLaw rd] {w : World} {g n : Nat} {us : Array Value} {xs : List α} {t : TypeId} (hg : w.heap.size = g) (hx : xs.length = n) (hm : n ≤ maxLen)
    (h : ∀ (i : Nat) (x : α), xs[i]? = some x → ∃ u, us[i]? = some u ∧ R1 rd w u x) : R1 (RdSlice 1 rd) (w.alloc (.cells us t)) (.slice (some ⟨g, 0, none⟩) n n) xs := by
  subst hg
  refine RdSlice.new1 (heap_alloc_new w _) (by simp) hx (Nat.le_refl _) hm (fun i x hi => ?_)
  obtain ⟨u, hu, hr⟩ := h i x hi
  exact ⟨u, hu, R1.alloc hr _⟩
/-! ### What comes in -/
structure Opens (P : Program) (t : TypeId) {α : Type} (rd : Rdr α) (sz : α → Nat) (rc : α → Prop) : Prop where
  ok : ∀ {H : Type} {enc : TypeId × Value → H} {w : World} {B fuel : Nat} {cs : List Value} {d : DataW H} {ps : List MemPlace}, DataW.trod enc P w 0 (fun _ => true) true fuel t cs = some (d, ps) →
    (∀ p ∈ ps, p.block < B) → ∃ x, cs.length = P.cellsOf t ∧ rd w (· < B) cs x ∧ sz x ≤ Rows.uptoBulk d ∧ ((∀ n ∈ d.weights P t, n ≤ reachBytes) → rc x)

theorem Opens.map {P : Program} {t : TypeId} {α β : Type} {ra : Rdr α} {rb : Rdr β} {sa : α → Nat} {ca : α → Prop} {sb : β → Nat} {cb : β → Prop} (o : Opens P t ra sa ca) (f : α → β)
    (hr : ∀ {w ok cs x}, ra w ok cs x → rb w ok cs (f x)) (hs : ∀ x, sb (f x) ≤ sa x) (hc : ∀ x, ca x → cb (f x)) : Opens P t rb sb cb where
  ok h hlt := by
    obtain ⟨x, h1, h2, h3, h4⟩ := o.ok h hlt
    exact ⟨f x, h1, hr h2, Nat.le_trans (hs x) h3, fun hw => hc x (h4 hw)⟩

theorem trodAll_below {H : Type} {enc : TypeId × Value → H} {P : Program} {W W' : World} (hl : laidOutB P = true) (hb : Below W.heap.size W W') :
    ∀ (ts : List TypeId) (vs : List Value) (ds : List (DataW H)) (ps : List MemPlace), (∀ t ∈ ts, P.readableRec t = true ∧ t < P.types.size) →
      DataW.TrodAll enc P W 0 (fun _ => true) true ts vs ds ps → (∀ x ∈ ps, x.block < W.heap.size) → DataW.TrodAll enc P W' 0 (fun b => decide (b < W.heap.size)) true ts vs ds ps
  | [], [], [], _, _, h, _ => h
  | t :: ts, v :: vs, d :: ds, ps, hr, ⟨p, q, h1, h2, he⟩, hlt => by
    subst he
    exact ⟨p, q, Below.trod hl (hr t (by simp)).1 (hr t (by simp)).2 h1 hb (fun x hx => hlt x (by simp [hx])),
      trodAll_below hl hb ts vs ds q (fun t' ht' => hr t' (by simp [ht'])) h2 (fun x hx => hlt x (by simp [hx])), rfl⟩
  | [], [], _ :: _, _, _, h, _ => by cases h
  | [], _ :: _, _, _, _, h, _ => by cases h
  | _ :: _, [], _, _, _, h, _ => by cases h
  | _ :: _, _ :: _, [], _, _, h, _ => by cases h

theorem law_post {P : Program} {f : Func} {s : ChangeSpec} {H : Type} {enc : TypeId × Value → H} {W W' : World} {args : Array Value} {ds gs : List (DataW H)} {before : List MemPlace} {tb : TypeId}
    (hl : laidOutB P = true) (hr : ∀ t ∈ f.params.toList, P.readableRec t = true ∧ t < P.types.size) (hv : s.vars = [])
    (hres : f.resultTypes = #[tb]) (htb : P.underlying tb = some .bool)
    (hfn : (s.fn H (ds ++ gs)).results = [.lit (.bool true)] ∧ (s.fn H (ds ++ gs)).args = ds ∧ (s.fn H (ds ++ gs)).vars = [])
    (hW : DataW.Whole enc P f.params.toList s.vars false W args.toList ds gs before) (hb : Below W.heap.size W W') :
    s.post enc P f false true false false W args (.bool true) W' := by
  have hW' := hW
  obtain ⟨p, q, hA, hV, rfl, _, _⟩ := hW
  rw [hv] at hV
  obtain ⟨rfl, rfl⟩ := trodVars_none hV
  have hlt : ∀ x ∈ p, x.block < W.heap.size := fun x hx => hW'.lt x (by simp [hx])
  obtain ⟨e1, e2, e3⟩ := hfn
  refine ⟨ds, [], p ++ [], [], p, [], hW', ?_, ?_, ?_, hb.frame _, fun h => by cases h⟩
  · rw [hres, e1]
    exact trodAll_mk1 (shut_bool htb _)
  · rw [e2]
    exact trodAll_below hl hb _ _ _ _ hr hA hlt
  · rw [e3, hv]
    rfl
theorem quiet_add_left {P : Program} {f : FuncId} {args : Array Value} {w : World} {a n : Nat} {v : Value}
    (h : Calls P f args (w.drewN (a + n)) fun e w' => e = .returned v ∧ w.drewN (a + n) = w') :
    Calls P f args (w.drewN (a + n)) fun e w'' => e = .returned v ∧ ∃ m, w'' = w.drewN (a + m) :=
  h.mono fun _ _ ⟨he, hm⟩ => ⟨he, n, hm.symm⟩
theorem quiet_left {P : Program} {f : FuncId} {args : Array Value} {w : World} {n : Nat} {v : Value}
    (h : Calls P f args (w.drewN n) fun e w' => e = .returned v ∧ w.drewN n = w') : Calls P f args (w.drewN n) fun e w'' => e = .returned v ∧ ∃ m, w'' = w.drewN m :=
  h.mono fun _ _ ⟨he, hm⟩ => ⟨he, n, hm.symm⟩
theorem bulk_str {H : Type} (s : ByteArray) : Rows.uptoBulk (DataW.lit (H := H) (.string s.data.toList)) = s.size + 1 := by
  have e : s.data.toList.length = s.size := by rw [Array.length_toList]; rfl
  simp [Rows.uptoBulk, e]
end Go.Proofs.YtgdlkjahlajcpaaGreatDoor
namespace Go.Proofs.YtgdlkjahlajcpaaGreatDoor
open Go.ChangeShapes Go.WideShapes Go.ChangeAt Go.RowKit
def errV (k : Int) : Value := if k = 0 then .nilIface else .iface 35 (.int .i64 k)
theorem errV_ne {k : Int} (h : k ≠ 0) : errV k = .iface 35 (.int .i64 k) := by unfold errV; rw [if_neg h]
abbrev rdNet : Rdr (Int × Int) := RdPair (rdInt .u32) (rdInt .i64)
abbrev rdNets : Rdr (List (Int × Int)) := RdSlice 2 rdNet
end Go.Proofs.YtgdlkjahlajcpaaGreatDoor
namespace Go.Proofs.YtgdlkjahlajcpaaGreatDoor
open Go.ChangeShapes Go.WideShapes Go.ChangeAt Go.RowKit
set_option linter.unusedVariables false

def Grow (w : World) (v : Value) (w' : World) (v' : Value) : Prop :=
  w.grownBy w' v.ownBlock ∧ (v'.ownBlock = v.ownBlock ∨ ∃ g, v'.ownBlock = some g ∧ w.heap.size ≤ g)
theorem Grow.refl (w : World) (v : Value) : Grow w v w v := ⟨World.grownBy.refl _ _, .inl rfl⟩
theorem Grow.trans {a b c : World} {v v' v'' : Value} (h : Grow a v b v') (k : Grow b v' c v'') : Grow a v c v'' := by
  obtain ⟨h1, h2⟩ := h
  obtain ⟨k1, k2⟩ := k
  refine ⟨⟨by rw [k1.os, h1.os], by rw [k1.tape, h1.tape], by rw [k1.output, h1.output], Nat.le_trans h1.size k1.size, fun i hi hne => ?_⟩, ?_⟩
  · rw [k1.block i (Nat.lt_of_lt_of_le hi h1.size) ?_, h1.block i hi hne]
    rcases h2 with h2 | ⟨g, h2, hg⟩
    · rw [h2]; exact hne
    · rw [h2]; intro e; injection e with e; omega
  · rcases k2 with k2 | ⟨g, k2, hg⟩
    · rw [k2]; exact h2
    · exact .inr ⟨g, k2, Nat.le_trans h1.size hg⟩
theorem Grow.below {B : Nat} {a w w' : World} {v v' : Value} {base : Nat} {e : TypeId} {size n : Nat} {xs : List Value} (h : Grow w v w' v') (hb : Below B a w) (hown : w.ownsRow base e size v n xs) (hB : B ≤ base) (hbw : B ≤ w.heap.size) : Below B a w' := below_grown hb hown h.1 hB hbw
theorem Grow.cell {w w' : World} {v v' : Value} (h : Grow w v w' v') {base : Nat} {e : TypeId} {size n : Nat} {xs : List Value} (hown : w.ownsRow base e size v n xs) {p : Addr} {B : Nat} (hlt : p.block < w.heap.size) (hne : ∀ g, v.ownBlock = some g → p.block ≠ g) : w'.cell? p = w.cell? p :=
  World.cell?_of_block (h.1.block p.block hlt (fun e => hne _ e.symm rfl))
theorem Grow.size {w w' : World} {v v' : Value} (h : Grow w v w' v') : w.heap.size ≤ w'.heap.size := h.1.size

end Go.Proofs.YtgdlkjahlajcpaaGreatDoor
namespace Go.Proofs.YtgdlkjahlajcpaaGreatDoor
open Go.ChangeShapes Go.WideShapes Go.ChangeAt Go.RowKit
theorem size_of_block {w : World} {g : Nat} {o : Obj} (h : w.heap[g]? = some o) : g < w.heap.size := by
  rcases Nat.lt_or_ge g w.heap.size with h' | h'
  · exact h'
  · rw [Array.getElem?_eq_none h'] at h; cases h
theorem row2 {w : World} {R : Nat} {v0 v1 : Value} {t : TypeId} (h : w.heap[R]? = some (.cells #[v0, v1] t (0, 0))) :
    w.cell? ⟨R, 0, none⟩ = some v0 ∧ w.cell? ⟨R, 1, none⟩ = some v1 ∧ w.frozen? ⟨R, 0, none⟩ = false ∧ w.frozen? ⟨R, 1, none⟩ = false := by
  refine ⟨?_, ?_, frozen_of_row _ R _ _ _ h, frozen_of_row _ R _ _ _ h⟩ <;> rw [cell_of_row _ R _ _ _ (0, 0) h] <;> rfl
theorem set2_block {w : World} {R : Nat} {c0 c1 : Value} (v0 v1 : Value) {t : TypeId} (h : w.heap[R]? = some (.cells #[c0, c1] t (0, 0))) :
    ((w.setCell ⟨R, 0, none⟩ v0).setCell ⟨R, 1, none⟩ v1).heap[R]? = some (.cells #[v0, v1] t (0, 0)) :=
  heap_setCell_same _ R 1 _ _ v1 (heap_setCell_same w R 0 _ _ v0 h)
theorem below_block {B : Nat} {w w' : World} {g : Nat} {o : Obj} (hb : Below B w w') (hg : g < B) (h : w.heap[g]? = some o) : w'.heap[g]? = some o := (hb.block _ hg).trans h
theorem box2 {w w' : World} {o1 o2 : Obj} (hb : Below ((w.alloc o1).alloc o2).heap.size ((w.alloc o1).alloc o2) w') : w'.heap[w.heap.size]? = some o1 ∧ w'.heap[w.heap.size + 1]? = some o2 := by
  have h2 := heap_alloc_new (w.alloc o1) o2
  rw [World.size_alloc] at h2
  exact ⟨below_block hb (by simp; omega) ((((Below.refl (w.heap.size + 1) (w.alloc o1)).alloc (by simp) o2).block w.heap.size (by omega)).trans (heap_alloc_new w o1)), below_block hb (by simp) h2⟩
theorem box3 {w w' : World} {o1 o2 o3 : Obj} (hb : Below (((w.alloc o1).alloc o2).alloc o3).heap.size (((w.alloc o1).alloc o2).alloc o3) w') : w'.heap[w.heap.size]? = some o1 ∧ w'.heap[w.heap.size + 1]? = some o2 ∧ w'.heap[w.heap.size + 2]? = some o3 := by
  have hb2 : Below ((w.alloc o1).alloc o2).heap.size ((w.alloc o1).alloc o2) w' := ((Below.refl _ _).alloc (Nat.le_refl _) o3).trans (hb.mono (by simp))
  have h3 := heap_alloc_new ((w.alloc o1).alloc o2) o3
  rw [World.size_alloc, World.size_alloc] at h3
  exact ⟨(box2 hb2).1, (box2 hb2).2, below_block hb (by simp) h3⟩
theorem own_below {w w' : World} {base : Nat} {e : TypeId} {size : Nat} {v : Value} {n : Nat} {xs : List Value} (h : w.ownsRow base e size v n xs) (hb : Below w.heap.size w w') : w'.ownsRow base e size v n xs :=
  h.kept (row := none) ⟨hb.os, hb.tape, hb.output, hb.size, fun k hk _ => hb.block k hk⟩ (by cases v.ownBlock with
    | none => exact .inl rfl
    | some g => exact .inr (by simp))
theorem own_pos {w : World} {base : Nat} {e : TypeId} {size : Nat} {v : Value} {n : Nat} {xs : List Value} (h : w.ownsRow base e size v n xs) (hn : 0 < n) :
    ∃ g cap, v = .slice (some ⟨g, 0, none⟩) n cap ∧ base ≤ g ∧ g < w.heap.size ∧ n ≤ cap ∧ ∀ j u, xs[j]? = some u → w.cell? ⟨g, 0 + j, none⟩ = some u := by
  have h' := h
  rcases h'.2 with ⟨_, e2⟩ | ⟨g, cap, cur, e1, hg, hb, hc, _, _, _⟩
  · omega
  · subst e1
    refine ⟨g, cap, rfl, hg, size_of_block hb, hc, fun j u hu => ?_⟩
    have := h.cells (g := g) rfl j u hu
    rwa [addr_add] at this
end Go.Proofs.YtgdlkjahlajcpaaGreatDoor
namespace Go.Proofs.YtgdlkjahlajcpaaGreatDoor
open Go.ChangeShapes Go.WideShapes Go.ChangeAt Go.RowKit
set_option linter.unusedVariables false
set_option linter.unusedSimpArgs false

structure HStr (w : World) : Prop where
  tab : Lib.TabIs Tryz.prog w "internal/strconv.uint64pow10" .u64 Lib.pow10Tab
  mx : ∃ m, w.cell? ⟨0, 0, none⟩ = some (.int .i64 m)
  syn : ∃ t p, w.var? Tryz.prog "strconv.ErrSyntax" = some #[.iface t p]
  rng : ∃ t p, w.var? Tryz.prog "strconv.ErrRange" = some #[.iface t p]
theorem block_of_cell {w : World} {p : Addr} {v : Value} (h : w.cell? p = some v) : p.block < w.heap.size := by
  rcases Nat.lt_or_ge p.block w.heap.size with h' | h'
  · exact h'
  · simp [World.cell?, Array.getElem?_eq_none h'] at h
theorem HStr.below {B : Nat} {w w' : World} (h : HStr w) (hb : Below B w w') (hB : w.heap.size ≤ B) : HStr w' := by
  obtain ⟨m, hm⟩ := h.mx
  obtain ⟨t, p, hs⟩ := h.syn
  obtain ⟨t', p', hr⟩ := h.rng
  exact ⟨Joins.tab_stays (by kernel_rfl : Tryz.prog.globalNamed "internal/strconv.uint64pow10" = some 5) h.tab hb hB, ⟨m, (hb.cell (Nat.lt_of_lt_of_le (block_of_cell hm) hB)).trans hm⟩,
    ⟨t, p, Joins.var_stays (by kernel_rfl : Tryz.prog.globalNamed "strconv.ErrSyntax" = some 3) hs hb hB⟩, ⟨t', p', Joins.var_stays (by kernel_rfl : Tryz.prog.globalNamed "strconv.ErrRange" = some 4) hr hb hB⟩⟩
theorem HStr.on {w w' : World} (h : HStr w) (hb : Below w.heap.size w w') : HStr w' := h.below hb (Nat.le_refl _)
theorem HStr.alloc {w : World} (h : HStr w) (o : Obj) : HStr (w.alloc o) := h.on ((Below.refl _ _).alloc (Nat.le_refl _) o)
theorem HStr.drewN {w : World} (h : HStr w) (k : Nat) : HStr (w.drewN k) := h.on (below_drewN (Below.refl _ _) k)

abbrev strV (l : List UInt8) : Value := .string ⟨l.toArray⟩
theorem str_info : (Tryz.prog.info? 9).map (fun i => (i.zero, i.size, i.bytes)) = some (some (.string .empty), 1, 16) := by kernel_rfl
theorem size_data (s : ByteArray) : s.data.toList.length = s.size := by rw [Array.length_toList]; rfl
theorem Itoa_n (n : Nat) (w : World) (h : HStr w) (hn : n ≤ 9223372036854775807) :
    Calls Tryz.prog 51 #[.int .i64 n] w fun e w' => e = .returned (strV (dd n)) ∧ Below w.heap.size w w' :=
  (Tryz.strconv_Itoa n (by omega) (by omega) w h.tab).mono fun e w' ⟨he, k, os, hw⟩ => ⟨by rw [he, itoa_dd], by rw [hw]; exact Lib.below_grow _ w (Nat.le_refl _) k os⟩
theorem Atoi_ok (s : ByteArray) (v : Int) (w : World) (hs : s.size ≤ 1099511627776) (h : Lib.atoiAll s.data.toList = .ok v) :
    Calls Tryz.prog 76 #[.string s] w fun e w' => e = .returned (.tuple #[.int .i64 v, .nilIface]) ∧ Below w.heap.size w w' :=
  (Tryz.strconv_Atoi_ok s (by omega) v h w).mono fun e w' ⟨he, hw⟩ => ⟨he, by rcases hw with rfl | ⟨t, rfl⟩; exact Below.refl _ _; exact Lib.bytesWorld_below w _ t⟩
theorem Atoi_bad (s : ByteArray) (w : World) (hw : HStr w) (hs : s.size ≤ 1099511627776) (h : ∀ v, Lib.atoiAll s.data.toList ≠ .ok v) :
    Calls Tryz.prog 76 #[.string s] w fun e w' => ∃ v t p, e = .returned (.tuple #[.int .i64 v, .iface t p]) ∧ Below w.heap.size w w' := by
  obtain ⟨t, p, h1⟩ := hw.syn
  obtain ⟨t', p', h2⟩ := hw.rng
  have key : ∀ r : Lib.NumEnd Int, Lib.atoiAll s.data.toList = r → Calls Tryz.prog 76 #[.string s] w fun e w' => ∃ v t p, e = .returned (.tuple #[.int .i64 v, .iface t p]) ∧ Below w.heap.size w w' := by
    intro r e
    cases r
    · exact absurd e (h _)
    · exact (Any.strconv_Atoi_syntax_var Tryz.laysC172 s (by omega) e t p w h1).mono fun e w' ⟨N, he, _, _, hb⟩ => ⟨_, _, _, he, hb⟩
    · exact (Any.strconv_Atoi_range_var Tryz.laysC172 s (by omega) e t' p' w h2).mono fun e w' ⟨N, he, _, _, hb⟩ => ⟨_, _, _, he, hb⟩
  exact key _ rfl
theorem Split_c (c : UInt8) (s : ByteArray) (w : World) (h : HStr w) (hs : s.size ≤ 2097152) :
    Calls Tryz.prog 9 #[.string s, .string ⟨#[c]⟩] w fun e w' => ∃ L : List ByteArray, L.map (·.data.toList) = segs c s.data.toList ∧ e = .returned (.slice (some ⟨w.heap.size, 0, none⟩) L.length L.length) ∧ w' = w.alloc (.cells (L.map Value.string).toArray 9) := by
  obtain ⟨m, hm⟩ := h.mx
  refine (Tryz.strings_Split s ⟨#[c]⟩ m w (by omega) hm (Nat.le_refl 1)).mono fun e w' ⟨he, hw⟩ => ⟨_, splitB_segs c s, ?_, hw⟩
  have h1 : 1 ≤ (⟨#[c]⟩ : ByteArray).size := Nat.le_refl 1
  have h2 := Lib.splitB_all ⟨#[c]⟩ h1 0 _ s rfl
  rw [he, h2]
theorem Cut_c (c : UInt8) (s : ByteArray) (w : World) (h : HStr w) (hs : s.size ≤ 2097152) :
    Calls Tryz.prog 101 #[.string s, .string ⟨#[c]⟩] w fun e w' => e = .returned (.tuple #[strV (Lib.cut s.data.toList [c]).1, strV (Lib.cut s.data.toList [c]).2.1, .bool (Lib.cut s.data.toList [c]).2.2]) ∧ Below w.heap.size w w' := by
  obtain ⟨m, hm⟩ := h.mx
  exact (Tryz.strings_Cut s ⟨#[c]⟩ m w (by omega) hm).mono fun e w' ⟨he, n, hw⟩ => ⟨he, by rw [hw]; exact below_drewN (Below.refl _ _) n⟩

/-! ### addr.Text -/
def quads (a : Nat) : List Nat := [a / 16777216, a / 65536 % 256, a / 256 % 256, a % 256]
def quadV (a k : Nat) : List Value := ((quads a).take k).map fun n => strV (dd n)
theorem and_255 (n : Nat) (h : n < 4294967296) : bits .and .u32 (n : Int) 255 = ((n % 256 : Nat) : Int) := by
  have := u32_and_nat n 255 (by omega) (by omega)
  rw [show ((255 : Nat) : Int) = 255 from rfl] at this
  rw [this, show (255 : Nat) = 2 ^ 8 - 1 from by decide, Nat.and_two_pow_sub_one_eq_mod]
theorem quad_at (a : Nat) (ha : a < 4294967296) : ∀ k : Nat, k < 4 → ∃ n : Nat, n < 256 ∧ (quads a)[k]? = some n ∧ bits .and .u32 ((a : Int) / 2 ^ (24 - 8 * k)) 255 = (n : Int) := by
  intro k hk
  have e : ∀ m : Nat, ((a : Int) / 2 ^ m) = ((a / 2 ^ m : Nat) : Int) := fun m => by simp
  rw [e, and_255 _ (Nat.lt_of_le_of_lt (Nat.div_le_self _ _) ha)]
  match k, hk with
  | 0, _ => exact ⟨_, Nat.mod_lt _ (by omega), by simp [quads]; omega, rfl⟩
  | 1, _ => exact ⟨_, Nat.mod_lt _ (by omega), by simp [quads], rfl⟩
  | 2, _ => exact ⟨_, Nat.mod_lt _ (by omega), by simp [quads], rfl⟩
  | 3, _ => exact ⟨_, Nat.mod_lt _ (by omega), by simp [quads], rfl⟩
theorem quadV_succ {a k n : Nat} (h : (quads a)[k]? = some n) : quadV a (k + 1) = quadV a k ++ [strV (dd n)] := by
  unfold quadV
  rw [List.take_add_one, h, List.map_append]; rfl
theorem quad_join (a : Nat) : Lib.join ((quads a).map fun n => dd n) [46] = addrT a := join_addr a

set_option maxRecDepth 100000 in
set_option maxHeartbeats 1000000 in
theorem Text_any (a : Nat) (w : World) (hw : HStr w) (ha : a < 4294967296) :
    Calls Tryz.prog 84 #[.int .u32 a] w fun e w' => e = .returned (strV (addrT a)) ∧ Below w.heap.size w w' := by
  have HQ := Lib.hid (quad_at a ha)
  have HW := Lib.hid hw
  obtain ⟨i0, hi, hz0, hz1, hz2⟩ := info_parts str_info
  have a0 : (0 : Int) ≤ (a : Int) := by omega
  have a1 : (a : Int) ≤ 4294967295 := by omega
  clear hw
  go_enter Tryz.func84, Tryz.ntmps84
  go_wp2
  go_loopw [3, 4] (fun v s wr => ∃ k : Nat, k ≤ 4 ∧ s = .int .i64 (24 - 8 * (k : Int)) ∧ wr.ownsRow w.heap.size 9 1 v k (quadV a k) ∧ Below w.heap.size w wr) (fun _ s _ => (intOf s + 8).toNat)
  case atStart => exact ⟨0, by omega, rfl, World.ownsRow_nil _ _ _ _, Below.refl _ _⟩
  case round =>
    obtain ⟨k, hk, rfl, hown, hbel⟩ := hrel
    by_cases hlt : k < 4
    · obtain ⟨n, hn, hq, hb⟩ := HQ.out k hlt
      have hsz := hbel.size
      have HQK := Lib.hid (quadV_succ hq)
      have HB : Hid (wrap64 (bits .and .u32 ((a : Int) / 2 ^ (24 - 8 * k)) 255) = (n : Int)) := Lib.hid (by rw [hb]; exact IntWalk.wrap64_in _ ⟨by omega, by omega⟩)
      have HBEL := Lib.hid hbel
      clear hq hb hbel
      go_wp2_with (first
        | (go_at_call 51; rw [HB.out]; (with_reducible refine (Itoa_n n _ (HW.out.below HBEL.out (Nat.le_refl _)) (by omega)).mono ?_); rintro e w1 ⟨rfl, hb1⟩; have zw1 := hb1.size; have hown1 := own_below hown hb1; have HB1 := Lib.hid (HBEL.out.trans (hb1.mono hsz)); clear hb1)
        | (at_builtin; refine wpList_append_own _ rfl _ _ 23 rfl w.heap.size 9 i0 (.string .empty) 1 16 Tryz.underlying23 hi hz0 hz1 hz2 rfl (by decide) _ _ _ rfl (hown1.alloc _) ⟨w1.heap.size, 0, none⟩ 1 1 [strV (dd n)] rfl rfl ?c1 ?c2 ?c3 ?c4 ?c5 ?_)
        | fail)
      case c1 => intro j u hu; match j, hu with
        | 0, hu => simp only [List.getElem?_cons_zero, Option.some.injEq] at hu; subst hu; rw [addr_add]; simp
      case c2 => intro u hu; simp only [List.mem_cons, List.not_mem_nil, or_false] at hu; subst hu; rfl
      case c3 => unfold maxLen; omega
      case c4 => omega
      case c5 => simp; omega
      intro v' w2 hown2 hgrow _
      have hb2 : Below w.heap.size w w2 := below_grown (HB1.out.alloc (by omega) _) (hown1.alloc _) hgrow (Nat.le_refl _) (by simp; omega)
      rw [← HQK.out] at hown2
      have HB2 := Lib.hid hb2
      clear hb2 hown hgrow
      go_wp2
      exact ⟨⟨k + 1, by omega, by go_num, hown2, HB2.out⟩, by simp [intOf]; omega⟩
    · have : k = 4 := by omega
      subst this
      obtain ⟨g, cap, rfl, hg, hgs, hnc, hcells⟩ := own_pos hown (by omega)
      have HC : Hid (∀ (j : Nat) x, ((quads a).map fun n => (⟨(dd n).toArray⟩ : ByteArray))[j]? = some x → wr.cell? ⟨g, 0 + j, none⟩ = some (.string x)) := Lib.hid (fun j x hx => hcells j _ (by
        have e : quadV a 4 = ((quads a).map fun n => (⟨(dd n).toArray⟩ : ByteArray)).map Value.string := by unfold quadV quads; simp
        rw [e, List.getElem?_map, hx]; rfl))
      have HJ : Hid (Lib.join (((quads a).map fun n => (⟨(dd n).toArray⟩ : ByteArray)).map (·.data.toList)) [46] = addrT a) := Lib.hid (by rw [← quad_join]; simp [List.map_map, Function.comp_def])
      have hlen := addrT_length a ha
      have HL : Hid ((Lib.join (((quads a).map fun n => (⟨(dd n).toArray⟩ : ByteArray)).map (·.data.toList)) [46]).length ≤ 140737488355328) := Lib.hid (by rw [HJ.out]; omega)
      have HJC : Hid (Calls Tryz.prog 85 #[.slice (some ⟨g, 0, none⟩) 4 cap, .string ⟨#[46]⟩] wr fun e w' => e = .returned (strV (addrT a)) ∧ Below wr.heap.size wr w') := Lib.hid
        ((Tryz.strings_Join g 0 cap ((quads a).map fun n => (⟨(dd n).toArray⟩ : ByteArray)) ⟨#[46]⟩ wr HC.out hgs (by simp [quads]) (by simpa [quads] using hnc) HL.out).mono fun e w' ⟨he, hb⟩ => ⟨by rw [he, HJ.out], hb⟩)
      have HBEL := Lib.hid hbel
      have hsz := hbel.size
      clear hcells hlen hown hbel
      go_wp2_with (first
        | (go_at_call 85; refine HJC.out.mono ?_; rintro e w3 ⟨rfl, hb3⟩; have HB3 := Lib.hid (HBEL.out.trans (hb3.mono hsz)); clear hb3)
        | fail)
      go_ret
      exact ⟨rfl, HB3.out⟩
end Go.Proofs.YtgdlkjahlajcpaaGreatDoor
namespace Go.Proofs.YtgdlkjahlajcpaaGreatDoor
open Go.ChangeShapes Go.WideShapes Go.RowKit
theorem E.star : "*" ++ "errors.errorString" = "*errors.errorString" := by decide
theorem E.rowES (u : TypeId) (h : Tryz.prog.typeName? 3 u = some "*errors.errorString") : u = 193 :=
  typeName_ptr_named (nm := "errors.errorString") (by rw [E.star]; kernel_rfl) (by kernel_rfl) (by decide) u (by rw [E.star]; exact h)
theorem E.cellsES : Tryz.prog.cellsOf 195 = 1 := by kernel_rfl
theorem E.cellsStr : Tryz.prog.cellsOf 9 = 1 := by kernel_rfl
theorem sentinel_of {n : String} {text : List UInt8} {W : World} {g : Nat} (hg : Tryz.prog.globalNamed n = some g) (ht : (Tryz.prog.globals[g]?).map (·.type) = some 94)
    (h : laidMet Tryz.prog [(n, .iface "*errors.errorString" (.ptr (.agg [.lit (.string text)])))] W) : ∃ t p, W.var? Tryz.prog n = some #[.iface t p] := by
  obtain ⟨a, s, hv, _⟩ := laid_sentinel h hg ht Tryz.underlying94 E.rowES Tryz.underlying193 Tryz.underlying195 rfl rfl Tryz.underlying9 E.cellsES E.cellsStr
  exact ⟨_, _, hv⟩
theorem hstr_of_laid {W : World} {l : List (String × DataW Unit)} {t1 t2 : List UInt8} (h : laidMetH Tryz.prog l W) (hS : W.ShapedOpen Tryz.prog) (hp : (l.all fun x => x.2.handleName?.isNone) = true)
    (h1 : (l.filter fun x => x.1 == "internal/strconv.uint64pow10") = [("internal/strconv.uint64pow10", Lib.tabData .u64 Lib.pow10Tab)])
    (h2 : (l.filter fun x => x.1 == "strconv.ErrSyntax") = [("strconv.ErrSyntax", .iface "*errors.errorString" (.ptr (.agg [.lit (.string t1)])))])
    (h3 : (l.filter fun x => x.1 == "strconv.ErrRange") = [("strconv.ErrRange", .iface "*errors.errorString" (.ptr (.agg [.lit (.string t2)])))]) : HStr W := by
  rw [MakeChecks.laidMetH_plain _ _ _ hp] at h
  have f1 := h.filter (fun x => x.1 == "internal/strconv.uint64pow10")
  have f2 := h.filter (fun x => x.1 == "strconv.ErrSyntax")
  have f3 := h.filter (fun x => x.1 == "strconv.ErrRange")
  rw [h1] at f1
  rw [h2] at f2
  rw [h3] at f3
  exact ⟨Lib.tabIs_of_head (by kernel_rfl : Tryz.prog.globalNamed "internal/strconv.uint64pow10" = some 5) (by kernel_rfl) Tryz.underlying178 Tryz.underlying137 (by kernel_rfl) (by kernel_rfl) f1,
    Tryz.laysM145.s1_3 W hS,
    sentinel_of (by kernel_rfl : Tryz.prog.globalNamed "strconv.ErrSyntax" = some 3) (by kernel_rfl) f2,
    sentinel_of (by kernel_rfl : Tryz.prog.globalNamed "strconv.ErrRange" = some 4) (by kernel_rfl) f3⟩
end Go.Proofs.YtgdlkjahlajcpaaGreatDoor
namespace Go.Proofs.YtgdlkjahlajcpaaGreatDoor
open Go.ChangeShapes Go.WideShapes Go.ChangeAt Go.RowKit
set_option linter.unusedVariables false

def blen (n : Nat) : Nat := if n = 0 then 0 else n.log2 + 1
theorem blen_lt {n k : Nat} : blen n ≤ k ↔ n < 2 ^ k := by
  unfold blen
  split
  · rename_i h; subst h; simp; exact Nat.pow_pos (by omega)
  · rename_i h
    rw [Nat.add_one_le_iff, Nat.log2_lt h]
theorem blen_eq {n k : Nat} (h1 : n < 2 ^ k) (h2 : k = 0 ∨ 2 ^ (k - 1) ≤ n) : blen n = k := by
  have a := blen_lt.2 h1
  rcases h2 with rfl | h2
  · omega
  · rcases Nat.lt_or_ge (blen n) k with h | h
    · have := (blen_lt (n := n) (k := k - 1)).1 (by omega)
      omega
    · omega
theorem blen_spec (n : Nat) : n < 2 ^ blen n ∧ (blen n = 0 ∨ 2 ^ (blen n - 1) ≤ n) := by
  refine ⟨blen_lt.1 (Nat.le_refl _), ?_⟩
  rcases Nat.eq_zero_or_pos (blen n) with h | h
  · exact .inl h
  · refine .inr ?_
    rcases Nat.lt_or_ge n (2 ^ (blen n - 1)) with h' | h'
    · have := blen_lt.2 h'; omega
    · exact h'
theorem blen_div (n s : Nat) (h : 2 ^ s ≤ n) : blen n = blen (n / 2 ^ s) + s := by
  obtain ⟨a, b⟩ := blen_spec (n / 2 ^ s)
  have hp : 0 < 2 ^ s := Nat.pow_pos (by omega)
  have hd : 0 < n / 2 ^ s := Nat.div_pos h hp
  have h0 : blen (n / 2 ^ s) ≠ 0 := fun e => by rw [e] at a; omega
  refine blen_eq ?_ (.inr ?_)
  · rw [Nat.pow_add]; exact Nat.lt_mul_of_div_lt a hp
  · have hb := b.resolve_left h0
    have e : blen (n / 2 ^ s) + s - 1 = (blen (n / 2 ^ s) - 1) + s := by omega
    rw [e, Nat.pow_add]
    exact (Nat.le_div_iff_mul_le hp).1 hb

theorem len8_blen : ∀ n : Fin 256, Lib.len8 (n.val : Int) = (blen n.val : Int) := by decide +kernel
theorem blen_le8 (n : Nat) (h : n ≤ 255) : blen n ≤ 8 := blen_lt.2 (by omega)
theorem len8_at (n : Nat) (h : n ≤ 255) : Lib.len8 (n : Int) = (blen n : Int) := len8_blen ⟨n, by omega⟩

set_option maxHeartbeats 1000000 in
set_option maxRecDepth 100000 in
theorem Len32_A (x v : Int) (w : World) (x0 : 0 ≤ x) (x1 : x ≤ 4294967295) (x2 : (65536 : Int) ≤ x) (x3 : (256 : Int) ≤ x / 65536) (y0 : 0 ≤ x / 65536 / 256) (y1 : x / 65536 / 256 ≤ 255) (l0 : 0 ≤ Lib.len8 (x / 65536 / 256)) (l1 : Lib.len8 (x / 65536 / 256) ≤ 8) (hv : 24 + Lib.len8 (x / 65536 / 256) = v) :
    Calls Tryz.prog 114 #[.int .u32 x] w fun e w' => e = .returned (.int .i64 v) ∧ w = w' := by
  go_enter Tryz.func114, Tryz.ntmps114
  go_wp2
  go_ret
  exact ⟨rfl, rfl⟩
set_option maxHeartbeats 1000000 in
set_option maxRecDepth 100000 in
theorem Len32_B (x v : Int) (w : World) (x0 : 0 ≤ x) (x1 : x ≤ 4294967295) (x2 : (65536 : Int) ≤ x) (x3 : x / 65536 < 256) (y0 : 0 ≤ x / 65536) (y1 : x / 65536 ≤ 255) (l0 : 0 ≤ Lib.len8 (x / 65536)) (l1 : Lib.len8 (x / 65536) ≤ 8) (hv : 16 + Lib.len8 (x / 65536) = v) :
    Calls Tryz.prog 114 #[.int .u32 x] w fun e w' => e = .returned (.int .i64 v) ∧ w = w' := by
  go_enter Tryz.func114, Tryz.ntmps114
  go_wp2
  go_ret
  exact ⟨rfl, rfl⟩
set_option maxHeartbeats 1000000 in
set_option maxRecDepth 100000 in
theorem Len32_C (x v : Int) (w : World) (x0 : 0 ≤ x) (x1 : x ≤ 4294967295) (x2 : x < 65536) (x3 : (256 : Int) ≤ x) (y0 : 0 ≤ x / 256) (y1 : x / 256 ≤ 255) (l0 : 0 ≤ Lib.len8 (x / 256)) (l1 : Lib.len8 (x / 256) ≤ 8) (hv : 8 + Lib.len8 (x / 256) = v) :
    Calls Tryz.prog 114 #[.int .u32 x] w fun e w' => e = .returned (.int .i64 v) ∧ w = w' := by
  go_enter Tryz.func114, Tryz.ntmps114
  go_wp2
  go_ret
  exact ⟨rfl, rfl⟩
set_option maxHeartbeats 1000000 in
set_option maxRecDepth 100000 in
theorem Len32_D (x v : Int) (w : World) (x0 : 0 ≤ x) (x1 : x ≤ 4294967295) (x2 : x < 65536) (x3 : x < 256) (y0 : 0 ≤ x) (y1 : x ≤ 255) (l0 : 0 ≤ Lib.len8 (x)) (l1 : Lib.len8 (x) ≤ 8) (hv : Lib.len8 x = v) :
    Calls Tryz.prog 114 #[.int .u32 x] w fun e w' => e = .returned (.int .i64 v) ∧ w = w' := by
  go_enter Tryz.func114, Tryz.ntmps114
  go_wp2
  go_ret
  exact ⟨rfl, rfl⟩
theorem Len32_any (n : Nat) (w : World) (hn : n < 4294967296) :
    Calls Tryz.prog 114 #[.int .u32 n] w fun e w' => e = .returned (.int .i64 (blen n)) ∧ w = w' := by
  by_cases h1 : 65536 ≤ n
  · have hd := blen_div n 16 h1
    rw [show (2 : Nat) ^ 16 = 65536 from by decide] at hd
    by_cases h2 : 256 ≤ n / 65536
    · have hd2 := blen_div (n / 65536) 8 h2
      rw [show (2 : Nat) ^ 8 = 256 from by decide] at hd2
      have e := len8_at (n / 65536 / 256) (by omega)
      have e2 := blen_le8 (n / 65536 / 256) (by omega)
      have ei : ((n : Int) / 65536 / 256) = ((n / 65536 / 256 : Nat) : Int) := by omega
      exact Len32_A n _ w (by omega) (by omega) (by omega) (by omega) (by omega) (by omega) (by rw [ei, e]; omega) (by rw [ei, e]; omega) (by rw [ei, e]; omega)
    · have e := len8_at (n / 65536) (by omega)
      have e2 := blen_le8 (n / 65536) (by omega)
      have ei : ((n : Int) / 65536) = ((n / 65536 : Nat) : Int) := by omega
      exact Len32_B n _ w (by omega) (by omega) (by omega) (by omega) (by omega) (by omega) (by rw [ei, e]; omega) (by rw [ei, e]; omega) (by rw [ei, e]; omega)
  · by_cases h2 : 256 ≤ n
    · have hd := blen_div n 8 h2
      rw [show (2 : Nat) ^ 8 = 256 from by decide] at hd
      have e := len8_at (n / 256) (by omega)
      have e2 := blen_le8 (n / 256) (by omega)
      have ei : ((n : Int) / 256) = ((n / 256 : Nat) : Int) := by omega
      exact Len32_C n _ w (by omega) (by omega) (by omega) (by omega) (by omega) (by omega) (by rw [ei, e]; omega) (by rw [ei, e]; omega) (by rw [ei, e]; omega)
    · have e := len8_at n (by omega)
      have e2 := blen_le8 n (by omega)
      exact Len32_D n _ w (by omega) (by omega) (by omega) (by omega) (by omega) (by omega) (by rw [e]; omega) (by rw [e]; omega) (by rw [e])

set_option maxHeartbeats 400000 in
theorem LeadingZeros32_any (n : Nat) (w : World) (hn : n < 4294967296) :
    Calls Tryz.prog 94 #[.int .u32 n] w fun e w' => e = .returned (.int .i64 (32 - blen n)) ∧ w = w' := by
  have hl : blen n ≤ 32 := blen_lt.2 hn
  have HN := Lib.hid hn; clear hn
  go_enter Tryz.func94, Tryz.ntmps94
  go_wp2_with (go_at_call 114; refine (Len32_any _ _ HN.out).mono ?_; rintro e w' ⟨rfl, rfl⟩)
  go_ret
  exact ⟨rfl, rfl⟩

def maskV (n : Nat) : Int := 4294967296 - 2 ^ (32 - n)
theorem maskV_rng_fin : ∀ n : Fin 33, 0 ≤ maskV n.val ∧ maskV n.val ≤ 4294967295 := by decide
theorem maskV_rng (n : Nat) : 0 ≤ maskV n ∧ maskV n ≤ 4294967295 := by
  rcases Nat.lt_or_ge n 33 with h | h
  · exact maskV_rng_fin ⟨n, h⟩
  · have e : maskV n = maskV 32 := by unfold maskV; rw [show 32 - n = 32 - 32 from by omega]
    rw [e]; exact maskV_rng_fin ⟨32, by omega⟩

set_option maxHeartbeats 400000 in
theorem Mask_out (n : Int) (w : World) (h : n < 0 ∨ 32 < n) :
    Calls Tryz.prog 104 #[.int .i64 n] w fun e w' => e = .returned (.tuple #[.int .u32 0, .iface 35 (.int .i64 1)]) ∧ w = w' := by
  rcases h with h | h
  · go_enter Tryz.func104, Tryz.ntmps104
    go_wp2
    go_ret2
    exact ⟨rfl, rfl⟩
  · have h0 : ¬ n < 0 := by omega
    go_enter Tryz.func104, Tryz.ntmps104
    go_wp2
    go_ret2
    exact ⟨rfl, rfl⟩
theorem maskV_fin : ∀ n : Fin 33, (4294967295 : Int) * 2 ^ (32 - n.val) % 4294967296 = maskV n.val := by decide
theorem maskV_eq (n : Nat) (h : n ≤ 32) : (4294967295 : Int) * 2 ^ (32 - n) % 4294967296 = maskV n := maskV_fin ⟨n, by omega⟩
set_option maxHeartbeats 400000 in
theorem Mask_in (n : Nat) (w : World) (h : n ≤ 32) :
    Calls Tryz.prog 104 #[.int .i64 n] w fun e w' => e = .returned (.tuple #[.int .u32 (maskV n), .nilIface]) ∧ w = w' := by
  have he := Lib.hid (maskV_eq n h)
  go_enter Tryz.func104, Tryz.ntmps104
  go_wp2
  go_ret2
  exact ⟨congrArg (fun x => Ending.returned (.tuple #[.int .u32 x, .nilIface])) he.out, rfl⟩

end Go.Proofs.YtgdlkjahlajcpaaGreatDoor
namespace Go.Proofs.YtgdlkjahlajcpaaGreatDoor
open Go.ChangeShapes Go.WideShapes Go.ChangeAt Go.RowKit
set_option linter.unusedVariables false

theorem and_low (a k : Nat) : a &&& (2 ^ k - 1) = a % 2 ^ k := Nat.and_two_pow_sub_one_eq_mod a k
theorem and_high (a k : Nat) (hk : k ≤ 32) (ha : a < 4294967296) : a &&& (4294967296 - 2 ^ k) = a - a % 2 ^ k := by
  have e1 : 4294967296 - 2 ^ k = (2 ^ (32 - k) - 1) <<< k := by
    rw [Nat.shiftLeft_eq, Nat.sub_mul, ← Nat.pow_add, show 32 - k + k = 32 from by omega]; simp
  have e2 : a - a % 2 ^ k = (a >>> k) <<< k := by
    rw [Nat.shiftLeft_eq, Nat.shiftRight_eq_div_pow]
    have := Nat.div_add_mod a (2 ^ k)
    rw [Nat.mul_comm] at this
    omega
  rw [e1, e2]
  apply Nat.eq_of_testBit_eq
  intro i
  rw [Nat.testBit_and, Nat.testBit_shiftLeft, Nat.testBit_shiftLeft, Nat.testBit_two_pow_sub_one, Nat.testBit_shiftRight]
  by_cases h : k ≤ i
  · have e : k + (i - k) = i := by omega
    rw [e]
    by_cases h2 : i < 32
    · have : i - k < 32 - k := by omega
      simp [h, this]
    · have : a.testBit i = false := Nat.testBit_lt_two_pow (Nat.lt_of_lt_of_le ha (show 2 ^ 32 ≤ 2 ^ i from Nat.pow_le_pow_right (by omega) (by omega)))
      simp [this]
  · simp [h]
theorem maskV_nat (n : Nat) : maskV n = ((4294967296 - 2 ^ (32 - n) : Nat) : Int) := by
  have h : 2 ^ (32 - n) ≤ 2 ^ 32 := Nat.pow_le_pow_right (by omega) (by omega)
  unfold maskV
  have e : ((2 ^ (32 - n) : Nat) : Int) = (2 : Int) ^ (32 - n) := by simp
  rw [← e]
  have h2 : (2 : Nat) ^ 32 = 4294967296 := by decide
  omega
def lowI (n : Nat) : Int := 2 ^ (32 - n)
theorem lowI_nat (n : Nat) : lowI n = ((2 ^ (32 - n) : Nat) : Int) := by unfold lowI; simp
theorem lowI_pos (n : Nat) : 0 < lowI n := by rw [lowI_nat]; have : 0 < 2 ^ (32 - n) := Nat.pow_pos (by omega); omega
theorem and_maskI (a : Int) (n : Nat) (h0 : 0 ≤ a) (h1 : a ≤ 4294967295) : bits .and .u32 a (maskV n) = a - a % lowI n := by
  obtain ⟨x, rfl⟩ := Int.eq_ofNat_of_zero_le h0
  have hp : 0 < 2 ^ (32 - n) := Nat.pow_pos (by omega)
  rw [maskV_nat, lowI_nat]
  rw [u32_and_nat x _ (by omega) (by omega), and_high x _ (by omega) (by omega)]
  have := Nat.mod_le x (2 ^ (32 - n))
  omega
theorem andNot_maskI (a : Int) (n : Nat) (h0 : 0 ≤ a) (h1 : a ≤ 4294967295) : bits .andNot .u32 a (maskV n) = a % lowI n := by
  obtain ⟨x, rfl⟩ := Int.eq_ofNat_of_zero_le h0
  have hp : 0 < 2 ^ (32 - n) := Nat.pow_pos (by omega)
  have hle : 2 ^ (32 - n) ≤ 2 ^ 32 := Nat.pow_le_pow_right (by omega) (by omega)
  rw [maskV_nat, lowI_nat]
  rw [u32_andNot_nat x _ (by omega) (by omega), show 4294967295 - (4294967296 - 2 ^ (32 - n)) = 2 ^ (32 - n) - 1 from by omega, and_low]
  omega

def netF (x : Int × Int) : Int := if x.2 < 0 ∨ 32 < x.2 then 1 else if x.1 % lowI x.2.toNat = 0 then 0 else 3
def netV (x : Int × Int) : Value := .agg #[.int .u32 x.1, .int .i64 x.2]
set_option maxHeartbeats 400000 in
theorem Check_net (a n : Int) (w : World) (h0 : 0 ≤ a) (h1 : a ≤ 4294967295) :
    Calls Tryz.prog 77 #[.agg #[.int .u32 a, .int .i64 n]] w fun e w' => e = .returned (errV (netF (a, n))) ∧ Below w.heap.size w w' := by
  by_cases hin : 0 ≤ n ∧ n ≤ 32
  · obtain ⟨k, rfl⟩ := Int.eq_ofNat_of_zero_le hin.1
    have hk : k ≤ 32 := by omega
    have hb := andNot_maskI a k h0 h1
    have hr := maskV_rng k
    have hF : netF (a, (k : Int)) = if a % lowI k = 0 then 0 else 3 := by unfold netF; rw [if_neg (by simp; omega)]; rfl
    rw [hF]
    by_cases hz : a % lowI k = 0
    · rw [if_pos hz]
      have ht : (bits .andNot .u32 a (maskV k) != 0) = false := by rw [hb, hz]; rfl
      clear hz hb hF hin
      go_enter Tryz.func77, Tryz.ntmps77
      go_wp2_with (go_at_call 104; refine (Mask_in k _ hk).mono ?_; rintro e w' ⟨rfl, rfl⟩)
      go_ret
      exact ⟨rfl, (Below.refl _ _).alloc (Nat.le_refl _) _⟩
    · rw [if_neg hz]
      have ht : (bits .andNot .u32 a (maskV k) != 0) = true := by rw [hb]; simpa [bne] using hz
      clear hz hb hF hin
      go_enter Tryz.func77, Tryz.ntmps77
      go_wp2_with (go_at_call 104; refine (Mask_in k _ hk).mono ?_; rintro e w' ⟨rfl, rfl⟩)
      go_ret
      exact ⟨rfl, (Below.refl _ _).alloc (Nat.le_refl _) _⟩
  · have hF : netF (a, n) = 1 := by unfold netF; rw [if_pos (by simp; omega)]
    have hn : n < 0 ∨ 32 < n := by omega
    rw [hF]
    have HN := Lib.hid hn
    clear hF hin hn
    go_enter Tryz.func77, Tryz.ntmps77
    go_wp2_with (go_at_call 104; refine (Mask_out n _ HN.out).mono ?_; rintro e w' ⟨rfl, rfl⟩)
    go_ret
    exact ⟨rfl, (Below.refl _ _).alloc (Nat.le_refl _) _⟩
end Go.Proofs.YtgdlkjahlajcpaaGreatDoor
namespace Go.Proofs.YtgdlkjahlajcpaaGreatDoor
open Go.ChangeShapes Go.WideShapes Go.ChangeAt Go.RowKit
set_option linter.unusedVariables false

def fl (m y : Int) : Int := y - y % m
def hasB (x : Int × Int) (y : Int) : Bool := decide (netF x = 0 ∧ fl (lowI x.2.toNat) y = x.1)
def inB (a b : Int × Int) : Bool := decide (netF a = 0 ∧ b.2 ≤ a.2) && hasB b a.1
def lessB (a b : Int × Int) : Bool := decide (a.1 < b.1 ∨ a.1 = b.1 ∧ a.2 < b.2)
def trimN (x : Int × Int) (k : Nat) : Int × Int := (fl (lowI k) x.1, (k : Int))
def lzN (a b : Int) : Nat := 32 - blen (a.toNat ^^^ b.toNat)
def comL (a b : Int × Int) : Nat := min (min a.2.toNat b.2.toNat) (lzN a.1 b.1)
def comN (a b : Int × Int) : Int × Int := trimN a (comL a b)
def is32 (y : Int) : Prop := 0 ≤ y ∧ y ≤ 4294967295

theorem fl_mul (m y : Int) (hm : 0 < m) : fl m y = m * (y / m) := by
  have := Int.mul_ediv_add_emod y m
  unfold fl; omega
theorem fl_fl (m q y : Int) (hm : 0 < m) (hq : 0 < q) : fl (m * q) (fl m y) = fl (m * q) y := by
  have hp : 0 < m * q := Int.mul_pos hm hq
  rw [fl_mul _ _ hp, fl_mul _ y hp, fl_mul _ y hm]
  rw [Int.mul_ediv_mul_of_pos _ _ hm, ← Int.ediv_ediv_of_nonneg (Int.le_of_lt hm)]
theorem low_split {k l : Nat} (hk : k ≤ l) (hl : l ≤ 32) : lowI k = lowI l * 2 ^ (l - k) := by
  unfold lowI
  rw [← Int.pow_add]
  congr 1; omega
theorem two_pos (n : Nat) : (0 : Int) < 2 ^ n := Int.pow_pos (by decide)
theorem fl_low {k l : Nat} (hk : k ≤ l) (hl : l ≤ 32) (y : Int) : fl (lowI k) (fl (lowI l) y) = fl (lowI k) y := by
  rw [low_split hk hl]
  exact fl_fl _ _ _ (lowI_pos l) (two_pos _)
theorem fl_le (m y : Int) (hm : 0 < m) : fl m y ≤ y := by
  have := Int.emod_nonneg y (by omega : m ≠ 0); unfold fl; omega
theorem fl_nonneg (m y : Int) (hm : 0 < m) (h : 0 ≤ y) : 0 ≤ fl m y := by
  rw [fl_mul m y hm]
  exact Int.mul_nonneg (by omega) (Int.ediv_nonneg h (by omega))
theorem fl_32 {m y : Int} (hm : 0 < m) (h : is32 y) : is32 (fl m y) := ⟨fl_nonneg m y hm h.1, by have := fl_le m y hm; have := h.2; omega⟩
theorem fl_mod {m y : Int} (h : fl m y = y) : y % m = 0 := by unfold fl at h; omega
theorem fl_of {m y : Int} (h : y % m = 0) : fl m y = y := by unfold fl; omega
theorem fl_idem (m y : Int) (hm : 0 < m) : fl m y % m = 0 := by rw [fl_mul m y hm]; exact Int.mul_emod_right _ _

theorem netF_zero {a l : Int} : netF (a, l) = 0 ↔ 0 ≤ l ∧ l ≤ 32 ∧ fl (lowI l.toNat) a = a := by
  unfold netF
  simp only
  by_cases h1 : l < 0 ∨ 32 < l
  · rw [if_pos h1]; simp; omega
  · rw [if_neg h1]
    by_cases h2 : a % lowI l.toNat = 0
    · rw [if_pos h2]; simp; exact ⟨by omega, by omega, fl_of h2⟩
    · rw [if_neg h2]; simp; intro _ _ h; exact absurd (fl_mod h) h2
theorem net_ok {x : Int × Int} (h : netF x = 0) : ∃ k : Nat, k ≤ 32 ∧ x.2 = k ∧ fl (lowI k) x.1 = x.1 := by
  obtain ⟨a, l⟩ := x
  obtain ⟨h0, h1, h2⟩ := netF_zero.1 h
  obtain ⟨k, rfl⟩ := Int.eq_ofNat_of_zero_le h0
  exact ⟨k, by omega, rfl, by simpa using h2⟩
theorem net_of {a : Int} {k : Nat} (hk : k ≤ 32) (h : fl (lowI k) a = a) : netF (a, (k : Int)) = 0 := netF_zero.2 ⟨by omega, by omega, by simpa using h⟩
theorem hasB_iff {x : Int × Int} {y : Int} : hasB x y = true ↔ netF x = 0 ∧ fl (lowI x.2.toNat) y = x.1 := by unfold hasB; exact decide_eq_true_iff
theorem inB_iff {a b : Int × Int} : inB a b = true ↔ netF a = 0 ∧ b.2 ≤ a.2 ∧ netF b = 0 ∧ fl (lowI b.2.toNat) a.1 = b.1 := by
  unfold inB
  rw [Bool.and_eq_true, decide_eq_true_iff, hasB_iff]
  exact ⟨fun ⟨⟨h1, h2⟩, h3, h4⟩ => ⟨h1, h2, h3, h4⟩, fun ⟨h1, h2, h3, h4⟩ => ⟨⟨h1, h2⟩, h3, h4⟩⟩
theorem lessB_iff {a b : Int × Int} : lessB a b = true ↔ a.1 < b.1 ∨ a.1 = b.1 ∧ a.2 < b.2 := by unfold lessB; exact decide_eq_true_iff

/-! ### ONE WITHIN THE OTHER, OR APART -/
theorem in_of_has {a b : Int × Int} {x : Int} (h1 : hasB a x = true) (h2 : hasB b x = true) (hl : b.2 ≤ a.2) : inB a b = true := by
  obtain ⟨n1, e1⟩ := hasB_iff.1 h1
  obtain ⟨n2, e2⟩ := hasB_iff.1 h2
  obtain ⟨k, hk, ek, _⟩ := net_ok n1
  obtain ⟨j, hj, ej, _⟩ := net_ok n2
  refine inB_iff.2 ⟨n1, hl, n2, ?_⟩
  rw [ek] at e1 hl; rw [ej] at e2 hl ⊢
  simp only [Int.toNat_natCast] at e1 e2 ⊢
  rw [← e1, fl_low (by omega) hk, e2]
theorem nests_two {a b : Int × Int} (h1 : inB a b = true) (h2 : inB b a = true) : a = b := by
  obtain ⟨n1, l1, n2, e1⟩ := inB_iff.1 h1
  obtain ⟨_, l2, _, _⟩ := inB_iff.1 h2
  obtain ⟨k, hk, ek, f1⟩ := net_ok n1
  have e : a.2 = b.2 := by omega
  rw [← e, ek] at e1
  simp only [Int.toNat_natCast] at e1
  rw [f1] at e1
  exact Prod.ext e1 e
theorem nests_three {a b c : Int × Int} (h1 : inB a b = true) (h2 : inB b c = true) : inB a c = true := by
  obtain ⟨n1, l1, n2, e1⟩ := inB_iff.1 h1
  obtain ⟨_, l2, n3, e2⟩ := inB_iff.1 h2
  obtain ⟨k, hk, ek, _⟩ := net_ok n2
  obtain ⟨j, hj, ej, _⟩ := net_ok n3
  refine inB_iff.2 ⟨n1, by omega, n3, ?_⟩
  rw [ek] at e1 l2; rw [ej] at e2 l2 ⊢
  simp only [Int.toNat_natCast] at e1 e2 ⊢
  rw [← e2, ← e1, fl_low (by omega) hk]
theorem nests_four {a b : Int × Int} {x : Int} (h1 : inB a b = true) (h2 : hasB a x = true) : hasB b x = true := by
  obtain ⟨n1, l1, n2, e1⟩ := inB_iff.1 h1
  obtain ⟨_, e2⟩ := hasB_iff.1 h2
  obtain ⟨k, hk, ek, _⟩ := net_ok n1
  obtain ⟨j, hj, ej, _⟩ := net_ok n2
  refine hasB_iff.2 ⟨n2, ?_⟩
  rw [ek] at e2 l1; rw [ej] at e1 l1 ⊢
  simp only [Int.toNat_natCast] at e1 e2 ⊢
  rw [← e1, ← e2, fl_low (by omega) hk]
/-! ### ONE AHEAD OF THE OTHER -/
theorem less_irr (a : Int × Int) : lessB a a = false := by
  have : ¬ lessB a a = true := fun h => by have := lessB_iff.1 h; omega
  simpa using this
theorem less_one {a b : Int × Int} (h : a ≠ b) : lessB b a = !lessB a b := by
  have hne : a.1 ≠ b.1 ∨ a.2 ≠ b.2 := by
    by_cases h1 : a.1 = b.1
    · exact .inr fun h2 => h (Prod.ext h1 h2)
    · exact .inl h1
  have h1 := @lessB_iff a b
  have h2 := @lessB_iff b a
  cases e1 : lessB a b <;> cases e2 : lessB b a <;> simp [e1, e2] at h1 h2 ⊢ <;> omega
theorem less_trans {a b c : Int × Int} (h1 : lessB a b = true) (h2 : lessB b c = true) : lessB a c = true := by
  have h1 := lessB_iff.1 h1; have h2 := lessB_iff.1 h2
  exact lessB_iff.2 (by omega)
theorem less_in {a b : Int × Int} (h : inB a b = true) (hne : a ≠ b) : lessB b a = true := by
  obtain ⟨n1, l1, n2, e1⟩ := inB_iff.1 h
  have hle : b.1 ≤ a.1 := by rw [← e1]; exact fl_le _ _ (lowI_pos _)
  refine lessB_iff.2 ?_
  by_cases h1 : b.1 = a.1
  · by_cases h2 : b.2 = a.2
    · exact absurd (Prod.ext h1.symm h2.symm) hne
    · exact .inr ⟨h1, by omega⟩
  · exact .inl (by omega)
/-! ### BOTH HALVES ARE ALL -/
def halfP (x : Int × Int) : Int × Int := (x.1, x.2 + 1)
def halfQ (x : Int × Int) : Int × Int := (x.1 + lowI (x.2.toNat + 1), x.2 + 1)
theorem low_succ {k : Nat} (h : k < 32) : lowI k = lowI (k + 1) * 2 := by
  have := low_split (k := k) (l := k + 1) (by omega) (by omega)
  rw [this, show k + 1 - k = 1 from by omega]; rfl
theorem fl_half (h x : Int) (hh : 0 < h) : fl h x = fl (h * 2) x ∨ fl h x = fl (h * 2) x + h := by
  have e := fl_fl h 2 x hh (by omega)
  have h0 := fl_mul h x hh
  have h1 := fl_mul (h * 2) (fl h x) (by omega)
  rw [e] at h1
  rw [h1, h0, Int.mul_ediv_mul_of_pos _ _ hh]
  have h2 := Int.mul_ediv_add_emod (x / h) 2
  have h3 : x / h % 2 = 0 ∨ x / h % 2 = 1 := by omega
  rcases h3 with h3 | h3
  · left
    have : x / h = 2 * (x / h / 2) := by omega
    rw [Int.mul_assoc, ← this]
  · right
    have : x / h = 2 * (x / h / 2) + 1 := by omega
    rw [Int.mul_assoc]
    have e2 : h * (x / h) = h * (2 * (x / h / 2) + 1) := by rw [← this]
    rw [e2, Int.mul_add, Int.mul_one]
theorem mod_half {a h : Int} (hh : 0 < h) (ha : a % (h * 2) = 0) : a % h = 0 ∧ (a + h) % h = 0 ∧ (a + h) % (h * 2) = h := by
  obtain ⟨q, hq⟩ := Int.dvd_of_emod_eq_zero ha
  have e1 : a % h = 0 := by rw [hq, Int.mul_assoc]; exact Int.mul_emod_right _ _
  refine ⟨e1, by rw [Int.add_emod_right]; exact e1, ?_⟩
  rw [Int.add_comm, hq, Int.add_mul_emod_self_left]
  exact Int.emod_eq_of_lt (by omega) (by omega)
section
variable {a : Int} {k : Nat} (hk : k < 32) (hn : netF (a, (k : Int)) = 0)
include hk hn
theorem half_zero : a % (lowI (k + 1) * 2) = 0 := by
  obtain ⟨_, _, h⟩ := netF_zero.1 hn
  simp only [Int.toNat_natCast] at h
  rw [low_succ hk] at h
  exact fl_mod h
theorem half_p : netF (a, (k : Int) + 1) = 0 := by
  have := mod_half (lowI_pos (k + 1)) (half_zero hk hn)
  exact net_of (k := k + 1) (by omega) (fl_of this.1)
theorem half_q : netF (a + lowI (k + 1), (k : Int) + 1) = 0 := by
  have := mod_half (lowI_pos (k + 1)) (half_zero hk hn)
  exact net_of (k := k + 1) (by omega) (fl_of this.2.1)
theorem half_up_q : fl (lowI k) (a + lowI (k + 1)) = a := by
  have := (mod_half (lowI_pos (k + 1)) (half_zero hk hn)).2.2
  rw [low_succ hk]; unfold fl; omega
theorem half_has (x : Int) : (hasB (a, (k : Int) + 1) x || hasB (a + lowI (k + 1), (k : Int) + 1) x) = hasB (a, (k : Int)) x ∧ (hasB (a, (k : Int) + 1) x && hasB (a + lowI (k + 1), (k : Int) + 1) x) = false := by
  have n1 := half_p hk hn
  have n2 := half_q hk hn
  have e1 := @hasB_iff (a, (k : Int) + 1) x
  have e2 := @hasB_iff (a + lowI (k + 1), (k : Int) + 1) x
  have e3 := @hasB_iff (a, (k : Int)) x
  have ek : ((k : Int) + 1).toNat = k + 1 := by omega
  simp only [ek, Int.toNat_natCast, n1, n2, hn, true_and] at e1 e2 e3
  have hp := lowI_pos (k + 1)
  have hf := fl_half (lowI (k + 1)) x hp
  rw [← low_succ hk] at hf
  have hm : a % lowI k = 0 := by rw [low_succ hk]; exact half_zero hk hn
  have hx : fl (lowI k) x % lowI k = 0 := fl_idem _ _ (lowI_pos k)
  have hlow := low_succ hk
  have key : fl (lowI (k + 1)) x = a ∨ fl (lowI (k + 1)) x = a + lowI (k + 1) ↔ fl (lowI k) x = a := by
    obtain ⟨q, hq⟩ := Int.dvd_of_emod_eq_zero hm
    obtain ⟨r, hr⟩ := Int.dvd_of_emod_eq_zero hx
    constructor
    · rintro (h | h)
      · rcases hf with h' | h'
        · omega
        · exfalso
          rw [h, hr, hq, hlow] at h'
          have h2 : lowI (k + 1) * (2 * q - 2 * r - 1) = 0 := by
            rw [Int.mul_sub, Int.mul_sub, Int.mul_one, ← Int.mul_assoc, ← Int.mul_assoc]; omega
          rcases Int.mul_eq_zero.1 h2 with h3 | h3 <;> omega
      · rcases hf with h' | h'
        · exfalso
          rw [h, hr, hq, hlow] at h'
          have h2 : lowI (k + 1) * (2 * q - 2 * r + 1) = 0 := by
            rw [Int.mul_add, Int.mul_sub, Int.mul_one, ← Int.mul_assoc, ← Int.mul_assoc]; omega
          rcases Int.mul_eq_zero.1 h2 with h3 | h3 <;> omega
        · omega
    · intro h
      rcases hf with h' | h'
      · left; omega
      · right; omega
  have no : ¬ (fl (lowI (k + 1)) x = a ∧ fl (lowI (k + 1)) x = a + lowI (k + 1)) := by omega
  cases b1 : hasB (a, (k : Int) + 1) x <;> cases b2 : hasB (a + lowI (k + 1), (k : Int) + 1) x <;> cases b3 : hasB (a, (k : Int)) x <;>
    simp only [b1, b2, b3, Bool.false_eq_true, false_iff, true_iff] at e1 e2 e3 <;> simp_all
end
/-! ### THE LEAST ONE THAT HAS BOTH -/
theorem xor_div (a b k : Nat) : blen (a ^^^ b) ≤ k ↔ a / 2 ^ k = b / 2 ^ k := by
  rw [blen_lt]
  constructor
  · intro h
    apply Nat.eq_of_testBit_eq
    intro i
    rw [Nat.testBit_div_two_pow, Nat.testBit_div_two_pow]
    have := Nat.testBit_lt_two_pow (Nat.lt_of_lt_of_le h (Nat.pow_le_pow_right (by omega) (Nat.le_add_left k i)))
    rw [Nat.testBit_xor] at this
    cases h1 : a.testBit (i + k) <;> cases h2 : b.testBit (i + k) <;> simp [h1, h2] at this <;> rfl
  · intro h
    apply Nat.lt_pow_two_of_testBit
    intro i hi
    have := congrArg (fun n => n.testBit (i - k)) h
    simp only [Nat.testBit_div_two_pow] at this
    rw [show i - k + k = i from by omega] at this
    rw [Nat.testBit_xor, this]
    simp
theorem fl_eq_iff {a b : Int} (ha : is32 a) (hb : is32 b) (k : Nat) (hk : k ≤ 32) : fl (lowI k) a = fl (lowI k) b ↔ k ≤ lzN a b := by
  obtain ⟨x, rfl⟩ := Int.eq_ofNat_of_zero_le ha.1
  obtain ⟨y, rfl⟩ := Int.eq_ofNat_of_zero_le hb.1
  have hx := ha.2; have hy := hb.2
  unfold lzN
  simp only [Int.toNat_natCast]
  have hbl : blen (x ^^^ y) ≤ 32 := blen_lt.2 (Nat.xor_lt_two_pow (by omega) (by omega))
  have h1 : k ≤ 32 - blen (x ^^^ y) ↔ blen (x ^^^ y) ≤ 32 - k := by omega
  rw [h1, xor_div, fl_mul _ _ (lowI_pos k), fl_mul _ _ (lowI_pos k), lowI_nat, ← Int.natCast_ediv, ← Int.natCast_ediv]
  have hp : 0 < 2 ^ (32 - k) := Nat.pow_pos (by omega)
  constructor
  · intro h
    have := Int.eq_of_mul_eq_mul_left (by omega) h
    omega
  · intro h; rw [h]
theorem lzN_le (a b : Int) : lzN a b ≤ 32 := by unfold lzN; omega
theorem comL_le (a b : Int × Int) : comL a b ≤ 32 := by have := lzN_le a.1 b.1; unfold comL; omega
theorem trim_ok (x : Int × Int) (k : Nat) (hk : k ≤ 32) : netF (trimN x k) = 0 := net_of hk (fl_of (fl_idem _ _ (lowI_pos k)))
end Go.Proofs.YtgdlkjahlajcpaaGreatDoor
