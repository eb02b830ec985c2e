/- wire.number and wire.put, by contracts. -/
import Derived.Test.YtimdnfakgobadaaDoorWireP
import Derived.Test.YtimdnfakgobadaaDoorGrow
namespace Go.Proofs.YtimdnfakgobadaaDoor
open Go.ChangeShapes Go.WideShapes Go.ChangeAt Go.RowKit
set_option linter.unusedVariables false

abbrev rdBytes : Rdr (List Int) := RdSlice 1 (rdInt .u8)
def num (l : List Int) : Int := l.foldl (fun n x => n * 256 + x) 0
theorem num_snoc (l : List Int) (x : Int) : num (l ++ [x]) = num l * 256 + x := by unfold num; rw [List.foldl_append]; rfl
theorem num_take {l : List Int} {k : Nat} {x : Int} (h : l[k]? = some x) : num (l.take (k + 1)) = num (l.take k) * 256 + x := by
  rw [List.take_add_one, h]; simp [num_snoc]
theorem num_rng (l : List Int) (hb : ∀ x ∈ l, 0 ≤ x ∧ x ≤ 255) (k : Nat) (hk : k ≤ l.length) : 0 ≤ num (l.take k) ∧ num (l.take k) < 256 ^ k := by
  induction k with
  | zero => simp [num]
  | succ k ih =>
    obtain ⟨x, hx⟩ : ∃ x, l[k]? = some x := ⟨l[k], List.getElem?_eq_getElem (by omega)⟩
    rw [num_take hx]
    have h1 := ih (by omega)
    have h2 := hb x (List.mem_of_getElem? hx)
    rw [Int.pow_succ]
    omega
theorem num_le3 (l : List Int) (hb : ∀ x ∈ l, 0 ≤ x ∧ x ≤ 255) (k : Nat) (hk : k < l.length) (h4 : l.length ≤ 4) : 0 ≤ num (l.take k) ∧ num (l.take k) ≤ 16777215 := by
  have h := num_rng l hb k (by omega)
  have : k = 0 ∨ k = 1 ∨ k = 2 ∨ k = 3 := by omega
  rcases this with rfl | rfl | rfl | rfl <;> simp only [Int.pow_succ, Int.pow_zero] at h <;> omega
theorem or_byte (n x : Int) (h0 : 0 ≤ n) (h1 : n ≤ 16777215) (x0 : 0 ≤ x) (x1 : x ≤ 255) : bits .or .u32 (n * 256) x = n * 256 + x := by
  obtain ⟨a, rfl⟩ := Int.eq_ofNat_of_zero_le h0
  obtain ⟨b, rfl⟩ := Int.eq_ofNat_of_zero_le x0
  have e : ((a : Int) * 256) = ((a * 256 : Nat) : Int) := by omega
  rw [e, u32_or_nat _ _ (by omega) (by omega)]
  have : a * 256 ||| b = a * 256 + b := by
    have := Nat.two_pow_add_eq_or_of_lt (i := 8) (b := b) (by omega) a
    rw [show (2 : Nat) ^ 8 = 256 from by decide] at this
    rw [Nat.mul_comm a 256]; omega
  omega
theorem rdBytes_rng {w : World} {ok : Nat → Prop} {A : Option Addr} {n c : Nat} {l : List Int} (h : rdBytes w ok [.slice A n c] l) : byteL l := by
  obtain ⟨A', c', e, _, _, h3⟩ := h
  intro x hx
  obtain ⟨i, hi, hx⟩ := List.mem_iff_getElem.1 hx
  obtain ⟨b, o, _, _, h4⟩ := h3 (by omega)
  obtain ⟨cs', _, ⟨_, hw⟩, _⟩ := h4 i x (by rw [List.getElem?_eq_getElem hi, hx])
  exact bounds_u8 hw
set_option maxHeartbeats 400000 in
theorem number_any {w : World} {ok : Nat → Prop} {A : Option Addr} {n c : Nat} {l : List Int} (hr : rdBytes w ok [.slice A n c] l) (h4 : n ≤ 4) :
    Calls Tryd.prog 34 #[.slice A n c] w fun e w' => e = .returned (.int .u32 (num l)) ∧ w = w' := by
  have hb := rdBytes_rng hr
  obtain ⟨hn, hnc, hcm⟩ := hr.len
  have HN := Lib.hid hn
  have HB := Lib.hid hb
  clear hn hcm hb
  go_enter Tryd.func34, Tryd.ntmps34
  go_wp2
  go_loop [3, 8] (fun v i => ∃ k : Nat, k ≤ n ∧ i = .int .i64 k ∧ v = .int .u32 (num (l.take k))) (fun _ i => n - (intOf i).toNat)
  case atStart => exact ⟨0, Nat.zero_le _, rfl, rfl⟩
  case round =>
    obtain ⟨k, hk, rfl, rfl⟩ := hrel
    by_cases hlt : k < n
    · obtain ⟨b, o, y, rfl, _, HY, hy, hc⟩ := hr.atI hlt
      have hy' := bounds_u8 hy
      obtain ⟨v0, v1⟩ := num_le3 l HB.out k (by have := HN.out; omega) (by have := HN.out; omega)
      have HS := Lib.hid (num_take HY.out)
      generalize num (l.take k) = v at *
      have ho := or_byte v y v0 v1 hy'.1 hy'.2
      go_wp2
      exact ⟨⟨k + 1, by omega, by go_num, by rw [HS.out]⟩, by simp [intOf]; omega⟩
    · have e : k = n := by omega
      subst e
      have e : Hid (num (l.take k) = num l) := Lib.hid (by rw [List.take_of_length_le (by have := HN.out; omega)])
      go_wp2
      go_ret
      exact ⟨ret_int e.out, rfl⟩

def byt (n : Int) : Nat → List Int
  | 0 => []
  | j + 1 => n / 2 ^ (8 * j) % 256 :: byt n j
theorem byt_length (n : Int) : ∀ j, (byt n j).length = j
  | 0 => rfl
  | j + 1 => by simp [byt, byt_length n j]
theorem byte_info : (Tryd.prog.info? 5).map (fun i => (i.zero, i.size, i.bytes)) = some (some (.int .u8 0), 1, 1) := by kernel_rfl
theorem OwnB.alloc_ {E : TypeId} {w : World} {base : Nat} {v : Value} {l : List Int} (h : OwnB E w base v l) (o : Obj) : OwnB E (w.alloc o) base v l := ⟨h.1.alloc o, h.2⟩
theorem OwnB.drew_ {E : TypeId} {w : World} {base : Nat} {v : Value} {l : List Int} (h : OwnB E w base v l) : OwnB E w.drew base v l := h
theorem shr_nat (n : Int) (j : Nat) (h0 : 0 ≤ n) : n / 2 ^ (8 * j) % 256 = (n / 2 ^ (8 * j)) % 256 := rfl
set_option maxHeartbeats 400000 in
theorem put_any {w : World} {base : Nat} {v : Value} {l : List Int} {n : Int} {k : Nat} (hown : OwnB 5 w base v l) (h0 : 0 ≤ n) (h1 : n ≤ 4294967295) (hk : k ≤ 4) (hl : l.length ≤ 1000000) (hbase : base ≤ w.heap.size) :
    Calls Tryd.prog 26 #[v, .int .u32 n, .int .i64 k] w fun e w' => ∃ v', e = .returned v' ∧ OwnB 5 w' base v' (l ++ byt n k) ∧ Grow w v w' v' := by
  obtain ⟨A, c, rfl⟩ := own_form hown.1
  have HO := Lib.hid hown
  clear hown
  have hll : (l ++ byt n k).length ≤ 1000004 := by rw [List.length_append, byt_length]; omega
  have HLL := Lib.hid hll; clear hll
  go_enter Tryd.func26, Tryd.ntmps26
  go_wp2
  go_loopw [0, 7] (fun u s wr => ∃ (j : Nat) (l' : List Int), j ≤ k ∧ s = .int .i64 (8 * ((j : Int) - 1)) ∧ l' ++ byt n j = l ++ byt n k ∧ OwnB 5 wr base u l' ∧ Grow w (.slice A l.length c) wr u) (fun _ s _ => (intOf s + 8).toNat)
  case atStart => exact ⟨k, l, Nat.le_refl _, rfl, rfl, HO.out, Grow.refl _ _⟩
  case round =>
    obtain ⟨j, l', hj, rfl, hsame, hown, hgr⟩ := hrel
    obtain ⟨A1, c1, rfl⟩ := own_form hown.1
    have HS := Lib.hid hsame
    have HO1 := Lib.hid hown
    have HG := Lib.hid hgr
    clear hsame hown hgr
    rcases j with _ | j
    · go_wp2
      go_ret
      exact ⟨_, rfl, by have := HS.out; simp only [byt, List.append_nil] at this; rw [← this]; exact HO1.out, HG.out⟩
    · have e1 : (8 * (((j + 1 : Nat) : Int) - 1)) = 8 * j := by omega
      rw [e1]
      have hb := HG.out.size
      have hl1 : l'.length ≤ 1000004 := by have h1 := congrArg List.length HS.out; have h2 := HLL.out; simp only [List.length_append] at h1 h2; omega
      clear e1
      have hx : 0 ≤ n / 2 ^ (8 * j) % 256 ∧ n / 2 ^ (8 * j) % 256 ≤ 255 := by omega
      have HX := Lib.hid hx; clear hx
      go_wp2_with (refine wpList_append_bytesG _ rfl (.tmp 15) (.tmp 20) _ rfl base 5 Tryd.underlying36 byte_info _ l' rfl (HO1.out.alloc_ _) (wr.heap.size + 1) _ _ _ [n / 2 ^ (8 * j) % 256] rfl rfl (Bytes.new _ _ _ _ rfl (by intro x hx; simp only [List.mem_cons, List.not_mem_nil, or_false] at hx; rw [hx]; exact HX.out)) (by simp only [List.length_cons, List.length_nil]; omega) (by simp; omega) ?_; intro v' w' hown' hg'; obtain ⟨A2, c2, rfl⟩ := own_form hown'.1; have HO2 := Lib.hid hown'; have HG2 := Lib.hid hg'.of_alloc; clear hown' hg')
      have h2 : OwnB 5 w' base (.slice A2 (l' ++ [n / 2 ^ (8 * j) % 256]).length c2) (l' ++ [n / 2 ^ (8 * j) % 256]) := HO2.out
      have h3 : Grow wr (.slice A1 l'.length c1) w' (.slice A2 (l' ++ [n / 2 ^ (8 * j) % 256]).length c2) := HG2.out
      rw [List.length_append] at h2 h3
      exact ⟨⟨j, l' ++ [n / 2 ^ (8 * j) % 256], by omega, by go_num, by rw [List.append_assoc]; exact HS.out, h2, HG.out.trans h3⟩, by simp [intOf]; omega⟩
theorem byt2 (n : Int) : byt n 2 = [n / 256 % 256, n % 256] := by
  simp only [byt, Nat.mul_one, Nat.mul_zero, Int.pow_zero, Int.ediv_one]; rfl
theorem byt4 (n : Int) : byt n 4 = be4 n := by
  simp only [byt, be4, Nat.mul_one, Nat.mul_zero, Int.pow_zero, Int.ediv_one]; rfl
theorem put2_any {w : World} {base : Nat} {v : Value} {l : List Int} {n : Int} (hown : OwnB 5 w base v l) (h0 : 0 ≤ n) (h1 : n ≤ 4294967295) (hl : l.length ≤ 1000000) (hbase : base ≤ w.heap.size) :
    Calls Tryd.prog 26 #[v, .int .u32 n, .int .i64 2] w fun e w' => ∃ v', e = .returned v' ∧ OwnB 5 w' base v' (l ++ [n / 256 % 256, n % 256]) ∧ Grow w v w' v' := by
  rw [← byt2]; exact put_any (k := 2) hown h0 h1 (by omega) hl hbase
theorem put4_any {w : World} {base : Nat} {v : Value} {l : List Int} {n : Int} (hown : OwnB 5 w base v l) (h0 : 0 ≤ n) (h1 : n ≤ 4294967295) (hl : l.length ≤ 1000000) (hbase : base ≤ w.heap.size) :
    Calls Tryd.prog 26 #[v, .int .u32 n, .int .i64 4] w fun e w' => ∃ v', e = .returned v' ∧ OwnB 5 w' base v' (l ++ be4 n) ∧ Grow w v w' v' := by
  rw [← byt4]; exact put_any (k := 4) hown h0 h1 (by omega) hl hbase
end Go.Proofs.YtimdnfakgobadaaDoor
