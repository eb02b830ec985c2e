/- The ways of the reference's Answered, 2. -/
import Derived.Test.YtgdlkjahlajcpaaGreatDoorAP
namespace Go.Proofs.YtgdlkjahlajcpaaGreatDoor
open Go.ChangeShapes Go.WideShapes Go.ChangeAt Go.RowKit
set_option linter.unusedVariables false
set_option linter.unusedSimpArgs false
section
variable {M : Nat → Prop} {W : World} {m : Tab} {A A' : Option Addr} {n c n' c' : Nat} {s : ByteArray} {L : List ByteArray}
set_option maxRecDepth 100000 in
set_option maxHeartbeats 8000000 in
theorem Ans_bad2 {W0 W1 : ByteArray} (hT : TabR M W m A n c A' n' c') (hM : ∀ b, M b → b < W.heap.size) (hd : DOk m) (hs : s.size ≤ 2097152) (hL : [W0, W1].map (·.data.toList) = segs 32 s.data.toList) (k0 : s.data.toList ≠ [108, 105, 115, 116]) (k1 : s.data.toList ≠ [99, 111, 118, 101, 114]) (k2 : W0.data.toList ≠ [102, 105, 110, 100]) (k3 : W0.data.toList ≠ [115, 117, 109]) (hno : ∀ a k : Nat, a < 4294967296 → netF ((a : Int), (k : Int)) = 0 → W1.data.toList ≠ netT a k) :
    Calls Tryz.prog 8 #[.agg #[.slice A n c, .slice A' n' c'], .string s] W (AnsPost M W (.error 7, m)) := by
  have HT := Lib.hid hT
  have HOK := Lib.hid hd.ok
  have HNUM := Lib.hid hd.num
  have HLEN : Hid (m.length ≤ 64) := Lib.hid hd.ok.len
  have HL := Lib.hid hL
  have HMW := Lib.hid hM
  obtain ⟨PP, hPP⟩ : ∃ PP, AnsPost M W (.error 7, m) = PP := ⟨_, rfl⟩
  have HPP := Lib.hid hPP
  rw [hPP]
  have hwsz := fun (k : Nat) (p : ByteArray) (h : [W0, W1][k]? = some p) => Nat.le_trans (piece_size hL h) hs
  have hw0 : W0.size ≤ 2097152 := hwsz 0 W0 rfl
  have hw1 : W1.size ≤ 2097152 := hwsz 1 W1 rfl
  clear hT hM hd hL hPP hwsz
  have q0 : (s.toList == [108, 105, 115, 116]) = false := by rw [ByteArray.toList_eq]; simpa using k0
  have q1 : (s.toList == [99, 111, 118, 101, 114]) = false := by rw [ByteArray.toList_eq]; simpa using k1
  have q2 : (W0.toList == [102, 105, 110, 100]) = false := by rw [ByteArray.toList_eq]; simpa using k2
  have q3 : (W0.toList == [115, 117, 109]) = false := by rw [ByteArray.toList_eq]; simpa using k3
  clear k0 k1 k2 k3
  go_enter Tryz.func8, Tryz.ntmps8
  go_wp2_with fail
  go_at_call 7
  (with_reducible refine (RCut_c s 32 32 rfl _ hs).mono ?_)
  rintro e w1 ⟨L', g, cap, hL', rfl, hcs, hg, hb⟩
  obtain rfl : L' = [W0, W1] := list_bytes (hL'.trans HL.out.symm)
  have ABw1 := Lib.hid ((AB.start W A n c A' n' c').below hb)
  have CBw1 : Hid (Below w1.heap.size w1 w1) := Lib.hid (Below.refl _ _)
  have Y0 : Hid (w1.cell? ⟨g, 0, none⟩ = some (.string W0)) := Lib.hid (hcs 0 _ rfl)
  have Y1 : Hid (w1.cell? ⟨g, 1, none⟩ = some (.string W1)) := Lib.hid (hcs 1 _ rfl)
  clear hcs hb hL'
  obtain ⟨t0, t1, _, _⟩ := row2 ABw1.out.tb
  obtain ⟨r0, r1, r2, r3⟩ := row2 ABw1.out.rs
  have y0 := (CBw1.out.cell (p := ⟨g, 0, none⟩) hg).trans Y0.out
  have y1 := (CBw1.out.cell (p := ⟨g, 1, none⟩) hg).trans Y1.out
  rw [show ([W0, W1] : List ByteArray).length = 2 from rfl]
  have HNO := Lib.hid hno
  clear hno
  go_wp2_with fail
  go_at_call 22
  (with_reducible refine (NetOf_no W1 _ hw1 HNO.out).mono ?_)
  rintro e w2 ⟨rfl, hb⟩
  clear t0 t1 r0 r1 r2 r3 y0 y1
  have ABw2 := Lib.hid (ABw1.out.below hb)
  have CBw2 := Lib.hid (CBw1.out.trans (hb.mono CBw1.out.size))
  clear hb
  obtain ⟨t0, t1, _, _⟩ := row2 ABw2.out.tb
  obtain ⟨r0, r1, r2, r3⟩ := row2 ABw2.out.rs
  have y0 := (CBw2.out.cell (p := ⟨g, 0, none⟩) hg).trans Y0.out
  have y1 := (CBw2.out.cell (p := ⟨g, 1, none⟩) hg).trans Y1.out
  clear t0 t1 r0 r1 r2 r3 y0 y1
  have hba := below_1 w2 (.cells #[.int .u32 0, .int .i64 0] 47)
  have ABw2a := Lib.hid (ABw2.out.below hba)
  have CBw2a := Lib.hid (CBw2.out.trans (hba.mono CBw2.out.size))
  clear hba
  obtain ⟨t0, t1, _, _⟩ := row2 ABw2a.out.tb
  obtain ⟨r0, r1, r2, r3⟩ := row2 ABw2a.out.rs
  have y0 := (CBw2a.out.cell (p := ⟨g, 0, none⟩) hg).trans Y0.out
  have y1 := (CBw2a.out.cell (p := ⟨g, 1, none⟩) hg).trans Y1.out
  go_wp2
  have hend := (ABw2a.out.laid (.slice A n c) (.slice A' n' c'))
  exact ans_end hend.rs rfl rfl rfl (by rw [← HPP.out]; exact AnsPost.same hend HT.out)
set_option maxRecDepth 100000 in
set_option maxHeartbeats 8000000 in
theorem Ans_badm {W0 W1 W2 : ByteArray} {r : List ByteArray} (hT : TabR M W m A n c A' n' c') (hM : ∀ b, M b → b < W.heap.size) (hd : DOk m) (hs : s.size ≤ 2097152) (hL : (W0 :: W1 :: W2 :: r).map (·.data.toList) = segs 32 s.data.toList) (k0 : s.data.toList ≠ [108, 105, 115, 116]) (k1 : s.data.toList ≠ [99, 111, 118, 101, 114]) (hno : ∀ a k : Nat, a < 4294967296 → netF ((a : Int), (k : Int)) = 0 → W1.data.toList ≠ netT a k) :
    Calls Tryz.prog 8 #[.agg #[.slice A n c, .slice A' n' c'], .string s] W (AnsPost M W (.error 7, m)) := by
  have HT := Lib.hid hT
  have HOK := Lib.hid hd.ok
  have HNUM := Lib.hid hd.num
  have HLEN : Hid (m.length ≤ 64) := Lib.hid hd.ok.len
  have HL := Lib.hid hL
  have HMW := Lib.hid hM
  obtain ⟨PP, hPP⟩ : ∃ PP, AnsPost M W (.error 7, m) = PP := ⟨_, rfl⟩
  have HPP := Lib.hid hPP
  rw [hPP]
  have hwsz := fun (k : Nat) (p : ByteArray) (h : (W0 :: W1 :: W2 :: r)[k]? = some p) => Nat.le_trans (piece_size hL h) hs
  have hw0 : W0.size ≤ 2097152 := hwsz 0 W0 rfl
  have hw1 : W1.size ≤ 2097152 := hwsz 1 W1 rfl
  have hw2 : W2.size ≤ 2097152 := hwsz 2 W2 rfl
  clear hT hM hd hL hPP hwsz
  have q0 : (s.toList == [108, 105, 115, 116]) = false := by rw [ByteArray.toList_eq]; simpa using k0
  have q1 : (s.toList == [99, 111, 118, 101, 114]) = false := by rw [ByteArray.toList_eq]; simpa using k1
  clear k0 k1
  go_enter Tryz.func8, Tryz.ntmps8
  go_wp2_with fail
  go_at_call 7
  (with_reducible refine (RCut_c s 32 32 rfl _ hs).mono ?_)
  rintro e w1 ⟨L', g, cap, hL', rfl, hcs, hg, hb⟩
  obtain rfl : L' = (W0 :: W1 :: W2 :: r) := list_bytes (hL'.trans HL.out.symm)
  have ABw1 := Lib.hid ((AB.start W A n c A' n' c').below hb)
  have CBw1 : Hid (Below w1.heap.size w1 w1) := Lib.hid (Below.refl _ _)
  have Y0 : Hid (w1.cell? ⟨g, 0, none⟩ = some (.string W0)) := Lib.hid (hcs 0 _ rfl)
  have Y1 : Hid (w1.cell? ⟨g, 1, none⟩ = some (.string W1)) := Lib.hid (hcs 1 _ rfl)
  have Y2 : Hid (w1.cell? ⟨g, 2, none⟩ = some (.string W2)) := Lib.hid (hcs 2 _ rfl)
  clear hcs hb hL'
  obtain ⟨t0, t1, _, _⟩ := row2 ABw1.out.tb
  obtain ⟨r0, r1, r2, r3⟩ := row2 ABw1.out.rs
  have y0 := (CBw1.out.cell (p := ⟨g, 0, none⟩) hg).trans Y0.out
  have y1 := (CBw1.out.cell (p := ⟨g, 1, none⟩) hg).trans Y1.out
  have y2 := (CBw1.out.cell (p := ⟨g, 2, none⟩) hg).trans Y2.out
  obtain ⟨N, hN⟩ : ∃ N, ((W0 :: W1 :: W2 :: r)).length = N := ⟨_, rfl⟩
  rw [hN]
  have hN3 : 3 ≤ N := by rw [← hN]; simp
  have HNN := Lib.hid hN
  clear hN
  have HNO := Lib.hid hno
  clear hno
  have e2 : ((N : Int) == 2) = false := beq_eq_false_iff_ne.2 (by omega)
  have e3 : ¬ (N : Int) < 2 := by omega
  go_wp2_with fail
  go_at_call 22
  (with_reducible refine (NetOf_no W1 _ hw1 HNO.out).mono ?_)
  rintro e w2 ⟨rfl, hb⟩
  clear t0 t1 r0 r1 r2 r3 y0 y1 y2
  have ABw2 := Lib.hid (ABw1.out.below hb)
  have CBw2 := Lib.hid (CBw1.out.trans (hb.mono CBw1.out.size))
  clear hb
  obtain ⟨t0, t1, _, _⟩ := row2 ABw2.out.tb
  obtain ⟨r0, r1, r2, r3⟩ := row2 ABw2.out.rs
  have y0 := (CBw2.out.cell (p := ⟨g, 0, none⟩) hg).trans Y0.out
  have y1 := (CBw2.out.cell (p := ⟨g, 1, none⟩) hg).trans Y1.out
  have y2 := (CBw2.out.cell (p := ⟨g, 2, none⟩) hg).trans Y2.out
  clear t0 t1 r0 r1 r2 r3 y0 y1 y2
  have hba := below_1 w2 (.cells #[.int .u32 0, .int .i64 0] 47)
  have ABw2a := Lib.hid (ABw2.out.below hba)
  have CBw2a := Lib.hid (CBw2.out.trans (hba.mono CBw2.out.size))
  clear hba
  obtain ⟨t0, t1, _, _⟩ := row2 ABw2a.out.tb
  obtain ⟨r0, r1, r2, r3⟩ := row2 ABw2a.out.rs
  have y0 := (CBw2a.out.cell (p := ⟨g, 0, none⟩) hg).trans Y0.out
  have y1 := (CBw2a.out.cell (p := ⟨g, 1, none⟩) hg).trans Y1.out
  have y2 := (CBw2a.out.cell (p := ⟨g, 2, none⟩) hg).trans Y2.out
  go_wp2
  have hend := (ABw2a.out.laid (.slice A n c) (.slice A' n' c'))
  exact ans_end hend.rs rfl rfl rfl (by rw [← HPP.out]; exact AnsPost.same hend HT.out)
set_option maxRecDepth 100000 in
set_option maxHeartbeats 8000000 in
theorem Ans_dropnone {W0 W1 : ByteArray} (hT : TabR M W m A n c A' n' c') (hM : ∀ b, M b → b < W.heap.size) (hd : DOk m) (hs : s.size ≤ 2097152) (hL : [W0, W1].map (·.data.toList) = segs 32 s.data.toList) (k0 : s.data.toList ≠ [108, 105, 115, 116]) (k1 : s.data.toList ≠ [99, 111, 118, 101, 114]) (k2 : W0.data.toList ≠ [102, 105, 110, 100]) (k3 : W0.data.toList ≠ [115, 117, 109]) (k4 : W0.data.toList = [100, 114, 111, 112]) {a k : Nat} (ha : a < 4294967296) (hnf : netF ((a : Int), (k : Int)) = 0) (hsn : W1.data.toList = netT a k) (hl : look m ((a : Int), (k : Int)) = none) :
    Calls Tryz.prog 8 #[.agg #[.slice A n c, .slice A' n' c'], .string s] W (AnsPost M W (.error 2, m)) := by
  have HT := Lib.hid hT
  have HOK := Lib.hid hd.ok
  have HNUM := Lib.hid hd.num
  have HLEN : Hid (m.length ≤ 64) := Lib.hid hd.ok.len
  have HL := Lib.hid hL
  have HMW := Lib.hid hM
  obtain ⟨PP, hPP⟩ : ∃ PP, AnsPost M W (.error 2, m) = PP := ⟨_, rfl⟩
  have HPP := Lib.hid hPP
  rw [hPP]
  have hwsz := fun (k : Nat) (p : ByteArray) (h : [W0, W1][k]? = some p) => Nat.le_trans (piece_size hL h) hs
  have hw0 : W0.size ≤ 2097152 := hwsz 0 W0 rfl
  have hw1 : W1.size ≤ 2097152 := hwsz 1 W1 rfl
  clear hT hM hd hL hPP hwsz
  have q0 : (s.toList == [108, 105, 115, 116]) = false := by rw [ByteArray.toList_eq]; simpa using k0
  have q1 : (s.toList == [99, 111, 118, 101, 114]) = false := by rw [ByteArray.toList_eq]; simpa using k1
  have q2 : (W0.toList == [102, 105, 110, 100]) = false := by rw [ByteArray.toList_eq]; simpa using k2
  have q3 : (W0.toList == [115, 117, 109]) = false := by rw [ByteArray.toList_eq]; simpa using k3
  have q4 : (W0.toList == [100, 114, 111, 112]) = true := by rw [ByteArray.toList_eq]; simpa using k4
  clear k0 k1 k2 k3 k4
  go_enter Tryz.func8, Tryz.ntmps8
  go_wp2_with fail
  go_at_call 7
  (with_reducible refine (RCut_c s 32 32 rfl _ hs).mono ?_)
  rintro e w1 ⟨L', g, cap, hL', rfl, hcs, hg, hb⟩
  obtain rfl : L' = [W0, W1] := list_bytes (hL'.trans HL.out.symm)
  have ABw1 := Lib.hid ((AB.start W A n c A' n' c').below hb)
  have CBw1 : Hid (Below w1.heap.size w1 w1) := Lib.hid (Below.refl _ _)
  have Y0 : Hid (w1.cell? ⟨g, 0, none⟩ = some (.string W0)) := Lib.hid (hcs 0 _ rfl)
  have Y1 : Hid (w1.cell? ⟨g, 1, none⟩ = some (.string W1)) := Lib.hid (hcs 1 _ rfl)
  clear hcs hb hL'
  obtain ⟨t0, t1, _, _⟩ := row2 ABw1.out.tb
  obtain ⟨r0, r1, r2, r3⟩ := row2 ABw1.out.rs
  have y0 := (CBw1.out.cell (p := ⟨g, 0, none⟩) hg).trans Y0.out
  have y1 := (CBw1.out.cell (p := ⟨g, 1, none⟩) hg).trans Y1.out
  rw [show ([W0, W1] : List ByteArray).length = 2 from rfl]
  have HPL : Hid (placeI ((a : Int), (k : Int)) (keysM m) 0 = -1) := Lib.hid (place_none hl 0)
  clear hl
  have HN := Lib.hid hnf
  have HSN := Lib.hid hsn
  have HI : Hid (is32 (a : Int)) := Lib.hid ⟨by omega, by omega⟩
  clear hnf hsn
  go_wp2_with fail
  go_at_call 22
  (with_reducible refine (NetOf_yes a k W1 _ hw1 ha HN.out HSN.out).mono ?_)
  rintro e w2 ⟨rfl, hb⟩
  clear t0 t1 r0 r1 r2 r3 y0 y1
  have ABw2 := Lib.hid (ABw1.out.below hb)
  have CBw2 := Lib.hid (CBw1.out.trans (hb.mono CBw1.out.size))
  clear hb
  obtain ⟨t0, t1, _, _⟩ := row2 ABw2.out.tb
  obtain ⟨r0, r1, r2, r3⟩ := row2 ABw2.out.rs
  have y0 := (CBw2.out.cell (p := ⟨g, 0, none⟩) hg).trans Y0.out
  have y1 := (CBw2.out.cell (p := ⟨g, 1, none⟩) hg).trans Y1.out
  clear t0 t1 r0 r1 r2 r3 y0 y1
  have hba := below_1 w2 (.cells #[.int .u32 (a : Int), .int .i64 (k : Int)] 47)
  have ABw2a := Lib.hid (ABw2.out.below hba)
  have CBw2a := Lib.hid (CBw2.out.trans (hba.mono CBw2.out.size))
  have NB_w2a := Lib.hid (heap_alloc_new w2 (.cells #[.int .u32 (a : Int), .int .i64 (k : Int)] 47))
  clear hba
  obtain ⟨t0, t1, _, _⟩ := row2 ABw2a.out.tb
  obtain ⟨r0, r1, r2, r3⟩ := row2 ABw2a.out.rs
  have y0 := (CBw2a.out.cell (p := ⟨g, 0, none⟩) hg).trans Y0.out
  have y1 := (CBw2a.out.cell (p := ⟨g, 1, none⟩) hg).trans Y1.out
  obtain ⟨nb0, nb1, _, _⟩ := row2 NB_w2a.out
  go_wp2_with fail
  go_at_call 23
  (with_reducible refine (Places_any (HT.out.below ABw2a.out.bel).nets).mono ?_)
  rintro e w3 ⟨rfl, hb⟩
  clear t0 t1 r0 r1 r2 r3 y0 y1 nb0 nb1
  have ABw3 := Lib.hid (ABw2a.out.below hb)
  have CBw3 := Lib.hid (CBw2a.out.trans (hb.mono CBw2a.out.size))
  have NB_w3 := Lib.hid (below_block hb (size_of_block NB_w2a.out) NB_w2a.out)
  clear hb
  rw [HPL.out]
  obtain ⟨t0, t1, _, _⟩ := row2 ABw3.out.tb
  obtain ⟨r0, r1, r2, r3⟩ := row2 ABw3.out.rs
  have y0 := (CBw3.out.cell (p := ⟨g, 0, none⟩) hg).trans Y0.out
  have y1 := (CBw3.out.cell (p := ⟨g, 1, none⟩) hg).trans Y1.out
  obtain ⟨nb0, nb1, _, _⟩ := row2 NB_w3.out
  go_wp2
  have hend := (ABw3.out.laid (.slice A n c) (.slice A' n' c'))
  exact ans_end hend.rs rfl rfl rfl (by rw [← HPP.out]; exact AnsPost.same hend HT.out)
set_option maxRecDepth 100000 in
set_option maxHeartbeats 8000000 in
theorem Ans_getnone {W0 W1 : ByteArray} (hT : TabR M W m A n c A' n' c') (hM : ∀ b, M b → b < W.heap.size) (hd : DOk m) (hs : s.size ≤ 2097152) (hL : [W0, W1].map (·.data.toList) = segs 32 s.data.toList) (k0 : s.data.toList ≠ [108, 105, 115, 116]) (k1 : s.data.toList ≠ [99, 111, 118, 101, 114]) (k2 : W0.data.toList ≠ [102, 105, 110, 100]) (k3 : W0.data.toList ≠ [115, 117, 109]) (k4 : W0.data.toList ≠ [100, 114, 111, 112]) (k5 : W0.data.toList = [103, 101, 116]) {a k : Nat} (ha : a < 4294967296) (hnf : netF ((a : Int), (k : Int)) = 0) (hsn : W1.data.toList = netT a k) (hl : look m ((a : Int), (k : Int)) = none) :
    Calls Tryz.prog 8 #[.agg #[.slice A n c, .slice A' n' c'], .string s] W (AnsPost M W (.error 2, m)) := by
  have HT := Lib.hid hT
  have HOK := Lib.hid hd.ok
  have HNUM := Lib.hid hd.num
  have HLEN : Hid (m.length ≤ 64) := Lib.hid hd.ok.len
  have HL := Lib.hid hL
  have HMW := Lib.hid hM
  obtain ⟨PP, hPP⟩ : ∃ PP, AnsPost M W (.error 2, m) = PP := ⟨_, rfl⟩
  have HPP := Lib.hid hPP
  rw [hPP]
  have hwsz := fun (k : Nat) (p : ByteArray) (h : [W0, W1][k]? = some p) => Nat.le_trans (piece_size hL h) hs
  have hw0 : W0.size ≤ 2097152 := hwsz 0 W0 rfl
  have hw1 : W1.size ≤ 2097152 := hwsz 1 W1 rfl
  clear hT hM hd hL hPP hwsz
  have q0 : (s.toList == [108, 105, 115, 116]) = false := by rw [ByteArray.toList_eq]; simpa using k0
  have q1 : (s.toList == [99, 111, 118, 101, 114]) = false := by rw [ByteArray.toList_eq]; simpa using k1
  have q2 : (W0.toList == [102, 105, 110, 100]) = false := by rw [ByteArray.toList_eq]; simpa using k2
  have q3 : (W0.toList == [115, 117, 109]) = false := by rw [ByteArray.toList_eq]; simpa using k3
  have q4 : (W0.toList == [100, 114, 111, 112]) = false := by rw [ByteArray.toList_eq]; simpa using k4
  have q5 : (W0.toList == [103, 101, 116]) = true := by rw [ByteArray.toList_eq]; simpa using k5
  clear k0 k1 k2 k3 k4 k5
  go_enter Tryz.func8, Tryz.ntmps8
  go_wp2_with fail
  go_at_call 7
  (with_reducible refine (RCut_c s 32 32 rfl _ hs).mono ?_)
  rintro e w1 ⟨L', g, cap, hL', rfl, hcs, hg, hb⟩
  obtain rfl : L' = [W0, W1] := list_bytes (hL'.trans HL.out.symm)
  have ABw1 := Lib.hid ((AB.start W A n c A' n' c').below hb)
  have CBw1 : Hid (Below w1.heap.size w1 w1) := Lib.hid (Below.refl _ _)
  have Y0 : Hid (w1.cell? ⟨g, 0, none⟩ = some (.string W0)) := Lib.hid (hcs 0 _ rfl)
  have Y1 : Hid (w1.cell? ⟨g, 1, none⟩ = some (.string W1)) := Lib.hid (hcs 1 _ rfl)
  clear hcs hb hL'
  obtain ⟨t0, t1, _, _⟩ := row2 ABw1.out.tb
  obtain ⟨r0, r1, r2, r3⟩ := row2 ABw1.out.rs
  have y0 := (CBw1.out.cell (p := ⟨g, 0, none⟩) hg).trans Y0.out
  have y1 := (CBw1.out.cell (p := ⟨g, 1, none⟩) hg).trans Y1.out
  rw [show ([W0, W1] : List ByteArray).length = 2 from rfl]
  have HPL : Hid (placeI ((a : Int), (k : Int)) (keysM m) 0 = -1) := Lib.hid (place_none hl 0)
  clear hl
  have HN := Lib.hid hnf
  have HSN := Lib.hid hsn
  have HI : Hid (is32 (a : Int)) := Lib.hid ⟨by omega, by omega⟩
  clear hnf hsn
  go_wp2_with fail
  go_at_call 22
  (with_reducible refine (NetOf_yes a k W1 _ hw1 ha HN.out HSN.out).mono ?_)
  rintro e w2 ⟨rfl, hb⟩
  clear t0 t1 r0 r1 r2 r3 y0 y1
  have ABw2 := Lib.hid (ABw1.out.below hb)
  have CBw2 := Lib.hid (CBw1.out.trans (hb.mono CBw1.out.size))
  clear hb
  obtain ⟨t0, t1, _, _⟩ := row2 ABw2.out.tb
  obtain ⟨r0, r1, r2, r3⟩ := row2 ABw2.out.rs
  have y0 := (CBw2.out.cell (p := ⟨g, 0, none⟩) hg).trans Y0.out
  have y1 := (CBw2.out.cell (p := ⟨g, 1, none⟩) hg).trans Y1.out
  clear t0 t1 r0 r1 r2 r3 y0 y1
  have hba := below_1 w2 (.cells #[.int .u32 (a : Int), .int .i64 (k : Int)] 47)
  have ABw2a := Lib.hid (ABw2.out.below hba)
  have CBw2a := Lib.hid (CBw2.out.trans (hba.mono CBw2.out.size))
  have NB_w2a := Lib.hid (heap_alloc_new w2 (.cells #[.int .u32 (a : Int), .int .i64 (k : Int)] 47))
  clear hba
  obtain ⟨t0, t1, _, _⟩ := row2 ABw2a.out.tb
  obtain ⟨r0, r1, r2, r3⟩ := row2 ABw2a.out.rs
  have y0 := (CBw2a.out.cell (p := ⟨g, 0, none⟩) hg).trans Y0.out
  have y1 := (CBw2a.out.cell (p := ⟨g, 1, none⟩) hg).trans Y1.out
  obtain ⟨nb0, nb1, _, _⟩ := row2 NB_w2a.out
  go_wp2_with fail
  go_at_call 23
  (with_reducible refine (Places_any (HT.out.below ABw2a.out.bel).nets).mono ?_)
  rintro e w3 ⟨rfl, hb⟩
  clear t0 t1 r0 r1 r2 r3 y0 y1 nb0 nb1
  have ABw3 := Lib.hid (ABw2a.out.below hb)
  have CBw3 := Lib.hid (CBw2a.out.trans (hb.mono CBw2a.out.size))
  have NB_w3 := Lib.hid (below_block hb (size_of_block NB_w2a.out) NB_w2a.out)
  clear hb
  rw [HPL.out]
  obtain ⟨t0, t1, _, _⟩ := row2 ABw3.out.tb
  obtain ⟨r0, r1, r2, r3⟩ := row2 ABw3.out.rs
  have y0 := (CBw3.out.cell (p := ⟨g, 0, none⟩) hg).trans Y0.out
  have y1 := (CBw3.out.cell (p := ⟨g, 1, none⟩) hg).trans Y1.out
  obtain ⟨nb0, nb1, _, _⟩ := row2 NB_w3.out
  go_wp2
  have hend := (ABw3.out.laid (.slice A n c) (.slice A' n' c'))
  exact ans_end hend.rs rfl rfl rfl (by rw [← HPP.out]; exact AnsPost.same hend HT.out)
set_option maxRecDepth 100000 in
set_option maxHeartbeats 8000000 in
theorem Ans_drop {W0 W1 : ByteArray} (hT : TabR M W m A n c A' n' c') (hM : ∀ b, M b → b < W.heap.size) (hd : DOk m) (hs : s.size ≤ 2097152) (hL : [W0, W1].map (·.data.toList) = segs 32 s.data.toList) (k0 : s.data.toList ≠ [108, 105, 115, 116]) (k1 : s.data.toList ≠ [99, 111, 118, 101, 114]) (k2 : W0.data.toList ≠ [102, 105, 110, 100]) (k3 : W0.data.toList ≠ [115, 117, 109]) (k4 : W0.data.toList = [100, 114, 111, 112]) (k5 : W0.data.toList ≠ [103, 101, 116]) {a k : Nat} (ha : a < 4294967296) (hnf : netF ((a : Int), (k : Int)) = 0) (hsn : W1.data.toList = netT a k) {v : Int} {i : Nat} (hpl : placeI ((a : Int), (k : Int)) (keysM m) 0 = (i : Int)) :
    Calls Tryz.prog 8 #[.agg #[.slice A n c, .slice A' n' c'], .string s] W (AnsPost M W (.ok okT, delM m ((a : Int), (k : Int)))) := by
  have HT := Lib.hid hT
  have HOK := Lib.hid hd.ok
  have HNUM := Lib.hid hd.num
  have HLEN : Hid (m.length ≤ 64) := Lib.hid hd.ok.len
  have HL := Lib.hid hL
  have HMW := Lib.hid hM
  obtain ⟨PP, hPP⟩ : ∃ PP, AnsPost M W (.ok okT, delM m ((a : Int), (k : Int))) = PP := ⟨_, rfl⟩
  have HPP := Lib.hid hPP
  rw [hPP]
  have hwsz := fun (k : Nat) (p : ByteArray) (h : [W0, W1][k]? = some p) => Nat.le_trans (piece_size hL h) hs
  have hw0 : W0.size ≤ 2097152 := hwsz 0 W0 rfl
  have hw1 : W1.size ≤ 2097152 := hwsz 1 W1 rfl
  clear hT hM hd hL hPP hwsz
  have q0 : (s.toList == [108, 105, 115, 116]) = false := by rw [ByteArray.toList_eq]; simpa using k0
  have q1 : (s.toList == [99, 111, 118, 101, 114]) = false := by rw [ByteArray.toList_eq]; simpa using k1
  have q2 : (W0.toList == [102, 105, 110, 100]) = false := by rw [ByteArray.toList_eq]; simpa using k2
  have q3 : (W0.toList == [115, 117, 109]) = false := by rw [ByteArray.toList_eq]; simpa using k3
  have q4 : (W0.toList == [100, 114, 111, 112]) = true := by rw [ByteArray.toList_eq]; simpa using k4
  have q5 : (W0.toList == [103, 101, 116]) = false := by rw [ByteArray.toList_eq]; simpa using k5
  clear k0 k1 k2 k3 k4 k5
  go_enter Tryz.func8, Tryz.ntmps8
  go_wp2_with fail
  go_at_call 7
  (with_reducible refine (RCut_c s 32 32 rfl _ hs).mono ?_)
  rintro e w1 ⟨L', g, cap, hL', rfl, hcs, hg, hb⟩
  obtain rfl : L' = [W0, W1] := list_bytes (hL'.trans HL.out.symm)
  have ABw1 := Lib.hid ((AB.start W A n c A' n' c').below hb)
  have CBw1 : Hid (Below w1.heap.size w1 w1) := Lib.hid (Below.refl _ _)
  have Y0 : Hid (w1.cell? ⟨g, 0, none⟩ = some (.string W0)) := Lib.hid (hcs 0 _ rfl)
  have Y1 : Hid (w1.cell? ⟨g, 1, none⟩ = some (.string W1)) := Lib.hid (hcs 1 _ rfl)
  clear hcs hb hL'
  obtain ⟨t0, t1, _, _⟩ := row2 ABw1.out.tb
  obtain ⟨r0, r1, r2, r3⟩ := row2 ABw1.out.rs
  have y0 := (CBw1.out.cell (p := ⟨g, 0, none⟩) hg).trans Y0.out
  have y1 := (CBw1.out.cell (p := ⟨g, 1, none⟩) hg).trans Y1.out
  rw [show ([W0, W1] : List ByteArray).length = 2 from rfl]
  have HPL := Lib.hid hpl
  clear hpl
  have i3 : ¬ (i : Int) < 0 := by omega
  have HN := Lib.hid hnf
  have HSN := Lib.hid hsn
  have HI : Hid (is32 (a : Int)) := Lib.hid ⟨by omega, by omega⟩
  clear hnf hsn
  go_wp2_with fail
  go_at_call 22
  (with_reducible refine (NetOf_yes a k W1 _ hw1 ha HN.out HSN.out).mono ?_)
  rintro e w2 ⟨rfl, hb⟩
  clear t0 t1 r0 r1 r2 r3 y0 y1
  have ABw2 := Lib.hid (ABw1.out.below hb)
  have CBw2 := Lib.hid (CBw1.out.trans (hb.mono CBw1.out.size))
  clear hb
  obtain ⟨t0, t1, _, _⟩ := row2 ABw2.out.tb
  obtain ⟨r0, r1, r2, r3⟩ := row2 ABw2.out.rs
  have y0 := (CBw2.out.cell (p := ⟨g, 0, none⟩) hg).trans Y0.out
  have y1 := (CBw2.out.cell (p := ⟨g, 1, none⟩) hg).trans Y1.out
  clear t0 t1 r0 r1 r2 r3 y0 y1
  have hba := below_1 w2 (.cells #[.int .u32 (a : Int), .int .i64 (k : Int)] 47)
  have ABw2a := Lib.hid (ABw2.out.below hba)
  have CBw2a := Lib.hid (CBw2.out.trans (hba.mono CBw2.out.size))
  have NB_w2a := Lib.hid (heap_alloc_new w2 (.cells #[.int .u32 (a : Int), .int .i64 (k : Int)] 47))
  clear hba
  obtain ⟨t0, t1, _, _⟩ := row2 ABw2a.out.tb
  obtain ⟨r0, r1, r2, r3⟩ := row2 ABw2a.out.rs
  have y0 := (CBw2a.out.cell (p := ⟨g, 0, none⟩) hg).trans Y0.out
  have y1 := (CBw2a.out.cell (p := ⟨g, 1, none⟩) hg).trans Y1.out
  obtain ⟨nb0, nb1, _, _⟩ := row2 NB_w2a.out
  go_wp2_with fail
  go_at_call 23
  (with_reducible refine (Places_any (HT.out.below ABw2a.out.bel).nets).mono ?_)
  rintro e w3 ⟨rfl, hb⟩
  clear t0 t1 r0 r1 r2 r3 y0 y1 nb0 nb1
  have ABw3 := Lib.hid (ABw2a.out.below hb)
  have CBw3 := Lib.hid (CBw2a.out.trans (hb.mono CBw2a.out.size))
  have NB_w3 := Lib.hid (below_block hb (size_of_block NB_w2a.out) NB_w2a.out)
  clear hb
  rw [HPL.out]
  obtain ⟨t0, t1, _, _⟩ := row2 ABw3.out.tb
  obtain ⟨r0, r1, r2, r3⟩ := row2 ABw3.out.rs
  have y0 := (CBw3.out.cell (p := ⟨g, 0, none⟩) hg).trans Y0.out
  have y1 := (CBw3.out.cell (p := ⟨g, 1, none⟩) hg).trans Y1.out
  obtain ⟨nb0, nb1, _, _⟩ := row2 NB_w3.out
  have hm1000 : m.length ≤ 1000 := by have := HLEN.out; omega
  go_wp2_with fail
  go_at_call 24
  (with_reducible refine (DropFrom_any (HT.out.below ABw3.out.bel).nets (HT.out.below ABw3.out.bel).vals hm1000).mono ?_)
  intro e w4 hpost
  obtain ⟨v1, v2, rfl, ho1, ho2, hb⟩ := hpost
  obtain ⟨B, d, hv1⟩ := ho1.form
  obtain ⟨B', d', hv2⟩ := ho2.form
  subst hv1
  subst hv2
  have hlt : W.heap.size + 1 < w3.heap.size := size_of_block ABw3.out.rs
  have hNS := Lib.hid ((ho1.setCell (o := 0) hlt (.slice B (keysM (delM m ((a : Int), (k : Int)))).length d)).setCell (o := 1) hlt (.slice B' (valsM (delM m ((a : Int), (k : Int)))).length d'))
  have hVS := Lib.hid ((ho2.setCell (o := 0) hlt (.slice B (keysM (delM m ((a : Int), (k : Int)))).length d)).setCell (o := 1) hlt (.slice B' (valsM (delM m ((a : Int), (k : Int)))).length d'))
  clear ho1 ho2
  clear t0 t1 r0 r1 r2 r3 y0 y1 nb0 nb1
  have ABw4 := Lib.hid (ABw3.out.below hb)
  have CBw4 := Lib.hid (CBw3.out.trans (hb.mono CBw3.out.size))
  have NB_w4 := Lib.hid (below_block hb (size_of_block NB_w3.out) NB_w3.out)
  clear hb
  obtain ⟨t0, t1, _, _⟩ := row2 ABw4.out.tb
  obtain ⟨r0, r1, r2, r3⟩ := row2 ABw4.out.rs
  have y0 := (CBw4.out.cell (p := ⟨g, 0, none⟩) hg).trans Y0.out
  have y1 := (CBw4.out.cell (p := ⟨g, 1, none⟩) hg).trans Y1.out
  obtain ⟨nb0, nb1, _, _⟩ := row2 NB_w4.out
  have hend := ABw4.out.laid (.slice B (keysM (delM m ((a : Int), (k : Int)))).length d) (.slice B' (valsM (delM m ((a : Int), (k : Int)))).length d')
  go_wp2
  exact ans_end hend.rs rfl rfl rfl (by rw [← HPP.out]; exact ⟨_, _, _, _, _, _, rfl, ⟨hNS.out.readS fun g h1 h2 => ⟨h2, fun hb => by have := HMW.out g hb; omega⟩, hVS.out.readS fun g h1 h2 => ⟨h2, fun hb => by have := HMW.out g hb; omega⟩⟩, hend.bel⟩)
set_option maxRecDepth 100000 in
set_option maxHeartbeats 8000000 in
theorem Ans_get {W0 W1 : ByteArray} (hT : TabR M W m A n c A' n' c') (hM : ∀ b, M b → b < W.heap.size) (hd : DOk m) (hs : s.size ≤ 2097152) (hL : [W0, W1].map (·.data.toList) = segs 32 s.data.toList) (k0 : s.data.toList ≠ [108, 105, 115, 116]) (k1 : s.data.toList ≠ [99, 111, 118, 101, 114]) (k2 : W0.data.toList ≠ [102, 105, 110, 100]) (k3 : W0.data.toList ≠ [115, 117, 109]) (k4 : W0.data.toList ≠ [100, 114, 111, 112]) (k5 : W0.data.toList = [103, 101, 116]) {a k : Nat} (ha : a < 4294967296) (hnf : netF ((a : Int), (k : Int)) = 0) (hsn : W1.data.toList = netT a k) {i v : Nat} (hv : v ≤ 1073741824) (hpl : placeI ((a : Int), (k : Int)) (keysM m) 0 = (i : Int)) (hi : m[i]? = some (((a : Int), (k : Int)), (v : Int))) :
    Calls Tryz.prog 8 #[.agg #[.slice A n c, .slice A' n' c'], .string s] W (AnsPost M W (.ok (dd v), m)) := by
  have HT := Lib.hid hT
  have HOK := Lib.hid hd.ok
  have HNUM := Lib.hid hd.num
  have HLEN : Hid (m.length ≤ 64) := Lib.hid hd.ok.len
  have HL := Lib.hid hL
  have HMW := Lib.hid hM
  obtain ⟨PP, hPP⟩ : ∃ PP, AnsPost M W (.ok (dd v), m) = PP := ⟨_, rfl⟩
  have HPP := Lib.hid hPP
  rw [hPP]
  have hwsz := fun (k : Nat) (p : ByteArray) (h : [W0, W1][k]? = some p) => Nat.le_trans (piece_size hL h) hs
  have hw0 : W0.size ≤ 2097152 := hwsz 0 W0 rfl
  have hw1 : W1.size ≤ 2097152 := hwsz 1 W1 rfl
  clear hT hM hd hL hPP hwsz
  have q0 : (s.toList == [108, 105, 115, 116]) = false := by rw [ByteArray.toList_eq]; simpa using k0
  have q1 : (s.toList == [99, 111, 118, 101, 114]) = false := by rw [ByteArray.toList_eq]; simpa using k1
  have q2 : (W0.toList == [102, 105, 110, 100]) = false := by rw [ByteArray.toList_eq]; simpa using k2
  have q3 : (W0.toList == [115, 117, 109]) = false := by rw [ByteArray.toList_eq]; simpa using k3
  have q4 : (W0.toList == [100, 114, 111, 112]) = false := by rw [ByteArray.toList_eq]; simpa using k4
  have q5 : (W0.toList == [103, 101, 116]) = true := by rw [ByteArray.toList_eq]; simpa using k5
  clear k0 k1 k2 k3 k4 k5
  go_enter Tryz.func8, Tryz.ntmps8
  go_wp2_with fail
  go_at_call 7
  (with_reducible refine (RCut_c s 32 32 rfl _ hs).mono ?_)
  rintro e w1 ⟨L', g, cap, hL', rfl, hcs, hg, hb⟩
  obtain rfl : L' = [W0, W1] := list_bytes (hL'.trans HL.out.symm)
  have ABw1 := Lib.hid ((AB.start W A n c A' n' c').below hb)
  have CBw1 : Hid (Below w1.heap.size w1 w1) := Lib.hid (Below.refl _ _)
  have Y0 : Hid (w1.cell? ⟨g, 0, none⟩ = some (.string W0)) := Lib.hid (hcs 0 _ rfl)
  have Y1 : Hid (w1.cell? ⟨g, 1, none⟩ = some (.string W1)) := Lib.hid (hcs 1 _ rfl)
  clear hcs hb hL'
  obtain ⟨t0, t1, _, _⟩ := row2 ABw1.out.tb
  obtain ⟨r0, r1, r2, r3⟩ := row2 ABw1.out.rs
  have y0 := (CBw1.out.cell (p := ⟨g, 0, none⟩) hg).trans Y0.out
  have y1 := (CBw1.out.cell (p := ⟨g, 1, none⟩) hg).trans Y1.out
  rw [show ([W0, W1] : List ByteArray).length = 2 from rfl]
  have HPL := Lib.hid hpl
  have HMI := Lib.hid hi
  clear hpl hi
  have HN := Lib.hid hnf
  have HSN := Lib.hid hsn
  have HI : Hid (is32 (a : Int)) := Lib.hid ⟨by omega, by omega⟩
  clear hnf hsn
  go_wp2_with fail
  go_at_call 22
  (with_reducible refine (NetOf_yes a k W1 _ hw1 ha HN.out HSN.out).mono ?_)
  rintro e w2 ⟨rfl, hb⟩
  clear t0 t1 r0 r1 r2 r3 y0 y1
  have ABw2 := Lib.hid (ABw1.out.below hb)
  have CBw2 := Lib.hid (CBw1.out.trans (hb.mono CBw1.out.size))
  clear hb
  obtain ⟨t0, t1, _, _⟩ := row2 ABw2.out.tb
  obtain ⟨r0, r1, r2, r3⟩ := row2 ABw2.out.rs
  have y0 := (CBw2.out.cell (p := ⟨g, 0, none⟩) hg).trans Y0.out
  have y1 := (CBw2.out.cell (p := ⟨g, 1, none⟩) hg).trans Y1.out
  clear t0 t1 r0 r1 r2 r3 y0 y1
  have hba := below_1 w2 (.cells #[.int .u32 (a : Int), .int .i64 (k : Int)] 47)
  have ABw2a := Lib.hid (ABw2.out.below hba)
  have CBw2a := Lib.hid (CBw2.out.trans (hba.mono CBw2.out.size))
  have NB_w2a := Lib.hid (heap_alloc_new w2 (.cells #[.int .u32 (a : Int), .int .i64 (k : Int)] 47))
  clear hba
  obtain ⟨t0, t1, _, _⟩ := row2 ABw2a.out.tb
  obtain ⟨r0, r1, r2, r3⟩ := row2 ABw2a.out.rs
  have y0 := (CBw2a.out.cell (p := ⟨g, 0, none⟩) hg).trans Y0.out
  have y1 := (CBw2a.out.cell (p := ⟨g, 1, none⟩) hg).trans Y1.out
  obtain ⟨nb0, nb1, _, _⟩ := row2 NB_w2a.out
  go_wp2_with fail
  go_at_call 23
  (with_reducible refine (Places_any (HT.out.below ABw2a.out.bel).nets).mono ?_)
  rintro e w3 ⟨rfl, hb⟩
  clear t0 t1 r0 r1 r2 r3 y0 y1 nb0 nb1
  have ABw3 := Lib.hid (ABw2a.out.below hb)
  have CBw3 := Lib.hid (CBw2a.out.trans (hb.mono CBw2a.out.size))
  have NB_w3 := Lib.hid (below_block hb (size_of_block NB_w2a.out) NB_w2a.out)
  clear hb
  rw [HPL.out]
  obtain ⟨t0, t1, _, _⟩ := row2 ABw3.out.tb
  obtain ⟨r0, r1, r2, r3⟩ := row2 ABw3.out.rs
  have y0 := (CBw3.out.cell (p := ⟨g, 0, none⟩) hg).trans Y0.out
  have y1 := (CBw3.out.cell (p := ⟨g, 1, none⟩) hg).trans Y1.out
  obtain ⟨nb0, nb1, _, _⟩ := row2 NB_w3.out
  have hln := (RdSlice.len HT.out.nets).1
  have hlv := (RdSlice.len HT.out.vals).1
  have him : i < m.length := (List.getElem?_eq_some_iff.1 HMI.out).1
  have hin : i < n := by rw [hln]; unfold keysM; rw [List.length_map]; exact him
  have hiv : i < n' := by rw [hlv]; unfold valsM; rw [List.length_map]; exact him
  have hkv := keys_at HMI.out
  obtain ⟨bv, ov, z, hA', hbv, HZZ, _, cv0⟩ := RdSlice.atI HT.out.vals hiv
  have ezz : z = (v : Int) := Option.some.inj (HZZ.out.symm.trans hkv.2)
  subst ezz
  subst hA'
  have i0 : (0 : Int) ≤ (i : Int) := by omega
  have i1 : (i : Int) < (n : Int) := by omega
  have i2 : (i : Int) < (n' : Int) := by omega
  have i3 : ¬ (i : Int) < 0 := by omega
  have HCV0 := Lib.hid cv0
  clear cv0 hln hlv hkv HZZ him
  clear t0 t1 r0 r1 r2 r3 y0 y1 nb0 nb1
  obtain ⟨t0, t1, _, _⟩ := row2 ABw3.out.tb
  obtain ⟨r0, r1, r2, r3⟩ := row2 ABw3.out.rs
  have y0 := (CBw3.out.cell (p := ⟨g, 0, none⟩) hg).trans Y0.out
  have y1 := (CBw3.out.cell (p := ⟨g, 1, none⟩) hg).trans Y1.out
  obtain ⟨nb0, nb1, _, _⟩ := row2 NB_w3.out
  have x2 := (ABw3.out.bel.cell (p := ⟨bv, ov + i, none⟩) hbv).trans HCV0.out
  go_wp2
  refine wp_region_noPanic ?_
  refine wp_region_held_drew (S := (fun w' => w'.cell? ⟨W.heap.size, 0, none⟩ = some (.slice A n c) ∧ w'.cell? ⟨W.heap.size, 1, none⟩ = some (.slice (some ⟨bv, ov, none⟩) n' c') ∧ w'.cell? ⟨bv, ov + i, none⟩ = some (.int .i64 (v : Int)))) (by kernel_rfl) (by go_keep) (fun hHeld => ?_)
  generalize hud : w3.drew = u1 at *
  have hb : Below w3.heap.size w3 u1 := by rw [← hud]; exact below_drewN (Below.refl _ _) 1
  clear t0 t1 r0 r1 r2 r3 y0 y1 nb0 nb1 x2
  have ABu1 := Lib.hid (ABw3.out.below hb)
  have CBu1 := Lib.hid (CBw3.out.trans (hb.mono CBw3.out.size))
  have NB_u1 := Lib.hid (below_block hb (size_of_block NB_w3.out) NB_w3.out)
  clear hb
  clear hud
  obtain ⟨t0, t1, _, _⟩ := row2 ABu1.out.tb
  obtain ⟨r0, r1, r2, r3⟩ := row2 ABu1.out.rs
  have y0 := (CBu1.out.cell (p := ⟨g, 0, none⟩) hg).trans Y0.out
  have y1 := (CBu1.out.cell (p := ⟨g, 1, none⟩) hg).trans Y1.out
  obtain ⟨nb0, nb1, _, _⟩ := row2 NB_u1.out
  have x2 := (ABu1.out.bel.cell (p := ⟨bv, ov + i, none⟩) hbv).trans HCV0.out
  refine' wpAnyH_take (i := 0) ?hit2 ?hst2 ?hft2 ?hrt2 ?hQt2 ?hyt2 ?hSt2 ?ht2
  case hit2 => (simp only [List.getElem?_toArray, List.getElem?_cons_succ, List.getElem?_cons_zero]; exact rfl)
  case hst2 => kernel_rfl
  case hft2 => kernel_rfl
  case hrt2 => kernel_rfl
  case hQt2 => exact fun _ _ _ h => h
  case hyt2 => (first | (refine Or.inr ⟨by rfl, ?_⟩; rfl) | (refine Or.inl ⟨by rfl, ?_⟩; (intro w hSw; (try dsimp only at hSw); go_simp); try with_reducible rfl))
  case hSt2 => assumption
  try simp only [Act.put, List.setIfInBounds_toArray, List.set_cons_zero, List.set_cons_succ]
  refine' wpAnyH_take (i := 1) ?hit3 ?hst3 ?hft3 ?hrt3 ?hQt3 ?hyt3 ?hSt3 ?ht3
  case hit3 => (simp only [List.getElem?_toArray, List.getElem?_cons_succ, List.getElem?_cons_zero]; exact rfl)
  case hst3 => kernel_rfl
  case hft3 => kernel_rfl
  case hrt3 => kernel_rfl
  case hQt3 => exact fun _ _ _ h => h
  case hyt3 => (first | (refine Or.inr ⟨by rfl, ?_⟩; rfl) | (refine Or.inl ⟨by rfl, ?_⟩; (intro w hSw; (try dsimp only at hSw); go_simp); try with_reducible rfl))
  case hSt3 => assumption
  try simp only [Act.put, List.setIfInBounds_toArray, List.set_cons_zero, List.set_cons_succ]
  refine' wpAnyH_take (i := 2) ?hit4 ?hst4 ?hft4 ?hrt4 ?hQt4 ?hyt4 ?hSt4 ?ht4
  case hit4 => (simp only [List.getElem?_toArray, List.getElem?_cons_succ, List.getElem?_cons_zero]; exact rfl)
  case hst4 => kernel_rfl
  case hft4 => kernel_rfl
  case hrt4 => kernel_rfl
  case hQt4 => exact fun _ _ _ h => h
  case hyt4 => (first | (refine Or.inr ⟨by rfl, ?_⟩; rfl) | (refine Or.inl ⟨by rfl, ?_⟩; (intro w hSw; (try dsimp only at hSw); go_simp); try with_reducible rfl))
  case hSt4 => assumption
  try simp only [Act.put, List.setIfInBounds_toArray, List.set_cons_zero, List.set_cons_succ]
  refine' wpAnyH_take (i := 3) ?hit5 ?hst5 ?hft5 ?hrt5 ?hQt5 ?hyt5 ?hSt5 ?ht5
  case hit5 => (simp only [List.getElem?_toArray, List.getElem?_cons_succ, List.getElem?_cons_zero]; exact rfl)
  case hst5 => kernel_rfl
  case hft5 => kernel_rfl
  case hrt5 => kernel_rfl
  case hQt5 => exact fun _ _ _ h => h
  case hyt5 => (first | (refine Or.inr ⟨by rfl, ?_⟩; rfl) | (refine Or.inl ⟨by rfl, ?_⟩; (intro w hSw; (try dsimp only at hSw); go_simp); try with_reducible rfl))
  case hSt5 => assumption
  try simp only [Act.put, List.setIfInBounds_toArray, List.set_cons_zero, List.set_cons_succ]
  refine' wpAnyH_take (i := 4) ?hit6 ?hst6 ?hft6 ?hrt6 ?hQt6 ?hyt6 ?hSt6 ?ht6
  case hit6 => (simp only [List.getElem?_toArray, List.getElem?_cons_succ, List.getElem?_cons_zero]; exact rfl)
  case hst6 => kernel_rfl
  case hft6 => kernel_rfl
  case hrt6 => kernel_rfl
  case hQt6 => exact fun _ _ _ h => h
  case hyt6 => (first | (refine Or.inr ⟨by rfl, ?_⟩; rfl) | (refine Or.inl ⟨by rfl, ?_⟩; (intro w hSw; (try dsimp only at hSw); go_simp); try with_reducible rfl))
  case hSt6 => assumption
  try simp only [Act.put, List.setIfInBounds_toArray, List.set_cons_zero, List.set_cons_succ]
  refine' wpAnyH_take (i := 5) ?hit7 ?hst7 ?hft7 ?hrt7 ?hQt7 ?hyt7 ?hSt7 ?ht7
  case hit7 => (simp only [List.getElem?_toArray, List.getElem?_cons_succ, List.getElem?_cons_zero]; exact rfl)
  case hst7 => kernel_rfl
  case hft7 => kernel_rfl
  case hrt7 => kernel_rfl
  case hQt7 => exact fun _ _ _ h => h
  case hyt7 => (first | (refine Or.inr ⟨by rfl, ?_⟩; rfl) | (refine Or.inl ⟨by rfl, ?_⟩; (intro w hSw; (try dsimp only at hSw); go_simp); try with_reducible rfl))
  case hSt7 => assumption
  try simp only [Act.put, List.setIfInBounds_toArray, List.set_cons_zero, List.set_cons_succ]
  refine wpAnyH_ready (rs := [6]) (by kernel_rfl) (by simp) ?_
  refine' AllReadyH.cons ?hi8 (fun K hK => ?hg8) AllReadyH.nil
  case hi8 => (simp only [List.getElem?_toArray, List.getElem?_cons_succ, List.getElem?_cons_zero]; exact rfl)
  go_simp
  go_at_call 17
  (with_reducible refine (Digits_n v v _ (Nat.le_refl _) (by omega)).mono ?_)
  rintro e w4 ⟨rfl, hb⟩
  clear t0 t1 r0 r1 r2 r3 y0 y1 nb0 nb1 x2
  have ABw4 := Lib.hid (ABu1.out.below hb)
  have CBw4 := Lib.hid (CBu1.out.trans (hb.mono CBu1.out.size))
  have NB_w4 := Lib.hid (below_block hb (size_of_block NB_u1.out) NB_u1.out)
  clear hb
  obtain ⟨t0, t1, _, _⟩ := row2 ABw4.out.tb
  obtain ⟨r0, r1, r2, r3⟩ := row2 ABw4.out.rs
  have y0 := (CBw4.out.cell (p := ⟨g, 0, none⟩) hg).trans Y0.out
  have y1 := (CBw4.out.cell (p := ⟨g, 1, none⟩) hg).trans Y1.out
  obtain ⟨nb0, nb1, _, _⟩ := row2 NB_w4.out
  have x2 := (ABw4.out.bel.cell (p := ⟨bv, ov + i, none⟩) hbv).trans HCV0.out
  refine hK.out _ _ (by go_keep) (fun hHeld => ?_)
  clear hK K
  refine wpAnyH_ready (rs := [7]) (by kernel_rfl) (by simp) ?_
  refine' AllReadyH.cons ?hi9 (fun K hK => ?hg9) AllReadyH.nil
  case hi9 => (simp only [List.getElem?_toArray, List.getElem?_cons_succ, List.getElem?_cons_zero]; exact rfl)
  go_simp
  have hend := ABw4.out.laid (.slice A n c) (.slice (some ⟨bv, ov, none⟩) n' c')
  generalize hsw : ((w4.setCell ⟨W.heap.size + 1, 0, none⟩ (.slice A n c)).setCell ⟨W.heap.size + 1, 1, none⟩ (.slice (some ⟨bv, ov, none⟩) n' c')) = s10 at *
  clear hsw
  clear t0 t1 r0 r1 r2 r3 y0 y1 nb0 nb1 x2
  obtain ⟨t0, t1, _, _⟩ := row2 hend.tb
  have xx2 := (hend.bel.cell (p := ⟨bv, ov + i, none⟩) hbv).trans HCV0.out
  refine hK.out _ _ (by go_keep) (fun hHeld => ?_)
  clear hK K
  refine' wpAnyH_take (i := 8) ?hit11 ?hst11 ?hft11 ?hrt11 ?hQt11 ?hyt11 ?hSt11 ?ht11
  case hit11 => (simp only [List.getElem?_toArray, List.getElem?_cons_succ, List.getElem?_cons_zero]; exact rfl)
  case hst11 => kernel_rfl
  case hft11 => kernel_rfl
  case hrt11 => kernel_rfl
  case hQt11 => exact fun _ _ _ h => h
  case hyt11 => (first | (refine Or.inr ⟨by rfl, ?_⟩; rfl) | (refine Or.inl ⟨by rfl, ?_⟩; (intro w hSw; (try dsimp only at hSw); go_simp); try with_reducible rfl))
  case hSt11 => assumption
  try simp only [Act.put, List.setIfInBounds_toArray, List.set_cons_zero, List.set_cons_succ]
  refine wpAnyH_done (by kernel_rfl) ?_ _
  refine NoPanic.normal ?_
  clear hHeld
  go_wp2
  exact ans_end hend.rs rfl rfl rfl (by rw [← HPP.out]; exact AnsPost.same hend HT.out)
set_option maxRecDepth 100000 in
set_option maxHeartbeats 8000000 in
theorem Ans_oth2 {W0 W1 : ByteArray} (hT : TabR M W m A n c A' n' c') (hM : ∀ b, M b → b < W.heap.size) (hd : DOk m) (hs : s.size ≤ 2097152) (hL : [W0, W1].map (·.data.toList) = segs 32 s.data.toList) (k0 : s.data.toList ≠ [108, 105, 115, 116]) (k1 : s.data.toList ≠ [99, 111, 118, 101, 114]) (k2 : W0.data.toList ≠ [102, 105, 110, 100]) (k3 : W0.data.toList ≠ [115, 117, 109]) (k4 : W0.data.toList ≠ [100, 114, 111, 112]) (k5 : W0.data.toList ≠ [103, 101, 116]) {a k : Nat} (ha : a < 4294967296) (hnf : netF ((a : Int), (k : Int)) = 0) (hsn : W1.data.toList = netT a k) :
    Calls Tryz.prog 8 #[.agg #[.slice A n c, .slice A' n' c'], .string s] W (AnsPost M W (.error 7, m)) := by
  have HT := Lib.hid hT
  have HOK := Lib.hid hd.ok
  have HNUM := Lib.hid hd.num
  have HLEN : Hid (m.length ≤ 64) := Lib.hid hd.ok.len
  have HL := Lib.hid hL
  have HMW := Lib.hid hM
  obtain ⟨PP, hPP⟩ : ∃ PP, AnsPost M W (.error 7, m) = PP := ⟨_, rfl⟩
  have HPP := Lib.hid hPP
  rw [hPP]
  have hwsz := fun (k : Nat) (p : ByteArray) (h : [W0, W1][k]? = some p) => Nat.le_trans (piece_size hL h) hs
  have hw0 : W0.size ≤ 2097152 := hwsz 0 W0 rfl
  have hw1 : W1.size ≤ 2097152 := hwsz 1 W1 rfl
  clear hT hM hd hL hPP hwsz
  have q0 : (s.toList == [108, 105, 115, 116]) = false := by rw [ByteArray.toList_eq]; simpa using k0
  have q1 : (s.toList == [99, 111, 118, 101, 114]) = false := by rw [ByteArray.toList_eq]; simpa using k1
  have q2 : (W0.toList == [102, 105, 110, 100]) = false := by rw [ByteArray.toList_eq]; simpa using k2
  have q3 : (W0.toList == [115, 117, 109]) = false := by rw [ByteArray.toList_eq]; simpa using k3
  have q4 : (W0.toList == [100, 114, 111, 112]) = false := by rw [ByteArray.toList_eq]; simpa using k4
  have q5 : (W0.toList == [103, 101, 116]) = false := by rw [ByteArray.toList_eq]; simpa using k5
  clear k0 k1 k2 k3 k4 k5
  go_enter Tryz.func8, Tryz.ntmps8
  go_wp2_with fail
  go_at_call 7
  (with_reducible refine (RCut_c s 32 32 rfl _ hs).mono ?_)
  rintro e w1 ⟨L', g, cap, hL', rfl, hcs, hg, hb⟩
  obtain rfl : L' = [W0, W1] := list_bytes (hL'.trans HL.out.symm)
  have ABw1 := Lib.hid ((AB.start W A n c A' n' c').below hb)
  have CBw1 : Hid (Below w1.heap.size w1 w1) := Lib.hid (Below.refl _ _)
  have Y0 : Hid (w1.cell? ⟨g, 0, none⟩ = some (.string W0)) := Lib.hid (hcs 0 _ rfl)
  have Y1 : Hid (w1.cell? ⟨g, 1, none⟩ = some (.string W1)) := Lib.hid (hcs 1 _ rfl)
  clear hcs hb hL'
  obtain ⟨t0, t1, _, _⟩ := row2 ABw1.out.tb
  obtain ⟨r0, r1, r2, r3⟩ := row2 ABw1.out.rs
  have y0 := (CBw1.out.cell (p := ⟨g, 0, none⟩) hg).trans Y0.out
  have y1 := (CBw1.out.cell (p := ⟨g, 1, none⟩) hg).trans Y1.out
  rw [show ([W0, W1] : List ByteArray).length = 2 from rfl]
  obtain ⟨r, hpl⟩ : ∃ r, placeI ((a : Int), (k : Int)) (keysM m) 0 = r := ⟨_, rfl⟩
  have HPL := Lib.hid hpl
  clear hpl
  have HN := Lib.hid hnf
  have HSN := Lib.hid hsn
  have HI : Hid (is32 (a : Int)) := Lib.hid ⟨by omega, by omega⟩
  clear hnf hsn
  go_wp2_with fail
  go_at_call 22
  (with_reducible refine (NetOf_yes a k W1 _ hw1 ha HN.out HSN.out).mono ?_)
  rintro e w2 ⟨rfl, hb⟩
  clear t0 t1 r0 r1 r2 r3 y0 y1
  have ABw2 := Lib.hid (ABw1.out.below hb)
  have CBw2 := Lib.hid (CBw1.out.trans (hb.mono CBw1.out.size))
  clear hb
  obtain ⟨t0, t1, _, _⟩ := row2 ABw2.out.tb
  obtain ⟨r0, r1, r2, r3⟩ := row2 ABw2.out.rs
  have y0 := (CBw2.out.cell (p := ⟨g, 0, none⟩) hg).trans Y0.out
  have y1 := (CBw2.out.cell (p := ⟨g, 1, none⟩) hg).trans Y1.out
  clear t0 t1 r0 r1 r2 r3 y0 y1
  have hba := below_1 w2 (.cells #[.int .u32 (a : Int), .int .i64 (k : Int)] 47)
  have ABw2a := Lib.hid (ABw2.out.below hba)
  have CBw2a := Lib.hid (CBw2.out.trans (hba.mono CBw2.out.size))
  have NB_w2a := Lib.hid (heap_alloc_new w2 (.cells #[.int .u32 (a : Int), .int .i64 (k : Int)] 47))
  clear hba
  obtain ⟨t0, t1, _, _⟩ := row2 ABw2a.out.tb
  obtain ⟨r0, r1, r2, r3⟩ := row2 ABw2a.out.rs
  have y0 := (CBw2a.out.cell (p := ⟨g, 0, none⟩) hg).trans Y0.out
  have y1 := (CBw2a.out.cell (p := ⟨g, 1, none⟩) hg).trans Y1.out
  obtain ⟨nb0, nb1, _, _⟩ := row2 NB_w2a.out
  go_wp2_with fail
  go_at_call 23
  (with_reducible refine (Places_any (HT.out.below ABw2a.out.bel).nets).mono ?_)
  rintro e w3 ⟨rfl, hb⟩
  clear t0 t1 r0 r1 r2 r3 y0 y1 nb0 nb1
  have ABw3 := Lib.hid (ABw2a.out.below hb)
  have CBw3 := Lib.hid (CBw2a.out.trans (hb.mono CBw2a.out.size))
  have NB_w3 := Lib.hid (below_block hb (size_of_block NB_w2a.out) NB_w2a.out)
  clear hb
  rw [HPL.out]
  obtain ⟨t0, t1, _, _⟩ := row2 ABw3.out.tb
  obtain ⟨r0, r1, r2, r3⟩ := row2 ABw3.out.rs
  have y0 := (CBw3.out.cell (p := ⟨g, 0, none⟩) hg).trans Y0.out
  have y1 := (CBw3.out.cell (p := ⟨g, 1, none⟩) hg).trans Y1.out
  obtain ⟨nb0, nb1, _, _⟩ := row2 NB_w3.out
  go_wp2
  have hend := (ABw3.out.laid (.slice A n c) (.slice A' n' c'))
  exact ans_end hend.rs rfl rfl rfl (by rw [← HPP.out]; exact AnsPost.same hend HT.out)
set_option maxRecDepth 100000 in
set_option maxHeartbeats 8000000 in
theorem Ans_many {W0 W1 W2 W3 : ByteArray} {r : List ByteArray} (hT : TabR M W m A n c A' n' c') (hM : ∀ b, M b → b < W.heap.size) (hd : DOk m) (hs : s.size ≤ 2097152) (hL : (W0 :: W1 :: W2 :: W3 :: r).map (·.data.toList) = segs 32 s.data.toList) (k0 : s.data.toList ≠ [108, 105, 115, 116]) (k1 : s.data.toList ≠ [99, 111, 118, 101, 114]) {a k : Nat} (ha : a < 4294967296) (hnf : netF ((a : Int), (k : Int)) = 0) (hsn : W1.data.toList = netT a k) :
    Calls Tryz.prog 8 #[.agg #[.slice A n c, .slice A' n' c'], .string s] W (AnsPost M W (.error 7, m)) := by
  have HT := Lib.hid hT
  have HOK := Lib.hid hd.ok
  have HNUM := Lib.hid hd.num
  have HLEN : Hid (m.length ≤ 64) := Lib.hid hd.ok.len
  have HL := Lib.hid hL
  have HMW := Lib.hid hM
  obtain ⟨PP, hPP⟩ : ∃ PP, AnsPost M W (.error 7, m) = PP := ⟨_, rfl⟩
  have HPP := Lib.hid hPP
  rw [hPP]
  have hwsz := fun (k : Nat) (p : ByteArray) (h : (W0 :: W1 :: W2 :: W3 :: r)[k]? = some p) => Nat.le_trans (piece_size hL h) hs
  have hw0 : W0.size ≤ 2097152 := hwsz 0 W0 rfl
  have hw1 : W1.size ≤ 2097152 := hwsz 1 W1 rfl
  have hw2 : W2.size ≤ 2097152 := hwsz 2 W2 rfl
  have hw3 : W3.size ≤ 2097152 := hwsz 3 W3 rfl
  clear hT hM hd hL hPP hwsz
  have q0 : (s.toList == [108, 105, 115, 116]) = false := by rw [ByteArray.toList_eq]; simpa using k0
  have q1 : (s.toList == [99, 111, 118, 101, 114]) = false := by rw [ByteArray.toList_eq]; simpa using k1
  clear k0 k1
  go_enter Tryz.func8, Tryz.ntmps8
  go_wp2_with fail
  go_at_call 7
  (with_reducible refine (RCut_c s 32 32 rfl _ hs).mono ?_)
  rintro e w1 ⟨L', g, cap, hL', rfl, hcs, hg, hb⟩
  obtain rfl : L' = (W0 :: W1 :: W2 :: W3 :: r) := list_bytes (hL'.trans HL.out.symm)
  have ABw1 := Lib.hid ((AB.start W A n c A' n' c').below hb)
  have CBw1 : Hid (Below w1.heap.size w1 w1) := Lib.hid (Below.refl _ _)
  have Y0 : Hid (w1.cell? ⟨g, 0, none⟩ = some (.string W0)) := Lib.hid (hcs 0 _ rfl)
  have Y1 : Hid (w1.cell? ⟨g, 1, none⟩ = some (.string W1)) := Lib.hid (hcs 1 _ rfl)
  have Y2 : Hid (w1.cell? ⟨g, 2, none⟩ = some (.string W2)) := Lib.hid (hcs 2 _ rfl)
  have Y3 : Hid (w1.cell? ⟨g, 3, none⟩ = some (.string W3)) := Lib.hid (hcs 3 _ rfl)
  clear hcs hb hL'
  obtain ⟨t0, t1, _, _⟩ := row2 ABw1.out.tb
  obtain ⟨r0, r1, r2, r3⟩ := row2 ABw1.out.rs
  have y0 := (CBw1.out.cell (p := ⟨g, 0, none⟩) hg).trans Y0.out
  have y1 := (CBw1.out.cell (p := ⟨g, 1, none⟩) hg).trans Y1.out
  have y2 := (CBw1.out.cell (p := ⟨g, 2, none⟩) hg).trans Y2.out
  have y3 := (CBw1.out.cell (p := ⟨g, 3, none⟩) hg).trans Y3.out
  obtain ⟨N, hN⟩ : ∃ N, ((W0 :: W1 :: W2 :: W3 :: r)).length = N := ⟨_, rfl⟩
  rw [hN]
  have hN4 : 4 ≤ N := by rw [← hN]; simp
  have HNN := Lib.hid hN
  clear hN
  have e2 : ((N : Int) == 2) = false := beq_eq_false_iff_ne.2 (by omega)
  have e3 : ¬ (N : Int) < 2 := by omega
  have e4 : ((N : Int) != 3) = true := by simpa using (by omega : (N : Int) ≠ 3)
  obtain ⟨r, hpl⟩ : ∃ r, placeI ((a : Int), (k : Int)) (keysM m) 0 = r := ⟨_, rfl⟩
  have HPL := Lib.hid hpl
  clear hpl
  have HN := Lib.hid hnf
  have HSN := Lib.hid hsn
  have HI : Hid (is32 (a : Int)) := Lib.hid ⟨by omega, by omega⟩
  clear hnf hsn
  go_wp2_with fail
  go_at_call 22
  (with_reducible refine (NetOf_yes a k W1 _ hw1 ha HN.out HSN.out).mono ?_)
  rintro e w2 ⟨rfl, hb⟩
  clear t0 t1 r0 r1 r2 r3 y0 y1 y2 y3
  have ABw2 := Lib.hid (ABw1.out.below hb)
  have CBw2 := Lib.hid (CBw1.out.trans (hb.mono CBw1.out.size))
  clear hb
  obtain ⟨t0, t1, _, _⟩ := row2 ABw2.out.tb
  obtain ⟨r0, r1, r2, r3⟩ := row2 ABw2.out.rs
  have y0 := (CBw2.out.cell (p := ⟨g, 0, none⟩) hg).trans Y0.out
  have y1 := (CBw2.out.cell (p := ⟨g, 1, none⟩) hg).trans Y1.out
  have y2 := (CBw2.out.cell (p := ⟨g, 2, none⟩) hg).trans Y2.out
  have y3 := (CBw2.out.cell (p := ⟨g, 3, none⟩) hg).trans Y3.out
  clear t0 t1 r0 r1 r2 r3 y0 y1 y2 y3
  have hba := below_1 w2 (.cells #[.int .u32 (a : Int), .int .i64 (k : Int)] 47)
  have ABw2a := Lib.hid (ABw2.out.below hba)
  have CBw2a := Lib.hid (CBw2.out.trans (hba.mono CBw2.out.size))
  have NB_w2a := Lib.hid (heap_alloc_new w2 (.cells #[.int .u32 (a : Int), .int .i64 (k : Int)] 47))
  clear hba
  obtain ⟨t0, t1, _, _⟩ := row2 ABw2a.out.tb
  obtain ⟨r0, r1, r2, r3⟩ := row2 ABw2a.out.rs
  have y0 := (CBw2a.out.cell (p := ⟨g, 0, none⟩) hg).trans Y0.out
  have y1 := (CBw2a.out.cell (p := ⟨g, 1, none⟩) hg).trans Y1.out
  have y2 := (CBw2a.out.cell (p := ⟨g, 2, none⟩) hg).trans Y2.out
  have y3 := (CBw2a.out.cell (p := ⟨g, 3, none⟩) hg).trans Y3.out
  obtain ⟨nb0, nb1, _, _⟩ := row2 NB_w2a.out
  go_wp2_with fail
  go_at_call 23
  (with_reducible refine (Places_any (HT.out.below ABw2a.out.bel).nets).mono ?_)
  rintro e w3 ⟨rfl, hb⟩
  clear t0 t1 r0 r1 r2 r3 y0 y1 y2 y3 nb0 nb1
  have ABw3 := Lib.hid (ABw2a.out.below hb)
  have CBw3 := Lib.hid (CBw2a.out.trans (hb.mono CBw2a.out.size))
  have NB_w3 := Lib.hid (below_block hb (size_of_block NB_w2a.out) NB_w2a.out)
  clear hb
  rw [HPL.out]
  obtain ⟨t0, t1, _, _⟩ := row2 ABw3.out.tb
  obtain ⟨r0, r1, r2, r3⟩ := row2 ABw3.out.rs
  have y0 := (CBw3.out.cell (p := ⟨g, 0, none⟩) hg).trans Y0.out
  have y1 := (CBw3.out.cell (p := ⟨g, 1, none⟩) hg).trans Y1.out
  have y2 := (CBw3.out.cell (p := ⟨g, 2, none⟩) hg).trans Y2.out
  have y3 := (CBw3.out.cell (p := ⟨g, 3, none⟩) hg).trans Y3.out
  obtain ⟨nb0, nb1, _, _⟩ := row2 NB_w3.out
  go_wp2
  have hend := (ABw3.out.laid (.slice A n c) (.slice A' n' c'))
  exact ans_end hend.rs rfl rfl rfl (by rw [← HPP.out]; exact AnsPost.same hend HT.out)
end
end Go.Proofs.YtgdlkjahlajcpaaGreatDoor
