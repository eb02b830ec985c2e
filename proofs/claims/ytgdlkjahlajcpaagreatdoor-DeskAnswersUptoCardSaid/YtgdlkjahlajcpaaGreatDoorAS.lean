/- The ways of the reference's Answered, 3. -/
import Derived.Test.YtgdlkjahlajcpaaGreatDoorAP
namespace Go.Proofs.YtgdlkjahlajcpaaGreatDoor
open Go.ChangeShapes Go.WideShapes Go.ChangeAt Go.RowKit
set_option linter.unusedVariables false
set_option linter.unusedSimpArgs false
section
variable {M : Nat → Prop} {W : World} {m : Tab} {A A' : Option Addr} {n c n' c' : Nat} {s : ByteArray} {L : List ByteArray}
set_option maxRecDepth 100000 in
set_option maxHeartbeats 8000000 in
theorem Ans_combad {W0 W1 W2 : ByteArray} (hT : TabR M W m A n c A' n' c') (hM : ∀ b, M b → b < W.heap.size) (hd : DOk m) (hs : s.size ≤ 2097152) (hL : [W0, W1, W2].map (·.data.toList) = segs 32 s.data.toList) (k0 : s.data.toList ≠ [108, 105, 115, 116]) (k1 : s.data.toList ≠ [99, 111, 118, 101, 114]) (k2 : W0.data.toList = [99, 111, 109, 109, 111, 110]) {a k : Nat} (ha : a < 4294967296) (hnf : netF ((a : Int), (k : Int)) = 0) (hsn : W1.data.toList = netT a k) (hno : ∀ a k : Nat, a < 4294967296 → netF ((a : Int), (k : Int)) = 0 → W2.data.toList ≠ netT a k) :
    Calls Tryz.prog 8 #[.agg #[.slice A n c, .slice A' n' c'], .string s] W (AnsPost M W (.error 7, m)) := by
  have HT := Lib.hid hT
  have HOK := Lib.hid hd.ok
  have HNUM := Lib.hid hd.num
  have HLEN : Hid (m.length ≤ 64) := Lib.hid hd.ok.len
  have HL := Lib.hid hL
  have HMW := Lib.hid hM
  obtain ⟨PP, hPP⟩ : ∃ PP, AnsPost M W (.error 7, m) = PP := ⟨_, rfl⟩
  have HPP := Lib.hid hPP
  rw [hPP]
  have hwsz := fun (k : Nat) (p : ByteArray) (h : [W0, W1, W2][k]? = some p) => Nat.le_trans (piece_size hL h) hs
  have hw0 : W0.size ≤ 2097152 := hwsz 0 W0 rfl
  have hw1 : W1.size ≤ 2097152 := hwsz 1 W1 rfl
  have hw2 : W2.size ≤ 2097152 := hwsz 2 W2 rfl
  clear hT hM hd hL hPP hwsz
  have q0 : (s.toList == [108, 105, 115, 116]) = false := by rw [ByteArray.toList_eq]; simpa using k0
  have q1 : (s.toList == [99, 111, 118, 101, 114]) = false := by rw [ByteArray.toList_eq]; simpa using k1
  have q2 : (W0.toList == [99, 111, 109, 109, 111, 110]) = true := by rw [ByteArray.toList_eq]; simpa using k2
  clear k0 k1 k2
  go_enter Tryz.func8, Tryz.ntmps8
  go_wp2_with fail
  go_at_call 7
  (with_reducible refine (RCut_c s 32 32 rfl _ hs).mono ?_)
  rintro e w1 ⟨L', g, cap, hL', rfl, hcs, hg, hb⟩
  obtain rfl : L' = [W0, W1, W2] := list_bytes (hL'.trans HL.out.symm)
  have ABw1 := Lib.hid ((AB.start W A n c A' n' c').below hb)
  have CBw1 : Hid (Below w1.heap.size w1 w1) := Lib.hid (Below.refl _ _)
  have Y0 : Hid (w1.cell? ⟨g, 0, none⟩ = some (.string W0)) := Lib.hid (hcs 0 _ rfl)
  have Y1 : Hid (w1.cell? ⟨g, 1, none⟩ = some (.string W1)) := Lib.hid (hcs 1 _ rfl)
  have Y2 : Hid (w1.cell? ⟨g, 2, none⟩ = some (.string W2)) := Lib.hid (hcs 2 _ rfl)
  clear hcs hb hL'
  obtain ⟨t0, t1, _, _⟩ := row2 ABw1.out.tb
  obtain ⟨r0, r1, r2, r3⟩ := row2 ABw1.out.rs
  have y0 := (CBw1.out.cell (p := ⟨g, 0, none⟩) hg).trans Y0.out
  have y1 := (CBw1.out.cell (p := ⟨g, 1, none⟩) hg).trans Y1.out
  have y2 := (CBw1.out.cell (p := ⟨g, 2, none⟩) hg).trans Y2.out
  rw [show ([W0, W1, W2] : List ByteArray).length = 3 from rfl]
  have HNO := Lib.hid hno
  clear hno
  obtain ⟨r, hpl⟩ : ∃ r, placeI ((a : Int), (k : Int)) (keysM m) 0 = r := ⟨_, rfl⟩
  have HPL := Lib.hid hpl
  clear hpl
  have HN := Lib.hid hnf
  have HSN := Lib.hid hsn
  have HI : Hid (is32 (a : Int)) := Lib.hid ⟨by omega, by omega⟩
  clear hnf hsn
  go_wp2_with fail
  go_at_call 22
  (with_reducible refine (NetOf_yes a k W1 _ hw1 ha HN.out HSN.out).mono ?_)
  rintro e w2 ⟨rfl, hb⟩
  clear t0 t1 r0 r1 r2 r3 y0 y1 y2
  have ABw2 := Lib.hid (ABw1.out.below hb)
  have CBw2 := Lib.hid (CBw1.out.trans (hb.mono CBw1.out.size))
  clear hb
  obtain ⟨t0, t1, _, _⟩ := row2 ABw2.out.tb
  obtain ⟨r0, r1, r2, r3⟩ := row2 ABw2.out.rs
  have y0 := (CBw2.out.cell (p := ⟨g, 0, none⟩) hg).trans Y0.out
  have y1 := (CBw2.out.cell (p := ⟨g, 1, none⟩) hg).trans Y1.out
  have y2 := (CBw2.out.cell (p := ⟨g, 2, none⟩) hg).trans Y2.out
  clear t0 t1 r0 r1 r2 r3 y0 y1 y2
  have hba := below_1 w2 (.cells #[.int .u32 (a : Int), .int .i64 (k : Int)] 47)
  have ABw2a := Lib.hid (ABw2.out.below hba)
  have CBw2a := Lib.hid (CBw2.out.trans (hba.mono CBw2.out.size))
  have NB_w2a := Lib.hid (heap_alloc_new w2 (.cells #[.int .u32 (a : Int), .int .i64 (k : Int)] 47))
  clear hba
  obtain ⟨t0, t1, _, _⟩ := row2 ABw2a.out.tb
  obtain ⟨r0, r1, r2, r3⟩ := row2 ABw2a.out.rs
  have y0 := (CBw2a.out.cell (p := ⟨g, 0, none⟩) hg).trans Y0.out
  have y1 := (CBw2a.out.cell (p := ⟨g, 1, none⟩) hg).trans Y1.out
  have y2 := (CBw2a.out.cell (p := ⟨g, 2, none⟩) hg).trans Y2.out
  obtain ⟨nb0, nb1, _, _⟩ := row2 NB_w2a.out
  go_wp2_with fail
  go_at_call 23
  (with_reducible refine (Places_any (HT.out.below ABw2a.out.bel).nets).mono ?_)
  rintro e w3 ⟨rfl, hb⟩
  clear t0 t1 r0 r1 r2 r3 y0 y1 y2 nb0 nb1
  have ABw3 := Lib.hid (ABw2a.out.below hb)
  have CBw3 := Lib.hid (CBw2a.out.trans (hb.mono CBw2a.out.size))
  have NB_w3 := Lib.hid (below_block hb (size_of_block NB_w2a.out) NB_w2a.out)
  clear hb
  rw [HPL.out]
  obtain ⟨t0, t1, _, _⟩ := row2 ABw3.out.tb
  obtain ⟨r0, r1, r2, r3⟩ := row2 ABw3.out.rs
  have y0 := (CBw3.out.cell (p := ⟨g, 0, none⟩) hg).trans Y0.out
  have y1 := (CBw3.out.cell (p := ⟨g, 1, none⟩) hg).trans Y1.out
  have y2 := (CBw3.out.cell (p := ⟨g, 2, none⟩) hg).trans Y2.out
  obtain ⟨nb0, nb1, _, _⟩ := row2 NB_w3.out
  go_wp2_with fail
  go_at_call 22
  (with_reducible refine (NetOf_no W2 _ hw2 HNO.out).mono ?_)
  rintro e w4 ⟨rfl, hb⟩
  clear t0 t1 r0 r1 r2 r3 y0 y1 y2 nb0 nb1
  have ABw4 := Lib.hid (ABw3.out.below hb)
  have CBw4 := Lib.hid (CBw3.out.trans (hb.mono CBw3.out.size))
  have NB_w4 := Lib.hid (below_block hb (size_of_block NB_w3.out) NB_w3.out)
  clear hb
  obtain ⟨t0, t1, _, _⟩ := row2 ABw4.out.tb
  obtain ⟨r0, r1, r2, r3⟩ := row2 ABw4.out.rs
  have y0 := (CBw4.out.cell (p := ⟨g, 0, none⟩) hg).trans Y0.out
  have y1 := (CBw4.out.cell (p := ⟨g, 1, none⟩) hg).trans Y1.out
  have y2 := (CBw4.out.cell (p := ⟨g, 2, none⟩) hg).trans Y2.out
  obtain ⟨nb0, nb1, _, _⟩ := row2 NB_w4.out
  clear t0 t1 r0 r1 r2 r3 y0 y1 y2 nb0 nb1
  have hba := below_1 w4 (.cells #[.int .u32 0, .int .i64 0] 47)
  have ABw4a := Lib.hid (ABw4.out.below hba)
  have CBw4a := Lib.hid (CBw4.out.trans (hba.mono CBw4.out.size))
  have NB_w4a := Lib.hid (below_block hba (size_of_block NB_w4.out) NB_w4.out)
  clear hba
  obtain ⟨t0, t1, _, _⟩ := row2 ABw4a.out.tb
  obtain ⟨r0, r1, r2, r3⟩ := row2 ABw4a.out.rs
  have y0 := (CBw4a.out.cell (p := ⟨g, 0, none⟩) hg).trans Y0.out
  have y1 := (CBw4a.out.cell (p := ⟨g, 1, none⟩) hg).trans Y1.out
  have y2 := (CBw4a.out.cell (p := ⟨g, 2, none⟩) hg).trans Y2.out
  obtain ⟨nb0, nb1, _, _⟩ := row2 NB_w4a.out
  go_wp2
  have hend := (ABw4a.out.laid (.slice A n c) (.slice A' n' c'))
  exact ans_end hend.rs rfl rfl rfl (by rw [← HPP.out]; exact AnsPost.same hend HT.out)
set_option maxRecDepth 100000 in
set_option maxHeartbeats 8000000 in
theorem Ans_com {W0 W1 W2 : ByteArray} (hT : TabR M W m A n c A' n' c') (hM : ∀ b, M b → b < W.heap.size) (hd : DOk m) (hs : s.size ≤ 2097152) (hL : [W0, W1, W2].map (·.data.toList) = segs 32 s.data.toList) (k0 : s.data.toList ≠ [108, 105, 115, 116]) (k1 : s.data.toList ≠ [99, 111, 118, 101, 114]) (k2 : W0.data.toList = [99, 111, 109, 109, 111, 110]) {a k : Nat} (ha : a < 4294967296) (hnf : netF ((a : Int), (k : Int)) = 0) (hsn : W1.data.toList = netT a k) {b j p q : Nat} (hbb : b < 4294967296) (hnf1 : netF ((b : Int), (j : Int)) = 0) (hsn1 : W2.data.toList = netT b j) (hp : p < 4294967296) (hq : q ≤ 32) (hcom : comN ((a : Int), (k : Int)) ((b : Int), (j : Int)) = ((p : Int), (q : Int))) :
    Calls Tryz.prog 8 #[.agg #[.slice A n c, .slice A' n' c'], .string s] W (AnsPost M W (.ok (netT p q), m)) := by
  have HT := Lib.hid hT
  have HOK := Lib.hid hd.ok
  have HNUM := Lib.hid hd.num
  have HLEN : Hid (m.length ≤ 64) := Lib.hid hd.ok.len
  have HL := Lib.hid hL
  have HMW := Lib.hid hM
  obtain ⟨PP, hPP⟩ : ∃ PP, AnsPost M W (.ok (netT p q), m) = PP := ⟨_, rfl⟩
  have HPP := Lib.hid hPP
  rw [hPP]
  have hwsz := fun (k : Nat) (p : ByteArray) (h : [W0, W1, W2][k]? = some p) => Nat.le_trans (piece_size hL h) hs
  have hw0 : W0.size ≤ 2097152 := hwsz 0 W0 rfl
  have hw1 : W1.size ≤ 2097152 := hwsz 1 W1 rfl
  have hw2 : W2.size ≤ 2097152 := hwsz 2 W2 rfl
  clear hT hM hd hL hPP hwsz
  have q0 : (s.toList == [108, 105, 115, 116]) = false := by rw [ByteArray.toList_eq]; simpa using k0
  have q1 : (s.toList == [99, 111, 118, 101, 114]) = false := by rw [ByteArray.toList_eq]; simpa using k1
  have q2 : (W0.toList == [99, 111, 109, 109, 111, 110]) = true := by rw [ByteArray.toList_eq]; simpa using k2
  clear k0 k1 k2
  go_enter Tryz.func8, Tryz.ntmps8
  go_wp2_with fail
  go_at_call 7
  (with_reducible refine (RCut_c s 32 32 rfl _ hs).mono ?_)
  rintro e w1 ⟨L', g, cap, hL', rfl, hcs, hg, hb⟩
  obtain rfl : L' = [W0, W1, W2] := list_bytes (hL'.trans HL.out.symm)
  have ABw1 := Lib.hid ((AB.start W A n c A' n' c').below hb)
  have CBw1 : Hid (Below w1.heap.size w1 w1) := Lib.hid (Below.refl _ _)
  have Y0 : Hid (w1.cell? ⟨g, 0, none⟩ = some (.string W0)) := Lib.hid (hcs 0 _ rfl)
  have Y1 : Hid (w1.cell? ⟨g, 1, none⟩ = some (.string W1)) := Lib.hid (hcs 1 _ rfl)
  have Y2 : Hid (w1.cell? ⟨g, 2, none⟩ = some (.string W2)) := Lib.hid (hcs 2 _ rfl)
  clear hcs hb hL'
  obtain ⟨t0, t1, _, _⟩ := row2 ABw1.out.tb
  obtain ⟨r0, r1, r2, r3⟩ := row2 ABw1.out.rs
  have y0 := (CBw1.out.cell (p := ⟨g, 0, none⟩) hg).trans Y0.out
  have y1 := (CBw1.out.cell (p := ⟨g, 1, none⟩) hg).trans Y1.out
  have y2 := (CBw1.out.cell (p := ⟨g, 2, none⟩) hg).trans Y2.out
  rw [show ([W0, W1, W2] : List ByteArray).length = 3 from rfl]
  have HN1 := Lib.hid hnf1
  have HSN1 := Lib.hid hsn1
  have HI1 : Hid (is32 (b : Int)) := Lib.hid ⟨by omega, by omega⟩
  have HCV : Hid (netV (comN ((a : Int), (k : Int)) ((b : Int), (j : Int))) = .agg #[.int .u32 (p : Int), .int .i64 (q : Int)]) := Lib.hid (by rw [hcom]; rfl)
  have hk32 : k ≤ 32 := by have := (netF_zero.1 hnf).2.1; omega
  have hj32 : j ≤ 32 := by have := (netF_zero.1 hnf1).2.1; omega
  clear hnf1 hsn1 hcom
  obtain ⟨r, hpl⟩ : ∃ r, placeI ((a : Int), (k : Int)) (keysM m) 0 = r := ⟨_, rfl⟩
  have HPL := Lib.hid hpl
  clear hpl
  have HN := Lib.hid hnf
  have HSN := Lib.hid hsn
  have HI : Hid (is32 (a : Int)) := Lib.hid ⟨by omega, by omega⟩
  clear hnf hsn
  go_wp2_with fail
  go_at_call 22
  (with_reducible refine (NetOf_yes a k W1 _ hw1 ha HN.out HSN.out).mono ?_)
  rintro e w2 ⟨rfl, hb⟩
  clear t0 t1 r0 r1 r2 r3 y0 y1 y2
  have ABw2 := Lib.hid (ABw1.out.below hb)
  have CBw2 := Lib.hid (CBw1.out.trans (hb.mono CBw1.out.size))
  clear hb
  obtain ⟨t0, t1, _, _⟩ := row2 ABw2.out.tb
  obtain ⟨r0, r1, r2, r3⟩ := row2 ABw2.out.rs
  have y0 := (CBw2.out.cell (p := ⟨g, 0, none⟩) hg).trans Y0.out
  have y1 := (CBw2.out.cell (p := ⟨g, 1, none⟩) hg).trans Y1.out
  have y2 := (CBw2.out.cell (p := ⟨g, 2, none⟩) hg).trans Y2.out
  clear t0 t1 r0 r1 r2 r3 y0 y1 y2
  have hba := below_1 w2 (.cells #[.int .u32 (a : Int), .int .i64 (k : Int)] 47)
  have ABw2a := Lib.hid (ABw2.out.below hba)
  have CBw2a := Lib.hid (CBw2.out.trans (hba.mono CBw2.out.size))
  have NB_w2a := Lib.hid (heap_alloc_new w2 (.cells #[.int .u32 (a : Int), .int .i64 (k : Int)] 47))
  clear hba
  obtain ⟨t0, t1, _, _⟩ := row2 ABw2a.out.tb
  obtain ⟨r0, r1, r2, r3⟩ := row2 ABw2a.out.rs
  have y0 := (CBw2a.out.cell (p := ⟨g, 0, none⟩) hg).trans Y0.out
  have y1 := (CBw2a.out.cell (p := ⟨g, 1, none⟩) hg).trans Y1.out
  have y2 := (CBw2a.out.cell (p := ⟨g, 2, none⟩) hg).trans Y2.out
  obtain ⟨nb0, nb1, _, _⟩ := row2 NB_w2a.out
  go_wp2_with fail
  go_at_call 23
  (with_reducible refine (Places_any (HT.out.below ABw2a.out.bel).nets).mono ?_)
  rintro e w3 ⟨rfl, hb⟩
  clear t0 t1 r0 r1 r2 r3 y0 y1 y2 nb0 nb1
  have ABw3 := Lib.hid (ABw2a.out.below hb)
  have CBw3 := Lib.hid (CBw2a.out.trans (hb.mono CBw2a.out.size))
  have NB_w3 := Lib.hid (below_block hb (size_of_block NB_w2a.out) NB_w2a.out)
  clear hb
  rw [HPL.out]
  obtain ⟨t0, t1, _, _⟩ := row2 ABw3.out.tb
  obtain ⟨r0, r1, r2, r3⟩ := row2 ABw3.out.rs
  have y0 := (CBw3.out.cell (p := ⟨g, 0, none⟩) hg).trans Y0.out
  have y1 := (CBw3.out.cell (p := ⟨g, 1, none⟩) hg).trans Y1.out
  have y2 := (CBw3.out.cell (p := ⟨g, 2, none⟩) hg).trans Y2.out
  obtain ⟨nb0, nb1, _, _⟩ := row2 NB_w3.out
  go_wp2_with fail
  go_at_call 22
  (with_reducible refine (NetOf_yes b j W2 _ hw2 hbb HN1.out HSN1.out).mono ?_)
  rintro e w4 ⟨rfl, hb⟩
  clear t0 t1 r0 r1 r2 r3 y0 y1 y2 nb0 nb1
  have ABw4 := Lib.hid (ABw3.out.below hb)
  have CBw4 := Lib.hid (CBw3.out.trans (hb.mono CBw3.out.size))
  have NB_w4 := Lib.hid (below_block hb (size_of_block NB_w3.out) NB_w3.out)
  clear hb
  obtain ⟨t0, t1, _, _⟩ := row2 ABw4.out.tb
  obtain ⟨r0, r1, r2, r3⟩ := row2 ABw4.out.rs
  have y0 := (CBw4.out.cell (p := ⟨g, 0, none⟩) hg).trans Y0.out
  have y1 := (CBw4.out.cell (p := ⟨g, 1, none⟩) hg).trans Y1.out
  have y2 := (CBw4.out.cell (p := ⟨g, 2, none⟩) hg).trans Y2.out
  obtain ⟨nb0, nb1, _, _⟩ := row2 NB_w4.out
  go_wp2
  generalize hw5 : w4.alloc (.cells #[.int .u32 (b : Int), .int .i64 (j : Int)] 47) = w5 at *
  have hb : Below w4.heap.size w4 w5 := by rw [← hw5]; exact below_1 _ _
  have hnew : w5.heap[w4.heap.size]? = some (.cells #[.int .u32 (b : Int), .int .i64 (j : Int)] 47 (0, 0)) := by rw [← hw5]; exact heap_alloc_new _ _
  clear hw5
  clear t0 t1 r0 r1 r2 r3 y0 y1 y2 nb0 nb1
  have ABw5 := Lib.hid (ABw4.out.below hb)
  have CBw5 := Lib.hid (CBw4.out.trans (hb.mono CBw4.out.size))
  have NB_w5 := Lib.hid (below_block hb (size_of_block NB_w4.out) NB_w4.out)
  clear hb
  have MB_w5 := Lib.hid hnew
  clear hnew
  obtain ⟨t0, t1, _, _⟩ := row2 ABw5.out.tb
  obtain ⟨r0, r1, r2, r3⟩ := row2 ABw5.out.rs
  have y0 := (CBw5.out.cell (p := ⟨g, 0, none⟩) hg).trans Y0.out
  have y1 := (CBw5.out.cell (p := ⟨g, 1, none⟩) hg).trans Y1.out
  have y2 := (CBw5.out.cell (p := ⟨g, 2, none⟩) hg).trans Y2.out
  obtain ⟨nb0, nb1, _, _⟩ := row2 NB_w5.out
  obtain ⟨mb0, mb1, _, _⟩ := row2 MB_w5.out
  refine wp_region_noPanic ?_
  refine wp_region_held_drew (S := (fun w' => w'.cell? ⟨W.heap.size, 0, none⟩ = some (.slice A n c) ∧ w'.cell? ⟨W.heap.size, 1, none⟩ = some (.slice A' n' c') ∧ w'.cell? ⟨w2.heap.size, 0, none⟩ = some (.int .u32 (a : Int)) ∧ w'.cell? ⟨w2.heap.size, 1, none⟩ = some (.int .i64 (k : Int)) ∧ w'.cell? ⟨w4.heap.size, 0, none⟩ = some (.int .u32 (b : Int)) ∧ w'.cell? ⟨w4.heap.size, 1, none⟩ = some (.int .i64 (j : Int)))) (by kernel_rfl) (by go_keep) (fun hHeld => ?_)
  generalize hud : w5.drew = u1 at *
  have hb : Below w5.heap.size w5 u1 := by rw [← hud]; exact below_drewN (Below.refl _ _) 1
  clear t0 t1 r0 r1 r2 r3 y0 y1 y2 nb0 nb1 mb0 mb1
  have ABu1 := Lib.hid (ABw5.out.below hb)
  have CBu1 := Lib.hid (CBw5.out.trans (hb.mono CBw5.out.size))
  have NB_u1 := Lib.hid (below_block hb (size_of_block NB_w5.out) NB_w5.out)
  have MB_u1 := Lib.hid (below_block hb (size_of_block MB_w5.out) MB_w5.out)
  clear hb
  clear hud
  obtain ⟨t0, t1, _, _⟩ := row2 ABu1.out.tb
  obtain ⟨r0, r1, r2, r3⟩ := row2 ABu1.out.rs
  have y0 := (CBu1.out.cell (p := ⟨g, 0, none⟩) hg).trans Y0.out
  have y1 := (CBu1.out.cell (p := ⟨g, 1, none⟩) hg).trans Y1.out
  have y2 := (CBu1.out.cell (p := ⟨g, 2, none⟩) hg).trans Y2.out
  obtain ⟨nb0, nb1, _, _⟩ := row2 NB_u1.out
  obtain ⟨mb0, mb1, _, _⟩ := row2 MB_u1.out
  refine' wpAnyH_take (i := 0) ?hit2 ?hst2 ?hft2 ?hrt2 ?hQt2 ?hyt2 ?hSt2 ?ht2
  case hit2 => (simp only [List.getElem?_toArray, List.getElem?_cons_succ, List.getElem?_cons_zero]; exact rfl)
  case hst2 => kernel_rfl
  case hft2 => kernel_rfl
  case hrt2 => kernel_rfl
  case hQt2 => exact fun _ _ _ h => h
  case hyt2 => (first | (refine Or.inr ⟨by rfl, ?_⟩; rfl) | (refine Or.inl ⟨by rfl, ?_⟩; (intro w hSw; (try dsimp only at hSw); go_simp); try with_reducible rfl))
  case hSt2 => assumption
  try simp only [Act.put, List.setIfInBounds_toArray, List.set_cons_zero, List.set_cons_succ]
  refine' wpAnyH_take (i := 1) ?hit3 ?hst3 ?hft3 ?hrt3 ?hQt3 ?hyt3 ?hSt3 ?ht3
  case hit3 => (simp only [List.getElem?_toArray, List.getElem?_cons_succ, List.getElem?_cons_zero]; exact rfl)
  case hst3 => kernel_rfl
  case hft3 => kernel_rfl
  case hrt3 => kernel_rfl
  case hQt3 => exact fun _ _ _ h => h
  case hyt3 => (first | (refine Or.inr ⟨by rfl, ?_⟩; rfl) | (refine Or.inl ⟨by rfl, ?_⟩; (intro w hSw; (try dsimp only at hSw); go_simp); try with_reducible rfl))
  case hSt3 => assumption
  try simp only [Act.put, List.setIfInBounds_toArray, List.set_cons_zero, List.set_cons_succ]
  refine' wpAnyH_take (i := 2) ?hit4 ?hst4 ?hft4 ?hrt4 ?hQt4 ?hyt4 ?hSt4 ?ht4
  case hit4 => (simp only [List.getElem?_toArray, List.getElem?_cons_succ, List.getElem?_cons_zero]; exact rfl)
  case hst4 => kernel_rfl
  case hft4 => kernel_rfl
  case hrt4 => kernel_rfl
  case hQt4 => exact fun _ _ _ h => h
  case hyt4 => (first | (refine Or.inr ⟨by rfl, ?_⟩; rfl) | (refine Or.inl ⟨by rfl, ?_⟩; (intro w hSw; (try dsimp only at hSw); go_simp); try with_reducible rfl))
  case hSt4 => assumption
  try simp only [Act.put, List.setIfInBounds_toArray, List.set_cons_zero, List.set_cons_succ]
  refine wpAnyH_ready (rs := [3]) (by kernel_rfl) (by simp) ?_
  refine' AllReadyH.cons ?hi5 (fun K hK => ?hg5) AllReadyH.nil
  case hi5 => (simp only [List.getElem?_toArray, List.getElem?_cons_succ, List.getElem?_cons_zero]; exact rfl)
  go_simp
  go_at_call 25
  (with_reducible refine (CommonOf_any (a : Int) (b : Int) k j _ HI.out HI1.out hk32 hj32).mono ?_)
  rintro e w6 ⟨rfl, hb⟩
  clear t0 t1 r0 r1 r2 r3 y0 y1 y2 nb0 nb1 mb0 mb1
  have ABw6 := Lib.hid (ABu1.out.below hb)
  have CBw6 := Lib.hid (CBu1.out.trans (hb.mono CBu1.out.size))
  have NB_w6 := Lib.hid (below_block hb (size_of_block NB_u1.out) NB_u1.out)
  have MB_w6 := Lib.hid (below_block hb (size_of_block MB_u1.out) MB_u1.out)
  clear hb
  rw [HCV.out]
  obtain ⟨t0, t1, _, _⟩ := row2 ABw6.out.tb
  obtain ⟨r0, r1, r2, r3⟩ := row2 ABw6.out.rs
  have y0 := (CBw6.out.cell (p := ⟨g, 0, none⟩) hg).trans Y0.out
  have y1 := (CBw6.out.cell (p := ⟨g, 1, none⟩) hg).trans Y1.out
  have y2 := (CBw6.out.cell (p := ⟨g, 2, none⟩) hg).trans Y2.out
  obtain ⟨nb0, nb1, _, _⟩ := row2 NB_w6.out
  obtain ⟨mb0, mb1, _, _⟩ := row2 MB_w6.out
  refine hK.out _ _ (by go_keep) (fun hHeld => ?_)
  clear hK K
  refine wpAnyH_ready (rs := [4]) (by kernel_rfl) (by simp) ?_
  refine' AllReadyH.cons ?hi6 (fun K hK => ?hg6) AllReadyH.nil
  case hi6 => (simp only [List.getElem?_toArray, List.getElem?_cons_succ, List.getElem?_cons_zero]; exact rfl)
  go_simp
  go_at_call 21
  (with_reducible refine (RNetText_any p q _ hp hq).mono ?_)
  rintro e w7 ⟨rfl, hb⟩
  clear t0 t1 r0 r1 r2 r3 y0 y1 y2 nb0 nb1 mb0 mb1
  have ABw7 := Lib.hid (ABw6.out.below hb)
  have CBw7 := Lib.hid (CBw6.out.trans (hb.mono CBw6.out.size))
  have NB_w7 := Lib.hid (below_block hb (size_of_block NB_w6.out) NB_w6.out)
  have MB_w7 := Lib.hid (below_block hb (size_of_block MB_w6.out) MB_w6.out)
  clear hb
  obtain ⟨t0, t1, _, _⟩ := row2 ABw7.out.tb
  obtain ⟨r0, r1, r2, r3⟩ := row2 ABw7.out.rs
  have y0 := (CBw7.out.cell (p := ⟨g, 0, none⟩) hg).trans Y0.out
  have y1 := (CBw7.out.cell (p := ⟨g, 1, none⟩) hg).trans Y1.out
  have y2 := (CBw7.out.cell (p := ⟨g, 2, none⟩) hg).trans Y2.out
  obtain ⟨nb0, nb1, _, _⟩ := row2 NB_w7.out
  obtain ⟨mb0, mb1, _, _⟩ := row2 MB_w7.out
  refine hK.out _ _ (by go_keep) (fun hHeld => ?_)
  clear hK K
  have hn5 : ¬ W.heap.size + 1 = w2.heap.size := by have := size_of_block ABw2.out.rs; omega
  have hn6 : ¬ W.heap.size + 1 = w4.heap.size := by have := size_of_block ABw4.out.rs; omega
  have hm5 : ¬ w2.heap.size = W.heap.size + 1 := by omega
  have hm6 : ¬ w4.heap.size = W.heap.size + 1 := by omega
  refine wpAnyH_ready (rs := [5]) (by kernel_rfl) (by simp) ?_
  refine' AllReadyH.cons ?hi7 (fun K hK => ?hg7) AllReadyH.nil
  case hi7 => (simp only [List.getElem?_toArray, List.getElem?_cons_succ, List.getElem?_cons_zero]; exact rfl)
  go_simp
  have hend := ABw7.out.laid (.slice A n c) (.slice A' n' c')
  have ho1 : ((w7.setCell ⟨W.heap.size + 1, 0, none⟩ (.slice A n c)).setCell ⟨W.heap.size + 1, 1, none⟩ (.slice A' n' c')).heap[w2.heap.size]? = _ := ((heap_setCell_other _ _ _ _ (show w2.heap.size ≠ W.heap.size + 1 by omega)).trans (heap_setCell_other _ _ _ _ (show w2.heap.size ≠ W.heap.size + 1 by omega))).trans NB_w7.out
  have ho2 : ((w7.setCell ⟨W.heap.size + 1, 0, none⟩ (.slice A n c)).setCell ⟨W.heap.size + 1, 1, none⟩ (.slice A' n' c')).heap[w4.heap.size]? = _ := ((heap_setCell_other _ _ _ _ (show w4.heap.size ≠ W.heap.size + 1 by omega)).trans (heap_setCell_other _ _ _ _ (show w4.heap.size ≠ W.heap.size + 1 by omega))).trans MB_w7.out
  generalize hsw : ((w7.setCell ⟨W.heap.size + 1, 0, none⟩ (.slice A n c)).setCell ⟨W.heap.size + 1, 1, none⟩ (.slice A' n' c')) = ws at *
  clear hsw
  clear t0 t1 r0 r1 r2 r3 y0 y1 y2 nb0 nb1 mb0 mb1
  obtain ⟨t0, t1, _, _⟩ := row2 hend.tb
  obtain ⟨na0, na1, _, _⟩ := row2 ho1
  obtain ⟨nc0, nc1, _, _⟩ := row2 ho2
  refine hK.out _ _ (by go_keep) (fun hHeld => ?_)
  clear hK K
  refine' wpAnyH_take (i := 6) ?hit8 ?hst8 ?hft8 ?hrt8 ?hQt8 ?hyt8 ?hSt8 ?ht8
  case hit8 => (simp only [List.getElem?_toArray, List.getElem?_cons_succ, List.getElem?_cons_zero]; exact rfl)
  case hst8 => kernel_rfl
  case hft8 => kernel_rfl
  case hrt8 => kernel_rfl
  case hQt8 => exact fun _ _ _ h => h
  case hyt8 => (first | (refine Or.inr ⟨by rfl, ?_⟩; rfl) | (refine Or.inl ⟨by rfl, ?_⟩; (intro w hSw; (try dsimp only at hSw); go_simp); try with_reducible rfl))
  case hSt8 => assumption
  try simp only [Act.put, List.setIfInBounds_toArray, List.set_cons_zero, List.set_cons_succ]
  refine wpAnyH_done (by kernel_rfl) ?_ _
  refine NoPanic.normal ?_
  clear hHeld
  go_wp2
  exact ans_end hend.rs rfl rfl rfl (by rw [← HPP.out]; exact AnsPost.same hend HT.out)
set_option maxRecDepth 100000 in
set_option maxHeartbeats 8000000 in
theorem Ans_putbad {W0 W1 W2 : ByteArray} (hT : TabR M W m A n c A' n' c') (hM : ∀ b, M b → b < W.heap.size) (hd : DOk m) (hs : s.size ≤ 2097152) (hL : [W0, W1, W2].map (·.data.toList) = segs 32 s.data.toList) (k0 : s.data.toList ≠ [108, 105, 115, 116]) (k1 : s.data.toList ≠ [99, 111, 118, 101, 114]) (k2 : W0.data.toList ≠ [99, 111, 109, 109, 111, 110]) (k3 : W0.data.toList = [112, 117, 116]) {a k : Nat} (ha : a < 4294967296) (hnf : netF ((a : Int), (k : Int)) = 0) (hsn : W1.data.toList = netT a k) (hno : ∀ n : Nat, n ≤ 1073741824 → W2.data.toList ≠ dd n) :
    Calls Tryz.prog 8 #[.agg #[.slice A n c, .slice A' n' c'], .string s] W (AnsPost M W (.error 7, m)) := by
  have HT := Lib.hid hT
  have HOK := Lib.hid hd.ok
  have HNUM := Lib.hid hd.num
  have HLEN : Hid (m.length ≤ 64) := Lib.hid hd.ok.len
  have HL := Lib.hid hL
  have HMW := Lib.hid hM
  obtain ⟨PP, hPP⟩ : ∃ PP, AnsPost M W (.error 7, m) = PP := ⟨_, rfl⟩
  have HPP := Lib.hid hPP
  rw [hPP]
  have hwsz := fun (k : Nat) (p : ByteArray) (h : [W0, W1, W2][k]? = some p) => Nat.le_trans (piece_size hL h) hs
  have hw0 : W0.size ≤ 2097152 := hwsz 0 W0 rfl
  have hw1 : W1.size ≤ 2097152 := hwsz 1 W1 rfl
  have hw2 : W2.size ≤ 2097152 := hwsz 2 W2 rfl
  clear hT hM hd hL hPP hwsz
  have q0 : (s.toList == [108, 105, 115, 116]) = false := by rw [ByteArray.toList_eq]; simpa using k0
  have q1 : (s.toList == [99, 111, 118, 101, 114]) = false := by rw [ByteArray.toList_eq]; simpa using k1
  have q2 : (W0.toList == [99, 111, 109, 109, 111, 110]) = false := by rw [ByteArray.toList_eq]; simpa using k2
  have q3 : (W0.toList == [112, 117, 116]) = true := by rw [ByteArray.toList_eq]; simpa using k3
  clear k0 k1 k2 k3
  go_enter Tryz.func8, Tryz.ntmps8
  go_wp2_with fail
  go_at_call 7
  (with_reducible refine (RCut_c s 32 32 rfl _ hs).mono ?_)
  rintro e w1 ⟨L', g, cap, hL', rfl, hcs, hg, hb⟩
  obtain rfl : L' = [W0, W1, W2] := list_bytes (hL'.trans HL.out.symm)
  have ABw1 := Lib.hid ((AB.start W A n c A' n' c').below hb)
  have CBw1 : Hid (Below w1.heap.size w1 w1) := Lib.hid (Below.refl _ _)
  have Y0 : Hid (w1.cell? ⟨g, 0, none⟩ = some (.string W0)) := Lib.hid (hcs 0 _ rfl)
  have Y1 : Hid (w1.cell? ⟨g, 1, none⟩ = some (.string W1)) := Lib.hid (hcs 1 _ rfl)
  have Y2 : Hid (w1.cell? ⟨g, 2, none⟩ = some (.string W2)) := Lib.hid (hcs 2 _ rfl)
  clear hcs hb hL'
  obtain ⟨t0, t1, _, _⟩ := row2 ABw1.out.tb
  obtain ⟨r0, r1, r2, r3⟩ := row2 ABw1.out.rs
  have y0 := (CBw1.out.cell (p := ⟨g, 0, none⟩) hg).trans Y0.out
  have y1 := (CBw1.out.cell (p := ⟨g, 1, none⟩) hg).trans Y1.out
  have y2 := (CBw1.out.cell (p := ⟨g, 2, none⟩) hg).trans Y2.out
  rw [show ([W0, W1, W2] : List ByteArray).length = 3 from rfl]
  have HNO := Lib.hid hno
  clear hno
  obtain ⟨r, hpl⟩ : ∃ r, placeI ((a : Int), (k : Int)) (keysM m) 0 = r := ⟨_, rfl⟩
  have HPL := Lib.hid hpl
  clear hpl
  have HN := Lib.hid hnf
  have HSN := Lib.hid hsn
  have HI : Hid (is32 (a : Int)) := Lib.hid ⟨by omega, by omega⟩
  clear hnf hsn
  go_wp2_with fail
  go_at_call 22
  (with_reducible refine (NetOf_yes a k W1 _ hw1 ha HN.out HSN.out).mono ?_)
  rintro e w2 ⟨rfl, hb⟩
  clear t0 t1 r0 r1 r2 r3 y0 y1 y2
  have ABw2 := Lib.hid (ABw1.out.below hb)
  have CBw2 := Lib.hid (CBw1.out.trans (hb.mono CBw1.out.size))
  clear hb
  obtain ⟨t0, t1, _, _⟩ := row2 ABw2.out.tb
  obtain ⟨r0, r1, r2, r3⟩ := row2 ABw2.out.rs
  have y0 := (CBw2.out.cell (p := ⟨g, 0, none⟩) hg).trans Y0.out
  have y1 := (CBw2.out.cell (p := ⟨g, 1, none⟩) hg).trans Y1.out
  have y2 := (CBw2.out.cell (p := ⟨g, 2, none⟩) hg).trans Y2.out
  clear t0 t1 r0 r1 r2 r3 y0 y1 y2
  have hba := below_1 w2 (.cells #[.int .u32 (a : Int), .int .i64 (k : Int)] 47)
  have ABw2a := Lib.hid (ABw2.out.below hba)
  have CBw2a := Lib.hid (CBw2.out.trans (hba.mono CBw2.out.size))
  have NB_w2a := Lib.hid (heap_alloc_new w2 (.cells #[.int .u32 (a : Int), .int .i64 (k : Int)] 47))
  clear hba
  obtain ⟨t0, t1, _, _⟩ := row2 ABw2a.out.tb
  obtain ⟨r0, r1, r2, r3⟩ := row2 ABw2a.out.rs
  have y0 := (CBw2a.out.cell (p := ⟨g, 0, none⟩) hg).trans Y0.out
  have y1 := (CBw2a.out.cell (p := ⟨g, 1, none⟩) hg).trans Y1.out
  have y2 := (CBw2a.out.cell (p := ⟨g, 2, none⟩) hg).trans Y2.out
  obtain ⟨nb0, nb1, _, _⟩ := row2 NB_w2a.out
  go_wp2_with fail
  go_at_call 23
  (with_reducible refine (Places_any (HT.out.below ABw2a.out.bel).nets).mono ?_)
  rintro e w3 ⟨rfl, hb⟩
  clear t0 t1 r0 r1 r2 r3 y0 y1 y2 nb0 nb1
  have ABw3 := Lib.hid (ABw2a.out.below hb)
  have CBw3 := Lib.hid (CBw2a.out.trans (hb.mono CBw2a.out.size))
  have NB_w3 := Lib.hid (below_block hb (size_of_block NB_w2a.out) NB_w2a.out)
  clear hb
  rw [HPL.out]
  obtain ⟨t0, t1, _, _⟩ := row2 ABw3.out.tb
  obtain ⟨r0, r1, r2, r3⟩ := row2 ABw3.out.rs
  have y0 := (CBw3.out.cell (p := ⟨g, 0, none⟩) hg).trans Y0.out
  have y1 := (CBw3.out.cell (p := ⟨g, 1, none⟩) hg).trans Y1.out
  have y2 := (CBw3.out.cell (p := ⟨g, 2, none⟩) hg).trans Y2.out
  obtain ⟨nb0, nb1, _, _⟩ := row2 NB_w3.out
  go_wp2_with fail
  go_at_call 26
  (with_reducible refine (Whole_no W2 _ hw2 HNO.out).mono ?_)
  rintro e w4 ⟨rfl, hb⟩
  clear t0 t1 r0 r1 r2 r3 y0 y1 y2 nb0 nb1
  have ABw4 := Lib.hid (ABw3.out.below hb)
  have CBw4 := Lib.hid (CBw3.out.trans (hb.mono CBw3.out.size))
  have NB_w4 := Lib.hid (below_block hb (size_of_block NB_w3.out) NB_w3.out)
  clear hb
  obtain ⟨t0, t1, _, _⟩ := row2 ABw4.out.tb
  obtain ⟨r0, r1, r2, r3⟩ := row2 ABw4.out.rs
  have y0 := (CBw4.out.cell (p := ⟨g, 0, none⟩) hg).trans Y0.out
  have y1 := (CBw4.out.cell (p := ⟨g, 1, none⟩) hg).trans Y1.out
  have y2 := (CBw4.out.cell (p := ⟨g, 2, none⟩) hg).trans Y2.out
  obtain ⟨nb0, nb1, _, _⟩ := row2 NB_w4.out
  go_wp2
  have hend := (ABw4.out.laid (.slice A n c) (.slice A' n' c'))
  exact ans_end hend.rs rfl rfl rfl (by rw [← HPP.out]; exact AnsPost.same hend HT.out)
set_option maxRecDepth 100000 in
set_option maxHeartbeats 8000000 in
theorem Ans_oth3 {W0 W1 W2 : ByteArray} (hT : TabR M W m A n c A' n' c') (hM : ∀ b, M b → b < W.heap.size) (hd : DOk m) (hs : s.size ≤ 2097152) (hL : [W0, W1, W2].map (·.data.toList) = segs 32 s.data.toList) (k0 : s.data.toList ≠ [108, 105, 115, 116]) (k1 : s.data.toList ≠ [99, 111, 118, 101, 114]) (k2 : W0.data.toList ≠ [99, 111, 109, 109, 111, 110]) (k3 : W0.data.toList ≠ [112, 117, 116]) {a k : Nat} (ha : a < 4294967296) (hnf : netF ((a : Int), (k : Int)) = 0) (hsn : W1.data.toList = netT a k) :
    Calls Tryz.prog 8 #[.agg #[.slice A n c, .slice A' n' c'], .string s] W (AnsPost M W (.error 7, m)) := by
  have HT := Lib.hid hT
  have HOK := Lib.hid hd.ok
  have HNUM := Lib.hid hd.num
  have HLEN : Hid (m.length ≤ 64) := Lib.hid hd.ok.len
  have HL := Lib.hid hL
  have HMW := Lib.hid hM
  obtain ⟨PP, hPP⟩ : ∃ PP, AnsPost M W (.error 7, m) = PP := ⟨_, rfl⟩
  have HPP := Lib.hid hPP
  rw [hPP]
  have hwsz := fun (k : Nat) (p : ByteArray) (h : [W0, W1, W2][k]? = some p) => Nat.le_trans (piece_size hL h) hs
  have hw0 : W0.size ≤ 2097152 := hwsz 0 W0 rfl
  have hw1 : W1.size ≤ 2097152 := hwsz 1 W1 rfl
  have hw2 : W2.size ≤ 2097152 := hwsz 2 W2 rfl
  clear hT hM hd hL hPP hwsz
  have q0 : (s.toList == [108, 105, 115, 116]) = false := by rw [ByteArray.toList_eq]; simpa using k0
  have q1 : (s.toList == [99, 111, 118, 101, 114]) = false := by rw [ByteArray.toList_eq]; simpa using k1
  have q2 : (W0.toList == [99, 111, 109, 109, 111, 110]) = false := by rw [ByteArray.toList_eq]; simpa using k2
  have q3 : (W0.toList == [112, 117, 116]) = false := by rw [ByteArray.toList_eq]; simpa using k3
  clear k0 k1 k2 k3
  go_enter Tryz.func8, Tryz.ntmps8
  go_wp2_with fail
  go_at_call 7
  (with_reducible refine (RCut_c s 32 32 rfl _ hs).mono ?_)
  rintro e w1 ⟨L', g, cap, hL', rfl, hcs, hg, hb⟩
  obtain rfl : L' = [W0, W1, W2] := list_bytes (hL'.trans HL.out.symm)
  have ABw1 := Lib.hid ((AB.start W A n c A' n' c').below hb)
  have CBw1 : Hid (Below w1.heap.size w1 w1) := Lib.hid (Below.refl _ _)
  have Y0 : Hid (w1.cell? ⟨g, 0, none⟩ = some (.string W0)) := Lib.hid (hcs 0 _ rfl)
  have Y1 : Hid (w1.cell? ⟨g, 1, none⟩ = some (.string W1)) := Lib.hid (hcs 1 _ rfl)
  have Y2 : Hid (w1.cell? ⟨g, 2, none⟩ = some (.string W2)) := Lib.hid (hcs 2 _ rfl)
  clear hcs hb hL'
  obtain ⟨t0, t1, _, _⟩ := row2 ABw1.out.tb
  obtain ⟨r0, r1, r2, r3⟩ := row2 ABw1.out.rs
  have y0 := (CBw1.out.cell (p := ⟨g, 0, none⟩) hg).trans Y0.out
  have y1 := (CBw1.out.cell (p := ⟨g, 1, none⟩) hg).trans Y1.out
  have y2 := (CBw1.out.cell (p := ⟨g, 2, none⟩) hg).trans Y2.out
  rw [show ([W0, W1, W2] : List ByteArray).length = 3 from rfl]
  obtain ⟨r, hpl⟩ : ∃ r, placeI ((a : Int), (k : Int)) (keysM m) 0 = r := ⟨_, rfl⟩
  have HPL := Lib.hid hpl
  clear hpl
  have HN := Lib.hid hnf
  have HSN := Lib.hid hsn
  have HI : Hid (is32 (a : Int)) := Lib.hid ⟨by omega, by omega⟩
  clear hnf hsn
  go_wp2_with fail
  go_at_call 22
  (with_reducible refine (NetOf_yes a k W1 _ hw1 ha HN.out HSN.out).mono ?_)
  rintro e w2 ⟨rfl, hb⟩
  clear t0 t1 r0 r1 r2 r3 y0 y1 y2
  have ABw2 := Lib.hid (ABw1.out.below hb)
  have CBw2 := Lib.hid (CBw1.out.trans (hb.mono CBw1.out.size))
  clear hb
  obtain ⟨t0, t1, _, _⟩ := row2 ABw2.out.tb
  obtain ⟨r0, r1, r2, r3⟩ := row2 ABw2.out.rs
  have y0 := (CBw2.out.cell (p := ⟨g, 0, none⟩) hg).trans Y0.out
  have y1 := (CBw2.out.cell (p := ⟨g, 1, none⟩) hg).trans Y1.out
  have y2 := (CBw2.out.cell (p := ⟨g, 2, none⟩) hg).trans Y2.out
  clear t0 t1 r0 r1 r2 r3 y0 y1 y2
  have hba := below_1 w2 (.cells #[.int .u32 (a : Int), .int .i64 (k : Int)] 47)
  have ABw2a := Lib.hid (ABw2.out.below hba)
  have CBw2a := Lib.hid (CBw2.out.trans (hba.mono CBw2.out.size))
  have NB_w2a := Lib.hid (heap_alloc_new w2 (.cells #[.int .u32 (a : Int), .int .i64 (k : Int)] 47))
  clear hba
  obtain ⟨t0, t1, _, _⟩ := row2 ABw2a.out.tb
  obtain ⟨r0, r1, r2, r3⟩ := row2 ABw2a.out.rs
  have y0 := (CBw2a.out.cell (p := ⟨g, 0, none⟩) hg).trans Y0.out
  have y1 := (CBw2a.out.cell (p := ⟨g, 1, none⟩) hg).trans Y1.out
  have y2 := (CBw2a.out.cell (p := ⟨g, 2, none⟩) hg).trans Y2.out
  obtain ⟨nb0, nb1, _, _⟩ := row2 NB_w2a.out
  go_wp2_with fail
  go_at_call 23
  (with_reducible refine (Places_any (HT.out.below ABw2a.out.bel).nets).mono ?_)
  rintro e w3 ⟨rfl, hb⟩
  clear t0 t1 r0 r1 r2 r3 y0 y1 y2 nb0 nb1
  have ABw3 := Lib.hid (ABw2a.out.below hb)
  have CBw3 := Lib.hid (CBw2a.out.trans (hb.mono CBw2a.out.size))
  have NB_w3 := Lib.hid (below_block hb (size_of_block NB_w2a.out) NB_w2a.out)
  clear hb
  rw [HPL.out]
  obtain ⟨t0, t1, _, _⟩ := row2 ABw3.out.tb
  obtain ⟨r0, r1, r2, r3⟩ := row2 ABw3.out.rs
  have y0 := (CBw3.out.cell (p := ⟨g, 0, none⟩) hg).trans Y0.out
  have y1 := (CBw3.out.cell (p := ⟨g, 1, none⟩) hg).trans Y1.out
  have y2 := (CBw3.out.cell (p := ⟨g, 2, none⟩) hg).trans Y2.out
  obtain ⟨nb0, nb1, _, _⟩ := row2 NB_w3.out
  go_wp2_with fail
  go_at_call 26
  (with_reducible refine (Whole_any W2 _ hw2).mono ?_)
  rintro e w4 ⟨v, rfl, _, hb⟩
  clear t0 t1 r0 r1 r2 r3 y0 y1 y2 nb0 nb1
  have ABw4 := Lib.hid (ABw3.out.below hb)
  have CBw4 := Lib.hid (CBw3.out.trans (hb.mono CBw3.out.size))
  have NB_w4 := Lib.hid (below_block hb (size_of_block NB_w3.out) NB_w3.out)
  clear hb
  obtain ⟨t0, t1, _, _⟩ := row2 ABw4.out.tb
  obtain ⟨r0, r1, r2, r3⟩ := row2 ABw4.out.rs
  have y0 := (CBw4.out.cell (p := ⟨g, 0, none⟩) hg).trans Y0.out
  have y1 := (CBw4.out.cell (p := ⟨g, 1, none⟩) hg).trans Y1.out
  have y2 := (CBw4.out.cell (p := ⟨g, 2, none⟩) hg).trans Y2.out
  obtain ⟨nb0, nb1, _, _⟩ := row2 NB_w4.out
  go_wp2
  have hend := (ABw4.out.laid (.slice A n c) (.slice A' n' c'))
  exact ans_end hend.rs rfl rfl rfl (by rw [← HPP.out]; exact AnsPost.same hend HT.out)
set_option maxRecDepth 100000 in
set_option maxHeartbeats 8000000 in
theorem Ans_putfull {W0 W1 W2 : ByteArray} (hT : TabR M W m A n c A' n' c') (hM : ∀ b, M b → b < W.heap.size) (hd : DOk m) (hs : s.size ≤ 2097152) (hL : [W0, W1, W2].map (·.data.toList) = segs 32 s.data.toList) (k0 : s.data.toList ≠ [108, 105, 115, 116]) (k1 : s.data.toList ≠ [99, 111, 118, 101, 114]) (k2 : W0.data.toList ≠ [99, 111, 109, 109, 111, 110]) (k3 : W0.data.toList = [112, 117, 116]) {a k : Nat} (ha : a < 4294967296) (hnf : netF ((a : Int), (k : Int)) = 0) (hsn : W1.data.toList = netT a k) {v : Nat} (hv : v ≤ 1073741824) (hsv : W2.data.toList = dd v) (hl : look m ((a : Int), (k : Int)) = none) (h64 : 64 ≤ m.length) :
    Calls Tryz.prog 8 #[.agg #[.slice A n c, .slice A' n' c'], .string s] W (AnsPost M W (.error 4, m)) := by
  have HT := Lib.hid hT
  have HOK := Lib.hid hd.ok
  have HNUM := Lib.hid hd.num
  have HLEN : Hid (m.length ≤ 64) := Lib.hid hd.ok.len
  have HL := Lib.hid hL
  have HMW := Lib.hid hM
  obtain ⟨PP, hPP⟩ : ∃ PP, AnsPost M W (.error 4, m) = PP := ⟨_, rfl⟩
  have HPP := Lib.hid hPP
  rw [hPP]
  have hwsz := fun (k : Nat) (p : ByteArray) (h : [W0, W1, W2][k]? = some p) => Nat.le_trans (piece_size hL h) hs
  have hw0 : W0.size ≤ 2097152 := hwsz 0 W0 rfl
  have hw1 : W1.size ≤ 2097152 := hwsz 1 W1 rfl
  have hw2 : W2.size ≤ 2097152 := hwsz 2 W2 rfl
  clear hT hM hd hL hPP hwsz
  have q0 : (s.toList == [108, 105, 115, 116]) = false := by rw [ByteArray.toList_eq]; simpa using k0
  have q1 : (s.toList == [99, 111, 118, 101, 114]) = false := by rw [ByteArray.toList_eq]; simpa using k1
  have q2 : (W0.toList == [99, 111, 109, 109, 111, 110]) = false := by rw [ByteArray.toList_eq]; simpa using k2
  have q3 : (W0.toList == [112, 117, 116]) = true := by rw [ByteArray.toList_eq]; simpa using k3
  clear k0 k1 k2 k3
  go_enter Tryz.func8, Tryz.ntmps8
  go_wp2_with fail
  go_at_call 7
  (with_reducible refine (RCut_c s 32 32 rfl _ hs).mono ?_)
  rintro e w1 ⟨L', g, cap, hL', rfl, hcs, hg, hb⟩
  obtain rfl : L' = [W0, W1, W2] := list_bytes (hL'.trans HL.out.symm)
  have ABw1 := Lib.hid ((AB.start W A n c A' n' c').below hb)
  have CBw1 : Hid (Below w1.heap.size w1 w1) := Lib.hid (Below.refl _ _)
  have Y0 : Hid (w1.cell? ⟨g, 0, none⟩ = some (.string W0)) := Lib.hid (hcs 0 _ rfl)
  have Y1 : Hid (w1.cell? ⟨g, 1, none⟩ = some (.string W1)) := Lib.hid (hcs 1 _ rfl)
  have Y2 : Hid (w1.cell? ⟨g, 2, none⟩ = some (.string W2)) := Lib.hid (hcs 2 _ rfl)
  clear hcs hb hL'
  obtain ⟨t0, t1, _, _⟩ := row2 ABw1.out.tb
  obtain ⟨r0, r1, r2, r3⟩ := row2 ABw1.out.rs
  have y0 := (CBw1.out.cell (p := ⟨g, 0, none⟩) hg).trans Y0.out
  have y1 := (CBw1.out.cell (p := ⟨g, 1, none⟩) hg).trans Y1.out
  have y2 := (CBw1.out.cell (p := ⟨g, 2, none⟩) hg).trans Y2.out
  rw [show ([W0, W1, W2] : List ByteArray).length = 3 from rfl]
  have HSV := Lib.hid hsv
  have hv0 : ¬ (v : Int) < 0 := by omega
  clear hsv
  obtain ⟨r, hpl⟩ : ∃ r, placeI ((a : Int), (k : Int)) (keysM m) 0 = r := ⟨_, rfl⟩
  have HPL := Lib.hid hpl
  clear hpl
  have HLK := Lib.hid hl
  have H64 := Lib.hid h64
  clear hl h64
  have HN := Lib.hid hnf
  have HSN := Lib.hid hsn
  have HI : Hid (is32 (a : Int)) := Lib.hid ⟨by omega, by omega⟩
  clear hnf hsn
  go_wp2_with fail
  go_at_call 22
  (with_reducible refine (NetOf_yes a k W1 _ hw1 ha HN.out HSN.out).mono ?_)
  rintro e w2 ⟨rfl, hb⟩
  clear t0 t1 r0 r1 r2 r3 y0 y1 y2
  have ABw2 := Lib.hid (ABw1.out.below hb)
  have CBw2 := Lib.hid (CBw1.out.trans (hb.mono CBw1.out.size))
  clear hb
  obtain ⟨t0, t1, _, _⟩ := row2 ABw2.out.tb
  obtain ⟨r0, r1, r2, r3⟩ := row2 ABw2.out.rs
  have y0 := (CBw2.out.cell (p := ⟨g, 0, none⟩) hg).trans Y0.out
  have y1 := (CBw2.out.cell (p := ⟨g, 1, none⟩) hg).trans Y1.out
  have y2 := (CBw2.out.cell (p := ⟨g, 2, none⟩) hg).trans Y2.out
  clear t0 t1 r0 r1 r2 r3 y0 y1 y2
  have hba := below_1 w2 (.cells #[.int .u32 (a : Int), .int .i64 (k : Int)] 47)
  have ABw2a := Lib.hid (ABw2.out.below hba)
  have CBw2a := Lib.hid (CBw2.out.trans (hba.mono CBw2.out.size))
  have NB_w2a := Lib.hid (heap_alloc_new w2 (.cells #[.int .u32 (a : Int), .int .i64 (k : Int)] 47))
  clear hba
  obtain ⟨t0, t1, _, _⟩ := row2 ABw2a.out.tb
  obtain ⟨r0, r1, r2, r3⟩ := row2 ABw2a.out.rs
  have y0 := (CBw2a.out.cell (p := ⟨g, 0, none⟩) hg).trans Y0.out
  have y1 := (CBw2a.out.cell (p := ⟨g, 1, none⟩) hg).trans Y1.out
  have y2 := (CBw2a.out.cell (p := ⟨g, 2, none⟩) hg).trans Y2.out
  obtain ⟨nb0, nb1, _, _⟩ := row2 NB_w2a.out
  go_wp2_with fail
  go_at_call 23
  (with_reducible refine (Places_any (HT.out.below ABw2a.out.bel).nets).mono ?_)
  rintro e w3 ⟨rfl, hb⟩
  clear t0 t1 r0 r1 r2 r3 y0 y1 y2 nb0 nb1
  have ABw3 := Lib.hid (ABw2a.out.below hb)
  have CBw3 := Lib.hid (CBw2a.out.trans (hb.mono CBw2a.out.size))
  have NB_w3 := Lib.hid (below_block hb (size_of_block NB_w2a.out) NB_w2a.out)
  clear hb
  rw [HPL.out]
  obtain ⟨t0, t1, _, _⟩ := row2 ABw3.out.tb
  obtain ⟨r0, r1, r2, r3⟩ := row2 ABw3.out.rs
  have y0 := (CBw3.out.cell (p := ⟨g, 0, none⟩) hg).trans Y0.out
  have y1 := (CBw3.out.cell (p := ⟨g, 1, none⟩) hg).trans Y1.out
  have y2 := (CBw3.out.cell (p := ⟨g, 2, none⟩) hg).trans Y2.out
  obtain ⟨nb0, nb1, _, _⟩ := row2 NB_w3.out
  go_wp2_with fail
  go_at_call 26
  (with_reducible refine (Whole_n v W2 _ hw2 hv HSV.out).mono ?_)
  rintro e w4 ⟨rfl, hb⟩
  clear t0 t1 r0 r1 r2 r3 y0 y1 y2 nb0 nb1
  have ABw4 := Lib.hid (ABw3.out.below hb)
  have CBw4 := Lib.hid (CBw3.out.trans (hb.mono CBw3.out.size))
  have NB_w4 := Lib.hid (below_block hb (size_of_block NB_w3.out) NB_w3.out)
  clear hb
  obtain ⟨t0, t1, _, _⟩ := row2 ABw4.out.tb
  obtain ⟨r0, r1, r2, r3⟩ := row2 ABw4.out.rs
  have y0 := (CBw4.out.cell (p := ⟨g, 0, none⟩) hg).trans Y0.out
  have y1 := (CBw4.out.cell (p := ⟨g, 1, none⟩) hg).trans Y1.out
  have y2 := (CBw4.out.cell (p := ⟨g, 2, none⟩) hg).trans Y2.out
  obtain ⟨nb0, nb1, _, _⟩ := row2 NB_w4.out
  go_wp2_with fail
  go_at_call 27
  (with_reducible refine (PutIn_full (v := (v : Int)) (HT.out.below ABw4.out.bel).nets (HT.out.below ABw4.out.bel).vals HLEN.out HLK.out H64.out).mono ?_)
  rintro e w5 ⟨rfl, hb⟩
  clear t0 t1 r0 r1 r2 r3 y0 y1 y2 nb0 nb1
  have ABw5 := Lib.hid (ABw4.out.below hb)
  have CBw5 := Lib.hid (CBw4.out.trans (hb.mono CBw4.out.size))
  have NB_w5 := Lib.hid (below_block hb (size_of_block NB_w4.out) NB_w4.out)
  clear hb
  obtain ⟨t0, t1, _, _⟩ := row2 ABw5.out.tb
  obtain ⟨r0, r1, r2, r3⟩ := row2 ABw5.out.rs
  have y0 := (CBw5.out.cell (p := ⟨g, 0, none⟩) hg).trans Y0.out
  have y1 := (CBw5.out.cell (p := ⟨g, 1, none⟩) hg).trans Y1.out
  have y2 := (CBw5.out.cell (p := ⟨g, 2, none⟩) hg).trans Y2.out
  obtain ⟨nb0, nb1, _, _⟩ := row2 NB_w5.out
  clear t0 t1 r0 r1 r2 r3 y0 y1 y2 nb0 nb1
  have hba := below_1 w5 (.cells #[.slice A n c, .slice A' n' c'] 29)
  have ABw5a := Lib.hid (ABw5.out.below hba)
  have CBw5a := Lib.hid (CBw5.out.trans (hba.mono CBw5.out.size))
  have NB_w5a := Lib.hid (below_block hba (size_of_block NB_w5.out) NB_w5.out)
  clear hba
  obtain ⟨t0, t1, _, _⟩ := row2 ABw5a.out.tb
  obtain ⟨r0, r1, r2, r3⟩ := row2 ABw5a.out.rs
  have y0 := (CBw5a.out.cell (p := ⟨g, 0, none⟩) hg).trans Y0.out
  have y1 := (CBw5a.out.cell (p := ⟨g, 1, none⟩) hg).trans Y1.out
  have y2 := (CBw5a.out.cell (p := ⟨g, 2, none⟩) hg).trans Y2.out
  obtain ⟨nb0, nb1, _, _⟩ := row2 NB_w5a.out
  go_wp2
  have hend := (ABw5a.out.laid (.slice A n c) (.slice A' n' c'))
  exact ans_end hend.rs rfl rfl rfl (by rw [← HPP.out]; exact AnsPost.same hend HT.out)
set_option maxRecDepth 100000 in
set_option maxHeartbeats 8000000 in
theorem Ans_put {W0 W1 W2 : ByteArray} (hT : TabR M W m A n c A' n' c') (hM : ∀ b, M b → b < W.heap.size) (hd : DOk m) (hs : s.size ≤ 2097152) (hL : [W0, W1, W2].map (·.data.toList) = segs 32 s.data.toList) (k0 : s.data.toList ≠ [108, 105, 115, 116]) (k1 : s.data.toList ≠ [99, 111, 118, 101, 114]) (k2 : W0.data.toList ≠ [99, 111, 109, 109, 111, 110]) (k3 : W0.data.toList = [112, 117, 116]) {a k : Nat} (ha : a < 4294967296) (hnf : netF ((a : Int), (k : Int)) = 0) (hsn : W1.data.toList = netT a k) {v : Nat} (hv : v ≤ 1073741824) (hsv : W2.data.toList = dd v) (hroom : ¬ (look m ((a : Int), (k : Int)) = none ∧ 64 ≤ m.length)) :
    Calls Tryz.prog 8 #[.agg #[.slice A n c, .slice A' n' c'], .string s] W (AnsPost M W (.ok okT, putM m ((a : Int), (k : Int)) (v : Int))) := by
  have HT := Lib.hid hT
  have HOK := Lib.hid hd.ok
  have HNUM := Lib.hid hd.num
  have HLEN : Hid (m.length ≤ 64) := Lib.hid hd.ok.len
  have HL := Lib.hid hL
  have HMW := Lib.hid hM
  obtain ⟨PP, hPP⟩ : ∃ PP, AnsPost M W (.ok okT, putM m ((a : Int), (k : Int)) (v : Int)) = PP := ⟨_, rfl⟩
  have HPP := Lib.hid hPP
  rw [hPP]
  have hwsz := fun (k : Nat) (p : ByteArray) (h : [W0, W1, W2][k]? = some p) => Nat.le_trans (piece_size hL h) hs
  have hw0 : W0.size ≤ 2097152 := hwsz 0 W0 rfl
  have hw1 : W1.size ≤ 2097152 := hwsz 1 W1 rfl
  have hw2 : W2.size ≤ 2097152 := hwsz 2 W2 rfl
  clear hT hM hd hL hPP hwsz
  have q0 : (s.toList == [108, 105, 115, 116]) = false := by rw [ByteArray.toList_eq]; simpa using k0
  have q1 : (s.toList == [99, 111, 118, 101, 114]) = false := by rw [ByteArray.toList_eq]; simpa using k1
  have q2 : (W0.toList == [99, 111, 109, 109, 111, 110]) = false := by rw [ByteArray.toList_eq]; simpa using k2
  have q3 : (W0.toList == [112, 117, 116]) = true := by rw [ByteArray.toList_eq]; simpa using k3
  clear k0 k1 k2 k3
  go_enter Tryz.func8, Tryz.ntmps8
  go_wp2_with fail
  go_at_call 7
  (with_reducible refine (RCut_c s 32 32 rfl _ hs).mono ?_)
  rintro e w1 ⟨L', g, cap, hL', rfl, hcs, hg, hb⟩
  obtain rfl : L' = [W0, W1, W2] := list_bytes (hL'.trans HL.out.symm)
  have ABw1 := Lib.hid ((AB.start W A n c A' n' c').below hb)
  have CBw1 : Hid (Below w1.heap.size w1 w1) := Lib.hid (Below.refl _ _)
  have Y0 : Hid (w1.cell? ⟨g, 0, none⟩ = some (.string W0)) := Lib.hid (hcs 0 _ rfl)
  have Y1 : Hid (w1.cell? ⟨g, 1, none⟩ = some (.string W1)) := Lib.hid (hcs 1 _ rfl)
  have Y2 : Hid (w1.cell? ⟨g, 2, none⟩ = some (.string W2)) := Lib.hid (hcs 2 _ rfl)
  clear hcs hb hL'
  obtain ⟨t0, t1, _, _⟩ := row2 ABw1.out.tb
  obtain ⟨r0, r1, r2, r3⟩ := row2 ABw1.out.rs
  have y0 := (CBw1.out.cell (p := ⟨g, 0, none⟩) hg).trans Y0.out
  have y1 := (CBw1.out.cell (p := ⟨g, 1, none⟩) hg).trans Y1.out
  have y2 := (CBw1.out.cell (p := ⟨g, 2, none⟩) hg).trans Y2.out
  rw [show ([W0, W1, W2] : List ByteArray).length = 3 from rfl]
  have HSV := Lib.hid hsv
  have hv0 : ¬ (v : Int) < 0 := by omega
  clear hsv
  obtain ⟨r, hpl⟩ : ∃ r, placeI ((a : Int), (k : Int)) (keysM m) 0 = r := ⟨_, rfl⟩
  have HPL := Lib.hid hpl
  clear hpl
  have HRM := Lib.hid hroom
  have HWV : Hid ((Lit.int .i64 (v : Int)).wf = true) := Lib.hid (WalkArith.wf_i64 (by omega))
  have HWX : Hid (wfN ((a : Int), (k : Int))) := Lib.hid ⟨WalkArith.wf_u32 (by omega), WalkArith.wf_i64 (by have := (netF_zero.1 hnf).2.1; omega)⟩
  clear hroom
  have HN := Lib.hid hnf
  have HSN := Lib.hid hsn
  have HI : Hid (is32 (a : Int)) := Lib.hid ⟨by omega, by omega⟩
  clear hnf hsn
  go_wp2_with fail
  go_at_call 22
  (with_reducible refine (NetOf_yes a k W1 _ hw1 ha HN.out HSN.out).mono ?_)
  rintro e w2 ⟨rfl, hb⟩
  clear t0 t1 r0 r1 r2 r3 y0 y1 y2
  have ABw2 := Lib.hid (ABw1.out.below hb)
  have CBw2 := Lib.hid (CBw1.out.trans (hb.mono CBw1.out.size))
  clear hb
  obtain ⟨t0, t1, _, _⟩ := row2 ABw2.out.tb
  obtain ⟨r0, r1, r2, r3⟩ := row2 ABw2.out.rs
  have y0 := (CBw2.out.cell (p := ⟨g, 0, none⟩) hg).trans Y0.out
  have y1 := (CBw2.out.cell (p := ⟨g, 1, none⟩) hg).trans Y1.out
  have y2 := (CBw2.out.cell (p := ⟨g, 2, none⟩) hg).trans Y2.out
  clear t0 t1 r0 r1 r2 r3 y0 y1 y2
  have hba := below_1 w2 (.cells #[.int .u32 (a : Int), .int .i64 (k : Int)] 47)
  have ABw2a := Lib.hid (ABw2.out.below hba)
  have CBw2a := Lib.hid (CBw2.out.trans (hba.mono CBw2.out.size))
  have NB_w2a := Lib.hid (heap_alloc_new w2 (.cells #[.int .u32 (a : Int), .int .i64 (k : Int)] 47))
  clear hba
  obtain ⟨t0, t1, _, _⟩ := row2 ABw2a.out.tb
  obtain ⟨r0, r1, r2, r3⟩ := row2 ABw2a.out.rs
  have y0 := (CBw2a.out.cell (p := ⟨g, 0, none⟩) hg).trans Y0.out
  have y1 := (CBw2a.out.cell (p := ⟨g, 1, none⟩) hg).trans Y1.out
  have y2 := (CBw2a.out.cell (p := ⟨g, 2, none⟩) hg).trans Y2.out
  obtain ⟨nb0, nb1, _, _⟩ := row2 NB_w2a.out
  go_wp2_with fail
  go_at_call 23
  (with_reducible refine (Places_any (HT.out.below ABw2a.out.bel).nets).mono ?_)
  rintro e w3 ⟨rfl, hb⟩
  clear t0 t1 r0 r1 r2 r3 y0 y1 y2 nb0 nb1
  have ABw3 := Lib.hid (ABw2a.out.below hb)
  have CBw3 := Lib.hid (CBw2a.out.trans (hb.mono CBw2a.out.size))
  have NB_w3 := Lib.hid (below_block hb (size_of_block NB_w2a.out) NB_w2a.out)
  clear hb
  rw [HPL.out]
  obtain ⟨t0, t1, _, _⟩ := row2 ABw3.out.tb
  obtain ⟨r0, r1, r2, r3⟩ := row2 ABw3.out.rs
  have y0 := (CBw3.out.cell (p := ⟨g, 0, none⟩) hg).trans Y0.out
  have y1 := (CBw3.out.cell (p := ⟨g, 1, none⟩) hg).trans Y1.out
  have y2 := (CBw3.out.cell (p := ⟨g, 2, none⟩) hg).trans Y2.out
  obtain ⟨nb0, nb1, _, _⟩ := row2 NB_w3.out
  go_wp2_with fail
  go_at_call 26
  (with_reducible refine (Whole_n v W2 _ hw2 hv HSV.out).mono ?_)
  rintro e w4 ⟨rfl, hb⟩
  clear t0 t1 r0 r1 r2 r3 y0 y1 y2 nb0 nb1
  have ABw4 := Lib.hid (ABw3.out.below hb)
  have CBw4 := Lib.hid (CBw3.out.trans (hb.mono CBw3.out.size))
  have NB_w4 := Lib.hid (below_block hb (size_of_block NB_w3.out) NB_w3.out)
  clear hb
  obtain ⟨t0, t1, _, _⟩ := row2 ABw4.out.tb
  obtain ⟨r0, r1, r2, r3⟩ := row2 ABw4.out.rs
  have y0 := (CBw4.out.cell (p := ⟨g, 0, none⟩) hg).trans Y0.out
  have y1 := (CBw4.out.cell (p := ⟨g, 1, none⟩) hg).trans Y1.out
  have y2 := (CBw4.out.cell (p := ⟨g, 2, none⟩) hg).trans Y2.out
  obtain ⟨nb0, nb1, _, _⟩ := row2 NB_w4.out
  go_wp2_with fail
  go_at_call 27
  (with_reducible refine (PutIn_room (v := (v : Int)) (HT.out.below ABw4.out.bel).nets (HT.out.below ABw4.out.bel).vals HLEN.out HRM.out HWX.out HWV.out).mono ?_)
  intro e w5 hpost
  obtain ⟨v1, v2, rfl, ho1, ho2, hb⟩ := hpost
  obtain ⟨B, d, hv1⟩ := ho1.form
  obtain ⟨B', d', hv2⟩ := ho2.form
  subst hv1
  subst hv2
  have hlt : W.heap.size + 1 < w4.heap.size := size_of_block ABw4.out.rs
  have hNS := Lib.hid ((((ho1.alloc (.cells #[(.slice B (keysM (putM m ((a : Int), (k : Int)) (v : Int))).length d), (.slice B' (valsM (putM m ((a : Int), (k : Int)) (v : Int))).length d')] 29)).setCell (o := 0) hlt (.slice B (keysM (putM m ((a : Int), (k : Int)) (v : Int))).length d)).setCell (o := 1) hlt (.slice B' (valsM (putM m ((a : Int), (k : Int)) (v : Int))).length d')))
  have hVS := Lib.hid ((((ho2.alloc (.cells #[(.slice B (keysM (putM m ((a : Int), (k : Int)) (v : Int))).length d), (.slice B' (valsM (putM m ((a : Int), (k : Int)) (v : Int))).length d')] 29)).setCell (o := 0) hlt (.slice B (keysM (putM m ((a : Int), (k : Int)) (v : Int))).length d)).setCell (o := 1) hlt (.slice B' (valsM (putM m ((a : Int), (k : Int)) (v : Int))).length d')))
  clear ho1 ho2
  clear t0 t1 r0 r1 r2 r3 y0 y1 y2 nb0 nb1
  have ABw5 := Lib.hid (ABw4.out.below hb)
  have CBw5 := Lib.hid (CBw4.out.trans (hb.mono CBw4.out.size))
  have NB_w5 := Lib.hid (below_block hb (size_of_block NB_w4.out) NB_w4.out)
  clear hb
  obtain ⟨t0, t1, _, _⟩ := row2 ABw5.out.tb
  obtain ⟨r0, r1, r2, r3⟩ := row2 ABw5.out.rs
  have y0 := (CBw5.out.cell (p := ⟨g, 0, none⟩) hg).trans Y0.out
  have y1 := (CBw5.out.cell (p := ⟨g, 1, none⟩) hg).trans Y1.out
  have y2 := (CBw5.out.cell (p := ⟨g, 2, none⟩) hg).trans Y2.out
  obtain ⟨nb0, nb1, _, _⟩ := row2 NB_w5.out
  clear t0 t1 r0 r1 r2 r3 y0 y1 y2 nb0 nb1
  have hba := below_1 w5 (.cells #[(.slice B (keysM (putM m ((a : Int), (k : Int)) (v : Int))).length d), (.slice B' (valsM (putM m ((a : Int), (k : Int)) (v : Int))).length d')] 29)
  have ABw5a := Lib.hid (ABw5.out.below hba)
  have CBw5a := Lib.hid (CBw5.out.trans (hba.mono CBw5.out.size))
  have NB_w5a := Lib.hid (below_block hba (size_of_block NB_w5.out) NB_w5.out)
  clear hba
  obtain ⟨t0, t1, _, _⟩ := row2 ABw5a.out.tb
  obtain ⟨r0, r1, r2, r3⟩ := row2 ABw5a.out.rs
  have y0 := (CBw5a.out.cell (p := ⟨g, 0, none⟩) hg).trans Y0.out
  have y1 := (CBw5a.out.cell (p := ⟨g, 1, none⟩) hg).trans Y1.out
  have y2 := (CBw5a.out.cell (p := ⟨g, 2, none⟩) hg).trans Y2.out
  obtain ⟨nb0, nb1, _, _⟩ := row2 NB_w5a.out
  have hend := ABw5a.out.laid (.slice B (keysM (putM m ((a : Int), (k : Int)) (v : Int))).length d) (.slice B' (valsM (putM m ((a : Int), (k : Int)) (v : Int))).length d')
  go_wp2
  exact ans_end hend.rs rfl rfl rfl (by rw [← HPP.out]; exact ⟨_, _, _, _, _, _, rfl, ⟨hNS.out.readS fun g h1 h2 => ⟨h2, fun hb => by have := HMW.out g hb; omega⟩, hVS.out.readS fun g h1 h2 => ⟨h2, fun hb => by have := HMW.out g hb; omega⟩⟩, hend.bel⟩)
end
end Go.Proofs.YtgdlkjahlajcpaaGreatDoor
