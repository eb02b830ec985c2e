/- One line of the desk: as lineA says. desk.Run: the answers to a script, one for each line. What the laws on scripts ask of the plain desk; no program in sight. Cut once more: the piece list's capacity too. -/
import Derived.Test.YtgdlkjahlajcpaaGreatDoorAU
import Derived.Test.YtgdlkjahlajcpaaGreatDoorAK
import Derived.Test.YtgdlkjahlajcpaaGreatDoorAV
import Derived.Test.YtgdlkjahlajcpaaGreatDoorAW
import Derived.Test.YtgdlkjahlajcpaaGreatDoorAX
import Derived.Test.YtgdlkjahlajcpaaGreatDoorAT
import Derived.Deep.DeepCutAuto
import Derived.Test.YtgdlkjahlajcpaaGreatDoorAG
import Derived.Test.YtgdlkjahlajcpaaGreatDoorAH
import Derived.Test.YtgdlkjahlajcpaaGreatDoorAP
namespace Go.Proofs.YtgdlkjahlajcpaaGreatDoor
open Go.ChangeShapes Go.WideShapes Go.ChangeAt Go.RowKit
set_option linter.unusedVariables false
set_option linter.unusedSimpArgs false

theorem len_two {r : List ByteArray} (h : r.length = 2) : ∃ p q, r = [p, q] := by
  match r, h with
  | [p, q], _ => exact ⟨p, q, rfl⟩
theorem ba_ne {a b : ByteArray} (h : a ≠ b) : (a == b) = false := by
  have e : (a == b) = (a.data == b.data) := rfl
  rw [e, beq_eq_false_iff_ne]
  exact fun e => h (by cases a; cases b; simp at e; simp [e])
theorem bytes_eq {a b : ByteArray} (h : a.data.toList = b.data.toList) : a = b := by cases a; cases b; simp at h; simp [h]
theorem lwPut (m : Tab) (r : List (List UInt8)) (h : r.length ≠ 2) : lineW m (nPut :: r) = (.error 7, m) := by
  match r, h with
  | [], _ => show lineW1 m nPut = _; unfold lineW1; rw [if_neg (by decide), if_neg (by decide)]
  | [x], _ => show lineW2 m nPut x = _; unfold lineW2; rw [if_neg (by decide), if_neg (by decide), if_neg (by decide), if_neg (by decide)]
  | [x, y], h => exact absurd rfl h
  | _ :: _ :: _ :: _, _ => rfl
theorem lwDrop (m : Tab) (r : List (List UInt8)) (h : r.length ≠ 1) : lineW m (nDrop :: r) = (.error 7, m) := by
  match r, h with
  | [], _ => show lineW1 m nDrop = _; unfold lineW1; rw [if_neg (by decide), if_neg (by decide)]
  | [x], h => exact absurd rfl h
  | [x, y], _ => show lineW3 m nDrop x y = _; unfold lineW3; rw [if_neg (by decide), if_neg (by decide)]
  | _ :: _ :: _ :: _, _ => rfl
theorem lwGet (m : Tab) (r : List (List UInt8)) (h : r.length ≠ 1) : lineW m (nGet :: r) = (.error 7, m) := by
  match r, h with
  | [], _ => show lineW1 m nGet = _; unfold lineW1; rw [if_neg (by decide), if_neg (by decide)]
  | [x], h => exact absurd rfl h
  | [x, y], _ => show lineW3 m nGet x y = _; unfold lineW3; rw [if_neg (by decide), if_neg (by decide)]
  | _ :: _ :: _ :: _, _ => rfl
theorem lwFind (m : Tab) (r : List (List UInt8)) (h : r.length ≠ 1) : lineW m (nFind :: r) = (.error 7, m) := by
  match r, h with
  | [], _ => show lineW1 m nFind = _; unfold lineW1; rw [if_neg (by decide), if_neg (by decide)]
  | [x], h => exact absurd rfl h
  | [x, y], _ => show lineW3 m nFind x y = _; unfold lineW3; rw [if_neg (by decide), if_neg (by decide)]
  | _ :: _ :: _ :: _, _ => rfl
theorem lwList (m : Tab) (r : List (List UInt8)) (h : r.length ≠ 0) : lineW m (nList :: r) = (.error 7, m) := by
  match r, h with
  | [], h => exact absurd rfl h
  | [x], _ => show lineW2 m nList x = _; unfold lineW2; rw [if_neg (by decide), if_neg (by decide), if_neg (by decide), if_neg (by decide)]
  | [x, y], _ => show lineW3 m nList x y = _; unfold lineW3; rw [if_neg (by decide), if_neg (by decide)]
  | _ :: _ :: _ :: _, _ => rfl
theorem lwCover (m : Tab) (r : List (List UInt8)) (h : r.length ≠ 0) : lineW m (nCover :: r) = (.error 7, m) := by
  match r, h with
  | [], h => exact absurd rfl h
  | [x], _ => show lineW2 m nCover x = _; unfold lineW2; rw [if_neg (by decide), if_neg (by decide), if_neg (by decide), if_neg (by decide)]
  | [x, y], _ => show lineW3 m nCover x y = _; unfold lineW3; rw [if_neg (by decide), if_neg (by decide)]
  | _ :: _ :: _ :: _, _ => rfl
theorem lwCommon (m : Tab) (r : List (List UInt8)) (h : r.length ≠ 2) : lineW m (nCommon :: r) = (.error 7, m) := by
  match r, h with
  | [], _ => show lineW1 m nCommon = _; unfold lineW1; rw [if_neg (by decide), if_neg (by decide)]
  | [x], _ => show lineW2 m nCommon x = _; unfold lineW2; rw [if_neg (by decide), if_neg (by decide), if_neg (by decide), if_neg (by decide)]
  | [x, y], h => exact absurd rfl h
  | _ :: _ :: _ :: _, _ => rfl
theorem lwSum (m : Tab) (r : List (List UInt8)) (h : r.length ≠ 1) : lineW m (nSum :: r) = (.error 7, m) := by
  match r, h with
  | [], _ => show lineW1 m nSum = _; unfold lineW1; rw [if_neg (by decide), if_neg (by decide)]
  | [x], h => exact absurd rfl h
  | [x, y], _ => show lineW3 m nSum x y = _; unfold lineW3; rw [if_neg (by decide), if_neg (by decide)]
  | _ :: _ :: _ :: _, _ => rfl
theorem lwMiss (m : Tab) (c : List UInt8) (r : List (List UInt8)) (hPut : c ≠ nPut) (hDrop : c ≠ nDrop) (hGet : c ≠ nGet) (hFind : c ≠ nFind) (hList : c ≠ nList) (hCover : c ≠ nCover) (hCommon : c ≠ nCommon) (hSum : c ≠ nSum) : lineW m (c :: r) = (.error 7, m) := by
  match r with
  | [] => show lineW1 m c = _; unfold lineW1; rw [if_neg hList, if_neg hCover]
  | [x] => show lineW2 m c x = _; unfold lineW2; rw [if_neg hDrop, if_neg hGet, if_neg hFind, if_neg hSum]
  | [x, y] => show lineW3 m c x y = _; unfold lineW3; rw [if_neg hPut, if_neg hCommon]
  | _ :: _ :: _ :: _ => rfl
theorem seekPut : seekK kPut formE 0 = some (0, formV 2 43) := rfl
theorem seekDrop : seekK kDrop formE 0 = some (1, formV 1 48) := rfl
theorem seekGet : seekK kGet formE 0 = some (2, formV 1 50) := rfl
theorem seekFind : seekK kFind formE 0 = some (3, formV 1 54) := rfl
theorem seekList : seekK kList formE 0 = some (4, formV 0 59) := rfl
theorem seekCover : seekK kCover formE 0 = some (5, formV 0 62) := rfl
theorem seekCommon : seekK kCommon formE 0 = some (6, formV 2 65) := rfl
theorem seekSum : seekK kSum formE 0 = some (7, formV 1 68) := rfl
theorem seekMiss {c : ByteArray} (hPut : c ≠ kPut) (hDrop : c ≠ kDrop) (hGet : c ≠ kGet) (hFind : c ≠ kFind) (hList : c ≠ kList) (hCover : c ≠ kCover) (hCommon : c ≠ kCommon) (hSum : c ≠ kSum) : seekK c formE 0 = none := by
  simp [seekK, formE, ba_ne hPut, ba_ne hDrop, ba_ne hGet, ba_ne hFind, ba_ne hList, ba_ne hCover, ba_ne hCommon, ba_ne hSum]
theorem callPut (args : Array Value) (w : World) : (callFunc 43 args).run Tryz.prog w = .ok (.enter 43 args) w := by simp [go_sem]
theorem callDrop (args : Array Value) (w : World) : (callFunc 48 args).run Tryz.prog w = .ok (.enter 48 args) w := by simp [go_sem]
theorem callGet (args : Array Value) (w : World) : (callFunc 50 args).run Tryz.prog w = .ok (.enter 50 args) w := by simp [go_sem]
theorem callFind (args : Array Value) (w : World) : (callFunc 54 args).run Tryz.prog w = .ok (.enter 54 args) w := by simp [go_sem]
theorem callList (args : Array Value) (w : World) : (callFunc 59 args).run Tryz.prog w = .ok (.enter 59 args) w := by simp [go_sem]
theorem callCover (args : Array Value) (w : World) : (callFunc 62 args).run Tryz.prog w = .ok (.enter 62 args) w := by simp [go_sem]
theorem callCommon (args : Array Value) (w : World) : (callFunc 65 args).run Tryz.prog w = .ok (.enter 65 args) w := by simp [go_sem]
theorem callSum (args : Array Value) (w : World) : (callFunc 68 args).run Tryz.prog w = .ok (.enter 68 args) w := by simp [go_sem]
theorem putX_code {m : Tab} {x : Option Nt} {v : Option Nat} (h : ∀ n, x = some n → netF n = 0) : ∀ k, (putX m x v).1 = .error k → 0 ≤ k ∧ k ≤ 7 := by
  intro k hk
  cases x with
  | none => injection hk with hk; omega
  | some n =>
    cases v with
    | none => injection hk with hk; omega
    | some v =>
      unfold putX at hk
      simp only at hk
      rcases putE_net (m := m) (h n rfl) with e | e
      · rw [if_pos e] at hk; cases hk
      · rw [if_neg (by rw [e]; decide)] at hk; injection hk with hk; omega
theorem dropX_code {m : Tab} {x : Option Nt} (h : ∀ n, x = some n → netF n = 0) : ∀ k, (dropX m x).1 = .error k → 0 ≤ k ∧ k ≤ 7 := by
  intro k hk
  cases x with
  | none => injection hk with hk; omega
  | some n =>
    unfold dropX at hk
    simp only at hk
    rcases getE_net (m := m) (h n rfl) with ⟨e, _⟩ | ⟨e, _⟩
    · rw [if_pos e] at hk; cases hk
    · rw [if_neg (by rw [e]; decide)] at hk; injection hk with hk; omega
theorem getX_code {m : Tab} {x : Option Nt} (h : ∀ n, x = some n → netF n = 0) : ∀ k, getX m x = .error k → 0 ≤ k ∧ k ≤ 7 := by
  intro k hk
  cases x with
  | none => injection hk with hk; omega
  | some n =>
    unfold getX at hk
    simp only at hk
    rcases getE_net (m := m) (h n rfl) with ⟨e, _⟩ | ⟨e, _⟩
    · rw [if_pos e] at hk; cases hk
    · rw [if_neg (by rw [e]; decide)] at hk; injection hk with hk; omega
theorem findX_code {m : Tab} {x : Option Nat} : ∀ k, findX m x = .error k → 0 ≤ k ∧ k ≤ 7 := by
  intro k hk
  cases x with
  | none => injection hk with hk; omega
  | some a =>
    have e : findX m (some a) = findT a (fnd m a 33) := rfl
    rw [e] at hk
    cases hf : fnd m (a : Int) 33 with
    | none => rw [hf] at hk; injection hk with hk; omega
    | some p => rw [hf] at hk; cases hk
theorem comX_code {x y : Option Nt} : ∀ k, comX x y = .error k → 0 ≤ k ∧ k ≤ 7 := by
  intro k hk
  cases x with
  | none => injection hk with hk; omega
  | some n =>
    cases y with
    | none => injection hk with hk; omega
    | some v => cases hk
theorem sumX_code {x : Option Nat} : ∀ k, sumX x = .error k → 0 ≤ k ∧ k ≤ 7 := by
  intro k hk
  cases x with
  | none => injection hk with hk; omega
  | some n => cases hk
theorem netO_net (s : List UInt8) : ∀ n, netO s = some n → netF n = 0 := by
  intro n hn
  rcases netO_cases s with ⟨a, k, _, _, h, _, e⟩ | ⟨_, e⟩
  · rw [e] at hn; injection hn with hn; rw [← hn]; exact h
  · rw [e] at hn; cases hn
section
variable {W w : World} {T : Nat} {m : Tab} {S : Nat → Prop} {s c0 : ByteArray} {L : List ByteArray}
theorem DoPost.wrap {e : Ending} {w' : World} {a : Ans} (h : Tk W T m S w) (hh : e = endA a ∧ Below w.heap.size w w') : DoPost W T S w (a, m) e w' := DoPost.of_below h hh.1 hh.2
theorem words1 {v : Value} {p : ByteArray} (h : WordsV S w v [p]) : ∃ g c, v = .slice (some ⟨g, 0, none⟩) 1 c ∧ S g ∧ w.cell? ⟨g, 0, none⟩ = some (.string p) := by
  obtain ⟨A, c, rfl, hc⟩ := h
  obtain ⟨g, rfl, hg, h0⟩ := hc 0 p rfl
  exact ⟨g, c, rfl, hg, h0⟩
theorem words2 {v : Value} {p q : ByteArray} (h : WordsV S w v [p, q]) : ∃ g c, v = .slice (some ⟨g, 0, none⟩) 2 c ∧ S g ∧ w.cell? ⟨g, 0, none⟩ = some (.string p) ∧ w.cell? ⟨g, 1, none⟩ = some (.string q) := by
  obtain ⟨A, c, rfl, hc⟩ := h
  obtain ⟨g, rfl, hg, h0⟩ := hc 0 p rfl
  obtain ⟨g', e, hg', h1⟩ := hc 1 q rfl
  simp only [Option.some.injEq, Addr.mk.injEq, and_true] at e
  subst e
  exact ⟨g, c, rfl, hg, h0, h1⟩
set_option maxRecDepth 100000 in
theorem line_any (h : Tk W T m S w) (hd : DOk m) (hw : HStr W) (hs : s.size ≤ 2097152) :
    Calls Tryz.prog 12 #[deskV T, .string s] w (LinePost W T S w (lineA m s.data.toList)) := by
  obtain ⟨L, hL⟩ : ∃ L : List ByteArray, L.map (·.data.toList) = segs 32 s.data.toList := ⟨(segs 32 s.data.toList).map fun l => ⟨l.toArray⟩, by simp [List.map_map, Function.comp_def]⟩
  have hsz : ∀ p ∈ L, p.size ≤ 2097152 := fun p hp => by
    obtain ⟨k, hk⟩ := List.mem_iff_getElem?.1 hp
    exact Nat.le_trans (piece_size hL hk) hs
  have hA : lineA m s.data.toList = lineW m (L.map (·.data.toList)) := by unfold lineA; rw [hL]
  rw [hA]
  match L, hL, hsz with
  | [], hL, _ => exact absurd hL.symm (segs_ne 32 _)
  | c :: r, hL, hsz =>
    have hc : (c :: r)[0]? = some c := rfl
    have hlr : (r.map (·.data.toList)).length = r.length := List.length_map _
    by_cases hPut : c = kPut
    · subst hPut
      by_cases hlen : r.length = 2
      · obtain ⟨p, q, rfl⟩ : ∃ p q, r = [p, q] := len_two hlen
        have hp := hsz p (by simp)
        have hq := hsz q (by simp)
        have e : lineW m [nPut, p.data.toList, q.data.toList] = putX m (netO p.data.toList) (numO q.data.toList) := by show lineW3 m nPut p.data.toList q.data.toList = _; unfold lineW3; rw [if_pos rfl]
        have e2 : lineW m ([kPut, p, q].map (·.data.toList)) = putX m (netO p.data.toList) (numO q.data.toList) := e
        rw [e2]
        refine line_hit2 h hw hs hL rfl seekPut rfl callPut (putX_code (netO_net _)) fun w1 S1 v hT hWD => ?_
        obtain ⟨g, c, rfl, hg, h0, h1⟩ := words2 hWD
        exact Put_do hT hw h0 h1 hp hq
      · have e : lineW m ((kPut :: r).map (·.data.toList)) = (.error 7, m) := (show lineW m (nPut :: r.map (·.data.toList)) = (.error 7, m) from lwPut m (r.map (·.data.toList)) (by rw [hlr]; exact hlen))
        rw [e]
        exact line_len (kk := 2) h hw hs hL rfl seekPut (by decide) (by simpa using hlen)
    · skip
      by_cases hDrop : c = kDrop
      · subst hDrop
        by_cases hlen : r.length = 1
        · obtain ⟨p, rfl⟩ : ∃ p, r = [p] := List.length_eq_one_iff.1 hlen
          have hp := hsz p (by simp)
          have e : lineW m [nDrop, p.data.toList] = dropX m (netO p.data.toList) := by show lineW2 m nDrop p.data.toList = _; unfold lineW2; rw [if_pos rfl]
          have e2 : lineW m ([kDrop, p].map (·.data.toList)) = dropX m (netO p.data.toList) := e
          rw [e2]
          refine line_hit1 h hw hs hL rfl seekDrop rfl callDrop (dropX_code (netO_net _)) fun w1 S1 v hT hWD => ?_
          obtain ⟨g, c, rfl, hg, h0⟩ := words1 hWD
          exact Drop_do hT hw hg h0 hp
        · have e : lineW m ((kDrop :: r).map (·.data.toList)) = (.error 7, m) := (show lineW m (nDrop :: r.map (·.data.toList)) = (.error 7, m) from lwDrop m (r.map (·.data.toList)) (by rw [hlr]; exact hlen))
          rw [e]
          exact line_len (kk := 1) h hw hs hL rfl seekDrop (by decide) (by simpa using hlen)
      · skip
        by_cases hGet : c = kGet
        · subst hGet
          by_cases hlen : r.length = 1
          · obtain ⟨p, rfl⟩ : ∃ p, r = [p] := List.length_eq_one_iff.1 hlen
            have hp := hsz p (by simp)
            have e : lineW m [nGet, p.data.toList] = (getX m (netO p.data.toList), m) := by show lineW2 m nGet p.data.toList = _; unfold lineW2; rw [if_neg (by decide), if_pos rfl]
            have e2 : lineW m ([kGet, p].map (·.data.toList)) = (getX m (netO p.data.toList), m) := e
            rw [e2]
            refine line_hit1 h hw hs hL rfl seekGet rfl callGet (getX_code (netO_net _)) fun w1 S1 v hT hWD => ?_
            obtain ⟨g, c, rfl, hg, h0⟩ := words1 hWD
            exact (Get_do hT hd hw h0 hp).mono fun e w' hh => DoPost.wrap hT hh
          · have e : lineW m ((kGet :: r).map (·.data.toList)) = (.error 7, m) := (show lineW m (nGet :: r.map (·.data.toList)) = (.error 7, m) from lwGet m (r.map (·.data.toList)) (by rw [hlr]; exact hlen))
            rw [e]
            exact line_len (kk := 1) h hw hs hL rfl seekGet (by decide) (by simpa using hlen)
        · skip
          by_cases hFind : c = kFind
          · subst hFind
            by_cases hlen : r.length = 1
            · obtain ⟨p, rfl⟩ : ∃ p, r = [p] := List.length_eq_one_iff.1 hlen
              have hp := hsz p (by simp)
              have e : lineW m [nFind, p.data.toList] = (findX m (addrO p.data.toList), m) := by show lineW2 m nFind p.data.toList = _; unfold lineW2; rw [if_neg (by decide), if_neg (by decide), if_pos rfl]
              have e2 : lineW m ([kFind, p].map (·.data.toList)) = (findX m (addrO p.data.toList), m) := e
              rw [e2]
              refine line_hit1 h hw hs hL rfl seekFind rfl callFind (fun k hk => by dsimp only at hk; exact findX_code k hk) fun w1 S1 v hT hWD => ?_
              obtain ⟨g, c, rfl, hg, h0⟩ := words1 hWD
              exact (Find_do hT hd hw h0 hp).mono fun e w' hh => DoPost.wrap hT hh
            · have e : lineW m ((kFind :: r).map (·.data.toList)) = (.error 7, m) := (show lineW m (nFind :: r.map (·.data.toList)) = (.error 7, m) from lwFind m (r.map (·.data.toList)) (by rw [hlr]; exact hlen))
              rw [e]
              exact line_len (kk := 1) h hw hs hL rfl seekFind (by decide) (by simpa using hlen)
          · skip
            by_cases hList : c = kList
            · subst hList
              by_cases hlen : r.length = 0
              · obtain rfl : r = [] := List.length_eq_zero_iff.1 hlen
                have e : lineW m [nList] = (.ok (netsT (allM m)), m) := by show lineW1 m nList = _; unfold lineW1; rw [if_pos rfl]
                have e2 : lineW m ([kList].map (·.data.toList)) = (.ok (netsT (allM m)), m) := e
                rw [e2]
                refine line_hit0 h hw hs hL rfl seekList rfl callList ((fun k hk => by cases hk)) fun w1 S1 v hT hWD => ?_
                exact (List_do hT hw).mono fun e w' hh => DoPost.wrap hT hh
              · have e : lineW m ((kList :: r).map (·.data.toList)) = (.error 7, m) := (show lineW m (nList :: r.map (·.data.toList)) = (.error 7, m) from lwList m (r.map (·.data.toList)) (by rw [hlr]; exact hlen))
                rw [e]
                exact line_len (kk := 0) h hw hs hL rfl seekList (by decide) (by simpa using hlen)
            · skip
              by_cases hCover : c = kCover
              · subst hCover
                by_cases hlen : r.length = 0
                · obtain rfl : r = [] := List.length_eq_zero_iff.1 hlen
                  have e : lineW m [nCover] = (.ok (netsT (coverV (allM m))), m) := by show lineW1 m nCover = _; unfold lineW1; rw [if_neg (by decide), if_pos rfl]
                  have e2 : lineW m ([kCover].map (·.data.toList)) = (.ok (netsT (coverV (allM m))), m) := e
                  rw [e2]
                  refine line_hit0 h hw hs hL rfl seekCover rfl callCover ((fun k hk => by cases hk)) fun w1 S1 v hT hWD => ?_
                  exact (Cover_do hT hw).mono fun e w' hh => DoPost.wrap hT hh
                · have e : lineW m ((kCover :: r).map (·.data.toList)) = (.error 7, m) := (show lineW m (nCover :: r.map (·.data.toList)) = (.error 7, m) from lwCover m (r.map (·.data.toList)) (by rw [hlr]; exact hlen))
                  rw [e]
                  exact line_len (kk := 0) h hw hs hL rfl seekCover (by decide) (by simpa using hlen)
              · skip
                by_cases hCommon : c = kCommon
                · subst hCommon
                  by_cases hlen : r.length = 2
                  · obtain ⟨p, q, rfl⟩ : ∃ p q, r = [p, q] := len_two hlen
                    have hp := hsz p (by simp)
                    have hq := hsz q (by simp)
                    have e : lineW m [nCommon, p.data.toList, q.data.toList] = (comX (netO p.data.toList) (netO q.data.toList), m) := by show lineW3 m nCommon p.data.toList q.data.toList = _; unfold lineW3; rw [if_neg (by decide), if_pos rfl]
                    have e2 : lineW m ([kCommon, p, q].map (·.data.toList)) = (comX (netO p.data.toList) (netO q.data.toList), m) := e
                    rw [e2]
                    refine line_hit2 h hw hs hL rfl seekCommon rfl callCommon (comX_code (x := netO p.data.toList) (y := netO q.data.toList)) fun w1 S1 v hT hWD => ?_
                    obtain ⟨g, c, rfl, hg, h0, h1⟩ := words2 hWD
                    exact (Common_do hT hw h0 h1 hp hq).mono fun e w' hh => DoPost.wrap hT hh
                  · have e : lineW m ((kCommon :: r).map (·.data.toList)) = (.error 7, m) := (show lineW m (nCommon :: r.map (·.data.toList)) = (.error 7, m) from lwCommon m (r.map (·.data.toList)) (by rw [hlr]; exact hlen))
                    rw [e]
                    exact line_len (kk := 2) h hw hs hL rfl seekCommon (by decide) (by simpa using hlen)
                · skip
                  by_cases hSum : c = kSum
                  · subst hSum
                    by_cases hlen : r.length = 1
                    · obtain ⟨p, rfl⟩ : ∃ p, r = [p] := List.length_eq_one_iff.1 hlen
                      have hp := hsz p (by simp)
                      have e : lineW m [nSum, p.data.toList] = (sumX (addrO p.data.toList), m) := by show lineW2 m nSum p.data.toList = _; unfold lineW2; rw [if_neg (by decide), if_neg (by decide), if_neg (by decide), if_pos rfl]
                      have e2 : lineW m ([kSum, p].map (·.data.toList)) = (sumX (addrO p.data.toList), m) := e
                      rw [e2]
                      refine line_hit1 h hw hs hL rfl seekSum rfl callSum (fun k hk => by dsimp only at hk; exact sumX_code k hk) fun w1 S1 v hT hWD => ?_
                      obtain ⟨g, c, rfl, hg, h0⟩ := words1 hWD
                      exact (Sum_do hT hw h0 hp).mono fun e w' hh => DoPost.wrap hT hh
                    · have e : lineW m ((kSum :: r).map (·.data.toList)) = (.error 7, m) := (show lineW m (nSum :: r.map (·.data.toList)) = (.error 7, m) from lwSum m (r.map (·.data.toList)) (by rw [hlr]; exact hlen))
                      rw [e]
                      exact line_len (kk := 1) h hw hs hL rfl seekSum (by decide) (by simpa using hlen)
                  · skip
                    have gPut : c.data.toList ≠ nPut := fun e => hPut (bytes_eq e)
                    have gDrop : c.data.toList ≠ nDrop := fun e => hDrop (bytes_eq e)
                    have gGet : c.data.toList ≠ nGet := fun e => hGet (bytes_eq e)
                    have gFind : c.data.toList ≠ nFind := fun e => hFind (bytes_eq e)
                    have gList : c.data.toList ≠ nList := fun e => hList (bytes_eq e)
                    have gCover : c.data.toList ≠ nCover := fun e => hCover (bytes_eq e)
                    have gCommon : c.data.toList ≠ nCommon := fun e => hCommon (bytes_eq e)
                    have gSum : c.data.toList ≠ nSum := fun e => hSum (bytes_eq e)
                    have e : lineW m ((c :: r).map (·.data.toList)) = (.error 7, m) := lwMiss m _ _ gPut gDrop gGet gFind gList gCover gCommon gSum
                    rw [e]
                    exact line_miss h hw hs hL rfl (seekMiss hPut hDrop hGet hFind hList hCover hCommon hSum)
end
end Go.Proofs.YtgdlkjahlajcpaaGreatDoor
namespace Go.Proofs.YtgdlkjahlajcpaaGreatDoor
open Go.ChangeShapes Go.WideShapes Go.ChangeAt Go.RowKit
set_option linter.unusedVariables false
set_option linter.unusedSimpArgs false

def nL (M : Nat) (p : ByteArray) : Nat := if p.data.toList = [] then M else M + 1
theorem lines_take {s : List UInt8} {L : List ByteArray} {M : Nat} {p : ByteArray} (hL : L.map (·.data.toList) = segs 10 s) (hM : L.length = M + 1) (hp : L[M]? = some p) : linesA s = (L.take (nL M p)).map (·.data.toList) := by
  have hlast : (segs 10 s).getLast? = some p.data.toList := by
    rw [← hL, List.getLast?_eq_getElem?, List.length_map, hM, List.getElem?_map, Nat.add_sub_cancel, hp]; rfl
  unfold linesA nL
  rw [hlast, ← hL]
  by_cases h : p.data.toList = []
  · rw [if_pos (by rw [h]), if_pos h, List.dropLast_eq_take, List.length_map, hM, Nat.add_sub_cancel, List.map_take]
  · rw [if_neg (by simpa using h), if_neg h, List.take_of_length_le (by omega)]
theorem nL_le (M : Nat) (p : ByteArray) : nL M p ≤ M + 1 ∧ M ≤ nL M p := by unfold nL; split <;> omega
theorem tabA_take {l : List (List UInt8)} {k : Nat} {x : List UInt8} (h : l[k]? = some x) (m : Tab) : tabA m (l.take (k + 1)) = (lineA (tabA m (l.take k)) x).2 := by
  rw [List.take_add_one, h, tabA_append]; rfl
theorem runA_take {l : List (List UInt8)} {k : Nat} {x : List UInt8} (h : l[k]? = some x) (m : Tab) : runA m (l.take (k + 1)) = runA m (l.take k) ++ [ansT (lineA (tabA m (l.take k)) x).1] := by
  rw [List.take_add_one, h, runA_append]; rfl
theorem OwnS.mono {w : World} {base b' : Nat} {v : Value} {xs : List (List UInt8)} (h : OwnS w base v xs) (hb : b' ≤ base) : OwnS w b' v xs := by
  obtain ⟨h1, h2⟩ := h
  rcases h2 with h2 | ⟨g, cap, cur, e, h3, h4⟩
  · exact ⟨h1, .inl h2⟩
  · exact ⟨h1, .inr ⟨g, cap, cur, e, Nat.le_trans hb h3, h4⟩⟩
theorem OwnS.one (w : World) (t : List UInt8) : OwnS (w.alloc (.cells #[strV t] 9)) w.heap.size (.slice (some ⟨w.heap.size, 0, none⟩) 1 1) [t] :=
  ⟨rfl, .inr ⟨w.heap.size, 1, _, rfl, Nat.le_refl _, heap_alloc_new _ _, Nat.le_refl _, by unfold maxLen; omega, rfl, rfl⟩⟩
def RunPost (w : World) (s : List UInt8) (e : Ending) (w' : World) : Prop := ∃ v, e = .returned v ∧ OwnS w' w.heap.size v (deskA s) ∧ Below w.heap.size w w'
set_option maxRecDepth 100000 in
set_option maxHeartbeats 8000000 in
theorem Run_any (s : ByteArray) (w : World) (hw : HStr w) (hs : s.size ≤ 2097152) :
    Calls Tryz.prog 6 #[.string s] w (RunPost w s.data.toList) := by
  have HW := Lib.hid hw
  obtain ⟨PP, hPP⟩ : ∃ PP, RunPost w s.data.toList = PP := ⟨_, rfl⟩
  have HPP := Lib.hid hPP
  rw [hPP]
  clear hw hPP
  go_enter Tryz.func6, Tryz.ntmps6
  go_wp2_with fail
  go_at_call 9
  (with_reducible refine (Split_r 10 s _ HW.out hs).mono ?_)
  rintro e w1 ⟨L, g, hL, rfl, hcs, hg, hb1⟩
  obtain ⟨M, hM⟩ : ∃ M, L.length = M + 1 := by
    have h1 := congrArg List.length hL
    rw [List.length_map, segs_length] at h1
    exact ⟨_, h1⟩
  have hM2 : M ≤ 2097152 := by
    have h1 := congrArg List.length hL
    rw [List.length_map, segs_length, hM] at h1
    have h2 := List.count_le_length (a := (10 : UInt8)) (l := s.data.toList)
    rw [size_data] at h2; omega
  obtain ⟨p, hp⟩ : ∃ p, L[M]? = some p := ⟨L[M]'(by omega), List.getElem?_eq_getElem _⟩
  have HLS : Hid (∀ (k : Nat) (p : ByteArray), L[k]? = some p → p.size ≤ 2097152) := Lib.hid (fun k p h => Nat.le_trans (piece_size hL h) hs)
  have HLN := Lib.hid (lines_take hL hM hp)
  have HCS := Lib.hid hcs
  have HB1 := Lib.hid hb1
  have HM := Lib.hid hM
  have hcell : w1.cell? ⟨g, M, none⟩ = some (.string p) := hcs M p hp
  have hn := nL_le M p
  obtain ⟨n, hn2⟩ : ∃ n, nL M p = n := ⟨_, rfl⟩
  have HN2 := Lib.hid hn2
  rw [hn2] at HLN hn
  obtain ⟨hn0, hn1⟩ := hn
  rw [hM]
  clear hL hM hcs hb1 hp hn2
  go_upto_if 16 with fail
  go_cut [3] (fun v wx => v = .slice (some ⟨g, 0, none⟩) n (M + 1) ∧ wx = w1)
  case first =>
    by_cases hp0 : p.data.toList = []
    · have hnM : n = M := by rw [← HN2.out]; unfold nL; rw [if_pos hp0]
      have ht : p.toList.isEmpty = true := by rw [ByteArray.toList_eq, hp0]; rfl
      have hi1 : ¬ ((M : Int) + 1 < (M : Int)) := by omega
      subst hnM
      clear hp0
      go_wp2
      all_goals first | (rename_i hx; rw [ht] at hx; exact absurd hx (by decide)) | (go_meet; exact ⟨rfl, rfl⟩)
    · have hnM : n = M + 1 := by rw [← HN2.out]; unfold nL; rw [if_neg hp0]
      have ht : p.toList.isEmpty = false := by
        rw [ByteArray.toList_eq]
        cases e : p.data.toList with
        | nil => exact absurd e hp0
        | cons _ _ => rfl
      subst hnM
      clear hp0
      go_wp2
      all_goals first | (rename_i hx; rw [ht] at hx; exact absurd hx (by decide)) | (go_meet; exact ⟨rfl, rfl⟩)
  case rest =>
    obtain ⟨rfl, hw0⟩ := hcut
    subst hw0
    by_cases h100 : 100 < n
    · have h100' : 100 < (n : Int) := by omega
      have hD : deskA s.data.toList = [nameE 4] := by
        unfold deskA
        rw [HLN.out, if_pos (by rw [List.length_map, List.length_take, HM.out]; omega)]
      have HD := Lib.hid hD
      clear hD h100
      go_wp2_with (first
        | (go_at_call 10; (with_reducible refine (Name_any 4 (by decide) (by decide) _).mono ?_); rintro e w3 ⟨rfl, rfl⟩)
        | fail)
      rw [← HPP.out]
      exact ⟨_, rfl, by rw [HD.out]; exact (OwnS.one _ _).mono HB1.out.size, HB1.out.alloc HB1.out.size _⟩
    · have h100' : ¬ 100 < (n : Int) := by omega
      have hD : deskA s.data.toList = runA [] (linesA s.data.toList) := by
        unfold deskA
        rw [if_neg (by rw [HLN.out, List.length_map, List.length_take, HM.out]; omega)]
      have HD := Lib.hid hD
      clear hD
      go_wp2_with fail
      go_at_call 11
      (with_reducible refine (New_t wc).mono ?_)
      rintro e w2 ⟨rfl, hT2⟩
      obtain ⟨T, hTe⟩ : ∃ T, wc.heap.size = T := ⟨_, rfl⟩
      have HTE := Lib.hid hTe
      have HT2 := Lib.hid hT2
      have hW1 : HStr wc := HW.out.on HB1.out
      have HW1 := Lib.hid hW1
      have zT2 := hT2.bel.size
      rw [hTe]
      clear hT2 hTe hW1
      go_wp2
      generalize hw3 : w2.alloc (.cells #[.pointer (some ⟨T, 0, none⟩)] 40) = w3 at *
      have hb3 : Below w2.heap.size w2 w3 := by rw [← hw3]; exact (Below.refl _ _).alloc (Nat.le_refl _) _
      have hD3 : w3.heap[w2.heap.size]? = some (.cells #[.pointer (some ⟨T, 0, none⟩)] 40 (0, 0)) := by rw [← hw3]; exact heap_alloc_new _ _
      have HT3 : Hid (Tk wc T [] (fun b => NoB b ∨ w2.heap.size ≤ b ∧ b < w3.heap.size) w3) := Lib.hid (by have h := HT2.out.more hb3; rw [HTE.out] at h; exact h)
      obtain ⟨D, hDe⟩ : ∃ D, w2.heap.size = D := ⟨_, rfl⟩
      rw [hDe] at hD3 HT3 ⊢
      have HD3 := Lib.hid hD3
      have hlD := size_of_block hD3
      have hz3 : D + 1 ≤ w3.heap.size := by rw [← hw3, ← hDe]; simp
      have hDw : wc.heap.size ≤ D := by omega
      clear hw3 hb3 hD3 hDe
      have HN : Hid ((linesA s.data.toList).length = n) := Lib.hid (by rw [HLN.out, List.length_map, List.length_take, HM.out]; omega)
      have HAT : Hid (∀ k, k < n → ∃ q : ByteArray, L[k]? = some q ∧ (linesA s.data.toList)[k]? = some q.data.toList) := Lib.hid (fun k hk => by
        obtain ⟨q, hq⟩ : ∃ q, L[k]? = some q := ⟨L[k]'(by rw [HM.out]; omega), List.getElem?_eq_getElem _⟩
        exact ⟨q, hq, by rw [HLN.out, List.getElem?_map, List.getElem?_take_of_lt hk, hq]; rfl⟩)
      obtain ⟨LL, hLL⟩ : ∃ LL, linesA s.data.toList = LL := ⟨_, rfl⟩
      rw [hLL] at HN HAT HD
      clear hLL
      go_loopw [5, 31] (fun v j wr => ∃ (k : Nat) (S : Nat → Prop), k ≤ n ∧ j = .int .i64 k ∧ Hid (Tk wc T (tabA [] (LL.take k)) S wr) ∧ S D ∧ Hid (∀ b, v.ownBlock = some b → S b) ∧ Hid (OwnS wr (D + 1) v (runA [] (LL.take k))) ∧ Hid (wr.heap[D]? = some (.cells #[.pointer (some ⟨T, 0, none⟩)] 40 (0, 0)))) (fun _ j _ => n - (intOf j).toNat)
      case atStart => exact ⟨0, _, Nat.zero_le _, rfl, HT3, .inr ⟨Nat.le_refl _, hlD⟩, Lib.hid (fun b hb => by cases hb), Lib.hid (OwnS.nil_ _ _), HD3⟩
      case round =>
        obtain ⟨k, S, hk, rfl, HTk, hSD, HSv, HOW, HDr⟩ := hrel
        have hbel := HTk.out.bel
        have hszr := hbel.size
        have x0 := row1p HDr.out
        have hlDr := size_of_block HDr.out
        by_cases hlt : k < n
        · obtain ⟨q, hq, hq2⟩ := HAT.out k hlt
          have hcq : wr.cell? ⟨g, k, none⟩ = some (.string q) := (hbel.cell (p := ⟨g, k, none⟩) hg).trans (HCS.out k q hq)
          have hqs := HLS.out k q hq
          have HTA := Lib.hid (tabA_take hq2 [])
          have HRA := Lib.hid (runA_take hq2 [])
          have hok : DOk (tabA [] (LL.take k)) := tabA_ok _ DOk.nil
          have HOK := Lib.hid hok
          clear hq hq2 hbel hok
          go_wp2_with fail
          go_at_call 12
          (with_reducible refine (line_any HTk.out HOK.out HW1.out hqs).mono ?_)
          rintro e w4 ⟨rfl, hT4, hK4⟩
          rw [← HTA.out] at hT4
          obtain ⟨t, ht⟩ : ∃ t, ansT (lineA (tabA [] (LL.take k)) q.data.toList).1 = t := ⟨_, rfl⟩
          rw [ht] at HRA ⊢
          have hO4 : OwnS w4 (D + 1) u5 (runA [] (LL.take k)) := HOW.out.kept fun b hb => hK4 b (HSv.out b hb)
          have hD4 := (hK4 D hSD).trans HDr.out
          have hlD4 := size_of_block hD4
          have hT4a := hT4.more (below_1 w4 (.cells #[strV t] 9))
          have HT4a := Lib.hid hT4a
          have HO4 := Lib.hid hO4
          have HD4 := Lib.hid hD4
          have hrl : (runA [] (LL.take k)).length ≤ 1000000000 := by rw [runA_length, List.length_take]; omega
          clear ht hT4 hK4 hO4 hD4 hT4a
          go_wp2_with (first
            | (at_builtin; refine wpList_append_text rfl _ _ 23 Tryz.underlying23 rfl (D + 1) u5 _ rfl (HO4.out.alloc _) w4.heap.size t 9 rfl (heap_alloc_new w4 _) hrl ?hbs ?_)
            | fail)
          case hbs => simp; omega
          intro v' w5 hO5 hG5
          rw [← HRA.out] at hO5
          obtain ⟨hT5, hk5⟩ := Tk.grow HT4a.out hG5 (fun b hb => ⟨.inl (HSv.out b hb), by have := (HO4.out.blk b hb).1; omega⟩)
          have hD5 : w5.heap[D]? = some (.cells #[.pointer (some ⟨T, 0, none⟩)] 40 (0, 0)) := (hk5 D (.inl hSD) (fun j hj => by have := (HO4.out.blk j hj).1; omega)).trans (below_block (below_1 w4 (.cells #[strV t] 9)) hlD4 HD4.out)
          have hv5 : ∀ b, v'.ownBlock = some b → (fun b => (S b ∨ w4.heap.size ≤ b ∧ b < (w4.alloc (.cells #[strV t] 9)).heap.size) ∨ (w4.alloc (.cells #[strV t] 9)).heap.size ≤ b ∧ b < w5.heap.size) b := by
            intro b hb
            have h5 := (hO5.blk b hb).2
            rcases hG5.2 with e | ⟨j, e, hj⟩
            · rw [e] at hb; exact .inl (.inl (HSv.out b hb))
            · rw [e] at hb; injection hb with hb; subst hb; exact .inr ⟨hj, h5⟩
          have HT5 := Lib.hid hT5
          have HO5 := Lib.hid hO5
          have HD5 := Lib.hid hD5
          have HV5 := Lib.hid hv5
          clear hT5 hO5 hD5 hv5 hk5 hG5
          go_wp2
          exact ⟨⟨k + 1, _, by omega, by go_num, HT5, .inl (.inl hSD), HV5, HO5, HD5⟩, by simp [intOf]; omega⟩
        · obtain rfl : k = n := by omega
          have hall : LL.take k = LL := List.take_of_length_le (by rw [HN.out]; exact Nat.le_refl _)
          have HALL := Lib.hid hall
          have HBE := Lib.hid (HB1.out.trans (hbel.mono HB1.out.size))
          have hzz := HB1.out.size
          clear hall hbel
          go_wp2
          rw [← HPP.out]
          exact ⟨_, rfl, by rw [HD.out]; have h := HOW.out; rw [HALL.out] at h; exact h.mono (by omega), HBE.out⟩
end Go.Proofs.YtgdlkjahlajcpaaGreatDoor
namespace Go.Proofs.YtgdlkjahlajcpaaGreatDoor
open Go.ChangeShapes Go.WideShapes Go.ChangeAt Go.RowKit
set_option linter.unusedVariables false
set_option linter.unusedSimpArgs false

theorem lines_last {s : List UInt8} {p : List (List UInt8)} {x : List UInt8} (h : segs 10 s = p ++ [x]) (hx : x ≠ []) : linesA s = p ++ [x] := by
  unfold linesA
  rw [h, if_neg (by simpa using hx)]
/-! ### the constants -/
theorem d1 {n : Nat} (h : n < 10) : dd n = [UInt8.ofNat (48 + n)] := dd_small h
theorem dd10 : dd 10 = [49, 48] := by rw [dd_big (by decide), dd_small (by decide)]; rfl
def netB : List UInt8 := [49, 48, 46, 48, 46, 48, 46, 48, 47, 56]
theorem netB_is : netB = netT 167772160 8 := by
  have e2 : dd 0 = [48] := by rw [dd_small (by decide)]; rfl
  have e3 : dd 8 = [56] := by rw [dd_small (by decide)]; rfl
  show netB = (dd 10 ++ 46 :: (dd 0 ++ 46 :: (dd 0 ++ 46 :: dd 0))) ++ 47 :: dd 8
  rw [dd10, e2, e3]; rfl
def addrB : List UInt8 := [49, 48, 46, 49, 46, 49, 46, 49]
theorem addrB_is : addrB = addrT 167837953 := by
  have e2 : dd 1 = [49] := by rw [dd_small (by decide)]; rfl
  show addrB = dd 10 ++ 46 :: (dd 1 ++ 46 :: (dd 1 ++ 46 :: dd 1))
  rw [dd10, e2]; rfl
theorem dd5 : dd 5 = [53] := by rw [dd_small (by decide)]; rfl
def put5 : List UInt8 := nPut ++ 32 :: (netB ++ [32, 53])
theorem nf8 : netF ((167772160 : Nat), (8 : Nat)) = 0 := by decide
theorem line_put5 : lineA [] put5 = (.ok okT, [((167772160, 8), 5)]) := by
  have e : segs 32 put5 = [nPut, netB, [53]] := by decide
  unfold lineA
  rw [e]
  show lineW3 [] nPut netB [53] = _
  unfold lineW3
  rw [if_pos rfl, netO_yes (a := 167772160) (k := 8) (by decide) nf8 netB_is, numO_yes (n := 5) (by decide) dd5.symm]
  have e0 : putE [] (((167772160 : Nat) : Int), ((8 : Nat) : Int)) = 0 := by decide
  have e1 : putT [] (((167772160 : Nat) : Int), ((8 : Nat) : Int)) ((5 : Nat) : Int) = [((167772160, 8), 5)] := by unfold putT; rw [if_pos e0]; rfl
  unfold putX
  simp only
  rw [if_pos e0, e1]
def find1 : List UInt8 := nFind ++ 32 :: addrB
theorem fact_answers : deskA (put5 ++ 10 :: find1) = [okT, netB ++ [32, 53]] := by
  have hs : segs 10 (put5 ++ 10 :: find1) = [put5] ++ [find1] := by decide
  unfold deskA
  rw [lines_last hs (by decide), if_neg (by decide)]
  show [ansT (lineA [] put5).1, ansT (lineA (lineA [] put5).2 find1).1] = _
  rw [line_put5]
  have e : segs 32 find1 = [nFind, addrB] := by decide
  have ef : fnd [(((167772160 : Int), (8 : Int)), (5 : Int))] ((167837953 : Nat) : Int) 33 = some (8, 5) := by decide +kernel
  have e2 : (lineA [(((167772160 : Int), (8 : Int)), (5 : Int))] find1).1 = .ok (netB ++ [32, 53]) := by
    unfold lineA
    rw [e]
    show (lineW2 _ nFind addrB).1 = _
    unfold lineW2
    rw [if_neg (by decide), if_neg (by decide), if_pos rfl, addrO_yes (a := 167837953) (by decide) addrB_is]
    have e5 : findX [(((167772160 : Int), (8 : Int)), (5 : Int))] (some 167837953) = findT ((167837953 : Nat) : Int) (fnd [(((167772160 : Int), (8 : Int)), (5 : Int))] ((167837953 : Nat) : Int) 33) := rfl
    show findX [(((167772160 : Int), (8 : Int)), (5 : Int))] (some 167837953) = _
    rw [e5, ef]
    show Except.ok (netT (fl (lowI 8) ((167837953 : Nat) : Int)).toNat 8 ++ 32 :: dd (5 : Int).toNat) = _
    have e4 : (fl (lowI 8) ((167837953 : Nat) : Int)).toNat = 167772160 := by decide
    rw [e4, ← netB_is, show (5 : Int).toNat = 5 from rfl, dd5]
  show [okT, ansT (lineA [(((167772160 : Int), (8 : Int)), (5 : Int))] find1).1] = _
  rw [e2]; rfl
end Go.Proofs.YtgdlkjahlajcpaaGreatDoor
namespace Go.Proofs.YtgdlkjahlajcpaaGreatDoor
open Go.ChangeShapes Go.WideShapes Go.ChangeAt Go.RowKit
set_option linter.unusedVariables false
set_option linter.unusedSimpArgs false
def CutCap (c : UInt8) (s : ByteArray) (w : World) (e : Ending) (w' : World) : Prop :=
  ∃ (L : List ByteArray) (g cap : Nat), L.map (·.data.toList) = segs c s.data.toList ∧ e = .returned (.slice (some ⟨g, 0, none⟩) L.length cap) ∧ L.length ≤ cap ∧ (∀ (k : Nat) p, L[k]? = some p → w'.cell? ⟨g, k, none⟩ = some (.string p)) ∧ g < w'.heap.size ∧ Below w.heap.size w w'
set_option maxRecDepth 100000 in
set_option maxHeartbeats 2000000 in
theorem RCut_cap (s : ByteArray) (c : UInt8) (w : World) (hs : s.size ≤ 2097152) :
    Calls Tryz.prog 7 #[.string s, .int .u8 (c.toNat : Int)] w (CutCap c s w) := by
  obtain ⟨i0, hi, hz0, hz1, hz2⟩ := info_parts strR_info
  go_enter Tryz.func7, Tryz.ntmps7
  go_wp2
  go_loopw [5, 6, 7] (fun v f i wr => ∃ (k from_ : Nat) (L : List ByteArray), k ≤ s.size ∧ i = .int .i64 k ∧ f = .int .i64 from_ ∧ CutInv c s k from_ L ∧ wr.ownsRow w.heap.size 9 1 v L.length (L.map Value.string) ∧ Below w.heap.size w wr) (fun _ _ i _ => s.size - (intOf i).toNat)
  case atStart => exact ⟨0, 0, [], by omega, rfl, rfl, cutinv_zero c s, World.ownsRow_nil _ _ _ _, Below.refl _ _⟩
  case round =>
    obtain ⟨k, f, L, hk, rfl, rfl, hinv, hown, hbel⟩ := hrel
    have hle := hinv.le
    have hlen := hinv.len
    have hsz := hbel.size
    have HI := Lib.hid hinv
    have HBEL := Lib.hid hbel
    clear hinv hbel
    by_cases hlt : k < s.size
    · by_cases hc : s[k] = c
      · have hb : ((s[k].toNat : Int) == (c.toNat : Int)) = true := by rw [hc]; simp
        have HN := Lib.hid (cutinv_hit HI.out hlt hc)
        clear hc
        go_wp2_with (first
          | (at_builtin; refine wpList_append_own _ rfl _ _ 23 rfl w.heap.size 9 i0 (.string .empty) 1 16 Tryz.underlying23 hi hz0 hz1 hz2 rfl (by decide) _ _ _ rfl (hown.alloc _) ⟨wr.heap.size, 0, none⟩ 1 1 [.string (s.extract f k)] rfl rfl ?c1 ?c2 ?c3 ?c4 ?c5 ?_)
          | fail)
        case c1 => intro j u hu; match j, hu with
          | 0, hu => simp only [List.getElem?_cons_zero, Option.some.injEq] at hu; subst hu; rw [addr_add]; simp
        case c2 => intro u hu; simp only [List.mem_cons, List.not_mem_nil, or_false] at hu; subst hu; rfl
        case c3 => unfold maxLen; omega
        case c4 => omega
        case c5 => simp; omega
        intro v' w2 hown2 hgrow _
        have HB2 := Lib.hid (below_grown (HBEL.out.alloc hsz _) (hown.alloc _) hgrow (Nat.le_refl _) (by simp; omega) : Below w.heap.size w w2)
        have HO : Hid (w2.ownsRow w.heap.size 9 1 v' (L ++ [s.extract f k]).length ((L ++ [s.extract f k]).map Value.string)) := Lib.hid (by simpa using hown2)
        clear hown hown2 hgrow
        go_wp2
        exact ⟨⟨k + 1, k + 1, _, by omega, by go_num, by go_num, HN.out, HO.out, HB2.out⟩, by simp [intOf]; omega⟩
      · have hb : ((s[k].toNat : Int) == (c.toNat : Int)) = false := beq_eq_false_iff_ne.2 (fun e => hc (UInt8.toNat_inj.1 (by omega)))
        have HN := Lib.hid (cutinv_skip HI.out hlt hc)
        have HO := Lib.hid hown
        clear hc hown
        go_wp2
        exact ⟨⟨k + 1, f, L, by omega, by go_num, rfl, HN.out, HO.out, HBEL.out⟩, by simp [intOf]; omega⟩
    · have : k = s.size := by omega
      subst this
      have HN := Lib.hid (cutinv_end HI.out)
      go_wp2_with (first
        | (at_builtin; refine wpList_append_own _ rfl _ _ 23 rfl w.heap.size 9 i0 (.string .empty) 1 16 Tryz.underlying23 hi hz0 hz1 hz2 rfl (by decide) _ _ _ rfl (hown.alloc _) ⟨wr.heap.size, 0, none⟩ 1 1 [.string (s.extract f s.size)] rfl rfl ?e1 ?e2 ?e3 ?e4 ?e5 ?_)
        | fail)
      case e1 => intro j u hu; match j, hu with
        | 0, hu => simp only [List.getElem?_cons_zero, Option.some.injEq] at hu; subst hu; rw [addr_add]; simp
      case e2 => intro u hu; simp only [List.mem_cons, List.not_mem_nil, or_false] at hu; subst hu; rfl
      case e3 => unfold maxLen; omega
      case e4 => omega
      case e5 => simp; omega
      intro v' w2 hown2 hgrow _
      have HB2 := Lib.hid (below_grown (HBEL.out.alloc hsz _) (hown.alloc _) hgrow (Nat.le_refl _) (by simp; omega) : Below w.heap.size w w2)
      have hO : w2.ownsRow w.heap.size 9 1 v' (L ++ [s.extract f s.size]).length ((L ++ [s.extract f s.size]).map Value.string) := by simpa using hown2
      obtain ⟨g, cap, rfl, hg, hgs, hnc, hcells⟩ := own_pos hO (by simp)
      have HC := Lib.hid hcells
      clear hown hown2 hgrow hO hcells
      go_wp2
      go_ret
      refine ⟨_, g, cap, HN.out, rfl, hnc, fun j p hp => ?_, hgs, HB2.out⟩
      have := HC.out j (.string p) (by rw [List.getElem?_map, hp]; rfl)
      rwa [Nat.zero_add] at this
theorem RCut_d (s : ByteArray) (c : UInt8) (n : Int) (hn : (c.toNat : Int) = n) (w : World) (hs : s.size ≤ 2097152) : Calls Tryz.prog 7 #[.string s, .int .u8 n] w (CutCap c s w) := by subst hn; exact RCut_cap s c w hs
theorem RunA_r {s : ByteArray} {t : List UInt8} {w : World} (hw : HStr w) (hs : s.size ≤ 2097152) (ht : s.data.toList = t) :
    Calls Tryz.prog 6 #[.string s] w fun e w' => ∃ A c n, e = .returned (.slice A n c) ∧ n = (deskA t).length ∧ n ≤ c ∧ Hid (RdT w' A n (deskA t)) ∧ Below w.heap.size w w' :=
  (Run_any s w hw hs).mono fun e w' ⟨v, he, ho, hb⟩ => by
    rw [ht] at ho
    obtain ⟨A, c, hv⟩ := ho.form
    rw [hv] at ho he
    obtain ⟨h1, h2, h3⟩ := ho.rd
    exact ⟨A, c, _, he, rfl, h3, Lib.hid h1, hb⟩
theorem deskA_len (s : List UInt8) : (deskA s).length ≤ 100 := by
  unfold deskA
  split
  · simp
  · rename_i h
    rw [runA_length]; omega
theorem rdA_two (w : World) (x y : List UInt8) : RdT (w.alloc (.cells #[strV x, strV y] 9)) (some ⟨w.heap.size, 0, none⟩) 2 [x, y] := by
  refine ⟨rfl, fun _ => ⟨_, _, rfl, by simp, fun k l hl => ?_⟩⟩
  rw [cell_of_row _ w.heap.size _ _ _ (0, 0) (heap_alloc_new _ _)]
  match k, hl with
  | 0, hl => simp at hl; subst hl; rfl
  | 1, hl => simp at hl; subst hl; rfl
theorem TabR.grown {M M' : Nat → Prop} {w w' : World} {m : Tab} {A A' : Option Addr} {n c n' c' : Nat} {v v' : Value} (h : TabR M w m A n c A' n' c') (hg : Grow w v w' v') (hv : ∀ b, v.ownBlock = some b → M b) (hM : ∀ b, b < w.heap.size → M' b → M b) : TabR M' w' m A n c A' n' c' := by
  have e : ∀ p : Addr, p.block < w.heap.size ∧ ¬ M p.block → w'.cell? p = w.cell? p := fun p hp =>
    World.cell?_of_block (hg.1.block p.block hp.1 fun e => hp.2 (hv _ e.symm))
  exact ⟨RdLaw.mono (RdLaw.keep h.n0 e) fun _ hp => ⟨Nat.lt_of_lt_of_le hp.1 hg.size, fun e => hp.2 (hM _ hp.1 e)⟩, RdLaw.mono (RdLaw.keep h.v0 e) fun _ hp => ⟨Nat.lt_of_lt_of_le hp.1 hg.size, fun e => hp.2 (hM _ hp.1 e)⟩⟩
theorem OwnS.store {w : World} {T : Nat} {v a b : Value} {xs : List (List UInt8)} (h : OwnS w (T + 1) v xs) : OwnS ((w.setCell ⟨T, 0, none⟩ a).setCell ⟨T, 1, none⟩ b) (T + 1) v xs :=
  h.kept fun g hg => by
    have h1 := (h.blk g hg).1
    exact (heap_setCell_other _ _ _ _ (show g ≠ T by omega)).trans (heap_setCell_other _ _ _ _ (show g ≠ T by omega))
theorem round_own {T : Nat} {v v' : Value} {n : Nat} (h : v'.ownBlock = v.ownBlock ∨ ∃ g, v'.ownBlock = some g ∧ n ≤ g) : ∀ b, b < n → (b = T ∨ v'.ownBlock = some b) → (b = T ∨ v.ownBlock = some b) := by
  intro b hb hx
  rcases hx with hx | hx
  · exact .inl hx
  · rcases h with h | ⟨g, h, hg⟩
    · rw [h] at hx; exact .inr hx
    · rw [h] at hx; injection hx with hx; omega
end Go.Proofs.YtgdlkjahlajcpaaGreatDoor
