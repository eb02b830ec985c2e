/- PrefTells: the cases together. -/
import Derived.Test.YtohfeoahdbfjbaaGreatDoorTellsY1
import Derived.Test.YtohfeoahdbfjbaaGreatDoorTellsY2
import Derived.Test.YtohfeoahdbfjbaaGreatDoorTellsY3
import Derived.Test.YtohfeoahdbfjbaaGreatDoorTellsN1
import Derived.Test.YtohfeoahdbfjbaaGreatDoorTellsN2
import Derived.Test.YtohfeoahdbfjbaaGreatDoorTellsN3
namespace Go.Proofs.YtohfeoahdbfjbaaGreatDoor
open Go.ChangeShapes Go.WideShapes Go.ChangeAt Go.RowKit
set_option linter.unusedVariables false

theorem tellsY (W : World) (hg : HStr W) (hg2 : HErr W) (a l b m x : Int) (s : ByteArray) (hs : s.size ≤ 1048576) (ha : is32 a) (hb0 : is32 b) (hx : is32 x) (u k0 : Nat) (hu : u < 4294967296) (hy : netF ((u : Int), (k0 : Int)) = 0) (he : s.data.toList = netT u k0) :
    Calls Tryz.prog 3 #[.agg #[.int .u32 a, .int .i64 l], .agg #[.int .u32 b, .int .i64 m], .int .u32 x, .string s] W fun e w' => e = .returned (.bool true) ∧ Below W.heap.size W w' := by
  by_cases hz : netF (a, l) = 0
  · obtain ⟨K, hK32, eK, _⟩ := net_ok hz
    simp only at eK
    obtain ⟨A, hA⟩ := Int.eq_ofNat_of_zero_le ha.1
    by_cases h0 : l = 0
    · by_cases hzb : netF (b, m) = 0
      · exact tells_y_zero_b W hg hg2 a l b m x s hs ha hb0 hx _ _ _ rfl rfl rfl u k0 hu hy he A hA K eK.symm hK32 hz h0 _ rfl hzb _ _ rfl
      · exact tells_y_zero_n W hg hg2 a l b m x s hs ha hb0 hx _ _ _ rfl rfl rfl u k0 hu hy he A hA K eK.symm hK32 hz h0 _ rfl _ rfl hzb
    by_cases h1 : l = 32
    · by_cases hzb : netF (b, m) = 0
      · exact tells_y_full_b W hg hg2 a l b m x s hs ha hb0 hx _ _ _ rfl rfl rfl u k0 hu hy he A hA K eK.symm hK32 hz h1 _ (K - 1) (by omega) rfl hzb _ _ rfl
      · exact tells_y_full_n W hg hg2 a l b m x s hs ha hb0 hx _ _ _ rfl rfl rfl u k0 hu hy he A hA K eK.symm hK32 hz h1 _ (K - 1) (by omega) rfl _ rfl hzb
    by_cases hzb : netF (b, m) = 0
    · exact tells_y_mid_b W hg hg2 a l b m x s hs ha hb0 hx _ _ _ rfl rfl rfl u k0 hu hy he A hA K eK.symm hK32 hz (by omega) (by omega) _ (K - 1) (by omega) rfl _ rfl hzb _ _ rfl
    · exact tells_y_mid_n W hg hg2 a l b m x s hs ha hb0 hx _ _ _ rfl rfl rfl u k0 hu hy he A hA K eK.symm hK32 hz (by omega) (by omega) _ (K - 1) (by omega) rfl _ rfl _ rfl hzb
  · exact tells_y_bad W hg hg2 a l b m x s hs ha hb0 hx _ _ _ rfl rfl rfl u k0 hu hy he _ rfl hz
theorem tellsN (W : World) (hg : HStr W) (hg2 : HErr W) (a l b m x : Int) (s : ByteArray) (hs : s.size ≤ 1048576) (ha : is32 a) (hb0 : is32 b) (hx : is32 x) (he : ∀ u k : Nat, u < 4294967296 → netF ((u : Int), (k : Int)) = 0 → s.data.toList ≠ netT u k) :
    Calls Tryz.prog 3 #[.agg #[.int .u32 a, .int .i64 l], .agg #[.int .u32 b, .int .i64 m], .int .u32 x, .string s] W fun e w' => e = .returned (.bool true) ∧ Below W.heap.size W w' := by
  by_cases hz : netF (a, l) = 0
  · obtain ⟨K, hK32, eK, _⟩ := net_ok hz
    simp only at eK
    obtain ⟨A, hA⟩ := Int.eq_ofNat_of_zero_le ha.1
    by_cases h0 : l = 0
    · by_cases hzb : netF (b, m) = 0
      · exact tells_n_zero_b W hg hg2 a l b m x s hs ha hb0 hx _ _ _ rfl rfl rfl he A hA K eK.symm hK32 hz h0 _ rfl hzb _ _ rfl
      · exact tells_n_zero_n W hg hg2 a l b m x s hs ha hb0 hx _ _ _ rfl rfl rfl he A hA K eK.symm hK32 hz h0 _ rfl _ rfl hzb
    by_cases h1 : l = 32
    · by_cases hzb : netF (b, m) = 0
      · exact tells_n_full_b W hg hg2 a l b m x s hs ha hb0 hx _ _ _ rfl rfl rfl he A hA K eK.symm hK32 hz h1 _ (K - 1) (by omega) rfl hzb _ _ rfl
      · exact tells_n_full_n W hg hg2 a l b m x s hs ha hb0 hx _ _ _ rfl rfl rfl he A hA K eK.symm hK32 hz h1 _ (K - 1) (by omega) rfl _ rfl hzb
    by_cases hzb : netF (b, m) = 0
    · exact tells_n_mid_b W hg hg2 a l b m x s hs ha hb0 hx _ _ _ rfl rfl rfl he A hA K eK.symm hK32 hz (by omega) (by omega) _ (K - 1) (by omega) rfl _ rfl hzb _ _ rfl
    · exact tells_n_mid_n W hg hg2 a l b m x s hs ha hb0 hx _ _ _ rfl rfl rfl he A hA K eK.symm hK32 hz (by omega) (by omega) _ (K - 1) (by omega) rfl _ rfl _ rfl hzb
  · exact tells_n_bad W hg hg2 a l b m x s hs ha hb0 hx _ _ _ rfl rfl rfl he _ rfl hz
theorem PrefTells_walk (W : World) (A0 : Array Value) (x : Int × Int) (hx : RV rdNet W (.agg A0) x) (cx : True ∧ True) (A1 : Array Value) (y : Int × Int) (hy : RV rdNet W (.agg A1) y) (cy : True ∧ True)
    (z : Int) (hz : 0 ≤ z ∧ z ≤ 4294967295) (s : ByteArray) (cs : s.size ≤ reachBytes) (hg : HStr W) (hg2 : HErr W) (hs : s.size ≤ 1048576) :
    Calls Tryz.prog 3 #[.agg A0, .agg A1, .int .u32 z, .string s] W fun e w' => e = .returned (.bool true) ∧ Below W.heap.size W w' := by
  obtain ⟨a, l, rfl, rfl, ha, _⟩ := net_parts hx
  obtain ⟨b, m, rfl, rfl, hb, _⟩ := net_parts hy
  by_cases h : ∃ u k : Nat, u < 4294967296 ∧ netF ((u : Int), (k : Int)) = 0 ∧ s.data.toList = netT u k
  · obtain ⟨u, k, hu, hn, he⟩ := h
    exact tellsY W hg hg2 a l b m z s hs ha hb hz u k hu hn he
  · exact tellsN W hg hg2 a l b m z s hs ha hb hz (fun u k hu hn he => h ⟨u, k, hu, hn, he⟩)
end Go.Proofs.YtohfeoahdbfjbaaGreatDoor
