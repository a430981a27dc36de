import Derived.Test.YtfgjaefcfmjleaaBits
namespace Go.Proofs.Ytfgjaefcfmjleaa
open Go.RowKit

/-! ## The largest spread part, plainly: the program's search and the reference's find one and the same -/
def pickL (best p : List Int) : List Int := if best.length < p.length then p else best
def farP (xs : List Int) (a b : Int) : Int := farI (xs.getD a.toNat 0) (xs.getD b.toNat 0)
/-- All places of a part are far enough from the place i. -/
def okP (xs : List Int) (d : Int) (part : List Int) (i : Int) : Bool := part.all fun k => decide (d ≤ farP xs k i)
/-- The program's search over the places from i on, m of them left. -/
def spQ (xs : List Int) (d : Int) : Nat → List Int → Nat → List Int → List Int
  | 0, _, _, best => best
  | m+1, part, i, best => spQ xs d m part (i+1) (if okP xs d part (i : Int) then spQ xs d m (part ++ [(i : Int)]) (i+1) (pickL best (part ++ [(i : Int)])) else best)
theorem pickL_len (b p : List Int) : b.length ≤ (pickL b p).length ∧ p.length ≤ (pickL b p).length := by
  unfold pickL
  split <;> omega
theorem spQ_len (xs : List Int) (d : Int) : ∀ (m : Nat) (part : List Int) (i : Nat) (best : List Int), best.length ≤ (spQ xs d m part i best).length
  | 0, _, _, best => Nat.le_refl _
  | m+1, part, i, best => by
    rw [spQ]
    refine Nat.le_trans ?_ (spQ_len xs d m _ _ _)
    split
    · exact Nat.le_trans (pickL_len best _).1 (spQ_len xs d m _ _ _)
    · exact Nat.le_refl _
theorem pick_pick (b p : List Int) (i : Int) : pickL (pickL b p) (p ++ [i]) = pickL b (p ++ [i]) := by
  unfold pickL
  simp only [List.length_append, List.length_cons, List.length_nil]
  by_cases h1 : b.length < p.length
  · rw [if_pos h1, if_pos (by omega), if_pos (by omega)]
  · rw [if_neg h1]
theorem pick_long {b p : List Int} (h : p.length ≤ b.length) : pickL b p = b := by
  unfold pickL
  rw [if_neg (by omega)]

/-! ### The reference's order: the place i with it first, then without it -/
def spreadB (xs : List Int) (d : Int) (pl : List Int) : Bool := (List.range pl.length).all fun i => (List.range i).all fun k => !decide (farP xs (pl.getD i 0) (pl.getD k 0) < d)
theorem all_range_congr {n : Nat} {f g : Nat → Bool} (h : ∀ i, i < n → f i = g i) : (List.range n).all f = (List.range n).all g := by
  rw [Bool.eq_iff_iff, List.all_eq_true, List.all_eq_true]
  constructor
  · intro a i hi; rw [← h i (List.mem_range.1 hi)]; exact a i hi
  · intro a i hi; rw [h i (List.mem_range.1 hi)]; exact a i hi
theorem getD_snoc_lt {p : List Int} {x : Int} {i : Nat} (h : i < p.length) : (p ++ [x]).getD i 0 = p.getD i 0 := by simp [List.getD, List.getElem?_append, h]
theorem getD_snoc_eq (p : List Int) (x : Int) : (p ++ [x]).getD p.length 0 = x := by simp [List.getD]
theorem all_getD {p : List Int} {f : Int → Bool} : p.all f = (List.range p.length).all fun k => f (p.getD k 0) := by
  rw [Bool.eq_iff_iff, List.all_eq_true, List.all_eq_true]
  constructor
  · intro h i hi
    have hl := List.mem_range.1 hi
    have e : p.getD i 0 = p[i] := by simp [List.getD, hl]
    rw [e]
    exact h _ (List.getElem_mem hl)
  · intro h x hx
    obtain ⟨i, hi, rfl⟩ := List.mem_iff_getElem.1 hx
    have := h i (List.mem_range.2 hi)
    have e : p.getD i 0 = p[i] := by simp [List.getD, hi]
    rwa [e] at this
theorem farP_comm (xs : List Int) (a b : Int) : farP xs a b = farP xs b a := farI_comm _ _
theorem spread_snoc (xs : List Int) (d : Int) (p : List Int) (i : Int) : spreadB xs d (p ++ [i]) = (spreadB xs d p && okP xs d p i) := by
  unfold spreadB okP
  rw [List.length_append, List.length_cons, List.length_nil, List.range_succ, List.all_append]
  congr 1
  · refine all_range_congr fun q hq => all_range_congr fun r hr => ?_
    rw [getD_snoc_lt hq, getD_snoc_lt (by omega)]
  · simp only [List.all_cons, List.all_nil, Bool.and_true]
    rw [getD_snoc_eq, all_getD]
    refine all_range_congr fun r hr => ?_
    rw [getD_snoc_lt hr, farP_comm]
    rw [Bool.eq_iff_iff]
    simp [Int.not_lt]
def pickS (xs : List Int) (d : Int) (best p : List Int) : List Int := if best.length < p.length && spreadB xs d p then p else best
def spD (xs : List Int) (d : Int) : Nat → List Int → Nat → List Int → List Int
  | 0, part, _, best => pickS xs d best part
  | m+1, part, i, best => spD xs d m part (i+1) (spD xs d m (part ++ [(i : Int)]) (i+1) best)
theorem spD_bad (xs : List Int) (d : Int) : ∀ (m : Nat) (part : List Int) (i : Nat) (best : List Int), spreadB xs d part = false → spD xs d m part i best = best
  | 0, part, i, best, h => by simp [spD, pickS, h]
  | m+1, part, i, best, h => by
    rw [spD, spD_bad xs d m (part ++ [(i : Int)]) (i+1) best (by rw [spread_snoc, h]; rfl), spD_bad xs d m part (i+1) best h]
theorem spD_is (xs : List Int) (d : Int) : ∀ (m : Nat) (part : List Int) (i : Nat) (best : List Int), spreadB xs d part = true → spD xs d m part i best = spQ xs d m part i (pickL best part)
  | 0, part, i, best, h => by simp [spD, pickS, spQ, pickL, h]
  | m+1, part, i, best, h => by
    rw [spD, spQ]
    cases hok : okP xs d part (i : Int) with
    | false =>
      rw [spD_bad xs d m (part ++ [(i : Int)]) (i+1) best (by rw [spread_snoc, h, hok]; rfl), spD_is xs d m part (i+1) best h]
      rfl
    | true =>
      rw [spD_is xs d m (part ++ [(i : Int)]) (i+1) best (by rw [spread_snoc, h, hok]; rfl), spD_is xs d m part (i+1) _ h]
      rw [if_pos rfl, pick_pick]
      congr 1
      apply pick_long
      have h1 := spQ_len xs d m (part ++ [(i : Int)]) (i+1) (pickL best (part ++ [(i : Int)]))
      have h2 := (pickL_len best (part ++ [(i : Int)])).2
      simp only [List.length_append, List.length_cons, List.length_nil] at h2
      omega

/-! ### Sets told by bits -/
def partOf (n s : Nat) : List Int := ((List.range n).filter fun i => s.testBit (n - 1 - i)).map fun i : Nat => (i : Int)
theorem partOf_len (n s : Nat) : (partOf n s).length ≤ n := by
  unfold partOf
  rw [List.length_map]
  exact Nat.le_trans (List.length_filter_le _ _) (by simp)
theorem filter_range_congr {n : Nat} {f g : Nat → Bool} (h : ∀ i, i < n → f i = g i) : (List.range n).filter f = (List.range n).filter g :=
  List.filter_congr fun i hi => h i (List.mem_range.1 hi)
theorem testBit_double_succ (p k : Nat) : (2 * p + 1).testBit (k+1) = p.testBit k := by
  rw [Nat.testBit_succ]
  congr 1
  omega
theorem testBit_double (p k : Nat) : (2 * p).testBit (k+1) = p.testBit k := by
  rw [Nat.testBit_succ]
  congr 1
  omega
theorem partOf_with (i p : Nat) : partOf (i+1) (2 * p + 1) = partOf i p ++ [(i : Int)] := by
  unfold partOf
  rw [List.range_succ, List.filter_append, List.map_append]
  congr 1
  · congr 1
    refine filter_range_congr fun q hq => ?_
    rw [show i + 1 - 1 - q = (i - 1 - q) + 1 by omega, testBit_double_succ]
  · simp [Nat.testBit_zero]
theorem partOf_without (i p : Nat) : partOf (i+1) (2 * p) = partOf i p := by
  unfold partOf
  rw [List.range_succ, List.filter_append, List.map_append]
  have e : ([i].filter fun q => (2 * p).testBit (i + 1 - 1 - q)) = [] := by simp [Nat.testBit_zero]
  rw [e, List.map_nil, List.append_nil]
  congr 1
  refine filter_range_congr fun q hq => ?_
  rw [show i + 1 - 1 - q = (i - 1 - q) + 1 by omega, testBit_double]
/-- c sets down from lo + c - 1 to lo. -/
def fdS (xs : List Int) (d : Int) (n lo : Nat) : Nat → List Int → List Int
  | 0, b => b
  | c+1, b => fdS xs d n lo c (pickS xs d b (partOf n (lo + c)))
theorem fdS_add (xs : List Int) (d : Int) (n lo : Nat) : ∀ (c2 c1 : Nat) (b : List Int), fdS xs d n lo (c1 + c2) b = fdS xs d n lo c1 (fdS xs d n (lo + c1) c2 b)
  | 0, c1, b => rfl
  | c2+1, c1, b => by
    rw [show c1 + (c2 + 1) = (c1 + c2) + 1 by omega, fdS, fdS_add xs d n lo c2 c1, fdS, show lo + (c1 + c2) = lo + c1 + c2 by omega]
theorem fdS_spD (xs : List Int) (d : Int) (n : Nat) : ∀ (m i p : Nat) (b : List Int), i + m = n → fdS xs d n (p * 2 ^ m) (2 ^ m) b = spD xs d m (partOf i p) i b
  | 0, i, p, b, h => by
    have : i = n := by omega
    subst this
    simp [fdS, spD]
  | m+1, i, p, b, h => by
    rw [spD, show 2 ^ (m+1) = 2 ^ m + 2 ^ m by omega, fdS_add]
    have e1 : p * (2 ^ m + 2 ^ m) + 2 ^ m = (2 * p + 1) * 2 ^ m := by
      rw [Nat.add_mul, Nat.mul_add, Nat.one_mul, Nat.mul_assoc, Nat.two_mul]
    have e2 : p * (2 ^ m + 2 ^ m) = (2 * p) * 2 ^ m := by
      rw [Nat.mul_add, Nat.mul_assoc, Nat.two_mul]
    rw [e1, e2, fdS_spD xs d n m (i+1) (2 * p + 1) b (by omega), partOf_with, fdS_spD xs d n m (i+1) (2 * p) _ (by omega), partOf_without]
def spreadF (xs : List Int) (d : Int) : List Int := spQ xs d xs.length [] 0 []
theorem spreadF_sets (xs : List Int) (d : Int) : fdS xs d xs.length 1 (2 ^ xs.length - 1) [] = spreadF xs d := by
  have h := fdS_spD xs d xs.length xs.length 0 0 [] (by omega)
  rw [Nat.zero_mul] at h
  have hp := Nat.two_pow_pos xs.length
  have e : 2 ^ xs.length = 1 + (2 ^ xs.length - 1) := by omega
  rw [e, fdS_add, Nat.zero_add] at h
  have hz : partOf 0 0 = [] := rfl
  rw [hz, spD_is xs d _ [] 0 [] (by simp [spreadB])] at h
  have hpk : pickL [] [] = ([] : List Int) := rfl
  rw [hpk] at h
  unfold spreadF
  rw [← h]
  generalize fdS xs d xs.length 1 (2 ^ xs.length - 1) [] = R
  have he : partOf xs.length 0 = [] := by simp [partOf]
  simp [fdS, pickS, he]
theorem spQ_places (xs : List Int) (d : Int) (n : Nat) : ∀ (m : Nat) (part : List Int) (i : Nat) (best : List Int), i + m = n → part.length ≤ i → best.length ≤ n → (spQ xs d m part i best).length ≤ n
  | 0, _, _, best, _, _, h => h
  | m+1, part, i, best, h, hp, hb => by
    rw [spQ]
    refine spQ_places xs d n m _ _ _ (by omega) (by omega) ?_
    split
    · refine spQ_places xs d n m _ _ _ (by omega) (by simp; omega) ?_
      unfold pickL
      split
      · simp; omega
      · exact hb
    · exact hb
theorem spreadF_len (xs : List Int) (d : Int) : (spreadF xs d).length ≤ xs.length := spQ_places xs d xs.length _ _ _ _ (by omega) (by simp) (by simp)

end Go.Proofs.Ytfgjaefcfmjleaa
