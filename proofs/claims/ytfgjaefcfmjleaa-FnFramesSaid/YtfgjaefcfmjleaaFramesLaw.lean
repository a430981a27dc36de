import Derived.Test.YtfgjaefcfmjleaaVainLaw
import Derived.Test.YtfgjaefcfmjleaaDutyOf
import Derived.Test.YtfgjaefcfmjleaaSeenOf
import Derived.Test.YtfgjaefcfmjleaaGhosts2
import Derived.Test.YtfgjaefcfmjleaaBlanks
import Derived.Test.YtfgjaefcfmjleaaPlain
namespace Go.Proofs.Ytfgjaefcfmjleaa
open Go.RowKit

/-! ## What FnFrames asks beyond equality, in plain Lean -/
theorem barsIn_nat {k : Nat} {xs : List (Int × Int)} (h : drivenB k xs = true) : barsIn xs := barsIn_of (drivenB_true h).2
/-! ### duties -/
theorem duty_lit {xs : List (Int × Int)} (hin : slotsIn xs) {x y : Nat} (hx : x < 6) (hy : y < 7) : ∀ i, i ≤ xs.length → 0 ≤ dutyT xs (x*7+y) i ∧ (0 < dutyT xs (x*7+y) i ↔ (xs.take i).any (lights x y) = true) := by
  intro i
  induction i with
  | zero => intro _; simp [dutyT]
  | succ i ih =>
    intro hi
    obtain ⟨h0, h1⟩ := ih (by omega)
    have hl : i < xs.length := by omega
    have hs := hin i hl
    have e : xs.getD i (0,0) = xs[i] := by simp [List.getD, hl]
    rw [e] at hs
    rw [dutyT_step xs x y i hy, e, List.take_succ_eq_append_getElem hl, List.any_append, List.any_cons, List.any_nil, Bool.or_false]
    have b1 := bitI_range hs.1.1 hs.1.2 (k := x) (by omega)
    have b2 := bitI_range hs.2.1 hs.2.2 (k := y) hy
    have hone := hasB_one hs.2.1 hs.2.2 hy
    have HL : lights x y xs[i] = ((bitI xs[i].1 x == 1) && (bitI xs[i].2 y == 1)) := by unfold lights; rw [hone]
    rw [HL]
    generalize (xs.take i).any (lights x y) = A at h1 ⊢
    rcases (show bitI xs[i].1 x = 0 ∨ bitI xs[i].1 x = 1 by omega) with q1 | q1
    · rw [q1]
      simp only [Int.zero_mul, Int.add_zero]
      refine ⟨h0, ?_⟩
      rw [h1]
      simp
    · rcases (show bitI xs[i].2 y = 0 ∨ bitI xs[i].2 y = 1 by omega) with q2 | q2
      · rw [q1, q2]
        simp only [Int.mul_zero, Int.add_zero]
        refine ⟨h0, ?_⟩
        rw [h1]
        simp
      · rw [q1, q2]
        simp only [Int.one_mul]
        refine ⟨by omega, ?_⟩
        simp
        omega
theorem duty_seen {k : Nat} {xs : List (Int × Int)} (h : drivenB k xs = true) (hk : k ≤ 6) {x y : Nat} (hx : x < k) (hy : y < 7) : decide (0 < dutyT xs (x*7+y) xs.length) = (bits .and .i64 (seenAt xs x xs.length / 2 ^ y) 1 == 1) := by
  have hsl := slotsIn_of hk (drivenB_true h).2
  obtain ⟨s0, s1, hs⟩ := seenAt_all (barsIn_nat h) x
  have e := hasB_one s0 s1 hy
  unfold bitI at e
  rw [e, hs, Bool.eq_iff_iff, decide_eq_true_eq, (duty_lit hsl (by omega) hy xs.length (Nat.le_refl _)).2, List.take_length]
/-! ### ghosts -/
theorem zero_of_has {a : Int} (h0 : 0 ≤ a) (h1 : a ≤ 127) (h : ∀ j, hasB a j = false) : a = 0 := by
  refine Classical.byContradiction fun hne => ?_
  obtain ⟨b, _, hb⟩ := hasB_some (by omega : 0 < a) h1
  rw [h b] at hb
  cases hb
theorem lateIn {k : Nat} {xs : List (Int × Int)} (h : drivenB k xs = true) : barsIn (lateTo xs xs.length) := by
  intro s hs
  have hb := barsIn_nat h
  unfold lateTo at hs
  obtain ⟨i, hi, rfl⟩ := List.mem_map.1 hs
  have hl := List.mem_range.1 hi
  have e : xs.getD i (0,0) = xs[i] := by simp [List.getD, hl]
  simp only [e]
  exact hb _ (List.getElem_mem hl)
theorem ghost_apart {k : Nat} {xs : List (Int × Int)} (h : drivenB k xs = true) (x : Nat) :
    (0 ≤ ghostAt xs (seenAt xs x xs.length) x xs.length ∧ ghostAt xs (seenAt xs x xs.length) x xs.length ≤ 127) ∧ bits .and .i64 (seenAt xs x xs.length) (ghostAt xs (seenAt xs x xs.length) x xs.length) = 0 := by
  obtain ⟨s0, s1, hs⟩ := seenAt_all (barsIn_nat h) x
  have hl := seenAt_has (lateIn h) x xs.length (by rw [lateTo_len]; exact Nat.le_refl _)
  rw [ghostAt_eq xs (seenAt xs x xs.length) x xs.length xs.length (Nat.le_refl _)]
  generalize seenAt (lateTo xs xs.length) x xs.length = l at hl
  generalize seenAt xs x xs.length = s at s0 s1
  obtain ⟨g0, g1, hg⟩ := andNotI_has hl.1 hl.2.1 s0 s1
  refine ⟨⟨g0, g1⟩, ?_⟩
  obtain ⟨a0, a1, ha⟩ := andI_has s0 s1 g0 g1
  refine zero_of_has a0 a1 fun j => ?_
  rw [ha, hg]
  cases hasB s j <;> simp
/-! ### blanks -/
def blankL (ys : List (Int × Int)) : List (Int × Int) := ys.flatMap fun p => [p, (0, 0)]
theorem blanksTo_all (xs : List (Int × Int)) : blanksTo xs xs.length = blankL xs := by unfold blanksTo blankL; rw [List.take_length]
theorem blankL_len (ys : List (Int × Int)) : (blankL ys).length = 2 * ys.length := by
  unfold blankL
  induction ys with
  | nil => rfl
  | cons y ys ih => rw [List.flatMap_cons, List.length_append, ih]; simp; omega
theorem blankL_odd : ∀ (ys : List (Int × Int)) (i : Nat), (blankL ys).getD (2*i+1) (0,0) = (0,0) := by
  intro ys
  induction ys with
  | nil => intro i; simp [blankL]
  | cons y ys ih =>
    intro i
    have e : blankL (y :: ys) = y :: (0,0) :: blankL ys := by simp [blankL]
    rw [e]
    cases i with
    | zero => rfl
    | succ i =>
      rw [show 2 * (i+1) + 1 = (2*i+1)+1+1 by omega]
      simp only [List.getD_cons_succ]
      exact ih i
theorem lights_zero (x b : Nat) : lights x b (0, 0) = false := by simp [lights, hasB_nil]
theorem blankL_any (ys : List (Int × Int)) (x b : Nat) : (blankL ys).any (lights x b) = ys.any (lights x b) := by
  unfold blankL
  induction ys with
  | nil => rfl
  | cons y ys ih =>
    rw [List.flatMap_cons, List.any_append, ih]
    simp [lights_zero]
theorem bit_zero (x : Nat) : bitI 0 x = 0 := by
  unfold bitI
  rw [Int.zero_ediv]
  decide
theorem blank_driven {k : Nat} {xs : List (Int × Int)} (h : drivenB k xs = true) (h6 : xs.length ≤ 6) : drivenB k (blankL xs) = true := by
  obtain ⟨h1, h2⟩ := drivenB_true h
  obtain ⟨j, hj, hj1, hj6⟩ := kNat h1
  have hkj : k = j := by omega
  subst hkj
  unfold drivenB
  rw [h1, Bool.true_and]
  unfold frameB at h2 ⊢
  simp only [Bool.and_eq_true, decide_eq_true_eq, List.all_eq_true] at h2 ⊢
  refine ⟨by rw [blankL_len]; omega, fun s hs => ?_⟩
  unfold blankL at hs
  obtain ⟨p, hp, hs⟩ := List.mem_flatMap.1 hs
  simp only [List.mem_cons, List.not_mem_nil, or_false] at hs
  rcases hs with rfl | rfl
  · exact h2.2 _ hp
  · rcases (show k = 1 ∨ k = 2 ∨ k = 3 ∨ k = 4 ∨ k = 5 ∨ k = 6 by omega) with rfl | rfl | rfl | rfl | rfl | rfl <;> decide
theorem blank_seen {k : Nat} {xs : List (Int × Int)} (h : drivenB k xs = true) (h6 : xs.length ≤ 6) : seenF (blankL xs) k = seenF xs k :=
  (seenF_eq (barsIn_nat (blank_driven h h6)) (barsIn_nat h) k).2 fun x _ b _ => blankL_any xs x b
theorem or_zero_andNot (s : Int) : bits .or .i64 0 (bits .andNot .i64 0 s) = 0 := by rw [ghost_zero]; decide
theorem blank_ghost (xs : List (Int × Int)) (s : Int) (x : Nat) : ∀ i, i ≤ (blankL xs).length → ghostAt (blankL xs) s x i = 0 := by
  intro i
  induction i with
  | zero => intro _; rfl
  | succ i ih =>
    intro hi
    rw [ghostAt, ih (by omega)]
    rcases Nat.mod_two_eq_zero_or_one i with h | h
    · obtain ⟨q, rfl⟩ : ∃ q, i = 2 * q := ⟨i / 2, by omega⟩
      have hl := blankL_len xs
      rw [show (2 * q + 1) % (blankL xs).length = 2 * q + 1 from Nat.mod_eq_of_lt (by omega), blankL_odd, bit_zero]
      rfl
    · obtain ⟨q, rfl⟩ : ∃ q, i = 2 * q + 1 := ⟨i / 2, by omega⟩
      rw [blankL_odd, or_zero_andNot]
      split <;> rfl
theorem blank_ghosts (xs : List (Int × Int)) (k : Nat) : ghostF (blankL xs) k = List.replicate k 0 := by
  unfold ghostF
  apply List.ext_getElem?
  intro x
  by_cases h : x < k
  · simp only [List.getElem?_map, List.getElem?_range h, Option.map_some, List.getElem?_replicate, h, if_true]
    rw [blank_ghost xs _ x _ (Nat.le_refl _)]
  · simp [h]
/-! ### plain frames -/
theorem pow_bit : ∀ j x : Fin 6, (bitI ((2 : Int) ^ (j : Nat)) (x : Nat) == 1) = decide ((j : Nat) = (x : Nat)) := by decide +kernel
theorem plain_any {r : List Int} (h6 : r.length ≤ 6) {x b : Nat} (hx : x < r.length) : ∀ n, n ≤ r.length → (plainTo r n).any (lights x b) = (decide (x < n) && hasB (r.getD x 0) b) := by
  intro n
  induction n with
  | zero => intro _; simp [plainTo]
  | succ n ih =>
    intro hn
    have hp := pow_bit ⟨n, by omega⟩ ⟨x, by omega⟩
    simp only at hp
    cases hz : (r.getD n 0 != 0) with
    | true =>
      rw [plainTo_yes hz, List.any_append, ih (by omega), List.any_cons, List.any_nil, Bool.or_false]
      unfold lights
      simp only
      rw [hp]
      by_cases e : n = x
      · subst e; simp
      · have : (x < n + 1) ↔ x < n := by omega
        simp [e, this]
    | false =>
      rw [plainTo_no hz, ih (by omega)]
      have h0 : r.getD n 0 = 0 := by simpa using hz
      by_cases e : n = x
      · subst e
        rw [h0]
        simp [hasB_nil]
      · have : (x < n + 1) ↔ x < n := by omega
        simp [this]
theorem plain_driven {r : List Int} (h : someB r = true) : drivenB r.length (plainTo r r.length) = true := by
  obtain ⟨h1, h2⟩ := someB_true h
  obtain ⟨h6, hin⟩ := rowB_true h1
  unfold drivenB
  rw [inB_mk (by omega) (by omega), Bool.true_and]
  unfold frameB
  simp only [Bool.and_eq_true, decide_eq_true_eq, List.all_eq_true]
  refine ⟨by have := plainTo_len r r.length; omega, fun s hs => ?_⟩
  unfold plainTo at hs
  obtain ⟨j, hj, rfl⟩ := List.mem_map.1 hs
  have hl := List.mem_range.1 (List.mem_filter.1 hj).1
  have hc := hin j hl
  simp only [slotB, Bool.and_eq_true]
  refine ⟨?_, inB_mk hc.1 hc.2⟩
  have key : ∀ (k j : Fin 7), (j : Nat) < (k : Nat) → inB ((2 : Int) ^ (j : Nat)) 0 (topI ((k : Nat) : Int)) = true := by decide +kernel
  exact key ⟨r.length, by omega⟩ ⟨j, by omega⟩ hl
theorem plain_seen {r : List Int} (h : someB r = true) : seenF (plainTo r r.length) r.length = r := by
  obtain ⟨h1, h2⟩ := someB_true h
  obtain ⟨h6, hin⟩ := rowB_true h1
  have hb := barsIn_nat (plain_driven h)
  apply List.ext_getElem
  · rw [length_seenF]
  · intro x hx hx2
    rw [length_seenF] at hx
    simp only [seenF, List.getElem_map, List.getElem_range]
    obtain ⟨s0, s1, hs⟩ := seenAt_all hb x
    have hr := hin x hx
    have e : r.getD x 0 = r[x] := by simp [List.getD, hx]
    rw [e] at hr
    refine eq_of_has s0 s1 hr.1 hr.2 fun j hj => ?_
    rw [hs, plain_any h6 hx _ (Nat.le_refl _), e]
    simp [hx]
/-! ### how many slots -/
theorem plain_cov {r : List Int} (h6 : r.length ≤ 6) (hin : cellsIn r) : covI r (plainTo r r.length).length r = true := by
  refine (covG_iff h6 hin (lets_impl h6 hin) _ r rfl hin).2 ⟨((List.range r.length).filter fun j => r.getD j 0 != 0).map fun i => fun j => decide (j = i), by simp [plainTo], fun i hi b hb hbit => ?_⟩
  refine ⟨fun j => decide (j = i), List.mem_map.2 ⟨i, List.mem_filter.2 ⟨List.mem_range.2 hi, ?_⟩, rfl⟩, by simp, fun j hj hje => ?_⟩
  · rw [bne_iff_ne]
    intro e
    rw [e, hasB_nil] at hbit
    cases hbit
  · have : j = i := by simpa using hje
    subst this
    exact hbit
theorem least_le {r : List Int} (h6 : r.length ≤ 6) (hin : cellsIn r) : leastN r ≤ (plainTo r r.length).length := by
  refine Nat.le_of_not_lt fun hlt => ?_
  have hl := plainTo_len r r.length
  unfold leastN at hlt
  have := List.not_of_lt_findIdx hlt
  rw [List.getElem_range, plain_cov h6 hin] at this
  cases this
theorem least_zero {r : List Int} (h6 : r.length ≤ 6) (hin : cellsIn r) : leastN r = 0 ↔ (plainTo r r.length).length = 0 := by
  constructor
  · intro h0
    have hlt : (List.range (r.length + 1)).findIdx (fun s => covI r s r) < (List.range (r.length + 1)).length := by
      unfold leastN at h0
      rw [h0]; simp
    have hg := List.findIdx_getElem (w := hlt)
    rw [List.getElem_range] at hg
    unfold leastN at h0
    rw [h0] at hg
    unfold covI covG at hg
    simp only [Bool.not_eq_true'] at hg
    unfold plainTo
    rw [List.length_map, List.length_eq_zero_iff, List.filter_eq_nil_iff]
    intro j hj
    rw [any_nz_false hg (List.mem_range.1 hj)]
    simp
  · intro h0
    have := least_le h6 hin
    omega

/-! ### what the walk asks, behind names -/
theorem frames_out (k : Int) (xs : List (Int × Int)) : ∃ (dr is one four : Bool) (sf du gh : List Int) (bl : List (Int × Int)), seenR k xs = (sf, dr) ∧ isFrameR k xs = (is, one) ∧ dutyR k xs = (du, dr) ∧ ghostR k xs = (gh, dr) ∧ blanksR k xs = (bl, four) ∧ dr = (one && is) ∧
    (dr = true → ∃ q : Nat, k = q ∧ q ≤ 6 ∧ sf.length = q ∧ du.length = 7 * q ∧ gh.length = q ∧ ∀ x y, x < q → y < 7 → (0 ≤ sf.getD x 0 ∧ sf.getD x 0 ≤ 127) ∧ decide (0 < du.getD (x*7+y) 0) = (bits .and .i64 (sf.getD x 0 / 2 ^ y) 1 == 1) ∧ bits .and .i64 (sf.getD x 0) (gh.getD x 0) = 0) ∧
    (four = true → ∃ q : Nat, k = q ∧ q ≤ 6 ∧ seenR k bl = (sf, true) ∧ ghostR k bl = (List.replicate q 0, true)) := by
  cases h : drivenB k xs with
  | false =>
    refine ⟨false, (isFrameR k xs).1, (isFrameR k xs).2, false, [], [], [], [], by simp [seenR, h], rfl, by simp [dutyR, h], by simp [ghostR, h], by simp [blanksR, h], ?_, (fun h => by cases h), (fun h => by cases h)⟩
    unfold isFrameR
    unfold drivenB at h
    cases hk : inB k 1 6 with
    | false => simp
    | true => rw [hk, Bool.true_and] at h; simp [h]
  | true =>
    obtain ⟨h1, h2⟩ := drivenB_true h
    obtain ⟨q, rfl, q1, q6⟩ := kNat h1
    have hd : ∀ x y, x < q → y < 7 → (0 ≤ (seenF xs q).getD x 0 ∧ (seenF xs q).getD x 0 ≤ 127) ∧ decide (0 < (dutyF xs q).getD (x*7+y) 0) = (bits .and .i64 ((seenF xs q).getD x 0 / 2 ^ y) 1 == 1) ∧ bits .and .i64 ((seenF xs q).getD x 0) ((ghostF xs q).getD x 0) = 0 := by
      intro x y hx hy
      have e1 : (seenF xs q).getD x 0 = seenAt xs x xs.length := by simp [seenF, List.getD, hx]
      have e2 : (dutyF xs q).getD (x*7+y) 0 = dutyT xs (x*7+y) xs.length := by
        have : x * 7 + y < 7 * q := by omega
        simp [dutyF, List.getD, this]
      have e3 : (ghostF xs q).getD x 0 = ghostAt xs (seenAt xs x xs.length) x xs.length := by simp [ghostF, List.getD, hx]
      rw [e1, e2, e3]
      obtain ⟨s0, s1, _⟩ := seenAt_all (barsIn_nat h) x
      exact ⟨⟨s0, s1⟩, duty_seen h q6 hx hy, (ghost_apart h x).2⟩
    by_cases hl6 : xs.length ≤ 6
    · have hbd := blank_driven h hl6
      refine ⟨true, true, true, true, seenF xs q, dutyF xs q, ghostF xs q, blankL xs, by simp [seenR, h], by simp [isFrameR, h1, h2], by simp [dutyR, h], ghostR_yes h, by rw [blanksR_yes h hl6, blanksTo_all], rfl,
        (fun _ => ⟨q, rfl, q6, length_seenF _ _, length_dutyF _ _, length_ghostF _ _, hd⟩), fun _ => ⟨q, rfl, q6, ?_, ?_⟩⟩
      · simp only [seenR, hbd, if_true, Int.toNat_natCast]
        rw [blank_seen h hl6]
      · rw [ghostR_yes hbd, blank_ghosts]
    · exact ⟨true, true, true, false, seenF xs q, dutyF xs q, ghostF xs q, [], by simp [seenR, h], by simp [isFrameR, h1, h2], by simp [dutyR, h], ghostR_yes h, blanksR_big hl6, rfl,
        (fun _ => ⟨q, rfl, q6, length_seenF _ _, length_dutyF _ _, length_ghostF _ _, hd⟩), (fun h => by cases h)⟩
theorem plain_out (r : List Int) : ∃ (five : Bool) (pl : List (Int × Int)), plainR r = (pl, five) ∧ (five = true → seenR r.length pl = (r, true)) := by
  cases h : someB r with
  | false => exact ⟨false, [], plainR_no h, fun h => by cases h⟩
  | true =>
    refine ⟨true, _, plainR_yes h, fun _ => ?_⟩
    simp only [seenR, plain_driven h, if_true, Int.toNat_natCast]
    rw [plain_seen h]
theorem least_out (x : List Int) : ∃ (six : Bool) (le : Int), leastR x = (le, six) ∧ (six = true → ∃ pl, plainR x = (pl, true) ∧ ¬ (pl.length : Int) < le ∧ (le == 0) = ((pl.length : Int) == 0)) := by
  cases h : someB x with
  | false => exact ⟨false, 0, leastR_no h, fun h => by cases h⟩
  | true =>
    obtain ⟨h1, h2⟩ := someB_true h
    obtain ⟨h6, hin⟩ := rowB_true h1
    refine ⟨true, _, leastR_yes h, fun _ => ⟨_, plainR_yes h, ?_, ?_⟩⟩
    · have := least_le h6 hin; omega
    · have := least_zero h6 hin
      rw [Bool.eq_iff_iff, beq_iff_eq, beq_iff_eq]
      omega

end Go.Proofs.Ytfgjaefcfmjleaa
