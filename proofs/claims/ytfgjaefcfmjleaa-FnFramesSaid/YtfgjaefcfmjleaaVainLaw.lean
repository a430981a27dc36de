import Derived.Test.YtfgjaefcfmjleaaSeen
import Derived.Test.YtfgjaefcfmjleaaAllS
import Derived.Test.YtfgjaefcfmjleaaCoverLaw
namespace Go.Proofs.Ytfgjaefcfmjleaa
open Go.RowKit

/-! ## Vain slots, plainly -/
def barsIn (xs : List (Int × Int)) : Prop := ∀ s ∈ xs, 0 ≤ s.2 ∧ s.2 ≤ 127
theorem barsIn_of {k : Int} {xs : List (Int × Int)} (h : frameB k xs = true) : barsIn xs := by
  intro s hs
  obtain ⟨i, hi, rfl⟩ := List.mem_iff_getElem.1 hs
  have hb := (frameB_true h).2 i hi
  have e : xs.getD i (0,0) = xs[i] := by simp [List.getD, hi]
  rw [e] at hb
  simp only [slotB, Bool.and_eq_true] at hb
  exact cellB_true hb.2
theorem orI_nat (a b : Nat) (ha : a < 128) (hb : b < 128) : bits .or .i64 (a : Int) (b : Int) = ((a ||| b : Nat) : Int) := by
  have h : a ||| b < 128 := Nat.or_lt_two_pow (n := 7) ha hb
  have e1 : (BitVec.ofInt 64 (a : Int)) = BitVec.ofNat 64 a := by simp
  have e2 : (BitVec.ofInt 64 (b : Int)) = BitVec.ofNat 64 b := by simp
  show IntKind.i64.wrap (((BitVec.ofInt 64 (a : Int)) ||| (BitVec.ofInt 64 (b : Int))).toNat : Int) = _
  rw [e1, e2, BitVec.toNat_or, BitVec.toNat_ofNat, BitVec.toNat_ofNat]
  rw [Nat.mod_eq_of_lt (by omega), Nat.mod_eq_of_lt (by omega)]
  exact IntWalk.i64_in _ (by omega)
theorem orI_has {a b : Int} (h0 : 0 ≤ a) (h1 : a ≤ 127) (h2 : 0 ≤ b) (h3 : b ≤ 127) : 0 ≤ bits .or .i64 a b ∧ bits .or .i64 a b ≤ 127 ∧ ∀ j, hasB (bits .or .i64 a b) j = (hasB a j || hasB b j) := by
  obtain ⟨m, rfl⟩ := fin128 h0 h1
  obtain ⟨n, rfl⟩ := fin128 h2 h3
  rw [orI_nat _ _ m.2 n.2]
  have h : (m : Nat) ||| (n : Nat) < 128 := Nat.or_lt_two_pow (n := 7) m.2 n.2
  refine ⟨by omega, by omega, fun j => ?_⟩
  simp [hasB, Nat.testBit_or]
/-- A slot lights bar b of cell x. -/
def lights (x b : Nat) (s : Int × Int) : Bool := (bitI s.1 x == 1) && hasB s.2 b
theorem seenAt_has {xs : List (Int × Int)} (hin : barsIn xs) (x : Nat) : ∀ i, i ≤ xs.length → 0 ≤ seenAt xs x i ∧ seenAt xs x i ≤ 127 ∧ ∀ b, hasB (seenAt xs x i) b = (xs.take i).any (lights x b)
  | 0, _ => by simp [seenAt, hasB_nil]
  | i+1, hi => by
    obtain ⟨i0, i1, ih⟩ := seenAt_has hin x i (by omega)
    have hl : i < xs.length := by omega
    have hs := hin xs[i] (List.getElem_mem hl)
    have e : xs.getD i (0,0) = xs[i] := by simp [List.getD, hl]
    simp only [seenAt, e, List.take_succ_eq_append_getElem hl, List.any_append, List.any_cons, List.any_nil, Bool.or_false]
    cases hb : (bitI xs[i].1 x == 1) with
    | true =>
      obtain ⟨o0, o1, oh⟩ := orI_has i0 i1 hs.1 hs.2
      simp only [if_true]
      refine ⟨o0, o1, fun b => ?_⟩
      rw [oh, ih]
      simp [lights, hb]
    | false =>
      simp only [Bool.false_eq_true, if_false]
      refine ⟨i0, i1, fun b => ?_⟩
      rw [ih]
      simp [lights, hb]
theorem seenAt_all {xs : List (Int × Int)} (hin : barsIn xs) (x : Nat) : 0 ≤ seenAt xs x xs.length ∧ seenAt xs x xs.length ≤ 127 ∧ ∀ b, hasB (seenAt xs x xs.length) b = xs.any (lights x b) := by
  have := seenAt_has hin x xs.length (Nat.le_refl _)
  rwa [List.take_length] at this
theorem eq_of_has {a b : Int} (h0 : 0 ≤ a) (h1 : a ≤ 127) (h2 : 0 ≤ b) (h3 : b ≤ 127) (h : ∀ j, j < 7 → hasB a j = hasB b j) : a = b := by
  have e1 : a = (a.toNat : Int) := by omega
  have e2 : b = (b.toNat : Int) := by omega
  rw [e1, e2]
  congr 1
  apply Nat.eq_of_testBit_eq
  intro j
  by_cases hj : j < 7
  · exact h j hj
  · have p1 := hasB_big h0 h1 (b := j) (by omega)
    have p2 := hasB_big h2 h3 (b := j) (by omega)
    unfold hasB at p1 p2
    rw [p1, p2]
theorem seenF_eq {xs ys : List (Int × Int)} (hx : barsIn xs) (hy : barsIn ys) (k : Nat) : seenF xs k = seenF ys k ↔ ∀ x, x < k → ∀ b, b < 7 → xs.any (lights x b) = ys.any (lights x b) := by
  unfold seenF
  constructor
  · intro h x hk b _
    have := congrArg (fun l => l[x]?) h
    simp only [List.getElem?_map, List.getElem?_range hk, Option.map_some, Option.some.injEq] at this
    rw [← (seenAt_all hx x).2.2 b, ← (seenAt_all hy x).2.2 b, this]
  · intro h
    apply List.map_congr_left
    intro x hk
    have hk' := List.mem_range.1 hk
    obtain ⟨a0, a1, ah⟩ := seenAt_all hx x
    obtain ⟨b0, b1, bh⟩ := seenAt_all hy x
    exact eq_of_has a0 a1 b0 b1 fun j hj => by rw [ah, bh, h x hk' j hj]

def vainB (k : Nat) (xs : List (Int × Int)) (i : Nat) : Bool := decide (seenF (xs.eraseIdx i) k = seenF xs k)
theorem barsIn_erase {xs : List (Int × Int)} (h : barsIn xs) (i : Nat) : barsIn (xs.eraseIdx i) := fun s hs => h s (List.mem_of_mem_eraseIdx hs)
theorem any_erase {α : Type} (xs : List α) (p : α → Bool) {i : Nat} (hi : i < xs.length) : xs.any p = ((xs.eraseIdx i).any p || p xs[i]) := by
  rw [List.eraseIdx_eq_take_drop_succ]
  conv => lhs; rw [← List.take_append_drop i xs, List.drop_eq_getElem_cons hi]
  simp only [List.any_append, List.any_cons]
  cases (xs.take i).any p <;> cases p xs[i] <;> simp
/-- A slot is not vain just where it lights a bar alone. -/
theorem vainB_false {xs : List (Int × Int)} (hin : barsIn xs) {k i : Nat} (hi : i < xs.length) : vainB k xs i = false ↔ ∃ x, x < k ∧ ∃ b, b < 7 ∧ lights x b xs[i] = true ∧ (xs.eraseIdx i).any (lights x b) = false := by
  unfold vainB
  rw [decide_eq_false_iff_not, seenF_eq (barsIn_erase hin i) hin]
  constructor
  · intro h
    refine Classical.byContradiction fun hc => h fun x hx b hb => ?_
    rw [any_erase xs _ hi]
    cases h1 : (xs.eraseIdx i).any (lights x b) with
    | true => rfl
    | false =>
      cases h2 : lights x b xs[i] with
      | false => rfl
      | true => exact absurd ⟨x, hx, b, hb, h2, h1⟩ hc
  · rintro ⟨x, hx, b, hb, h1, h2⟩ h
    have := h x hx b hb
    rw [any_erase xs _ hi, h1, h2] at this
    cases this
theorem any_sublist {α : Type} {xs ys : List α} (h : xs.Sublist ys) {p : α → Bool} (hy : ys.any p = false) : xs.any p = false := by
  rw [List.any_eq_false] at hy ⊢
  exact fun x hx => hy x (h.subset hx)
/-- What is not vain stays so when a later one is left out. -/
theorem vain_later {xs : List (Int × Int)} (hin : barsIn xs) {k i j : Nat} (hij : i < j) (hj : j < xs.length) (h : vainB k xs i = false) : vainB k (xs.eraseIdx j) i = false := by
  obtain ⟨x, hx, b, hb, h1, h2⟩ := (vainB_false hin (by omega)).1 h
  have hl : (xs.eraseIdx j).length = xs.length - 1 := by rw [List.length_eraseIdx, if_pos hj]
  refine (vainB_false (barsIn_erase hin j) (by omega)).2 ⟨x, hx, b, hb, ?_, ?_⟩
  · rw [List.getElem_eraseIdx_of_lt _ hij]
    exact h1
  · refine any_sublist ?_ h2
    have e : (xs.eraseIdx j).eraseIdx i = (xs.eraseIdx i).eraseIdx (j-1) := by
      rw [List.eraseIdx_eq_take_drop_succ, List.eraseIdx_eq_take_drop_succ, List.eraseIdx_eq_take_drop_succ, List.eraseIdx_eq_take_drop_succ]
      apply List.ext_getElem?
      intro q
      simp only [List.getElem?_append, List.getElem?_take, List.getElem?_drop, List.length_take, List.length_append, List.length_drop]
      repeat' split
      all_goals first | rfl | omega | (congr 1; omega) | (exfalso; omega) | skip
      all_goals (first | (rw [List.getElem?_eq_none (by omega)]; done) | (rw [List.getElem?_eq_none (by omega), List.getElem?_eq_none (by omega)]; done) | (congr 1; omega) | skip)
    rw [e]
    exact List.eraseIdx_sublist _ _

/-- Leaving out what is vain, from the place i on. -/
def dropF (k : Nat) (i : Nat) (xs : List (Int × Int)) : List (Int × Int) :=
  if h : i < xs.length then (if vainB k xs i then dropF k i (xs.eraseIdx i) else dropF k (i+1) xs) else xs
termination_by 2 * xs.length - i
decreasing_by
  · have : (xs.eraseIdx i).length = xs.length - 1 := by rw [List.length_eraseIdx, if_pos h]
    omega
  · omega
theorem dropF_end {k i : Nat} {xs : List (Int × Int)} (h : ¬ i < xs.length) : dropF k i xs = xs := by rw [dropF, dif_neg h]
theorem dropF_vain {k i : Nat} {xs : List (Int × Int)} (h : i < xs.length) (hv : vainB k xs i = true) : dropF k i xs = dropF k i (xs.eraseIdx i) := by rw [dropF, dif_pos h, if_pos hv]
theorem dropF_keep {k i : Nat} {xs : List (Int × Int)} (h : i < xs.length) (hv : vainB k xs i = false) : dropF k i xs = dropF k (i+1) xs := by rw [dropF, dif_pos h, if_neg (by rw [hv]; simp)]
theorem dropF_to {k : Nat} {xs : List (Int × Int)} {j : Nat} (hj : j ≤ xs.length) (h : ∀ i, i < j → vainB k xs i = false) : dropF k 0 xs = dropF k j xs := by
  induction j with
  | zero => rfl
  | succ j ih => rw [ih (by omega) (fun i hi => h i (by omega)), dropF_keep (by omega) (h j (by omega))]
theorem dropF_none {k : Nat} {xs : List (Int × Int)} (h : ∀ i, i < xs.length → vainB k xs i = false) : dropF k 0 xs = xs := by
  rw [dropF_to (Nat.le_refl _) h, dropF_end (by omega)]
theorem dropF_first {k : Nat} {xs : List (Int × Int)} (hin : barsIn xs) {j : Nat} (hj : j < xs.length) (h : ∀ i, i < j → vainB k xs i = false) (hv : vainB k xs j = true) : dropF k 0 xs = dropF k 0 (xs.eraseIdx j) := by
  have hl : (xs.eraseIdx j).length = xs.length - 1 := by rw [List.length_eraseIdx, if_pos hj]
  rw [dropF_to (by omega) h, dropF_vain hj hv]
  exact (dropF_to (by omega) fun i hi => vain_later hin hi hj (h i hi)).symm
theorem dropF_len (k : Nat) : ∀ (m i : Nat) (xs : List (Int × Int)), 2 * xs.length - i ≤ m → (dropF k i xs).length ≤ xs.length
  | m, i, xs, hm => by
    by_cases h : i < xs.length
    · have hl : (xs.eraseIdx i).length = xs.length - 1 := by rw [List.length_eraseIdx, if_pos h]
      match m with
      | 0 => omega
      | m+1 =>
        cases hv : vainB k xs i with
        | true =>
          rw [dropF_vain h hv]
          have := dropF_len k m i (xs.eraseIdx i) (by omega)
          omega
        | false =>
          rw [dropF_keep h hv]
          exact dropF_len k m (i+1) xs (by omega)
    · rw [dropF_end h]
      exact Nat.le_refl _

/-- The places of the vain slots below m. -/
def vainTo (k : Nat) (xs : List (Int × Int)) (m : Nat) : List Int := ((List.range m).filter fun i => vainB k xs i).map fun i : Nat => (i : Int)
theorem vainTo_yes {k : Nat} {xs : List (Int × Int)} {m : Nat} (h : vainB k xs m = true) : vainTo k xs (m+1) = vainTo k xs m ++ [(m : Int)] := by
  unfold vainTo
  rw [List.range_succ, List.filter_append, List.map_append]
  simp only [List.filter_cons, h, if_true, List.filter_nil, List.map_cons, List.map_nil]
theorem vainTo_no {k : Nat} {xs : List (Int × Int)} {m : Nat} (h : vainB k xs m = false) : vainTo k xs (m+1) = vainTo k xs m := by
  unfold vainTo
  rw [List.range_succ, List.filter_append, List.map_append]
  simp only [List.filter_cons, h, Bool.false_eq_true, if_false, List.filter_nil, List.map_nil, List.append_nil]
theorem vainTo_len (k : Nat) (xs : List (Int × Int)) (m : Nat) : (vainTo k xs m).length ≤ m := by
  unfold vainTo
  rw [List.length_map]
  exact Nat.le_trans (List.length_filter_le _ _) (by simp)
theorem vainTo_nil {k : Nat} {xs : List (Int × Int)} {m : Nat} (h : vainTo k xs m = []) : ∀ i, i < m → vainB k xs i = false := by
  intro i hi
  unfold vainTo at h
  have h2 := List.map_eq_nil_iff.1 h
  have := List.filter_eq_nil_iff.1 h2 i (List.mem_range.2 hi)
  simpa using this
theorem vainTo_cons {k : Nat} {xs : List (Int × Int)} : ∀ {m : Nat} {c : Int} {r : List Int}, vainTo k xs m = c :: r → ∃ j : Nat, c = j ∧ j < m ∧ vainB k xs j = true ∧ ∀ i, i < j → vainB k xs i = false
  | 0, _, _, h => by simp [vainTo] at h
  | m+1, c, r, h => by
    cases hv : vainB k xs m with
    | false =>
      rw [vainTo_no hv] at h
      obtain ⟨j, h1, h2, h3, h4⟩ := vainTo_cons h
      exact ⟨j, h1, by omega, h3, h4⟩
    | true =>
      rw [vainTo_yes hv] at h
      cases hm : vainTo k xs m with
      | nil =>
        rw [hm] at h
        simp only [List.nil_append, List.cons.injEq] at h
        exact ⟨m, h.1.symm, by omega, hv, vainTo_nil hm⟩
      | cons c' r' =>
        rw [hm] at h
        simp only [List.cons_append, List.cons.injEq] at h
        obtain ⟨j, h1, h2, h3, h4⟩ := vainTo_cons hm
        exact ⟨j, h.1 ▸ h1, by omega, h3, h4⟩

def vainR (k : Int) (xs : List (Int × Int)) : List Int × Bool := if drivenB k xs then (vainTo k.toNat xs xs.length, true) else ([], false)
theorem vainR_no {k : Int} {xs : List (Int × Int)} (h : drivenB k xs = false) : vainR k xs = ([], false) := by simp [vainR, h]
theorem vainR_yes {j : Nat} {xs : List (Int × Int)} (h : drivenB j xs = true) : vainR j xs = (vainTo j xs xs.length, true) := by simp [vainR, h]
theorem driven_len {k : Int} {xs : List (Int × Int)} (h : drivenB k xs = true) : xs.length ≤ 12 := (frameB_true (drivenB_true h).2).1
theorem vainR_len (k : Int) (xs : List (Int × Int)) : (vainR k xs).1.length ≤ 1048576 := by
  unfold vainR
  split
  · rename_i h
    have := driven_len h
    have := vainTo_len k.toNat xs xs.length
    simp only
    omega
  · simp
def dropR (k : Int) (xs : List (Int × Int)) : List (Int × Int) × Bool := if drivenB k xs then (dropF k.toNat 0 xs, true) else ([], false)
theorem dropR_no {k : Int} {xs : List (Int × Int)} (h : drivenB k xs = false) : dropR k xs = ([], false) := by simp [dropR, h]
theorem dropR_yes {j : Nat} {xs : List (Int × Int)} (h : drivenB j xs = true) : dropR j xs = (dropF j 0 xs, true) := by simp [dropR, h]
theorem dropR_len (k : Int) (xs : List (Int × Int)) : (dropR k xs).1.length ≤ 1048576 := by
  unfold dropR
  split
  · rename_i h
    have := driven_len h
    have := dropF_len k.toNat _ 0 xs (Nat.le_refl _)
    simp only
    omega
  · simp

end Go.Proofs.Ytfgjaefcfmjleaa
