import Derived.Test.YtfgjaefcfmjleaaRows1
import Derived.Test.YtfgjaefcfmjleaaLit
namespace Go.Proofs.Ytfgjaefcfmjleaa
open Go.RowKit

/-! ## Covers of a row by slots, plainly: the program's and the reference's search find one and the same -/
def hasB (x : Int) (b : Nat) : Bool := x.toNat.testBit b
theorem hasB_one {x : Int} (h0 : 0 ≤ x) (h1 : x ≤ 127) {b : Nat} (hb : b < 7) : (bitI x b == 1) = hasB x b := by
  obtain ⟨n, rfl⟩ := fin128 h0 h1
  clear h0 h1
  obtain ⟨j, rfl⟩ : ∃ j : Fin 7, b = (j : Nat) := ⟨⟨b, hb⟩, rfl⟩
  clear hb
  revert n j
  decide +kernel
theorem hasB_zero {x : Int} (h0 : 0 ≤ x) (h1 : x ≤ 127) {b : Nat} (hb : b < 7) : (bitI x b == 0) = !hasB x b := by
  obtain ⟨n, rfl⟩ := fin128 h0 h1
  clear h0 h1
  obtain ⟨j, rfl⟩ : ∃ j : Fin 7, b = (j : Nat) := ⟨⟨b, hb⟩, rfl⟩
  clear hb
  revert n j
  decide +kernel
theorem hasB_big {x : Int} (h0 : 0 ≤ x) (h1 : x ≤ 127) {b : Nat} (hb : 7 ≤ b) : hasB x b = false := by
  unfold hasB
  apply Nat.testBit_lt_two_pow
  have : 2 ^ 7 ≤ 2 ^ b := Nat.pow_le_pow_right (by omega) hb
  omega
theorem hasB_some {x : Int} (h0 : 0 < x) (h1 : x ≤ 127) : ∃ b, b < 7 ∧ hasB x b = true := by
  have : ∀ n : Fin 128, 0 < (n : Nat) → ∃ b : Fin 7, hasB ((n : Nat) : Int) (b : Nat) = true := by decide +kernel
  obtain ⟨n, rfl⟩ := fin128 (Int.le_of_lt h0) h1
  obtain ⟨b, hb⟩ := this n (by omega)
  exact ⟨b, b.2, hb⟩
theorem hasB_nil (b : Nat) : hasB 0 b = false := by simp [hasB]

theorem andI_nat (a b : Nat) (ha : a < 128) (hb : b < 128) : bits .and .i64 (a : Int) (b : Int) = ((a &&& b : Nat) : Int) := by
  have h : a &&& b < 128 := Nat.and_lt_two_pow (n := 7) a hb
  have e1 : (BitVec.ofInt 64 (a : Int)) = BitVec.ofNat 64 a := by simp
  have e2 : (BitVec.ofInt 64 (b : Int)) = BitVec.ofNat 64 b := by simp
  show IntKind.i64.wrap (((BitVec.ofInt 64 (a : Int)) &&& (BitVec.ofInt 64 (b : Int))).toNat : Int) = _
  rw [e1, e2, BitVec.toNat_and, BitVec.toNat_ofNat, BitVec.toNat_ofNat]
  rw [Nat.mod_eq_of_lt (by omega), Nat.mod_eq_of_lt (by omega)]
  exact IntWalk.i64_in _ (by omega)
theorem andI_has {a b : Int} (h0 : 0 ≤ a) (h1 : a ≤ 127) (h2 : 0 ≤ b) (h3 : b ≤ 127) : 0 ≤ bits .and .i64 a b ∧ bits .and .i64 a b ≤ 127 ∧ ∀ j, hasB (bits .and .i64 a b) j = (hasB a j && hasB b j) := by
  obtain ⟨m, rfl⟩ := fin128 h0 h1
  obtain ⟨n, rfl⟩ := fin128 h2 h3
  rw [andI_nat _ _ m.2 n.2]
  have h : (m : Nat) &&& (n : Nat) < 128 := Nat.and_lt_two_pow (n := 7) m n.2
  refine ⟨by omega, by omega, fun j => ?_⟩
  simp [hasB, Nat.testBit_and]
theorem andNotI_has {a b : Int} (h0 : 0 ≤ a) (h1 : a ≤ 127) (h2 : 0 ≤ b) (h3 : b ≤ 127) : 0 ≤ bits .andNot .i64 a b ∧ bits .andNot .i64 a b ≤ 127 ∧ ∀ j, hasB (bits .andNot .i64 a b) j = (hasB a j && !hasB b j) := by
  obtain ⟨m, rfl⟩ := fin128 h0 h1
  obtain ⟨n, rfl⟩ := fin128 h2 h3
  have hm := m.2
  have hn := n.2
  obtain ⟨m, hm'⟩ := m
  obtain ⟨n, hn'⟩ := n
  simp only at hm hn ⊢
  have e1 : (BitVec.ofInt 64 (m : Int)) = BitVec.ofNat 64 m := by simp
  have e2 : (BitVec.ofInt 64 (n : Int)) = BitVec.ofNat 64 n := by simp
  have hv : (BitVec.ofNat 64 m &&& ~~~ BitVec.ofNat 64 n).toNat < 128 := by
    rw [BitVec.toNat_and, BitVec.toNat_ofNat, Nat.mod_eq_of_lt (by omega)]
    exact Nat.lt_of_le_of_lt Nat.and_le_left hm
  have e : bits .andNot .i64 (m : Int) (n : Int) = ((BitVec.ofNat 64 m &&& ~~~ BitVec.ofNat 64 n).toNat : Int) := by
    show IntKind.i64.wrap (((BitVec.ofInt 64 (m : Int)) &&& ~~~ (BitVec.ofInt 64 (n : Int))).toNat : Int) = _
    rw [e1, e2]
    exact IntWalk.i64_in _ (by omega)
  rw [e]
  refine ⟨by omega, by omega, fun j => ?_⟩
  unfold hasB
  simp only [Int.toNat_natCast]
  by_cases hj : j < 64
  · rw [BitVec.testBit_toNat, BitVec.getLsbD_and, BitVec.getLsbD_not, BitVec.getLsbD_ofNat, BitVec.getLsbD_ofNat]
    simp [hj]
  · have : 2 ^ 7 ≤ 2 ^ j := Nat.pow_le_pow_right (by omega) (by omega)
    rw [Nat.testBit_lt_two_pow (by omega), Nat.testBit_lt_two_pow (x := m) (by omega)]
    rfl
theorem and_all {a b : Int} (h0 : 0 ≤ a) (h1 : a ≤ 127) (h2 : 0 ≤ b) (h3 : b ≤ 127) : (bits .and .i64 a b == b) = true ↔ ∀ j, j < 7 → hasB b j = true → hasB a j = true := by
  obtain ⟨m, rfl⟩ := fin128 h0 h1
  obtain ⟨n, rfl⟩ := fin128 h2 h3
  rw [andI_nat _ _ m.2 n.2]
  simp only [beq_iff_eq, hasB, Int.toNat_natCast]
  constructor
  · intro e j _ hj
    have e' : (m : Nat) &&& (n : Nat) = n := by omega
    rw [← e', Nat.testBit_and, Bool.and_eq_true] at hj
    exact hj.1
  · intro h
    have : (m : Nat) &&& (n : Nat) = n := by
      apply Nat.eq_of_testBit_eq
      intro j
      rw [Nat.testBit_and]
      by_cases hj : j < 7
      · cases hb : (n : Nat).testBit j with
        | true => rw [h j hj hb]; rfl
        | false => simp
      · have hp : 2 ^ 7 ≤ 2 ^ j := Nat.pow_le_pow_right (by omega) (by omega)
        have := n.2
        rw [Nat.testBit_lt_two_pow (x := (n : Nat)) (by omega)]
        simp
    omega

theorem fullTo_has {r : List Int} (hin : cellsIn r) {c : Int} (h0 : 0 ≤ c) (h1 : c ≤ 127) (hr : r.length ≤ 6) : ∀ k, k ≤ r.length → 0 ≤ fullTo r c k ∧ fullTo r c k ≤ 127 ∧
    ∀ b, b < 7 → (hasB (fullTo r c k) b = true ↔ ∀ i, i < k → hasB c i = true → hasB (r.getD i 0) b = true)
  | 0, _ => by
    refine ⟨by simp [fullTo], by simp [fullTo], fun b hb => ⟨fun _ i hi => absurd hi (Nat.not_lt_zero i), fun _ => ?_⟩⟩
    have : ∀ j : Fin 7, hasB 127 (j : Nat) = true := by decide +kernel
    exact this ⟨b, hb⟩
  | k+1, hk => by
    obtain ⟨i0, i1, ih⟩ := fullTo_has hin h0 h1 hr k (by omega)
    have hx := hin k (by omega)
    have hone := hasB_one h0 h1 (b := k) (by omega)
    simp only [fullTo]
    cases hc : (bitI c k == 1) with
    | true =>
      rw [hc] at hone
      obtain ⟨a0, a1, ah⟩ := andI_has i0 i1 hx.1 hx.2
      simp only [if_true]
      refine ⟨a0, a1, fun b hb => ?_⟩
      rw [ah, Bool.and_eq_true, ih b hb]
      constructor
      · rintro ⟨p, q⟩ i hi hci
        by_cases e : i = k
        · subst e; exact q
        · exact p i (by omega) hci
      · intro h
        exact ⟨fun i hi hci => h i (by omega) hci, h k (by omega) hone.symm⟩
    | false =>
      rw [hc] at hone
      simp only [Bool.false_eq_true, if_false]
      refine ⟨i0, i1, fun b hb => ?_⟩
      rw [ih b hb]
      constructor
      · intro h i hi hci
        by_cases e : i = k
        · subst e
          rw [← hone] at hci
          cases hci
        · exact h i (by omega) hci
      · intro h i hi hci
        exact h i (by omega) hci
theorem fullF_has {r : List Int} (hin : cellsIn r) {c : Int} (h0 : 0 ≤ c) (h1 : c ≤ 127) (hr : r.length ≤ 6) : 0 ≤ fullF r c ∧ fullF r c ≤ 127 ∧
    ∀ b, b < 7 → (hasB (fullF r c) b = true ↔ ∀ i, i < r.length → hasB c i = true → hasB (r.getD i 0) b = true) := fullTo_has hin h0 h1 hr r.length (Nat.le_refl _)

/-- The number whose bits below k are those that f tells. -/
def mkN (f : Nat → Bool) : Nat → Nat
  | 0 => 0
  | k+1 => mkN f k ||| (if f k then 2 ^ k else 0)
theorem mkN_lt (f : Nat → Bool) : ∀ k, mkN f k < 2 ^ k
  | 0 => by simp [mkN]
  | k+1 => by
    refine Nat.or_lt_two_pow (Nat.lt_trans (mkN_lt f k) (Nat.pow_lt_pow_right (by omega) (by omega))) ?_
    split
    · exact Nat.pow_lt_pow_right (by omega) (by omega)
    · exact Nat.pos_of_ne_zero (by simp)
theorem mkN_has (f : Nat → Bool) : ∀ k i, i < k → (mkN f k).testBit i = f i
  | 0, i, h => absurd h (Nat.not_lt_zero i)
  | k+1, i, h => by
    rw [mkN, Nat.testBit_or]
    by_cases e : i = k
    · subst e
      rw [Nat.testBit_lt_two_pow (mkN_lt f i)]
      cases hf : f i <;> simp
    · rw [mkN_has f k i (by omega)]
      cases hf : f k
      · simp
      · simp [show ¬ k = i by omega]

/-! ### The search, its test for a set of cells left open -/
def nzQ (x : Int) : Bool := x != 0
def restF (l : List Int) (c bars : Int) : List Int := (List.range l.length).map fun i => if bitI c i == 1 then bits .andNot .i64 (l.getD i 0) bars else l.getD i 0
theorem length_restF (l : List Int) (c bars : Int) : (restF l c bars).length = l.length := by simp [restF]
theorem getD_restF {l : List Int} {c bars : Int} {i : Nat} (h : i < l.length) : (restF l c bars).getD i 0 = if bitI c i == 1 then bits .andNot .i64 (l.getD i 0) bars else l.getD i 0 := by
  unfold restF
  rw [List.getD_eq_getElem?_getD, List.getElem?_map, List.getElem?_range h]
  rfl
theorem restF_in {l : List Int} (hin : cellsIn l) {c bars : Int} (h0 : 0 ≤ bars) (h1 : bars ≤ 127) : cellsIn (restF l c bars) := by
  intro i hi
  rw [length_restF] at hi
  rw [getD_restF hi]
  have := hin i hi
  split
  · obtain ⟨a, b, _⟩ := andNotI_has this.1 this.2 h0 h1
    exact ⟨a, b⟩
  · exact this
theorem restF_has {l : List Int} (hin : cellsIn l) {c bars : Int} (c0 : 0 ≤ c) (c1 : c ≤ 127) (h0 : 0 ≤ bars) (h1 : bars ≤ 127) {i : Nat} (hi : i < l.length) (h7 : i < 7) (b : Nat) :
    hasB ((restF l c bars).getD i 0) b = (hasB (l.getD i 0) b && !(hasB c i && hasB bars b)) := by
  rw [getD_restF hi]
  have hx := hin i hi
  have hone := hasB_one c0 c1 h7
  cases hc : (bitI c i == 1) with
  | true =>
    rw [hc] at hone
    rw [if_pos rfl, (andNotI_has hx.1 hx.2 h0 h1).2.2, ← hone]
    simp
  | false =>
    rw [hc] at hone
    rw [if_neg (by simp), ← hone]
    simp

def covG (cond : List Int → Nat → Int → Bool) (r : List Int) : Nat → List Int → Bool
  | 0, l => !l.any nzQ
  | s+1, l => !l.any nzQ || (List.range (2 ^ r.length)).any fun c : Nat => decide (1 ≤ c) && cond l (l.findIdx nzQ) (c : Int) && covG cond r s (restF l (c : Int) (fullF r (c : Int)))

/-- So many sets of cells are enough. -/
def Cov (r l : List Int) (s : Nat) : Prop :=
  ∃ Ss : List (Nat → Bool), Ss.length ≤ s ∧ ∀ i, i < l.length → ∀ b, b < 7 → hasB (l.getD i 0) b = true → ∃ S ∈ Ss, S i = true ∧ ∀ j, j < r.length → S j = true → hasB (r.getD j 0) b = true

/-- The test lets a set of cells by that does as much as S. -/
def Lets (cond : List Int → Nat → Int → Bool) (r : List Int) : Prop :=
  ∀ (l : List Int) (f b : Nat) (S : Nat → Bool), l.length = r.length → cellsIn l → l.findIdx nzQ = f → f < l.length → b < 7 → hasB (l.getD f 0) b = true → (∀ b', b' < b → hasB (l.getD f 0) b' = false) → S f = true → (∀ j, j < r.length → S j = true → hasB (r.getD j 0) b = true) →
    ∃ c : Nat, 1 ≤ c ∧ c < 2 ^ r.length ∧ cond l f (c : Int) = true ∧ (∀ i, i < r.length → S i = true → hasB (c : Int) i = true) ∧
      ∀ b', b' < 7 → (∀ j, j < r.length → S j = true → hasB (r.getD j 0) b' = true) → hasB (fullF r (c : Int)) b' = true

theorem least_bit {x : Int} {b : Nat} (h : hasB x b = true) : ∃ b', b' ≤ b ∧ hasB x b' = true ∧ ∀ b'', b'' < b' → hasB x b'' = false := by
  induction b using Nat.strongRecOn with
  | _ b ih =>
    by_cases hex : ∃ b', b' < b ∧ hasB x b' = true
    · obtain ⟨b', hb', hx⟩ := hex
      obtain ⟨b2, h1, h2, h3⟩ := ih b' hb' hx
      exact ⟨b2, by omega, h2, h3⟩
    · refine ⟨b, Nat.le_refl _, h, fun b'' hb => ?_⟩
      cases hq : hasB x b'' with
      | false => rfl
      | true => exact absurd ⟨b'', hb, hq⟩ hex

theorem any_nz_false {l : List Int} (h : l.any nzQ = false) {i : Nat} (hi : i < l.length) : l.getD i 0 = 0 := by
  have := List.any_eq_false.1 h l[i] (List.getElem_mem hi)
  have e : l.getD i 0 = l[i] := by simp [List.getD, hi]
  rw [e]
  simpa [nzQ] using this

theorem pow_two_le {n : Nat} (h : n ≤ 6) : 2 ^ n ≤ 64 := Nat.pow_le_pow_right (n := 2) (by omega) h

theorem covG_iff {cond : List Int → Nat → Int → Bool} {r : List Int} (hr : r.length ≤ 6) (hinr : cellsIn r) (hlets : Lets cond r) :
    ∀ (s : Nat) (l : List Int), l.length = r.length → cellsIn l → (covG cond r s l = true ↔ Cov r l s)
  | 0, l, hl, hin => by
    simp only [covG, Bool.not_eq_true']
    constructor
    · intro h
      refine ⟨[], by simp, fun i hi b _ hb => ?_⟩
      rw [any_nz_false h hi, hasB_nil] at hb
      cases hb
    · rintro ⟨Ss, hs, hc⟩
      obtain rfl : Ss = [] := List.length_eq_zero_iff.1 (by omega)
      rw [List.any_eq_false]
      intro x hx
      obtain ⟨i, hi, rfl⟩ := List.mem_iff_getElem.1 hx
      have hxi := hin i hi
      have e : l.getD i 0 = l[i] := by simp [List.getD, hi]
      rw [e] at hxi
      simp only [nzQ, bne_iff_ne, ne_eq, Decidable.not_not]
      rcases Int.lt_or_le 0 l[i] with hpos | hneg
      · obtain ⟨b, hb, hbb⟩ := hasB_some hpos hxi.2
        obtain ⟨S, hS, _⟩ := hc i hi b hb (by rw [e]; exact hbb)
        simp at hS
      · omega
  | s+1, l, hl, hin => by
    have hp := pow_two_le hr
    simp only [covG, Bool.or_eq_true, Bool.not_eq_true']
    constructor
    · rintro (h | h)
      · refine ⟨[], by simp, fun i hi b _ hb => ?_⟩
        rw [any_nz_false h hi, hasB_nil] at hb
        cases hb
      · obtain ⟨c, hc, hcc⟩ := List.any_eq_true.1 h
        have hcl := List.mem_range.1 hc
        simp only [Bool.and_eq_true, decide_eq_true_eq] at hcc
        obtain ⟨⟨_, _⟩, hrec⟩ := hcc
        have c0 : (0 : Int) ≤ c := by omega
        have c1 : (c : Int) ≤ 127 := by omega
        obtain ⟨f0, f1, fh⟩ := fullF_has hinr c0 c1 hr
        obtain ⟨Ss, hs, hcov⟩ := (covG_iff hr hinr hlets s _ (by rw [length_restF]; exact hl) (restF_in hin f0 f1)).1 hrec
        refine ⟨(fun i => hasB (c : Int) i) :: Ss, by simp; omega, fun i hi b hb hbit => ?_⟩
        by_cases hin2 : hasB (c : Int) i = true ∧ hasB (fullF r (c : Int)) b = true
        · exact ⟨_, List.mem_cons_self, hin2.1, (fh b hb).1 hin2.2⟩
        · have hrb : hasB ((restF l (c : Int) (fullF r (c : Int))).getD i 0) b = true := by
            rw [restF_has hin c0 c1 f0 f1 hi (by omega), hbit, Bool.true_and, Bool.not_eq_true', Bool.and_eq_false_iff]
            by_cases h1 : hasB (c : Int) i = true
            · right
              cases h2 : hasB (fullF r (c : Int)) b with
              | false => rfl
              | true => exact absurd ⟨h1, h2⟩ hin2
            · left
              simpa using h1
          obtain ⟨S, hS, h1, h2⟩ := hcov i (by rw [length_restF]; exact hi) b hb hrb
          exact ⟨S, List.mem_cons_of_mem _ hS, h1, h2⟩
    · rintro ⟨Ss, hs, hcov⟩
      cases hany : l.any nzQ with
      | false => exact .inl rfl
      | true =>
        right
        have hf : l.findIdx nzQ < l.length := List.findIdx_lt_length_of_exists (List.any_eq_true.1 hany)
        obtain ⟨f, hfe⟩ : ∃ f, l.findIdx nzQ = f := ⟨_, rfl⟩
        have hnz : nzQ (l.getD f 0) = true := by
          have h2 := List.findIdx_getElem (xs := l) (p := nzQ) (w := hf)
          have e : l.getD (l.findIdx nzQ) 0 = l[l.findIdx nzQ] := by simp [List.getD, hf]
          rw [← hfe, e]
          exact h2
        rw [hfe] at hf ⊢
        have hxf := hin f hf
        have hpos : 0 < l.getD f 0 := by
          have : l.getD f 0 ≠ 0 := by simpa [nzQ] using hnz
          omega
        obtain ⟨b0, hb0, hbb0⟩ := hasB_some hpos hxf.2
        obtain ⟨b, hble, hbit, hleast⟩ := least_bit hbb0
        have hb7 : b < 7 := by omega
        obtain ⟨S, hS, hSf, hSb⟩ := hcov f hf b hb7 hbit
        obtain ⟨c, hc1, hc2, hcond, hSc, hfull⟩ := hlets l f b S hl hin hfe hf hb7 hbit hleast hSf hSb
        refine List.any_eq_true.2 ⟨c, List.mem_range.2 hc2, ?_⟩
        simp only [Bool.and_eq_true, decide_eq_true_eq]
        refine ⟨⟨hc1, hcond⟩, ?_⟩
        have c0 : (0 : Int) ≤ c := by omega
        have c1 : (c : Int) ≤ 127 := by omega
        obtain ⟨f0, f1, fh⟩ := fullF_has hinr c0 c1 hr
        refine (covG_iff hr hinr hlets s _ (by rw [length_restF]; exact hl) (restF_in hin f0 f1)).2 ?_
        obtain ⟨A, Bs, rfl⟩ := List.append_of_mem hS
        refine ⟨A ++ Bs, by simp at hs ⊢; omega, fun i hi b' hb' hbit' => ?_⟩
        rw [length_restF] at hi
        rw [restF_has hin c0 c1 f0 f1 hi (by omega), Bool.and_eq_true, Bool.not_eq_true', Bool.and_eq_false_iff] at hbit'
        obtain ⟨T, hT, hTi, hTb⟩ := hcov i hi b' hb' hbit'.1
        rcases List.mem_append.1 hT with h | h
        · exact ⟨T, List.mem_append.2 (.inl h), hTi, hTb⟩
        · rcases List.mem_cons.1 h with h | h
          · exfalso
            subst h
            have q1 := hSc i (by omega) hTi
            have q2 := hfull b' hb' hTb
            rcases hbit'.2 with h | h
            · rw [q1] at h; cases h
            · rw [q2] at h; cases h
          · exact ⟨T, List.mem_append.2 (.inr h), hTi, hTb⟩

/-! ### The program's test and the reference's -/
def lowI (x : Int) : Int := bits .and .i64 x (-x)
def condI (r l : List Int) (f : Nat) (c : Int) : Bool := !(bitI c f == 0) && !(bits .and .i64 (fullF r c) (lowI (l.getD f 0)) == 0)
def lowB (x : Int) : Nat := (List.range 7).findIdx fun b => !(bitI x b == 0)
def wholeB (r : List Int) (c bars : Int) : Bool := (List.range r.length).all fun i => !((bitI c i == 0) && (bits .and .i64 (r.getD i 0) bars == bars))
def condS (r l : List Int) (f : Nat) (c : Int) : Bool := !(bitI c f == 0) && !(bitI (fullF r c) (lowB (l.getD f 0)) == 0) && wholeB r c (fullF r c)

theorem lowB_is {x : Int} (h0 : 0 ≤ x) (h1 : x ≤ 127) {b : Nat} (hb : b < 7) (h : hasB x b = true) (hl : ∀ b', b' < b → hasB x b' = false) : lowB x = b := by
  unfold lowB
  rw [List.findIdx_eq (by simpa using hb)]
  simp only [List.getElem_range]
  refine ⟨by rw [hasB_zero h0 h1 hb, h]; rfl, fun j hj => ?_⟩
  rw [hasB_zero h0 h1 (by omega), hl j hj]
  rfl
theorem lowI_is {x : Int} (h0 : 0 ≤ x) (h1 : x ≤ 127) {b : Nat} (hb : b < 7) (h : hasB x b = true) (hl : ∀ b', b' < b → hasB x b' = false) : lowI x = 2 ^ b := by
  have key : ∀ n : Fin 128, ∀ j : Fin 7, hasB ((n : Nat) : Int) (j : Nat) = true → (∀ k : Fin 7, (k : Nat) < (j : Nat) → hasB ((n : Nat) : Int) (k : Nat) = false) → lowI ((n : Nat) : Int) = 2 ^ (j : Nat) := by decide +kernel
  obtain ⟨n, rfl⟩ := fin128 h0 h1
  exact key n ⟨b, hb⟩ h fun k hk => hl k hk
theorem and_pow {x : Int} (h0 : 0 ≤ x) (h1 : x ≤ 127) {b : Nat} (hb : b < 7) : (bits .and .i64 x (2 ^ b) == 0) = !hasB x b := by
  have key : ∀ n : Fin 128, ∀ j : Fin 7, (bits .and .i64 ((n : Nat) : Int) (2 ^ (j : Nat)) == 0) = !hasB ((n : Nat) : Int) (j : Nat) := by decide +kernel
  obtain ⟨n, rfl⟩ := fin128 h0 h1
  exact key n ⟨b, hb⟩

theorem mkN_facts {r : List Int} (hr : r.length ≤ 6) (S : Nat → Bool) {f : Nat} (hf : f < r.length) (hS : S f = true) :
    1 ≤ mkN S r.length ∧ mkN S r.length < 2 ^ r.length ∧ (0 : Int) ≤ (mkN S r.length : Nat) ∧ ((mkN S r.length : Nat) : Int) ≤ 127 ∧ ∀ i, i < r.length → hasB ((mkN S r.length : Nat) : Int) i = S i := by
  have h1 := mkN_lt S r.length
  have h2 := pow_two_le hr
  refine ⟨?_, h1, by omega, by omega, fun i hi => ?_⟩
  · rcases Nat.eq_zero_or_pos (mkN S r.length) with h | h
    · have := mkN_has S r.length f hf
      rw [h, hS] at this
      simp at this
    · exact h
  · unfold hasB
    rw [Int.toNat_natCast]
    exact mkN_has S r.length i hi

theorem lets_impl {r : List Int} (hr : r.length ≤ 6) (hinr : cellsIn r) : Lets (condI r) r := by
  intro l f b S hl hin hfe hf hb hbit hleast hSf hSb
  obtain ⟨k1, k2, k3, k4, k5⟩ := mkN_facts hr S (by omega) hSf
  obtain ⟨f0, f1, fh⟩ := fullF_has hinr k3 k4 hr
  have hx := hin f hf
  refine ⟨mkN S r.length, k1, k2, ?_, fun i hi h => by rw [k5 i hi]; exact h, fun b' hb' h => (fh b' hb').2 fun i hi hc => h i hi (by rw [k5 i hi] at hc; exact hc)⟩
  have q1 : hasB ((mkN S r.length : Nat) : Int) f = true := by rw [k5 f (by omega)]; exact hSf
  have q2 : hasB (fullF r ((mkN S r.length : Nat) : Int)) b = true := (fh b hb).2 fun i hi hc => hSb i hi (by rw [k5 i hi] at hc; exact hc)
  unfold condI
  rw [hasB_zero k3 k4 (by omega), q1, lowI_is hx.1 hx.2 hb hbit hleast, and_pow f0 f1 hb, q2]
  rfl

theorem lets_spec {r : List Int} (hr : r.length ≤ 6) (hinr : cellsIn r) : Lets (condS r) r := by
  intro l f b S hl hin hfe hf hb hbit hleast hSf hSb
  obtain ⟨k1, k2, k3, k4, k5⟩ := mkN_facts hr S (by omega) hSf
  obtain ⟨f0, f1, fh⟩ := fullF_has hinr k3 k4 hr
  have hx := hin f hf
  -- all cells in which these bars light
  obtain ⟨bars, hbars⟩ : ∃ bars, fullF r ((mkN S r.length : Nat) : Int) = bars := ⟨_, rfl⟩
  rw [hbars] at f0 f1 fh
  obtain ⟨T, hT⟩ : ∃ T : Nat → Bool, ∀ i, i < r.length → (T i = true ↔ ∀ b', b' < 7 → hasB bars b' = true → hasB (r.getD i 0) b' = true) :=
    ⟨fun i => bits .and .i64 (r.getD i 0) bars == bars, fun i hi => and_all (hinr i hi).1 (hinr i hi).2 f0 f1⟩
  have hST : ∀ i, i < r.length → S i = true → T i = true := fun i hi h => (hT i hi).2 fun b' hb' hbb => (fh b' hb').1 hbb i hi (by rw [k5 i hi]; exact h)
  obtain ⟨m1, m2, m3, m4, m5⟩ := mkN_facts hr T (f := f) (by omega) (hST f (by omega) hSf)
  obtain ⟨g0, g1, gh⟩ := fullF_has hinr m3 m4 hr
  have hsame : ∀ b', b' < 7 → (hasB (fullF r ((mkN T r.length : Nat) : Int)) b' = true ↔ hasB bars b' = true) := by
    intro b' hb'
    rw [gh b' hb']
    constructor
    · intro h
      refine (fh b' hb').2 fun i hi hc => h i hi ?_
      rw [m5 i hi]
      exact hST i hi (by rw [k5 i hi] at hc; exact hc)
    · intro h i hi hc
      rw [m5 i hi] at hc
      exact (hT i hi).1 hc b' hb' h
  have heq : fullF r ((mkN T r.length : Nat) : Int) = bars := by
    have e1 : fullF r ((mkN T r.length : Nat) : Int) = ((fullF r ((mkN T r.length : Nat) : Int)).toNat : Int) := by omega
    have e2 : bars = (bars.toNat : Int) := by omega
    rw [e1, e2]
    congr 1
    apply Nat.eq_of_testBit_eq
    intro j
    by_cases hj : j < 7
    · have := hsame j hj
      unfold hasB at this
      exact Bool.eq_iff_iff.2 this
    · have p1 := hasB_big g0 g1 (b := j) (by omega)
      have p2 := hasB_big f0 f1 (b := j) (by omega)
      unfold hasB at p1 p2
      rw [p1, p2]
  refine ⟨mkN T r.length, m1, m2, ?_, fun i hi h => by rw [m5 i hi]; exact hST i hi h, fun b' hb' h => (hsame b' hb').2 ((fh b' hb').2 fun i hi hc => h i hi (by rw [k5 i hi] at hc; exact hc))⟩
  have q1 : hasB ((mkN T r.length : Nat) : Int) f = true := by rw [m5 f (by omega)]; exact hST f (by omega) hSf
  have q2 : hasB bars b = true := (fh b hb).2 fun i hi hc => hSb i hi (by rw [k5 i hi] at hc; exact hc)
  unfold condS
  rw [hasB_zero m3 m4 (by omega), q1, heq, lowB_is hx.1 hx.2 hb hbit hleast, hasB_zero f0 f1 hb, q2]
  simp only [Bool.not_true, Bool.not_false, Bool.true_and, wholeB]
  rw [List.all_eq_true]
  intro i hi
  have hi' := List.mem_range.1 hi
  rw [hasB_zero m3 m4 (by omega), m5 i hi']
  cases hTi : T i with
  | true => rfl
  | false =>
    have : (bits .and .i64 (r.getD i 0) bars == bars) = false := by
      cases hq : (bits .and .i64 (r.getD i 0) bars == bars) with
      | false => rfl
      | true =>
        have := (hT i hi').2 ((and_all (hinr i hi').1 (hinr i hi').2 f0 f1).1 hq)
        rw [hTi] at this
        cases this
    rw [this]
    rfl

def covI (r : List Int) (s : Nat) (l : List Int) : Bool := covG (condI r) r s l
def covS (r : List Int) (s : Nat) (l : List Int) : Bool := covG (condS r) r s l
theorem cov_same {r l : List Int} (s : Nat) (hr : r.length ≤ 6) (hinr : cellsIn r) (hl : l.length = r.length) (hin : cellsIn l) : covI r s l = covS r s l := by
  have h1 := covG_iff hr hinr (lets_impl hr hinr) s l hl hin
  have h2 := covG_iff hr hinr (lets_spec hr hinr) s l hl hin
  unfold covI covS
  exact Bool.eq_iff_iff.2 (h1.trans h2.symm)
/-- A slot for each cell is enough. -/
theorem cov_all {r : List Int} (hr : r.length ≤ 6) (hinr : cellsIn r) : covI r r.length r = true := by
  refine (covG_iff hr hinr (lets_impl hr hinr) _ r rfl hinr).2 ⟨(List.range r.length).map fun i => fun j => decide (j = i), by simp, fun i hi b hb hbit => ?_⟩
  refine ⟨fun j => decide (j = i), List.mem_map.2 ⟨i, List.mem_range.2 hi, rfl⟩, by simp, fun j hj hje => ?_⟩
  have : j = i := by simpa using hje
  subst this
  exact hbit
def leastN (r : List Int) : Nat := (List.range (r.length + 1)).findIdx fun s => covI r s r
theorem leastN_at {r : List Int} {k : Nat} (hk : k ≤ r.length) (h : covI r k r = true) (hn : ∀ j, j < k → covI r j r = false) : leastN r = k := by
  unfold leastN
  rw [List.findIdx_eq (by simp; omega)]
  simp only [List.getElem_range]
  exact ⟨h, hn⟩
def leastR (r : List Int) : Int × Bool := if someB r then ((leastN r : Int), true) else (0, false)
theorem leastR_no {r : List Int} (h : someB r = false) : leastR r = (0, false) := by simp [leastR, h]
theorem leastR_yes {r : List Int} (h : someB r = true) : leastR r = ((leastN r : Int), true) := by simp [leastR, h]

end Go.Proofs.Ytfgjaefcfmjleaa
