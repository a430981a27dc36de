import Derived.Test.YtfgjaefcfmjleaaPairs
namespace Go.Proofs.Ytfgjaefcfmjleaa
open Go.RowKit

/-! ## Plain: pairs of places counted by rows and by columns; the gap -/
def farAt (xs : List Int) (i k : Nat) : Int := farI (xs.getD i 0) (xs.getD k 0)
theorem farAt_comm (xs : List Int) (i k : Nat) : farAt xs i k = farAt xs k i := farI_comm _ _

def colRow (xs : List Int) (d : Int) (i k : Nat) : Nat := ((List.range k).filter fun j => farAt xs i j == d).length
def colTo (xs : List Int) (d : Int) : Nat → Nat
  | 0 => 0
  | i+1 => colTo xs d i + colRow xs d i i
theorem colRow_yes {xs : List Int} {d : Int} {i k : Nat} (h : (farAt xs i k == d) = true) : colRow xs d i (k+1) = colRow xs d i k + 1 := by
  unfold colRow
  rw [List.range_succ, List.filter_append, List.length_append]
  simp only [List.filter_cons, h, if_true, List.filter_nil, List.length_cons, List.length_nil]
theorem colRow_no {xs : List Int} {d : Int} {i k : Nat} (h : (farAt xs i k == d) = false) : colRow xs d i (k+1) = colRow xs d i k := by
  unfold colRow
  rw [List.range_succ, List.filter_append, List.length_append]
  simp only [List.filter_cons, h, Bool.false_eq_true, if_false, List.filter_nil, List.length_nil, Nat.add_zero]
theorem colRow_le (xs : List Int) (d : Int) (i k : Nat) : colRow xs d i k ≤ k := by
  unfold colRow
  exact Nat.le_trans (List.length_filter_le _ _) (by simp)
theorem colTo_le (xs : List Int) (d : Int) (i : Nat) : colTo xs d i ≤ i * i := by
  induction i with
  | zero => simp [colTo]
  | succ i ih =>
    have := colRow_le xs d i i
    simp only [colTo, Nat.succ_mul, Nat.mul_succ]
    omega

/-- The row of i cut at m, as a number. -/
def rowCut (xs : List Int) (d : Int) (i m : Nat) : Nat := ((List.range m).filter fun j => decide (i < j) && (farAt xs i j == d)).length
theorem rowCut_succ (xs : List Int) (d : Int) (i m : Nat) : rowCut xs d i (m+1) = rowCut xs d i m + (if i < m ∧ farAt xs i m = d then 1 else 0) := by
  unfold rowCut
  rw [List.range_succ, List.filter_append, List.length_append]
  congr 1
  by_cases h : i < m ∧ farAt xs i m = d
  · simp [h.1, h.2]
  · rw [if_neg h]
    have : (decide (i < m) && (farAt xs i m == d)) = false := by
      by_cases h1 : i < m
      · simp only [h1, decide_true, Bool.true_and, beq_eq_false_iff_ne]
        exact fun e => h ⟨h1, e⟩
      · simp [h1]
    simp [this]
def sumTo (f : Nat → Nat) : Nat → Nat
  | 0 => 0
  | n+1 => sumTo f n + f n
theorem sumTo_congr {f g : Nat → Nat} {n : Nat} (h : ∀ i, i < n → f i = g i) : sumTo f n = sumTo g n := by
  induction n with
  | zero => rfl
  | succ n ih => rw [sumTo, sumTo, ih (fun i hi => h i (by omega)), h n (by omega)]
theorem sumTo_add (f g : Nat → Nat) (n : Nat) : sumTo (fun i => f i + g i) n = sumTo f n + sumTo g n := by
  induction n with
  | zero => rfl
  | succ n ih => simp only [sumTo, ih]; omega
theorem sumTo_ind (p : Nat → Prop) [DecidablePred p] (n : Nat) : sumTo (fun i => if p i then 1 else 0) n = ((List.range n).filter fun j => decide (p j)).length := by
  induction n with
  | zero => rfl
  | succ n ih =>
    rw [sumTo, ih, List.range_succ, List.filter_append, List.length_append]
    congr 1
    by_cases h : p n <;> simp [h]
theorem rowCut_self (xs : List Int) (d : Int) (i m : Nat) (h : m ≤ i + 1) : rowCut xs d i m = 0 := by
  unfold rowCut
  rw [List.length_eq_zero_iff, List.filter_eq_nil_iff]
  intro j hj
  have : ¬ i < j := by have := List.mem_range.1 hj; omega
  simp [this]
theorem rows_cols (xs : List Int) (d : Int) (m : Nat) : sumTo (fun i => rowCut xs d i m) m = colTo xs d m := by
  induction m with
  | zero => rfl
  | succ m ih =>
    rw [sumTo, rowCut_self _ _ _ _ (Nat.le_refl _), Nat.add_zero, sumTo_congr (fun i _ => rowCut_succ xs d i m), sumTo_add, ih, colTo, sumTo_ind]
    congr 1
    unfold colRow
    congr 1
    apply List.filter_congr
    intro j hj
    have hj' := List.mem_range.1 hj
    rw [farAt_comm xs m j]
    simp only [hj', true_and]
    by_cases e : farAt xs j m = d <;> simp [e]
theorem pairsTo_sum (xs : List Int) (d : Int) (i : Nat) : (pairsTo xs (fun n => n == d) i).length = sumTo (fun a => rowCut xs d a xs.length) i := by
  induction i with
  | zero => rfl
  | succ i ih =>
    rw [pairsTo_succ, List.length_append, ih, sumTo]
    congr 1
    unfold innerP rowCut farAt
    rw [List.length_map]
theorem pairsL_cols (xs : List Int) (d : Int) : (pairsL xs (fun n => n == d)).length = colTo xs d xs.length := by
  unfold pairsL
  rw [pairsTo_sum, rows_cols]

/-! ### the gap -/
def noPairs (xs : List Int) (d : Nat) : Prop := (pairsL xs (fun n => n == (d : Int))).length = 0
instance (xs : List Int) (d : Nat) : Decidable (noPairs xs d) := by unfold noPairs; infer_instance
def gapGo (xs : List Int) : Nat → Nat → Int
  | 0, _ => 0
  | f+1, d => if noPairs xs d then gapGo xs f (d+1) else d
def gapF (xs : List Int) : Int := gapGo xs 7 1
theorem gapF_at {xs : List Int} {far : Nat} (h1 : 1 ≤ far) (h8 : far ≤ 8) (h : ∀ d, 1 ≤ d → d < far → noPairs xs d) : gapF xs = gapGo xs (8 - far) far := by
  unfold gapF
  induction far with
  | zero => omega
  | succ f ih =>
    by_cases e : f = 0
    · subst e; rfl
    · rw [ih (by omega) (by omega) (fun d h1 h2 => h d h1 (by omega)), show 8 - f = (8 - (f+1)) + 1 by omega, gapGo, if_pos (h f (by omega) (by omega))]
theorem gapF_is {xs : List Int} {far : Nat} (h1 : 1 ≤ far) (h8 : far ≤ 7) (h : ∀ d, 1 ≤ d → d < far → noPairs xs d) (h' : ¬ noPairs xs far) : gapF xs = far := by
  rw [gapF_at h1 (by omega) h, show 8 - far = (7 - far) + 1 by omega, gapGo, if_neg h']
theorem gapF_none {xs : List Int} (h : ∀ d, 1 ≤ d → d < 8 → noPairs xs d) : gapF xs = 0 := by
  rw [gapF_at (by omega) (Nat.le_refl _) h]; rfl
theorem gapGo_range (xs : List Int) : ∀ f d, 0 ≤ gapGo xs f d ∧ gapGo xs f d < f + d + 1 := by
  intro f
  induction f with
  | zero => intro d; simp [gapGo]
  | succ f ih =>
    intro d
    rw [gapGo]
    split
    · have := ih (d+1); omega
    · omega
theorem gapF_range (xs : List Int) : 0 ≤ gapF xs ∧ gapF xs ≤ 8 := by
  have := gapGo_range xs 7 1
  unfold gapF
  omega

theorem colTo_zero_iff (xs : List Int) (d : Int) (n : Nat) : colTo xs d n = 0 ↔ ∀ a b, b < a → a < n → farAt xs a b ≠ d := by
  induction n with
  | zero => exact ⟨fun _ a b _ h => absurd h (Nat.not_lt_zero a), fun _ => rfl⟩
  | succ n ih =>
    rw [colTo, Nat.add_eq_zero_iff, ih]
    constructor
    · rintro ⟨h1, h2⟩ a b hb ha
      by_cases e : a = n
      · subst e
        unfold colRow at h2
        rw [List.length_eq_zero_iff, List.filter_eq_nil_iff] at h2
        have := h2 b (List.mem_range.2 hb)
        simpa using this
      · exact h1 a b hb (by omega)
    · intro h
      refine ⟨fun a b hb ha => h a b hb (by omega), ?_⟩
      unfold colRow
      rw [List.length_eq_zero_iff, List.filter_eq_nil_iff]
      intro j hj
      have := h n j (List.mem_range.1 hj) (by omega)
      simpa using this
theorem noPairs_iff (xs : List Int) (d : Nat) : noPairs xs d ↔ ∀ a b, b < a → a < xs.length → farAt xs a b ≠ (d : Int) := by
  unfold noPairs
  rw [pairsL_cols, colTo_zero_iff]

/-- g is the least distance of the pairs of places b < a with a < i, or a = i and b < k; 0 if there is none. -/
def minTo (xs : List Int) (i k : Nat) (g : Int) : Prop :=
  (g = 0 ∧ ∀ a b, b < a → ¬ (a < i ∨ (a = i ∧ b < k))) ∨
  ((∃ a b, b < a ∧ (a < i ∨ (a = i ∧ b < k)) ∧ farAt xs a b = g) ∧ ∀ a b, b < a → (a < i ∨ (a = i ∧ b < k)) → g ≤ farAt xs a b)
theorem minTo_start (xs : List Int) : minTo xs 0 0 0 := Or.inl ⟨rfl, fun a b hb h => by omega⟩
theorem minTo_row {xs : List Int} {i : Nat} {g : Int} (h : minTo xs i i g) : minTo xs (i+1) 0 g := by
  rcases h with ⟨rfl, h⟩ | ⟨⟨a, b, hb, hs, e⟩, h⟩
  · exact Or.inl ⟨rfl, fun a b hb hs => h a b hb (by omega)⟩
  · exact Or.inr ⟨⟨a, b, hb, by omega, e⟩, fun a b hb hs => h a b hb (by omega)⟩
theorem minTo_take {xs : List Int} {i k : Nat} {g : Int} (hk : k < i) (h : minTo xs i k g) (hc : g = 0 ∨ farAt xs i k < g) (hpos : ∀ a b, b < a → a ≤ i → 0 < farAt xs a b) : minTo xs i (k+1) (farAt xs i k) := by
  refine Or.inr ⟨⟨i, k, hk, by omega, rfl⟩, fun a b hb hs => ?_⟩
  by_cases e : a = i ∧ b = k
  · rw [e.1, e.2]; exact Int.le_refl _
  · rcases h with ⟨rfl, h⟩ | ⟨⟨a', b', hb', hs', e'⟩, h⟩
    · exact absurd (show a < i ∨ (a = i ∧ b < k) by omega) (h a b hb)
    · have := h a b hb (by omega)
      rcases hc with rfl | hc
      · have := hpos a' b' hb' (by omega); omega
      · omega
theorem minTo_leave {xs : List Int} {i k : Nat} {g : Int} (h : minTo xs i k g) (h0 : g ≠ 0) (hc : ¬ farAt xs i k < g) : minTo xs i (k+1) g := by
  rcases h with ⟨rfl, h⟩ | ⟨⟨a', b', hb', hs', e'⟩, h⟩
  · exact absurd rfl h0
  · refine Or.inr ⟨⟨a', b', hb', by omega, e'⟩, fun a b hb hs => ?_⟩
    by_cases e : a = i ∧ b = k
    · rw [e.1, e.2]; omega
    · exact h a b hb (by omega)
theorem minTo_gap {xs : List Int} {g : Int} (h : minTo xs xs.length 0 g) (hpos : ∀ a b, b < a → a < xs.length → 0 < farAt xs a b) : g = gapF xs := by
  rcases h with ⟨rfl, h⟩ | ⟨⟨a, b, hb, hs, e⟩, h⟩
  · rw [gapF_none]
    intro d _ _
    rw [noPairs_iff]
    intro a b hb ha
    exact absurd (Or.inl ha) (h a b hb)
  · have ha : a < xs.length := by omega
    have hg := hpos a b hb ha
    have hr := farI_range (xs.getD a 0) (xs.getD b 0)
    have hr' : farAt xs a b ≤ 7 := hr.2
    obtain ⟨d, hd⟩ : ∃ d : Nat, g = d := ⟨g.toNat, by omega⟩
    subst hd
    rw [gapF_is (far := d) (by omega) (by omega)]
    · intro d' h1 h2
      rw [noPairs_iff]
      intro a' b' hb' ha' e'
      have := h a' b' hb' (by omega)
      omega
    · rw [noPairs_iff]
      intro hn
      exact hn a b hb ha e

theorem code_far_pos {xs : List Int} (h : codeB xs = true) : ∀ a b, b < a → a < xs.length → 0 < farAt xs a b := by
  obtain ⟨_, _, hc⟩ := codeB_true h
  intro a b hb ha
  have h1 := hc a ha
  have h2 := hc b (by omega)
  have r1 := cellB_true h1.1
  have r2 := cellB_true h2.1
  refine farI_pos r1.1 r1.2 r2.1 r2.2 fun e => h1.2 ?_
  rw [e, List.getD_eq_getElem?_getD, List.getElem?_eq_getElem (by omega : b < xs.length), Option.getD_some]
  exact List.mem_take_iff_getElem.2 ⟨b, by omega, rfl⟩
theorem code_cells {xs : List Int} (h : codeB xs = true) : ∀ i, i < xs.length → 0 ≤ xs.getD i 0 ∧ xs.getD i 0 ≤ 127 := fun i hi => cellB_true ((codeB_true h).2.2 i hi).1

end Go.Proofs.Ytfgjaefcfmjleaa
