import Derived.Test.YtfgjaefcfmjleaaGapPairs
import Derived.Test.YtfgjaefcfmjleaaFlip
import Derived.Test.YtfgjaefcfmjleaaDigitCode
namespace Go.Proofs.Ytfgjaefcfmjleaa
open Go.RowKit

/-! ## What FnGaps asks beyond equality, in plain Lean -/
theorem mem_pairsL {xs : List Int} {p : Int → Bool} {q : Int × Int} : q ∈ pairsL xs p ↔ ∃ i k : Nat, i < k ∧ k < xs.length ∧ p (farAt xs i k) = true ∧ q = ((i : Int), (k : Int)) := by
  unfold pairsL pairsTo innerP
  simp only [List.mem_flatMap, List.mem_range, List.mem_map, List.mem_filter, Bool.and_eq_true, decide_eq_true_eq]
  constructor
  · rintro ⟨a, ha, j, ⟨hj, haj, hp⟩, rfl⟩
    exact ⟨a, j, haj, hj, hp, rfl⟩
  · rintro ⟨i, k, hik, hk, hp, rfl⟩
    exact ⟨i, by omega, k, ⟨hk, hik, hp⟩, rfl⟩
theorem pair_at {xs : List Int} {p : Int → Bool} {i : Nat} (h : i < (pairsL xs p).length) : ∃ a b : Nat, a < b ∧ b < xs.length ∧ p (farAt xs a b) = true ∧ (pairsL xs p).getD i (0, 0) = ((a : Int), (b : Int)) := by
  have hm : (pairsL xs p).getD i (0, 0) ∈ pairsL xs p := by
    rw [List.getD_eq_getElem?_getD, List.getElem?_eq_getElem h]
    exact List.getElem_mem h
  exact mem_pairsL.1 hm
theorem gap_least {xs : List Int} : ∀ d : Nat, 1 ≤ d → d ≤ 7 → ¬ noPairs xs d → ∃ e : Nat, 1 ≤ e ∧ e ≤ 7 ∧ gapF xs = e ∧ ¬ noPairs xs e := by
  intro d
  induction d using Nat.strongRecOn with
  | _ d ih =>
    intro h1 h7 hd
    by_cases h : ∀ d', 1 ≤ d' → d' < d → noPairs xs d'
    · exact ⟨d, h1, h7, gapF_is h1 h7 h hd, hd⟩
    · simp only [Classical.not_forall] at h
      obtain ⟨d', h1', hlt, hn⟩ := h
      exact ih d' hlt h1' (by omega) hn
theorem gap_some {xs : List Int} (h : codeB xs = true) (h2 : 1 < xs.length) : 1 ≤ gapF xs ∧ gapF xs ≤ 7 ∧ 0 < (pairsL xs (fun n => n == gapF xs)).length := by
  have hp := code_far_pos h 1 0 (by omega) h2
  have hr : farAt xs 1 0 ≤ 7 := (farI_range _ _).2
  obtain ⟨e, he1, he7, hg, hn⟩ := gap_least (xs := xs) (farAt xs 1 0).toNat (by omega) (by omega) (by
    rw [noPairs_iff]
    intro hall
    exact hall 1 0 (by omega) h2 (by omega))
  rw [hg]
  refine ⟨by omega, by omega, ?_⟩
  unfold noPairs at hn
  omega
theorem gap_le {xs : List Int} (h : codeB xs = true) {a b : Nat} (hb : b < a) (ha : a < xs.length) : gapF xs ≤ farAt xs a b := by
  have hp := code_far_pos h a b hb ha
  have hr : farAt xs a b ≤ 7 := (farI_range _ _).2
  have : ∀ (n d : Nat), 1 ≤ d → (farAt xs a b) = d + n → d + n ≤ 7 → gapGo xs (8 - d) d ≤ d + n := by
    intro n
    induction n with
    | zero =>
      intro d h1 hf h7
      rw [show 8 - d = (7 - d) + 1 by omega, gapGo, if_neg]
      · omega
      · rw [noPairs_iff]
        intro hall
        exact hall a b hb ha (by simpa using hf)
    | succ n ih =>
      intro d h1 hf h7
      rw [show 8 - d = (7 - d) + 1 by omega, gapGo]
      split
      · have := ih (d+1) (by omega) (by rw [hf]; omega) (by omega)
        rw [show 8 - (d+1) = 7 - d by omega] at this
        omega
      · omega
  have h1 := this ((farAt xs a b).toNat - 1) 1 (by omega) (by omega) (by omega)
  have e : gapGo xs (8 - 1) 1 = gapGo xs 7 1 := rfl
  unfold gapF
  omega
theorem pairs_short {xs : List Int} (p : Int → Bool) (h : xs.length ≤ 1) : pairsL xs p = [] := by
  rcases hx : pairsL xs p with _ | ⟨a, r⟩
  · rfl
  · have : a ∈ pairsL xs p := by rw [hx]; simp
    obtain ⟨i, k, h1, h2, _⟩ := mem_pairsL.1 this
    omega

/-! ### flipped codes -/
theorem xor_cancel (a b c : Nat) : (a ^^^ b) ^^^ (c ^^^ b) = a ^^^ c := by
  apply Nat.eq_of_testBit_eq
  intro i
  simp only [Nat.testBit_xor]
  cases a.testBit i <;> cases b.testBit i <;> cases c.testBit i <;> rfl
theorem xor_home (a b : Nat) : (a ^^^ b) ^^^ b = a := by
  rw [Nat.xor_assoc, Nat.xor_self, Nat.xor_zero]
theorem far_flip {a b c : Int} (ha : 0 ≤ a ∧ a ≤ 127) (hb : 0 ≤ b ∧ b ≤ 127) (hc : 0 ≤ c ∧ c ≤ 127) : farI (xorI a b) (xorI c b) = farI a c := by
  obtain ⟨m, rfl⟩ := fin128 ha.1 ha.2
  obtain ⟨n, rfl⟩ := fin128 hb.1 hb.2
  obtain ⟨k, rfl⟩ := fin128 hc.1 hc.2
  have h1 := Nat.xor_lt_two_pow (n := 7) m.2 n.2
  have h2 := Nat.xor_lt_two_pow (n := 7) k.2 n.2
  unfold farI
  rw [xorI_nat _ _ m.2 n.2, xorI_nat _ _ k.2 n.2, xorI_nat _ _ (by omega) (by omega), xorI_nat _ _ m.2 k.2, xor_cancel]
theorem xorI_home {a b : Int} (ha : 0 ≤ a ∧ a ≤ 127) (hb : 0 ≤ b ∧ b ≤ 127) : xorI (xorI a b) b = a := by
  obtain ⟨m, rfl⟩ := fin128 ha.1 ha.2
  obtain ⟨n, rfl⟩ := fin128 hb.1 hb.2
  have h1 := Nat.xor_lt_two_pow (n := 7) m.2 n.2
  rw [xorI_nat _ _ m.2 n.2, xorI_nat _ _ (by omega) n.2, xor_home]
theorem pairsL_congr {xs ys : List Int} (p : Int → Bool) (hl : ys.length = xs.length) (h : ∀ i k, i < xs.length → k < xs.length → farAt ys i k = farAt xs i k) : pairsL ys p = pairsL xs p := by
  unfold pairsL pairsTo
  rw [hl]
  have key : ∀ n, n ≤ xs.length → (List.range n).flatMap (fun a => innerP ys p a xs.length) = (List.range n).flatMap (fun a => innerP xs p a xs.length) := by
    intro n
    induction n with
    | zero => intro _; simp only [List.range_zero, List.flatMap_nil]
    | succ n ih =>
      intro hn
      rw [List.range_succ, List.flatMap_append, List.flatMap_append, ih (by omega)]
      congr 1
      simp only [List.flatMap_cons, List.flatMap_nil, List.append_nil]
      unfold innerP
      congr 1
      apply List.filter_congr
      intro j hj
      have e := h n j (by omega) (List.mem_range.1 hj)
      unfold farAt at e
      rw [e]
  exact key _ (Nat.le_refl _)
theorem gapF_congr {xs ys : List Int} (hl : ys.length = xs.length) (h : ∀ i k, i < xs.length → k < xs.length → farAt ys i k = farAt xs i k) : gapF ys = gapF xs := by
  unfold gapF
  have : ∀ f d, gapGo ys f d = gapGo xs f d := by
    intro f
    induction f with
    | zero => intro d; rfl
    | succ f ih =>
      intro d
      have e : noPairs ys d ↔ noPairs xs d := by unfold noPairs; rw [pairsL_congr _ hl h]
      rw [gapGo, gapGo, ih]
      by_cases hn : noPairs xs d
      · rw [if_pos hn, if_pos (e.2 hn)]
      · rw [if_neg hn, if_neg (fun h => hn (e.1 h))]
  exact this 7 1
theorem getD_map_lt {xs : List Int} (f : Int → Int) {i : Nat} (h : i < xs.length) : (xs.map f).getD i 0 = f (xs.getD i 0) := by
  simp [List.getD, h]
theorem code_map {xs : List Int} (f : Int → Int) (hl : 1 ≤ xs.length ∧ xs.length ≤ 12) (hr : ∀ i, i < xs.length → 0 ≤ f (xs.getD i 0) ∧ f (xs.getD i 0) ≤ 127) (hi : ∀ i k, i < k → k < xs.length → f (xs.getD i 0) ≠ f (xs.getD k 0)) : codeB (xs.map f) = true := by
  refine codeB_all (by rw [List.length_map]; exact inB_mk (by omega) (by omega)) fun k hk => ?_
  rw [List.length_map] at hk
  rw [getD_map_lt f hk]
  refine ⟨inB_mk (hr k hk).1 (hr k hk).2, fun hm => ?_⟩
  rw [List.mem_take_iff_getElem] at hm
  obtain ⟨i, hi', he⟩ := hm
  rw [List.length_map] at hi'
  refine hi i k (by omega) hk ?_
  rw [← he]
  simp [List.getD, show i < xs.length by omega]
theorem code_apart {xs : List Int} (h : codeB xs = true) {i k : Nat} (hik : i < k) (hk : k < xs.length) : xs.getD i 0 ≠ xs.getD k 0 := by
  intro e
  have := ((codeB_true h).2.2 k hk).2
  apply this
  rw [← e, List.mem_take_iff_getElem]
  exact ⟨i, by omega, by simp [List.getD, show i < xs.length by omega]⟩
theorem flip_code {xs : List Int} {b : Int} (h : codeB xs = true) (hb : cellB b = true) : codeB (xs.map fun c => xorI c b) = true := by
  have hcc := code_cells h
  have hbb := cellB_true hb
  refine code_map _ (by have := (codeB_true h).1; omega) (fun i hi => xorI_range (hcc i hi).1 (hcc i hi).2 hbb.1 hbb.2) fun i k hik hk e => code_apart h hik hk ?_
  have e2 : xorI (xorI (xs.getD i 0) b) b = xorI (xorI (xs.getD k 0) b) b := by rw [e]
  rwa [xorI_home (hcc i (by omega)) hbb, xorI_home (hcc k hk) hbb] at e2
theorem flip_gap {xs : List Int} {b : Int} (h : codeB xs = true) (hb : cellB b = true) : gapF (xs.map fun c => xorI c b) = gapF xs := by
  have hcc := code_cells h
  have hbb := cellB_true hb
  refine gapF_congr (List.length_map _) fun i k hi hk => ?_
  unfold farAt
  rw [getD_map_lt _ hi, getD_map_lt _ hk]
  exact far_flip (hcc i hi) hbb (hcc k hk)
theorem flip_home {xs : List Int} {b : Int} (h : codeB xs = true) (hb : cellB b = true) : (xs.map fun c => xorI c b).map (fun c => xorI c b) = xs := by
  have hcc := code_cells h
  have hbb := cellB_true hb
  apply List.ext_getElem
  · simp
  · intro i h1 h2
    have := hcc i h2
    simp only [List.getD, List.getElem?_eq_getElem h2, Option.getD_some] at this
    simp only [List.getElem_map]
    exact xorI_home this hbb

/-! ### how many pairs are how far -/
theorem sumTo_row {f : Nat → Int} {n : Nat} (h : ∀ j, j < n → 1 ≤ f j ∧ f j ≤ 7) : sumTo (fun d => ((List.range n).filter fun j => f j == ((d + 1 : Nat) : Int)).length) 7 = n := by
  induction n with
  | zero => rfl
  | succ n ih =>
    have e : ∀ d, ((List.range (n+1)).filter fun j => f j == ((d + 1 : Nat) : Int)).length = ((List.range n).filter fun j => f j == ((d + 1 : Nat) : Int)).length + (if f n = ((d + 1 : Nat) : Int) then 1 else 0) := by
      intro d
      rw [List.range_succ, List.filter_append, List.length_append]
      congr 1
      by_cases h : f n = ((d + 1 : Nat) : Int)
      · rw [if_pos h]; simp [h]
      · have hb : (f n == ((d + 1 : Nat) : Int)) = false := by simpa using h
        simp only [List.filter_cons, hb, Bool.false_eq_true, if_false, List.filter_nil, List.length_nil, if_neg h]
    rw [sumTo_congr (fun d _ => e d), sumTo_add, ih (fun j hj => h j (by omega))]
    congr 1
    have := h n (by omega)
    obtain ⟨q, hq⟩ : ∃ q : Nat, f n = ((q + 1 : Nat) : Int) := ⟨(f n - 1).toNat, by omega⟩
    rw [hq] at this ⊢
    have hq7 : q < 7 := by omega
    rcases (show q = 0 ∨ q = 1 ∨ q = 2 ∨ q = 3 ∨ q = 4 ∨ q = 5 ∨ q = 6 by omega) with rfl | rfl | rfl | rfl | rfl | rfl | rfl <;> simp [sumTo]
theorem sum_cols {xs : List Int} (hp : ∀ a b, b < a → a < xs.length → 1 ≤ farAt xs a b ∧ farAt xs a b ≤ 7) : ∀ n, n ≤ xs.length → 2 * sumTo (fun d => colTo xs ((d + 1 : Nat) : Int) n) 7 + n = n * n := by
  intro n
  induction n with
  | zero => intro _; simp [colTo, sumTo]
  | succ n ih =>
    intro hn
    have e : sumTo (fun d => colTo xs ((d + 1 : Nat) : Int) (n+1)) 7 = sumTo (fun d => colTo xs ((d + 1 : Nat) : Int) n) 7 + sumTo (fun d => colRow xs ((d + 1 : Nat) : Int) n n) 7 := by
      rw [← sumTo_add]; rfl
    have e2 : sumTo (fun d => colRow xs ((d + 1 : Nat) : Int) n n) 7 = n := sumTo_row (f := fun j => farAt xs n j) fun j hj => hp n j hj (by omega)
    rw [e, e2]
    have := ih (by omega)
    have e3 : (n + 1) * (n + 1) = n * n + 2 * n + 1 := by rw [Nat.add_mul, Nat.mul_add]; omega
    rw [e3]
    omega
/-- The pairs at most k far. -/
def farSum (xs : List Int) (k : Nat) : Nat := sumTo (fun d => (pairsL xs (fun n => n == ((d + 1 : Nat) : Int))).length) k
theorem farSum_succ (xs : List Int) (k : Nat) : farSum xs (k+1) = farSum xs k + (pairsL xs (fun n => n == ((k + 1 : Nat) : Int))).length := rfl
theorem farSum_all {xs : List Int} (h : codeB xs = true) : (xs.length : Int) * ((xs.length : Int) - 1) = 2 * (farSum xs 7 : Nat) := by
  have hp := code_far_pos h
  have h2 := sum_cols (xs := xs) (fun a b hb ha => ⟨by have := hp a b hb ha; omega, (farI_range _ _).2⟩) xs.length (Nat.le_refl _)
  unfold farSum
  rw [sumTo_congr (fun d _ => pairsL_cols xs ((d + 1 : Nat) : Int))]
  rw [Int.mul_sub, Int.mul_one]
  have : ((xs.length * xs.length : Nat) : Int) = (xs.length : Int) * xs.length := by simp
  omega
theorem farSum_le {xs : List Int} (h : xs.length ≤ 12) {k : Nat} : farSum xs k ≤ 144 * k := by
  induction k with
  | zero => simp [farSum, sumTo]
  | succ k ih =>
    have := pairsL_len (xs := xs) (fun n => n == ((k + 1 : Nat) : Int)) h
    rw [farSum_succ]
    omega

/-! ### codes of digits -/
theorem digitC_inj {a b : Int} (ha : inB a 0 9 = true) (hb : inB b 0 9 = true) (h : digitC a = digitC b) : a = b := by
  rcases ten ha with rfl | rfl | rfl | rfl | rfl | rfl | rfl | rfl | rfl | rfl <;> rcases ten hb with rfl | rfl | rfl | rfl | rfl | rfl | rfl | rfl | rfl | rfl <;> first | rfl | (revert h; decide)
theorem digit_code {xs : List Int} (h : inB xs.length 1 10 = true) (h' : orderB xs = true) : codeB (xs.map digitC) = true := by
  have ho : orderTo xs xs.length := of_decide_eq_true h'
  have hl := inB_true h
  refine code_map _ (by omega) (fun i hi => digitC_range (ho i hi).1) fun i k hik hk e => ?_
  have e2 := digitC_inj (ho i (by omega)).1 (ho k hk).1 e
  apply (ho k hk).2
  rw [← e2, List.mem_take_iff_getElem]
  exact ⟨i, by omega, by simp [List.getD, show i < xs.length by omega]⟩

/-! ### what the walk asks, behind names -/
theorem getD_mem {xs : List Int} {i : Nat} (h : i < xs.length) : xs.getD i 0 ∈ xs := by
  rw [List.getD_eq_getElem?_getD, List.getElem?_eq_getElem h]
  exact List.getElem_mem h
theorem gaps_out (xs : List Int) : ∃ (kb tb : Bool) (g m s : Int) (ps : List (Int × Int)), codeB xs = kb ∧ gapR xs = (g, kb) ∧ gapPairsR xs = (ps, kb) ∧ mendsR xs = (m, tb) ∧ seesR xs = (s, tb) ∧
    (kb = true → (tb = false ∧ ((ps.length : Int) == 0) = true ∧ ((xs.length : Int) == 1) = true ∧ ¬ 1 < (xs.length : Int) ∧ ¬ 0 < ps.length) ∨
      (tb = true ∧ ((ps.length : Int) == 0) = false ∧ ((xs.length : Int) == 1) = false ∧ 1 < (xs.length : Int) ∧ ps.length ≤ 144 ∧ 1 ≤ g ∧ g ≤ 7 ∧ s = g - 1 ∧ m = (g - 1) / 2 ∧ cntFarR xs g = ((ps.length : Int), true))) ∧
    (kb = true → ∀ i, i < ps.length → ∃ a b : Nat, a < b ∧ b < xs.length ∧ ps.getD i (0, 0) = ((a : Int), (b : Int)) ∧ farI (xs.getD a 0) (xs.getD b 0) = g ∧ (0 ≤ xs.getD a 0 ∧ xs.getD a 0 ≤ 127) ∧ (0 ≤ xs.getD b 0 ∧ xs.getD b 0 ≤ 127)) := by
  cases h : codeB xs with
  | false => exact ⟨false, false, 0, 0, 0, [], rfl, gapR_no h, gapPairsR_no h, mendsR_no h, seesR_no h, (fun h => by cases h), (fun h => by cases h)⟩
  | true =>
    have hl := (codeB_true h).1
    have hcc := code_cells h
    have hpair : true = true → ∀ i, i < (pairsL xs (fun n => n == gapF xs)).length → ∃ a b : Nat, a < b ∧ b < xs.length ∧ (pairsL xs (fun n => n == gapF xs)).getD i (0, 0) = ((a : Int), (b : Int)) ∧ farI (xs.getD a 0) (xs.getD b 0) = gapF xs ∧ (0 ≤ xs.getD a 0 ∧ xs.getD a 0 ≤ 127) ∧ (0 ≤ xs.getD b 0 ∧ xs.getD b 0 ≤ 127) := fun _ i hi => by
      obtain ⟨a, b, hab, hb, hp, he⟩ := pair_at hi
      exact ⟨a, b, hab, hb, he, by simpa [farAt] using hp, hcc a (by omega), hcc b hb⟩
    by_cases h1 : xs.length = 1
    · have hps := pairs_short (fun n => n == gapF xs) (xs := xs) (by omega)
      refine ⟨true, false, gapF xs, 0, 0, _, rfl, gapR_yes h, gapPairsR_yes h, mendsR_one h1, seesR_one h1, fun _ => .inl ⟨rfl, ?_, ?_, by omega, ?_⟩, hpair⟩
      · rw [hps]; rfl
      · rw [h1]; rfl
      · rw [hps]; simp
    · obtain ⟨g1, g7, hpos⟩ := gap_some h (by omega)
      have hlen := pairsL_len (fun n => n == gapF xs) hl.2
      refine ⟨true, true, gapF xs, (gapF xs - 1) / 2, gapF xs - 1, _, rfl, gapR_yes h, gapPairsR_yes h, mendsR_yes h h1, seesR_yes h h1, fun _ => .inr ⟨rfl, ?_, ?_, by omega, hlen, g1, g7, rfl, rfl, cntFarR_yes h (inB_mk g1 g7)⟩, hpair⟩
      · simp only [beq_eq_false_iff_ne, ne_eq]; omega
      · simp only [beq_eq_false_iff_ne, ne_eq]; omega
theorem flip_out (us : List Int) (b : Int) : ∃ (fb : Bool) (fs : List Int), flipR us b = (fs, fb) ∧ (fb = true → ∃ q : Int, gapR us = (q, true) ∧ gapR fs = (q, true) ∧ flipR fs b = (us, true)) := by
  cases h : codeB us with
  | false => exact ⟨false, [], flipR_code h, (fun h => by cases h)⟩
  | true =>
    cases hb : cellB b with
    | false => exact ⟨false, [], flipR_cell hb, (fun h => by cases h)⟩
    | true =>
      refine ⟨true, _, flipR_yes h hb, fun _ => ⟨gapF us, gapR_yes h, ?_, ?_⟩⟩
      · rw [gapR_yes (flip_code h hb), flip_gap h hb]
      · rw [flipR_yes (flip_code h hb) hb, flip_home h hb]
theorem counts_out (vs : List Int) (d : Int) : ∃ (cb : Bool) (c : Int), cntFarR vs d = (c, cb) ∧ (cb = true → vs.length ≤ 12 ∧ (∀ k : Nat, k < 7 → cntFarR vs ((k : Int) + 1) = (((farSum vs (k+1) : Nat) : Int) - (farSum vs k : Nat), true)) ∧ (∀ k, farSum vs k ≤ 144 * k) ∧ farSum vs 0 = 0 ∧ (vs.length : Int) * ((vs.length : Int) - 1) = 2 * (farSum vs 7 : Nat)) := by
  cases h : codeB vs with
  | false => exact ⟨false, 0, cntFarR_code h, (fun h => by cases h)⟩
  | true =>
    cases hd : inB d 1 7 with
    | false => exact ⟨false, 0, cntFarR_spread hd, (fun h => by cases h)⟩
    | true =>
      have hl := (codeB_true h).1
      refine ⟨true, _, cntFarR_yes h hd, fun _ => ⟨by omega, fun k hk => ?_, fun k => farSum_le hl.2, rfl, farSum_all h⟩⟩
      rw [cntFarR_yes h (inB_mk (by omega) (by omega)), farSum_succ, show (k : Int) + 1 = ((k + 1 : Nat) : Int) by omega]
      congr 1
      omega
theorem digits_out (ds : List Int) : ∃ (db : Bool) (os : List Int), digitR ds = (os, db) ∧ (db = true → codeB os = true ∧ os.length = ds.length) := by
  cases h : inB ds.length 1 10 with
  | false => exact ⟨false, [], digitR_empty h, (fun h => by cases h)⟩
  | true =>
    cases ho : orderB ds with
    | false => exact ⟨false, [], digitR_no ho, (fun h => by cases h)⟩
    | true => exact ⟨true, _, digitR_yes h ho, fun _ => ⟨digit_code h ho, List.length_map _⟩⟩

theorem half_same {S : Nat} {N : Int} (h : N = 2 * (S : Int)) (hS : S ≤ 100000) : ((S : Int) != wrap64 ((wrap64 N).tdiv 2)) = false := by
  subst h
  have e1 : wrap64 (2 * (S : Int)) = 2 * (S : Int) := by unfold wrap64; omega
  have e2 : (2 * (S : Int)).tdiv 2 = S := Int.mul_tdiv_cancel_left _ (by omega)
  have e3 : wrap64 (S : Int) = S := by unfold wrap64; omega
  rw [e1, e2, e3]
  simp

end Go.Proofs.Ytfgjaefcfmjleaa
