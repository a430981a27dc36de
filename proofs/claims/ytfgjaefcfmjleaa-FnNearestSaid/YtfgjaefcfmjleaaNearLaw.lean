import Derived.Test.YtfgjaefcfmjleaaGapsLaw
import Derived.Test.YtfgjaefcfmjleaaNear2
import Derived.Test.YtfgjaefcfmjleaaFarthest
import Derived.Test.YtfgjaefcfmjleaaSpread
namespace Go.Proofs.Ytfgjaefcfmjleaa
open Go.RowKit

/-! ## What FnNearest asks beyond equality, in plain Lean -/
theorem mem_places {xs : List Int} {c g : Int} {n i : Nat} : (i : Int) ∈ placesTo xs c g n ↔ i < n ∧ farI (xs.getD i 0) c = g := by
  unfold placesTo
  simp only [List.mem_map, List.mem_filter, List.mem_range, beq_iff_eq]
  constructor
  · rintro ⟨j, ⟨hj, he⟩, e⟩
    have : j = i := by omega
    subst this
    exact ⟨hj, he⟩
  · rintro ⟨h1, h2⟩
    exact ⟨i, ⟨h1, h2⟩, rfl⟩
theorem nearF_le {xs : List Int} {c : Int} {i : Nat} (h : i < xs.length) : nearF xs c ≤ farI (xs.getD i 0) c := nearTo_le xs c h
theorem nearTo_hit (xs : List Int) (c : Int) : ∀ k, nearTo xs c k = 8 ∨ ∃ i, i < k ∧ nearTo xs c k = farI (xs.getD i 0) c := by
  intro k
  induction k with
  | zero => exact .inl rfl
  | succ k ih =>
    have hr := farI_range (xs.getD k 0) c
    simp only [nearTo]
    by_cases h : nearTo xs c k ≤ farI (xs.getD k 0) c
    · rw [Int.min_eq_left h]
      rcases ih with ih | ⟨i, hi, he⟩
      · omega
      · exact .inr ⟨i, by omega, he⟩
    · rw [Int.min_eq_right (by omega)]
      exact .inr ⟨k, by omega, rfl⟩
theorem nearF_seven {xs : List Int} (h : 0 < xs.length) (c : Int) : nearF xs c ≤ 7 := by
  have := nearF_le (c := c) h
  have := (farI_range (xs.getD 0 0) c).2
  omega
theorem nearCnt_full {xs : List Int} {k : Int} (h : ∀ c : Nat, c < 128 → nearF xs (c : Int) ≤ k) : nearCnt xs k 128 = 128 := by
  unfold nearCnt
  rw [List.filter_eq_self.2]
  · simp
  · intro c hc
    simpa using h c (List.mem_range.1 hc)
theorem nearCnt_not {xs : List Int} {k : Int} {c : Nat} (hc : c < 128) (h : k < nearF xs (c : Int)) : nearCnt xs k 128 < 128 := by
  have hle := nearCnt_le xs k 128
  by_cases e : nearCnt xs k 128 = 128
  · have : (List.range 128).filter (fun c : Nat => decide (nearF xs (c : Int) ≤ k)) = List.range 128 := by
      apply List.Sublist.eq_of_length List.filter_sublist
      unfold nearCnt at e
      rw [e]; simp
    have hm := List.filter_eq_self.1 this c (List.mem_range.2 hc)
    simp only [decide_eq_true_eq] at hm
    omega
  · omega
theorem nearCnt_mono {xs : List Int} {k k' : Int} (h : k ≤ k') (m : Nat) : nearCnt xs k m ≤ nearCnt xs k' m := by
  induction m with
  | zero => exact Nat.le_refl _
  | succ m ih =>
    by_cases h1 : nearF xs (m : Int) ≤ k
    · rw [nearCnt_yes h1, nearCnt_yes (by omega)]; omega
    · rw [nearCnt_no h1]
      by_cases h2 : nearF xs (m : Int) ≤ k'
      · rw [nearCnt_yes h2]; omega
      · rw [nearCnt_no h2]; exact ih
/-- How far the farthest cell is. -/
theorem farTo_spec (xs : List Int) : ∀ m, (m = 0 ∧ farTo xs m = (0, -1)) ∨ ∃ c : Nat, c < m ∧ farTo xs m = ((c : Int), nearF xs (c : Int)) ∧ ∀ j : Nat, j < m → nearF xs (j : Int) ≤ nearF xs (c : Int) := by
  intro m
  induction m with
  | zero => exact .inl ⟨rfl, rfl⟩
  | succ m ih =>
    right
    rcases ih with ⟨rfl, h⟩ | ⟨c, hc, h, hall⟩
    · have := (nearF_range xs ((0 : Nat) : Int)).1
      refine ⟨0, by omega, farTo_yes (by rw [h]; simp only; omega), fun j hj => ?_⟩
      obtain rfl : j = 0 := by omega
      exact Int.le_refl _
    · by_cases hlt : (farTo xs m).2 < nearF xs (m : Int)
      · refine ⟨m, by omega, farTo_yes hlt, fun j hj => ?_⟩
        rw [h] at hlt
        simp only at hlt
        by_cases e : j = m
        · subst e; exact Int.le_refl _
        · have := hall j (by omega); omega
      · refine ⟨c, by omega, by rw [farTo_no hlt, h], fun j hj => ?_⟩
        rw [h] at hlt
        simp only at hlt
        by_cases e : j = m
        · subst e; omega
        · exact hall j (by omega)
theorem coverGo_ge {xs : List Int} {q : Nat} (hlow : ∀ j, j < q → nearCnt xs (j : Int) 128 < 128) (hq : ¬ nearCnt xs (q : Int) 128 < 128) (h8 : q ≤ 8) : coverF xs = q := coverF_is h8 hlow hq
theorem cover_most {xs : List Int} (h : codeB xs = true) : ∃ c q : Nat, c < 128 ∧ q ≤ 7 ∧ farTo xs 128 = ((c : Int), (q : Int)) ∧ nearF xs (c : Int) = q ∧ coverF xs = q ∧ nearCnt xs (q : Int) 128 = 128 ∧ (∀ j : Nat, j < q → nearCnt xs (j : Int) 128 < 128) := by
  have hl := (codeB_true h).1
  rcases farTo_spec xs 128 with ⟨h0, _⟩ | ⟨c, hc, he, hall⟩
  · omega
  · have hr := nearF_range xs (c : Int)
    have h7 := nearF_seven (xs := xs) (by omega) (c : Int)
    obtain ⟨q, hq⟩ : ∃ q : Nat, nearF xs (c : Int) = q := ⟨(nearF xs (c : Int)).toNat, by omega⟩
    rw [hq] at he hall
    have hfull : nearCnt xs (q : Int) 128 = 128 := nearCnt_full hall
    have hlow : ∀ j : Nat, j < q → nearCnt xs (j : Int) 128 < 128 := fun j hj => nearCnt_not hc (by omega)
    exact ⟨c, q, hc, by omega, he, hq, coverGo_ge hlow (by omega) (by omega), hfull, hlow⟩

/-! ### how many cells are in a code -/
theorem len_le_of_sub : ∀ (l m : List Nat), l.Nodup → (∀ x ∈ l, x ∈ m) → l.length ≤ m.length := by
  intro l
  induction l with
  | nil => intro m _ _; simp
  | cons a l ih =>
    intro m hn hs
    have ha : a ∈ m := hs a (by simp)
    have hnl := List.nodup_cons.1 hn
    have := ih (m.erase a) hnl.2 (fun x hx => by
      have hxm := hs x (by simp [hx])
      have hne : x ≠ a := fun e => hnl.1 (e ▸ hx)
      exact (List.mem_erase_of_ne hne).2 hxm)
    rw [List.length_erase_of_mem ha] at this
    have : 0 < m.length := List.length_pos_of_mem ha
    simp only [List.length_cons]
    omega
theorem code_nodup {xs : List Int} (h : codeB xs = true) : (xs.map Int.toNat).Nodup := by
  have hcc := code_cells h
  rw [List.Nodup, List.pairwise_iff_getElem]
  intro i j hi hj hij e
  rw [List.length_map] at hi hj
  simp only [List.getElem_map] at e
  have h1 := hcc i hi
  have h2 := hcc j hj
  have h3 := code_apart h hij hj
  simp only [List.getD, List.getElem?_eq_getElem hi, List.getElem?_eq_getElem hj, Option.getD_some] at h1 h2 h3
  omega
theorem farI_self (a : Int) (h : 0 ≤ a ∧ a ≤ 127) : farI a a = 0 := by
  obtain ⟨m, rfl⟩ := fin128 h.1 h.2
  unfold farI
  rw [xorI_nat _ _ m.2 m.2, Nat.xor_self]
  decide
theorem near_zero {xs : List Int} (h : codeB xs = true) {c : Nat} (hc : c < 128) : nearF xs (c : Int) ≤ 0 ↔ c ∈ xs.map Int.toNat := by
  have hcc := code_cells h
  have hl := (codeB_true h).1
  constructor
  · intro h0
    rcases nearTo_hit xs (c : Int) xs.length with h8 | ⟨i, hi, he⟩
    · unfold nearF at h0; omega
    · unfold nearF at h0
      have hx := hcc i hi
      have hf := farI_range (xs.getD i 0) (c : Int)
      have e : xs.getD i 0 = (c : Int) := by
        refine Classical.byContradiction fun hne => ?_
        have := farI_pos hx.1 hx.2 (by omega) (by omega : (c : Int) ≤ 127) hne
        omega
      rw [List.mem_map]
      refine ⟨xs.getD i 0, ?_, by rw [e]; simp⟩
      rw [List.getD_eq_getElem?_getD, List.getElem?_eq_getElem hi]
      exact List.getElem_mem hi
  · intro hm
    obtain ⟨x, hx, e⟩ := List.mem_map.1 hm
    obtain ⟨i, hi, rfl⟩ := List.mem_iff_getElem.1 hx
    have hx := hcc i hi
    have hle := nearF_le (c := (c : Int)) hi
    have e2 : xs.getD i 0 = (c : Int) := by
      simp only [List.getD, List.getElem?_eq_getElem hi, Option.getD_some] at hx ⊢
      omega
    rw [e2, farI_self _ (by omega)] at hle
    exact hle
theorem nearCnt_zero {xs : List Int} (h : codeB xs = true) : nearCnt xs 0 128 = xs.length := by
  unfold nearCnt
  have hn := code_nodup h
  have hcc := code_cells h
  apply Nat.le_antisymm
  · have := len_le_of_sub ((List.range 128).filter fun c : Nat => decide (nearF xs (c : Int) ≤ 0)) (xs.map Int.toNat) (List.nodup_range.filter _) fun x hx => by
      obtain ⟨h1, h2⟩ := List.mem_filter.1 hx
      exact (near_zero h (List.mem_range.1 h1)).1 (by simpa using h2)
    rwa [List.length_map] at this
  · have := len_le_of_sub (xs.map Int.toNat) ((List.range 128).filter fun c : Nat => decide (nearF xs (c : Int) ≤ 0)) hn fun x hx => by
      have hlt : x < 128 := by
        obtain ⟨y, hy, rfl⟩ := List.mem_map.1 hx
        obtain ⟨i, hi, rfl⟩ := List.mem_iff_getElem.1 hy
        have := hcc i hi
        simp only [List.getD, List.getElem?_eq_getElem hi, Option.getD_some] at this
        omega
      exact List.mem_filter.2 ⟨List.mem_range.2 hlt, by simpa using (near_zero h hlt).2 hx⟩
    rwa [List.length_map] at this
theorem nearCnt_ge {xs : List Int} (h : codeB xs = true) {k : Int} (hk : 0 ≤ k) : xs.length ≤ nearCnt xs k 128 := by
  rw [← nearCnt_zero h]
  exact nearCnt_mono hk 128

/-! ### spread parts -/
theorem gap_ge {xs : List Int} {d : Int} (h : codeB xs = true) (h2 : 1 < xs.length) (hd : ∀ a b, b < a → a < xs.length → d ≤ farAt xs a b) : d ≤ gapF xs := by
  obtain ⟨_, _, h3⟩ := gap_some h h2
  obtain ⟨a, b, hab, hb, he, _⟩ := pair_at h3
  have := hd b a hab hb
  rw [farAt_comm] at this
  simp only [beq_iff_eq] at he
  omega
/-- Places below i, in order, of which any two are d apart. -/
def goodP (xs : List Int) (d : Int) (i : Nat) (p : List Int) : Prop :=
  (∀ x ∈ p, ∃ k : Nat, x = (k : Int) ∧ k < i) ∧ (∀ a b, a < b → b < p.length → p.getD a 0 < p.getD b 0) ∧ spreadB xs d p = true
theorem goodP_nil (xs : List Int) (d : Int) (i : Nat) : goodP xs d i [] := ⟨by simp, fun a b _ h => absurd h (by simp), by simp [spreadB]⟩
theorem goodP_mono {xs : List Int} {d : Int} {i j : Nat} {p : List Int} (h : goodP xs d i p) (hij : i ≤ j) : goodP xs d j p :=
  ⟨fun x hx => by obtain ⟨k, h1, h2⟩ := h.1 x hx; exact ⟨k, h1, by omega⟩, h.2⟩
theorem goodP_snoc {xs : List Int} {d : Int} {i : Nat} {p : List Int} (h : goodP xs d i p) (ho : okP xs d p (i : Int) = true) : goodP xs d (i+1) (p ++ [(i : Int)]) := by
  obtain ⟨h1, h2, h3⟩ := h
  refine ⟨fun x hx => ?_, fun a b hab hb => ?_, by rw [spread_snoc, h3, ho]; rfl⟩
  · rcases List.mem_append.1 hx with hx | hx
    · obtain ⟨k, e, hk⟩ := h1 x hx; exact ⟨k, e, by omega⟩
    · simp only [List.mem_singleton] at hx; exact ⟨i, hx, by omega⟩
  · rw [List.length_append, List.length_cons, List.length_nil] at hb
    rw [getD_snoc_lt (by omega)]
    by_cases e : b = p.length
    · subst e
      rw [getD_snoc_eq]
      obtain ⟨k, hk, hki⟩ := h1 (p.getD a 0) (by rw [List.getD_eq_getElem?_getD, List.getElem?_eq_getElem hab]; exact List.getElem_mem hab)
      rw [hk]; omega
    · rw [getD_snoc_lt (by omega)]
      exact h2 a b hab (by omega)
theorem goodP_pick {xs : List Int} {d : Int} {n : Nat} {b p : List Int} (hb : goodP xs d n b) (hp : goodP xs d n p) : goodP xs d n (pickL b p) := by
  unfold pickL
  split
  · exact hp
  · exact hb
theorem spQ_good (xs : List Int) (d : Int) (n : Nat) : ∀ (m : Nat) (part : List Int) (i : Nat) (best : List Int), i + m = n → goodP xs d i part → goodP xs d n best → goodP xs d n (spQ xs d m part i best)
  | 0, _, _, _, _, _, hb => hb
  | m+1, part, i, best, h, hp, hb => by
    rw [spQ]
    refine spQ_good xs d n m _ _ _ (by omega) (goodP_mono hp (by omega)) ?_
    split
    · rename_i ho
      have hs := goodP_snoc hp ho
      exact spQ_good xs d n m _ _ _ (by omega) hs (goodP_pick hb (goodP_mono hs (by omega)))
    · exact hb
theorem spreadF_good (xs : List Int) (d : Int) : goodP xs d xs.length (spreadF xs d) := spQ_good xs d xs.length _ _ _ _ (by omega) (goodP_nil _ _ _) (goodP_nil _ _ _)
theorem spreadF_pos {xs : List Int} (d : Int) (h : 0 < xs.length) : 0 < (spreadF xs d).length := by
  unfold spreadF
  obtain ⟨m, hm⟩ : ∃ m, xs.length = m + 1 := ⟨xs.length - 1, by omega⟩
  rw [hm, spQ]
  refine Nat.lt_of_lt_of_le ?_ (spQ_len xs d m _ _ _)
  rw [if_pos (by simp [okP])]
  refine Nat.lt_of_lt_of_le ?_ (spQ_len xs d m _ _ _)
  simp [pickL]
theorem spread_cells {xs : List Int} {d : Int} (h : codeB xs = true) : codeB ((spreadF xs d).map fun k => xs.getD k.toNat 0) = true ∧ (1 < (spreadF xs d).length → d ≤ gapF ((spreadF xs d).map fun k => xs.getD k.toNat 0)) := by
  obtain ⟨h1, h2, h3⟩ := spreadF_good xs d
  have hl := spreadF_len xs d
  have hp := spreadF_pos d (by have := (codeB_true h).1; omega : 0 < xs.length)
  have hn := (codeB_true h).1
  have hcc := code_cells h
  generalize spreadF xs d = p at *
  have hat : ∀ i, i < p.length → ∃ k : Nat, p.getD i 0 = (k : Int) ∧ k < xs.length := fun i hi => h1 _ (by rw [List.getD_eq_getElem?_getD, List.getElem?_eq_getElem hi]; exact List.getElem_mem hi)
  have hcode : codeB (p.map fun k => xs.getD k.toNat 0) = true := by
    refine code_map _ (by omega) (fun i hi => ?_) fun i k hik hk => ?_
    · obtain ⟨q, hq, hqn⟩ := hat i hi
      rw [hq]
      exact hcc q hqn
    · obtain ⟨q, hq, hqn⟩ := hat i (by omega)
      obtain ⟨r, hr, hrn⟩ := hat k hk
      have := h2 i k hik hk
      rw [hq, hr] at this ⊢
      exact code_apart h (by omega) hrn
  refine ⟨hcode, fun hlen => gap_ge hcode (by rw [List.length_map]; exact hlen) fun a b hb ha => ?_⟩
  rw [List.length_map] at ha
  unfold farAt
  rw [getD_map_lt _ ha, getD_map_lt _ (by omega)]
  unfold spreadB at h3
  rw [List.all_eq_true] at h3
  have h4 := h3 a (List.mem_range.2 ha)
  rw [List.all_eq_true] at h4
  have h5 := h4 b (List.mem_range.2 hb)
  simp only [Bool.not_eq_true', decide_eq_false_iff_not] at h5
  unfold farP at h5
  omega

/-! ### greedy codes -/
theorem greedy_good (d most : Int) : ∀ c : Nat, (∀ a b, b < a → a < (greedyTo d most c).length → (greedyTo d most c).getD b 0 < (greedyTo d most c).getD a 0 ∧ d ≤ farAt (greedyTo d most c) a b) ∧ (((greedyTo d most c).length : Int) ≤ most ∨ (greedyTo d most c).length = 0) := by
  intro c
  induction c with
  | zero => exact ⟨fun a b _ h => absurd h (by simp [greedyTo]), .inr rfl⟩
  | succ c ih =>
    rw [greedyTo]
    split
    · rename_i h
      refine ⟨fun a b hb ha => ?_, .inl (by rw [List.length_append, List.length_cons, List.length_nil]; omega)⟩
      rw [List.length_append, List.length_cons, List.length_nil] at ha
      unfold farAt
      rw [getD_snoc_lt (by omega)]
      by_cases e : a = (greedyTo d most c).length
      · subst e
        rw [getD_snoc_eq]
        have hm := greedyTo_mem d most c ((greedyTo d most c).getD b 0) (by rw [List.getD_eq_getElem?_getD, List.getElem?_eq_getElem hb]; exact List.getElem_mem hb)
        have := nearF_le (xs := greedyTo d most c) (c := (c : Int)) hb
        rw [farI_comm]
        omega
      · rw [getD_snoc_lt (by omega)]
        exact ih.1 a b hb (by omega)
    · exact ih
theorem greedy_code {d most : Int} (h : inB d 1 7 = true) (h' : inB most 1 12 = true) : codeB (greedyTo d most 128) = true ∧ ((greedyTo d most 128).length : Int) ≤ most ∧ (1 < (greedyTo d most 128).length → d ≤ gapF (greedyTo d most 128)) := by
  obtain ⟨h1, h2⟩ := greedy_good d most 128
  have hm := inB_true h'
  have hlen : ((greedyTo d most 128).length : Int) ≤ most := by omega
  have hpos : 0 < (greedyTo d most 128).length := by
    have : ∀ j, 0 < (greedyTo d most (1 + j)).length := by
      intro j
      induction j with
      | zero => rw [Nat.add_zero, greedyTo_one h h']; simp
      | succ j ih =>
        rw [show 1 + (j + 1) = (1 + j) + 1 by omega, greedyTo]
        split
        · simp
        · exact ih
    exact this 127
  have hcc := greedyTo_cells d most (Nat.le_refl 128)
  have hcode : codeB (greedyTo d most 128) = true := by
    have := code_map (xs := greedyTo d most 128) (fun c => c) (by omega) (fun i hi => hcc i hi) (fun i k hik hk e => by have := (h1 k i hik hk).1; omega)
    rwa [List.map_id'] at this
  exact ⟨hcode, hlen, fun hl => gap_ge hcode hl fun a b hb ha => (h1 a b hb ha).2⟩

/-! ### what the walk asks, behind names -/
theorem near_out (xs : List Int) (c : Int) : ∃ (nb : Bool) (ns : List Int) (f : Int), nearestR xs c = (ns, f, nb) ∧ (nb = true → (0 ≤ c ∧ c ≤ 127) ∧ ∀ i, i < xs.length → (0 ≤ xs.getD i 0 ∧ xs.getD i 0 ≤ 127) ∧ ¬ farI (xs.getD i 0) c < f ∧ decide ((i : Int) ∈ ns) = (farI (xs.getD i 0) c == f)) := by
  cases h : codeB xs with
  | false => exact ⟨false, [], 0, nearestR_code h, fun h => by cases h⟩
  | true =>
    cases hc : cellB c with
    | false => exact ⟨false, [], 0, nearestR_cell hc, fun h => by cases h⟩
    | true =>
      refine ⟨true, _, _, nearestR_yes h hc, fun _ => ⟨cellB_true hc, fun i hi => ⟨code_cells h i hi, by have := nearF_le (c := c) hi; omega, ?_⟩⟩⟩
      rw [Bool.eq_iff_iff, decide_eq_true_eq, mem_places, beq_iff_eq]
      exact ⟨fun h => h.2, fun h => ⟨hi, h⟩⟩
theorem cover_out (us : List Int) (k : Int) : ∃ (kb fb : Bool) (q c many : Int), coverR us = (q, kb) ∧ farthestR us = (c, q, kb) ∧ cntNearR us k = (many, fb) ∧ (fb = true → kb = true) ∧
    (kb = true → cntNearR us q = (128, true) ∧ (∃ ns, nearestR us c = (ns, q, true)) ∧ 0 ≤ q ∧ q ≤ 7 ∧ (0 < q → ∃ l : Int, cntNearR us (q - 1) = (l, true) ∧ l < 128)) ∧
    (fb = true → ¬ many < (us.length : Int) ∧ (k = 0 → many = (us.length : Int)) ∧ (q ≤ k → many = 128)) := by
  cases h : codeB us with
  | false => exact ⟨false, false, 0, 0, 0, coverR_no h, farthestR_no h, cntNearR_code h, (fun h => by cases h), (fun h => by cases h), (fun h => by cases h)⟩
  | true =>
    obtain ⟨c, q, hc, hq7, hfar, hnq, hcov, hfull, hlow⟩ := cover_most h
    have hkb : cntNearR us (q : Int) = (128, true) ∧ (∃ ns, nearestR us (c : Int) = (ns, (q : Int), true)) ∧ 0 ≤ (q : Int) ∧ (q : Int) ≤ 7 ∧ (0 < (q : Int) → ∃ l : Int, cntNearR us ((q : Int) - 1) = (l, true) ∧ l < 128) := by
      refine ⟨by rw [cntNearR_yes h (inB_mk (by omega) (by omega)), hfull]; rfl, ⟨_, by rw [nearestR_yes h (inB_mk (by omega) (by omega)), hnq]⟩, by omega, by omega, fun h0 => ⟨_, cntNearR_yes h (inB_mk (by omega) (by omega)), ?_⟩⟩
      have := hlow (q - 1) (by omega)
      rw [show (q : Int) - 1 = ((q - 1 : Nat) : Int) by omega]
      omega
    have e1 : coverR us = ((q : Int), true) := by rw [coverR_yes h, hcov]
    have e2 : farthestR us = ((c : Int), (q : Int), true) := by rw [farthestR_yes h, hfar]
    cases hk : inB k 0 7 with
    | false => exact ⟨true, false, q, c, 0, e1, e2, cntNearR_in hk, (fun h => by cases h), (fun _ => hkb), (fun h => by cases h)⟩
    | true =>
      have hkr := inB_true hk
      refine ⟨true, true, q, c, _, e1, e2, cntNearR_yes h hk, (fun _ => rfl), (fun _ => hkb), fun _ => ⟨?_, fun h0 => ?_, fun hqk => ?_⟩⟩
      · have := nearCnt_ge h hkr.1; omega
      · rw [h0, nearCnt_zero h]
      · have h1 := nearCnt_mono (xs := us) hqk 128
        have h2 := nearCnt_le us k 128
        rw [hfull] at h1
        omega
theorem spread_out (vs : List Int) (d : Int) : ∃ (sb : Bool) (pl : List Int), spreadR vs d = (pl, sb) ∧ (sb = true → pl.length ≤ 12 ∧ (∀ i, i < pl.length → ∃ p : Nat, pl.getD i 0 = (p : Int) ∧ p < vs.length) ∧ ∃ g, gapR (pl.map fun k => vs.getD k.toNat 0) = (g, true) ∧ (1 < pl.length → ¬ g < d)) := by
  cases h : codeB vs with
  | false => exact ⟨false, [], spreadR_code h, fun h => by cases h⟩
  | true =>
    cases hd : inB d 1 7 with
    | false => exact ⟨false, [], spreadR_in hd, fun h => by cases h⟩
    | true =>
      have hl := (codeB_true h).1
      have hlen := spreadF_len vs d
      obtain ⟨hc, hg⟩ := spread_cells (d := d) h
      refine ⟨true, _, spreadR_yes h hd, fun _ => ⟨by omega, fun i hi => ?_, _, gapR_yes hc, fun h1 => by have := hg h1; omega⟩⟩
      obtain ⟨p, hp, hpn⟩ := (spreadF_good vs d).1 _ (getD_mem hi)
      exact ⟨p, hp, hpn⟩
theorem greedy_out (d most : Int) : ∃ (gb : Bool) (gs : List Int), greedyR d most = (gs, gb) ∧ (gb = true → ∃ g, gapR gs = (g, true) ∧ ¬ most < (gs.length : Int) ∧ (1 < gs.length → ¬ g < d)) := by
  cases h : inB d 1 7 with
  | false => exact ⟨false, [], greedyR_d h, fun h => by cases h⟩
  | true =>
    cases hm : inB most 1 12 with
    | false => exact ⟨false, [], greedyR_m hm, fun h => by cases h⟩
    | true =>
      obtain ⟨h1, h2, h3⟩ := greedy_code h hm
      exact ⟨true, _, greedyR_yes h hm, fun _ => ⟨_, gapR_yes h1, by omega, fun hl => by have := h3 hl; omega⟩⟩

end Go.Proofs.Ytfgjaefcfmjleaa
