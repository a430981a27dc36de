import Derived.Test.YtgbnoljmmenlbaaApp
namespace Go.Proofs.Ytgbnoljmmenlbaa
open Go.RowKit

/-! ## Digits: digitCells, l2Digit; orders -/
def digitC (d : Int) : Int := ([63, 6, 91, 79, 102, 109, 125, 7, 127, 111] : List Int).getD d.toNat 0
theorem ten {d : Int} (h : inB d 0 9 = true) : d = 0 ∨ d = 1 ∨ d = 2 ∨ d = 3 ∨ d = 4 ∨ d = 5 ∨ d = 6 ∨ d = 7 ∨ d = 8 ∨ d = 9 := by
  have := inB_true h
  omega
theorem digitC_range {d : Int} (h : inB d 0 9 = true) : 0 ≤ digitC d ∧ digitC d ≤ 127 := by
  rcases ten h with rfl | rfl | rfl | rfl | rfl | rfl | rfl | rfl | rfl | rfl <;> decide

/-- The array of the digit cells, as a value. -/
def cellsAgg : Value := .agg #[.int .i64 63, .int .i64 6, .int .i64 91, .int .i64 79, .int .i64 102, .int .i64 109, .int .i64 125, .int .i64 7, .int .i64 127, .int .i64 111]

theorem digitCells_any (w : World) : Calls Try.prog 35 #[] w fun e w' => e = .returned cellsAgg ∧ Below w.heap.size w w' := by
  go_enter Try.func35, Try.ntmps35
  go_wp2
  refine bodyPost_ret (v := cellsAgg) (by simp [results, Try.results35, go_sem, cellsAgg]) rfl ⟨rfl, ?_⟩
  go_grown

theorem run_cells_index {d : Int} (h : inB d 0 9 = true) (w : World) : (Instr.index 32 cellsAgg (.int .i64 d)).run Try.prog w = .ok (.int .i64 (digitC d)) w := by
  rcases ten h with rfl | rfl | rfl | rfl | rfl | rfl | rfl | rfl | rfl | rfl
  all_goals kernel_rfl

set_option maxHeartbeats 4000000 in
theorem l2Digit_any (d : Int) (w : World) (h : inB d 0 9 = true) : Calls Try.prog 38 #[.int .i64 d] w fun e w' => e = .returned (.int .i64 (digitC d)) ∧ Below w.heap.size w w' := by
  rcases ten h with rfl | rfl | rfl | rfl | rfl | rfl | rfl | rfl | rfl | rfl
  all_goals
    go_enter Try.func38, Try.ntmps38
    go_wp2
    go_ret
    exact ⟨rfl, (Below.refl _ _).alloc (Nat.le_refl _) _⟩

/-- The first n places of xs hold digits of which none comes twice. -/
def orderTo (xs : List Int) (n : Nat) : Prop := ∀ i, i < n → inB (xs.getD i 0) 0 9 = true ∧ xs.getD i 0 ∉ xs.take i
instance (xs : List Int) (n : Nat) : Decidable (orderTo xs n) := by unfold orderTo; infer_instance
def orderB (xs : List Int) : Bool := decide (orderTo xs xs.length)
theorem orderTo_zero (xs : List Int) : orderTo xs 0 := fun i h => absurd h (Nat.not_lt_zero i)
theorem orderTo_succ {xs : List Int} {n : Nat} (h : orderTo xs n) (h1 : inB (xs.getD n 0) 0 9 = true) (h2 : xs.getD n 0 ∉ xs.take n) : orderTo xs (n+1) := by
  intro i hi
  by_cases e : i = n
  · subst e; exact ⟨h1, h2⟩
  · exact h i (by omega)
theorem orderB_all {xs : List Int} (h' : orderTo xs xs.length) : orderB xs = true := by simp [orderB, h']
theorem orderB_digit {xs : List Int} {k : Nat} (hk : k < xs.length) (h : inB (xs.getD k 0) 0 9 = false) : orderB xs = false := by
  unfold orderB
  rw [decide_eq_false]
  intro hc
  rw [(hc k hk).1] at h
  cases h
theorem orderB_dup {xs : List Int} {k : Nat} (hk : k < xs.length) (h : xs.getD k 0 ∈ xs.take k) : orderB xs = false := by
  unfold orderB
  rw [decide_eq_false]
  intro hc
  exact (hc k hk).2 h

theorem small_nodup (n : Nat) : ∀ l : List Nat, l.Nodup → (∀ x ∈ l, x < n) → l.length ≤ n := by
  induction n with
  | zero =>
    intro l _ h
    cases l with
    | nil => simp
    | cons a l => exact absurd (h a (by simp)) (by omega)
  | succ n ih =>
    intro l hn h
    have h1 := ih (l.erase n) (hn.erase n) (fun x hx => by
      have := h x (List.mem_of_mem_erase hx)
      have : x ≠ n := fun e => by subst e; exact (List.Nodup.not_mem_erase hn) hx
      omega)
    have := List.length_erase (a := n) (l := l)
    split at this <;> omega

theorem orderTo_nodup {xs : List Int} : ∀ n, n ≤ xs.length → orderTo xs n → ((xs.take n).map Int.toNat).Nodup ∧ ∀ x ∈ (xs.take n).map Int.toNat, x < 10 := by
  intro n
  induction n with
  | zero => intro _ _; simp
  | succ n ih =>
    intro hn ho
    obtain ⟨h1, h2⟩ := ih (by omega) (fun i hi => ho i (by omega))
    obtain ⟨h3, h4⟩ := ho n (by omega)
    rw [take_snoc (x := xs.getD n 0) (by omega) rfl, List.map_append]
    have hr := inB_true h3
    refine ⟨?_, fun x hx => ?_⟩
    · rw [List.nodup_append]
      refine ⟨h1, by simp, fun a ha b hb => ?_⟩
      simp only [List.map_cons, List.map_nil, List.mem_singleton] at hb
      subst hb
      intro e
      obtain ⟨y, hy, rfl⟩ := List.mem_map.1 ha
      obtain ⟨j, hj, rfl⟩ := List.mem_iff_getElem.1 hy
      have hj' : j < n := by rw [List.length_take] at hj; omega
      have hyd := (ho j (by omega)).1
      have e1 : (xs.take n)[j] = xs.getD j 0 := by simp [List.getD, show j < xs.length by omega]
      rw [e1] at e hy
      have := inB_true hyd
      exact h4 (by rw [show xs.getD n 0 = xs.getD j 0 by omega]; exact hy)
    · rcases List.mem_append.1 hx with hx | hx
      · exact h2 x hx
      · simp only [List.map_cons, List.map_nil, List.mem_singleton] at hx
        omega

theorem orderTo_len {xs : List Int} {n : Nat} (hn : n ≤ xs.length) (h : orderTo xs n) : n ≤ 10 := by
  obtain ⟨h1, h2⟩ := orderTo_nodup n hn h
  have := small_nodup 10 _ h1 h2
  rw [List.length_map, List.length_take] at this
  omega
theorem orderB_true {xs : List Int} (h : orderB xs = true) : xs.length ≤ 10 ∧ orderTo xs xs.length := by
  have h' : orderTo xs xs.length := by simpa [orderB] using h
  exact ⟨orderTo_len (Nat.le_refl _) h', h'⟩
theorem orderB_long {xs : List Int} (h : 10 < xs.length) : orderB xs = false := by
  cases e : orderB xs with
  | false => rfl
  | true => have := (orderB_true e).1; omega

set_option maxHeartbeats 1000000 in
theorem isOrder_any (v1 : Value) (xs : List Int) (w : World) (h1 : Ints w v1 xs) :
    Calls Try.prog 25 #[v1] w fun e w' => e = .returned (.bool (orderB xs)) ∧ w = w' := by
  obtain ⟨n, ao1, cap1, b1, o1, HN, rfl, ha1, hc1, hn1, hm1, HX⟩ := h1.open_
  go_enter Try.func25, Try.ntmps25
  go_wp2
  go_loop [3, 4, 7] (fun _ _ i => ∃ k : Nat, k ≤ n ∧ i = .int .i64 k ∧ Hid (orderTo xs k)) (fun _ _ i => n - (intOf i).toNat)
  case atStart => exact ⟨0, by omega, rfl, hid (orderTo_zero xs)⟩
  case round =>
    obtain ⟨k, hk, rfl, HT⟩ := hrel
    by_cases hlt : k < n
    · obtain ⟨rfl, hb1⟩ := ha1 (by omega)
      have e1 : w.cell? ⟨b1, o1+k, none⟩ = some (.int .i64 (xs.getD k 0)) := hc1 k (by omega)
      have HI : Hid (Ints w (.slice (some ⟨b1, o1, none⟩) k cap1) (xs.take k)) := hid (Ints.take hc1 hb1 HN.out hn1 hm1 hk)
      have HL := hid (show k < xs.length by rw [HN.out]; exact hlt)
      generalize hx : xs.getD k 0 = x at e1
      have HXX := hid hx
      clear hx hc1 ha1
      cases hcell : inB x 0 9 with
      | false =>
        go_wp2_with (go_at_call 40; refine (isDigit_any _ _).mono ?_; rintro e w' ⟨rfl, rfl⟩)
        go_ret
        exact ⟨ret_bool (orderB_digit HL.out (by rw [HXX.out]; exact hcell)).symm, rfl⟩
      | true =>
        by_cases hmem : x ∈ xs.take k
        all_goals
          go_wp2_with (first | (go_at_call 40; refine (isDigit_any _ _).mono ?_; rintro e w' ⟨rfl, rfl⟩) | (go_at_call 46; refine (Contains_any _ (xs.take k) _ _ HI.out).mono ?_; rintro e w' ⟨rfl, rfl⟩))
        · go_ret
          exact ⟨ret_bool (orderB_dup HL.out (by rw [HXX.out]; exact hmem)).symm, rfl⟩
        · go_round
          case rel => exact ⟨k+1, by omega, by go_num, hid (orderTo_succ HT.out (by rw [HXX.out]; exact hcell) (by rw [HXX.out]; exact hmem))⟩
          case measure => simp [intOf]; omega
    · go_wp2
      go_ret
      have := HT.out
      rw [show k = xs.length by rw [HN.out]; omega] at this
      exact ⟨ret_bool (orderB_all this).symm, rfl⟩

end Go.Proofs.Ytgbnoljmmenlbaa
