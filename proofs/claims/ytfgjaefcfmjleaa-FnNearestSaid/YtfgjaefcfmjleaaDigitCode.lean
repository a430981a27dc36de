import Derived.Test.YtfgjaefcfmjleaaDigit
namespace Go.Proofs.Ytfgjaefcfmjleaa
open Go.RowKit

/-! ## DigitCode -/
def digitR (xs : List Int) : List Int × Bool := if inB xs.length 1 10 && orderB xs then (xs.map digitC, true) else ([], false)
theorem digitR_empty {xs : List Int} (h : inB xs.length 1 10 = false) : digitR xs = ([], false) := by simp [digitR, h]
theorem digitR_no {xs : List Int} (h : orderB xs = false) : digitR xs = ([], false) := by simp [digitR, h]
theorem digitR_yes {xs : List Int} (h : inB xs.length 1 10 = true) (h' : orderB xs = true) : digitR xs = (xs.map digitC, true) := by simp [digitR, h, h']
theorem digitR_len (xs : List Int) : (digitR xs).1.length ≤ 1048576 := by
  unfold digitR
  split
  · rename_i h
    simp only [Bool.and_eq_true] at h
    have := inB_true h.1
    simp only [List.length_map]
    omega
  · simp
theorem map_take_snoc' {xs : List Int} {k : Nat} {x : Int} (f : Int → Int) (h : k < xs.length) (e : xs.getD k 0 = x) : (xs.take (k+1)).map f = (xs.take k).map f ++ [f x] := by
  rw [take_snoc h e, List.map_append]; rfl

set_option maxHeartbeats 1000000 in
theorem implDigitCode_any (v1 : Value) (xs : List Int) (w : World) (h1 : Ints w v1 xs) :
    Calls Try.prog 27 #[v1] w fun e w' => ∃ v, e = .returned (.tuple #[v, .bool (digitR xs).2]) ∧ OwnI w' w.heap.size v (digitR xs).1 ∧ Below w.heap.size w w' := by
  obtain ⟨n, ao1, cap1, b1, o1, HN, rfl, ha1, hc1, hn1, hm1, HX⟩ := h1.open_
  by_cases hn0 : n = 0
  · subst hn0
    rw [digitR_empty (by rw [HN.out]; rfl)]
    have h0 : ((0 : Nat) : Int) = 0 := rfl
    go_enter Try.func27, Try.ntmps27
    go_wp2_with fail
    go_ret2
    exact ⟨_, rfl, OwnI.nil _ _, Below.refl _ _⟩
  have hz : ((n : Int) == 0) = false := by simpa using hn0
  cases hord : orderB xs with
  | false =>
    rw [digitR_no hord]
    go_enter Try.func27, Try.ntmps27
    go_wp2_with (go_at_call 148; refine (isOrder_any _ xs _ HX.out).mono ?_; rintro e w' ⟨rfl, rfl⟩)
    go_ret2
    exact ⟨_, rfl, OwnI.nil _ _, Below.refl _ _⟩
  | true =>
  have hlen := (orderB_true hord).1
  rw [HN.out] at hlen
  rw [digitR_yes (inB_mk (by rw [HN.out]; omega) (by rw [HN.out]; omega)) hord]
  have HORD := hid (orderB_true hord).2
  go_enter Try.func27, Try.ntmps27
  go_wp2_with (go_at_call 148; refine (isOrder_any _ xs _ HX.out).mono ?_; rintro e w' ⟨rfl, rfl⟩)
  go_loopw [4, 6, 17] (fun v _ i wr => ∃ k : Nat, k ≤ n ∧ i = .int .i64 k ∧ Hid (OwnI wr w.heap.size v ((xs.take k).map digitC)) ∧ Below w.heap.size w wr) (fun _ _ i _ => n - (intOf i).toNat)
  case atStart => exact ⟨0, by omega, rfl, hid (OwnI.nil _ _), Below.refl _ _⟩
  case round =>
    obtain ⟨k, hk, rfl, HO, hbel⟩ := hrel
    by_cases hlt : k < n
    · obtain ⟨rfl, hb1⟩ := ha1 (by omega)
      have e1 : wr.cell? ⟨b1, o1+k, none⟩ = some (.int .i64 (xs.getD k 0)) := (hbel.cell (by exact hb1)).trans (hc1 k (by omega))
      have hl : ((xs.take k).map digitC).length ≤ 1099511627776 := by rw [List.length_map, List.length_take]; omega
      have HL := hid (show k < xs.length by rw [HN.out]; exact hlt)
      have hdig := (HORD.out k HL.out).1
      generalize hx : xs.getD k 0 = x at e1 hdig
      have HXX := hid hx
      have hidx := fun w => run_cells_index hdig w
      clear hx hc1 ha1 hdig
      go_wp2_with fail
      refine (digitCells_any _).mono ?_
      rintro e w1 ⟨rfl, hb⟩
      have HO1 := hid (HO.out.later hb)
      have hbel1 := hbel.trans (hb.mono hbel.size)
      clear HO hbel hb e1
      go_wp2_with (at_builtin; refine wpList_appendI w1 rfl _ _ rfl w.heap.size _ _ HO1.out rfl (digitC x) rfl hl hbel1.size ?_; intro v' w2 ho' _ hb' _)
      rw [← map_take_snoc' digitC HL.out HXX.out] at ho'
      have HO' := hid ho'
      have hbel' := hbel1.trans hb'
      clear ho' HO1 hb' hbel1 hidx
      go_wp2
      go_roundw
      case rel => exact ⟨k+1, by omega, by go_num, HO', hbel'⟩
      case measure => simp [intOf]; omega
    · have hO : OwnI wr w.heap.size u4 (xs.map digitC) := by
        have := HO.out
        rw [List.take_of_length_le (by rw [HN.out]; omega)] at this
        exact this
      have HO' := hid hO
      clear hO HO
      go_wp2
      go_ret2
      exact ⟨_, rfl, HO'.out, hbel⟩

set_option maxHeartbeats 1000000 in
theorem specDigitCode_any (v1 : Value) (xs : List Int) (w : World) (h1 : Ints w v1 xs) :
    Calls Try.prog 28 #[v1] w fun e w' => ∃ v, e = .returned (.tuple #[v, .bool (digitR xs).2]) ∧ OwnI w' w.heap.size v (digitR xs).1 ∧ Below w.heap.size w w' := by
  obtain ⟨n, ao1, cap1, b1, o1, HN, rfl, ha1, hc1, hn1, hm1, HX⟩ := h1.open_
  cases hin : inB (n : Int) 1 10 with
  | false =>
    rw [digitR_empty (by rw [HN.out]; exact hin)]
    go_enter Try.func28, Try.ntmps28
    go_wp2_with (go_at_call 143; refine (l1In_any _ _ _ _).mono ?_; rintro e w' ⟨rfl, rfl⟩)
    go_ret2
    exact ⟨_, rfl, OwnI.lit0 _ _ (Nat.le_refl _), (Below.refl _ _).alloc (Nat.le_refl _) _⟩
  | true =>
  have hn10 := inB_true hin
  go_enter Try.func28, Try.ntmps28
  go_wp2_with (go_at_call 143; refine (l1In_any _ _ _ _).mono ?_; rintro e w' ⟨rfl, rfl⟩)
  go_loopw [4, 5] (fun v i wr => ∃ k : Nat, k ≤ n ∧ i = .int .i64 k ∧ Hid (OwnI wr w.heap.size v ((xs.take k).map digitC)) ∧ Below w.heap.size w wr ∧ Hid (orderTo xs k)) (fun _ i _ => n - (intOf i).toNat)
  case atStart => exact ⟨0, by omega, rfl, hid (OwnI.lit0 _ _ (Nat.le_refl _)), (Below.refl _ _).alloc (Nat.le_refl _) _, hid (orderTo_zero xs)⟩
  case round =>
    obtain ⟨k, hk, rfl, HO, hbel, HT⟩ := hrel
    by_cases hlt : k < n
    · obtain ⟨rfl, hb1⟩ := ha1 (by omega)
      have e1 : wr.cell? ⟨b1, o1+k, none⟩ = some (.int .i64 (xs.getD k 0)) := (hbel.cell (by exact hb1)).trans (hc1 k (by omega))
      have HI : Hid (∀ q, Ints (wr.drewN q) (.slice (some ⟨b1, o1, none⟩) k cap1) (xs.take k)) := hid fun q => ((Ints.take hc1 hb1 HN.out hn1 hm1 hk).later hbel).drawn q
      have hl : ((xs.take k).map digitC).length ≤ 1099511627776 := by rw [List.length_map, List.length_take]; omega
      have HL := hid (show k < xs.length by rw [HN.out]; exact hlt)
      generalize hx : xs.getD k 0 = x at e1
      have HXX := hid hx
      clear hx hc1 ha1
      have hlt' : (k : Int) < n := by omega
      have hlt2 : (0 : Int) ≤ k := by omega
      cases hdig : inB x 0 9 with
      | false =>
        go_wp2
        go_quiet ((go_at_call 143; exact Calls.quiet_of_same ((l1In_any _ _ _ _).mono fun _ _ h => ⟨h.1, h.2.symm⟩)))
        go_wp2
        go_ret2
        rw [digitR_no (orderB_digit HL.out (by rw [HXX.out]; exact hdig))]
        exact ⟨_, rfl, OwnI.lit0 _ _ hbel.size, below_drewN (hbel.alloc hbel.size _) _⟩
      | true =>
        by_cases hmem : x ∈ xs.take k
        · go_wp2
          go_quiet ((first | (go_at_call 143; exact Calls.quiet_of_same ((l1In_any _ _ _ _).mono fun _ _ h => ⟨h.1, h.2.symm⟩)) | (go_at_call 146; exact Calls.quiet_of_same ((l1Has_any _ (xs.take k) _ _ (HI.out _)).mono fun _ _ h => ⟨h.1, h.2.symm⟩))))
          go_wp2
          go_ret2
          rw [digitR_no (orderB_dup HL.out (by rw [HXX.out]; exact hmem))]
          exact ⟨_, rfl, OwnI.lit0 _ _ hbel.size, below_drewN (hbel.alloc hbel.size _) _⟩
        · go_wp2
          go_quiet ((first | (go_at_call 143; exact Calls.quiet_of_same ((l1In_any _ _ _ _).mono fun _ _ h => ⟨h.1, h.2.symm⟩)) | (go_at_call 146; exact Calls.quiet_of_same ((l1Has_any _ (xs.take k) _ _ (HI.out _)).mono fun _ _ h => ⟨h.1, h.2.symm⟩))))
          go_wp2_with fail
          refine (l2Digit_any _ _ hdig).mono ?_
          rintro e w1 ⟨rfl, hb⟩
          have HO1 := hid ((HO.out.drawn nq).later hb)
          have hbel1 := (below_drewN hbel nq).trans (hb.mono hbel.size)
          clear HO hbel hb e1 HI
          go_wp2_with (at_builtin; refine wpList_appendI w1 rfl _ _ rfl w.heap.size _ _ HO1.out rfl (digitC x) rfl hl hbel1.size ?_; intro v' w2 ho' _ hb' _)
          rw [← map_take_snoc' digitC HL.out HXX.out] at ho'
          have HO' := hid ho'
          have hbel' := hbel1.trans hb'
          clear ho' HO1 hb' hbel1
          go_wp2
          go_roundw
          case rel => exact ⟨k+1, by omega, by go_num, HO', hbel', hid (orderTo_succ HT.out (by rw [HXX.out]; exact hdig) (by rw [HXX.out]; exact hmem))⟩
          case measure => simp [intOf]; omega
    · have hO : OwnI wr w.heap.size u4 (xs.map digitC) := by
        have := HO.out
        rw [List.take_of_length_le (by rw [HN.out]; omega)] at this
        exact this
      have HO' := hid hO
      have hord : orderB xs = true := orderB_all (by have := HT.out; rw [show k = xs.length by rw [HN.out]; omega] at this; exact this)
      have HR := hid (digitR_yes (by rw [HN.out]; exact hin) hord)
      clear hO HO hord
      go_wp2
      go_ret2
      rw [HR.out]
      exact ⟨_, rfl, HO'.out, hbel⟩

end Go.Proofs.Ytfgjaefcfmjleaa
