import Derived.Test.YtfgjaefcfmjleaaNums
namespace Go.Proofs.Ytfgjaefcfmjleaa
open Go.RowKit

/-! ## IsCode and l5Code -/

set_option maxHeartbeats 1000000 in
theorem IsCode_any (v1 : Value) (xs : List Int) (w : World) (h1 : Ints w v1 xs) :
    Calls Try.prog 31 #[v1] w fun e w' => e = .returned (.bool (codeB xs)) ∧ w = w' := by
  obtain ⟨ao1, cap1, b1, o1, rfl, ha1, hc1, hn1, hm1⟩ := h1
  obtain ⟨n, hn⟩ : ∃ n, xs.length = n := ⟨_, rfl⟩
  have HN := hid hn
  rw [hn] at ha1 hc1 hn1 ⊢
  clear hn
  cases hin : inB (n : Int) 1 12 with
  | false =>
    go_enter Try.func31, Try.ntmps31
    go_wp2_with (go_at_call 151; refine (within_any _ _ _ _).mono ?_; rintro e w' ⟨rfl, rfl⟩)
    go_ret
    exact ⟨ret_bool (codeB_len (by rw [HN.out]; exact hin)).symm, rfl⟩
  | true =>
  go_enter Try.func31, Try.ntmps31
  go_wp2_with (go_at_call 151; refine (within_any _ _ _ _).mono ?_; rintro e w' ⟨rfl, rfl⟩)
  go_loop [3, 4, 11] (fun _ _ i => ∃ k : Nat, k ≤ n ∧ i = .int .i64 k ∧ Hid (codeTo xs k)) (fun _ _ i => n - (intOf i).toNat)
  case atStart => exact ⟨0, by omega, rfl, hid (codeTo_zero xs)⟩
  case round =>
    obtain ⟨k, hk, rfl, HT⟩ := hrel
    by_cases hlt : k < n
    · obtain ⟨rfl, hb1⟩ := ha1 (by omega)
      have e1 : w.cell? ⟨b1, o1+k, none⟩ = some (.int .i64 (xs.getD k 0)) := hc1 k (by omega)
      have HI : Hid (Ints w (.slice (some ⟨b1, o1, none⟩) k cap1) (xs.take k)) := hid (Ints.take hc1 hb1 HN.out hn1 hm1 hk)
      have HL := hid (show k < xs.length by rw [HN.out]; exact hlt)
      generalize hx : xs.getD k 0 = x at e1
      have HX := hid hx
      clear hx hc1 ha1
      cases hcell : cellB x with
      | false =>
        go_wp2_with (go_at_call 139; refine (IsCell_any _ _).mono ?_; rintro e w' ⟨rfl, rfl⟩)
        go_ret
        exact ⟨ret_bool (codeB_cell HL.out (by rw [HX.out]; exact hcell)).symm, rfl⟩
      | true =>
        by_cases hmem : x ∈ xs.take k
        all_goals
          go_wp2_with (first | (go_at_call 139; refine (IsCell_any _ _).mono ?_; rintro e w' ⟨rfl, rfl⟩) | (go_at_call 152; refine (Contains_any _ (xs.take k) _ _ HI.out).mono ?_; rintro e w' ⟨rfl, rfl⟩))
        · go_ret
          exact ⟨ret_bool (codeB_dup HL.out (by rw [HX.out]; exact hmem)).symm, rfl⟩
        · go_round
          case rel => exact ⟨k+1, by omega, by go_num, hid (codeTo_succ HT.out (by rw [HX.out]; exact hcell) (by rw [HX.out]; exact hmem))⟩
          case measure => simp [intOf]; omega
    · go_wp2
      go_ret
      have := HT.out
      rw [show k = xs.length by rw [HN.out]; omega] at this
      exact ⟨ret_bool (codeB_all (by rw [HN.out]; exact hin) this).symm, rfl⟩

set_option maxHeartbeats 1000000 in
theorem l5Code_any (v1 : Value) (xs : List Int) (w : World) (h1 : Ints w v1 xs) :
    Calls Try.prog 132 #[v1] w fun e w' => e = .returned (.bool (codeB xs)) ∧ ∃ m, w' = w.drewN m := by
  obtain ⟨ao1, cap1, b1, o1, rfl, ha1, hc1, hn1, hm1⟩ := h1
  obtain ⟨n, hn⟩ : ∃ n, xs.length = n := ⟨_, rfl⟩
  have HN := hid hn
  rw [hn] at ha1 hc1 hn1 ⊢
  clear hn
  go_enter Try.func132, Try.ntmps132
  go_wp2
  go_loopw [3] (fun i wr => ∃ k m : Nat, k ≤ n ∧ i = .int .i64 k ∧ wr = w.drewN m ∧ Hid (codeTo xs k)) (fun i _ => n - (intOf i).toNat)
  case atStart => exact ⟨0, 0, by omega, rfl, rfl, hid (codeTo_zero xs)⟩
  case round =>
    obtain ⟨k, m, hk, rfl, hW, HT⟩ := hrel
    have HW := hid hW
    by_cases hlt : k < n ∧ k ≤ 12
    · obtain ⟨hlt, h12⟩ := hlt
      obtain ⟨rfl, hb1⟩ := ha1 (by omega)
      have e1 : wr.cell? ⟨b1, o1+k, none⟩ = some (.int .i64 (xs.getD k 0)) := by rw [hW]; exact hc1 k (by omega)
      have HI : Hid (∀ q, Ints (wr.drewN q) (.slice (some ⟨b1, o1, none⟩) k cap1) (xs.take k)) := hid fun q => by rw [hW]; exact ((Ints.take hc1 hb1 HN.out hn1 hm1 hk).drawn m).drawn q
      have HL := hid (show k < xs.length by rw [HN.out]; exact hlt)
      generalize hx : xs.getD k 0 = x at e1
      have HX := hid hx
      clear hx hc1 ha1 hW
      have hlt' : (k : Int) < n := by omega
      have hlt2 : (0 : Int) ≤ k := by omega
      cases hcell : cellB x with
      | false =>
        go_wp2
        go_quiet ((go_at_call 140; exact Calls.quiet_of_same ((l2Cell_any _ _).mono fun _ _ h => ⟨h.1, h.2.symm⟩)))
        go_wp2
        go_ret
        exact ⟨ret_bool (codeB_cell HL.out (by rw [HX.out]; exact hcell)).symm, m + nq, by rw [HW.out]; simp⟩
      | true =>
        by_cases hmem : x ∈ xs.take k
        all_goals
          go_wp2
          go_quiet ((first | (go_at_call 140; exact Calls.quiet_of_same ((l2Cell_any _ _).mono fun _ _ h => ⟨h.1, h.2.symm⟩)) | (go_at_call 146; exact Calls.quiet_of_same ((l1Has_any _ (xs.take k) _ _ (HI.out _)).mono fun _ _ h => ⟨h.1, h.2.symm⟩))))
          go_wp2
        · go_ret
          exact ⟨ret_bool (codeB_dup HL.out (by rw [HX.out]; exact hmem)).symm, m + nq, by rw [HW.out]; simp⟩
        · go_roundw
          case rel => exact ⟨k+1, m + nq, by omega, by go_num, by rw [HW.out]; simp, hid (codeTo_succ HT.out (by rw [HX.out]; exact hcell) (by rw [HX.out]; exact hmem))⟩
          case measure => simp [intOf]; omega
    · have hres : inB (n : Int) 1 12 = codeB xs := by
        by_cases hk12 : k ≤ 12
        · have e : k = xs.length := by rw [HN.out]; omega
          have := HT.out
          rw [e] at this
          rw [codeB, decide_eq_true this, Bool.and_true, HN.out]
        · have : inB (n : Int) 1 12 = false := inB_hi (by omega)
          rw [this, codeB_len (by rw [HN.out]; exact this)]
      have HR := hid hres
      clear hres hW
      by_cases h1 : k < n
      all_goals
        go_wp2_with (go_at_call 143; refine (l1In_any _ _ _ _).mono ?_; rintro e w' ⟨rfl, rfl⟩)
        go_ret
        exact ⟨ret_bool HR.out, m, HW.out⟩

theorem specIsCode_any (v1 : Value) (xs : List Int) (w : World) (h1 : Ints w v1 xs) :
    Calls Try.prog 32 #[v1] w fun e w' => e = .returned (.bool (codeB xs)) ∧ ∃ m, w' = w.drewN m := by
  go_enter Try.func32, Try.ntmps32
  go_wp2_with (go_at_call 132; refine (l5Code_any _ xs _ h1).mono ?_; rintro e w' ⟨rfl, m, rfl⟩)
  go_ret
  exact ⟨rfl, _, rfl⟩

end Go.Proofs.Ytfgjaefcfmjleaa
