import Derived.Test.YtfgjaefcfmjleaaCover2
namespace Go.Proofs.Ytfgjaefcfmjleaa
open Go.RowKit

/-! ## LeastSlots -/
theorem rowB_cells {xs : List Int} (h : rowB xs = true) : cellsIn xs := (rowB_true h).2
set_option maxHeartbeats 4000000 in
theorem implLeastSlots_any (v1 : Value) (xs : List Int) (w : World) (h1 : Ints w v1 xs) :
    Calls Try.prog 109 #[v1] w fun e w' => e = .returned (.tuple #[.int .i64 (leastR xs).1, .bool (leastR xs).2]) ∧ Below w.heap.size w w' := by
  have HX := hid h1
  clear h1
  cases hs : someB xs with
  | false =>
    rw [leastR_no hs]
    go_enter Try.func109, Try.ntmps109
    go_wp2_with (go_at_call 203; refine (isSome_any _ xs _ HX.out).mono ?_; rintro e w1 ⟨rfl, hb⟩)
    go_ret2
    exact ⟨rfl, hb⟩
  | true =>
    have hrow := (someB_true hs).1
    have hr := (rowB_true hrow).1
    have HIN := hid (rowB_cells hrow)
    rw [leastR_yes hs]
    have HALL := hid (cov_all hr HIN.out)
    obtain ⟨n, hn⟩ : ∃ n, leastN xs = n := ⟨_, rfl⟩
    have HAT : Hid (∀ k, k ≤ xs.length → covI xs k xs = true → (∀ j, j < k → covI xs j xs = false) → k = n) := hid fun k a b c => by rw [← hn]; exact (leastN_at a b c).symm
    have HR := hid hr
    rw [hn]
    clear hn hrow
    go_enter Try.func109, Try.ntmps109
    go_wp2_with (go_at_call 203; refine (isSome_any _ xs _ HX.out).mono ?_; rintro e w1 ⟨rfl, hb⟩)
    go_loopw [4] (fun ii wr => ∃ k : Nat, k ≤ xs.length ∧ ii = .int .i64 k ∧ Hid (∀ j, j < k → covI xs j xs = false) ∧ Below w.heap.size w wr) (fun ii _ => xs.length - (intOf ii).toNat)
    case atStart => exact ⟨0, by omega, rfl, hid fun j h => absurd h (Nat.not_lt_zero j), hb⟩
    case round =>
      obtain ⟨k, hk, rfl, HT, hbel⟩ := hrel
      have HI := hid (HX.out.later hbel)
      have hk6 : k ≤ 6 := by have := HR.out; omega
      cases hc : covI xs k xs with
      | true =>
        have HE := hid (HAT.out k hk hc HT.out)
        go_wp2_with fail
        refine (covers_any xs HR.out HIN.out k _ _ xs _ HI.out HI.out rfl HIN.out (by omega)).mono ?_
        rintro e w2 ⟨rfl, hb2⟩
        rw [hc]
        go_wp2
        go_ret2
        exact ⟨by rw [HE.out]; rfl, hbel.trans (hb2.mono hbel.size)⟩
      | false =>
        have HE := hid (show ∀ j, j < k + 1 → covI xs j xs = false from fun j hj => by
          by_cases e : j = k
          · subst e; exact hc
          · exact HT.out j (by omega))
        have hklt : k + 1 ≤ xs.length := by
          by_cases e : k = xs.length
          · have := HALL.out
            rw [← e, hc] at this
            cases this
          · omega
        go_wp2_with fail
        refine (covers_any xs HR.out HIN.out k _ _ xs _ HI.out HI.out rfl HIN.out (by omega)).mono ?_
        rintro e w2 ⟨rfl, hb2⟩
        rw [hc]
        go_wp2
        go_roundw
        case rel => exact ⟨k+1, hklt, by go_num, HE, hbel.trans (hb2.mono hbel.size)⟩
        case measure => simp [intOf]; omega

set_option maxHeartbeats 4000000 in
theorem specLeastSlots_any (v1 : Value) (xs : List Int) (w : World) (h1 : Ints w v1 xs) :
    Calls Try.prog 110 #[v1] w fun e w' => e = .returned (.tuple #[.int .i64 (leastR xs).1, .bool (leastR xs).2]) ∧ Below w.heap.size w w' := by
  obtain ⟨n0, ao1, cap1, b1, o1, HN, rfl, ha1, hc1, hn1, hm1, HX⟩ := h1.open_
  clear h1 hc1 ha1
  cases hrow : rowB xs with
  | false =>
    have hs : someB xs = false := by simp [someB, hrow]
    rw [leastR_no hs]
    clear hs
    go_enter Try.func110, Try.ntmps110
    go_wp2_with (go_at_call 186; refine (l2Row_any _ xs _ HX.out).mono ?_; rintro e w1 ⟨rfl, rfl⟩)
    go_ret2
    exact ⟨rfl, Below.refl _ _⟩
  | true =>
    by_cases hz : n0 = 0
    · have hs : someB xs = false := by simp [someB, hrow]; exact List.length_eq_zero_iff.1 (HN.out.trans hz)
      have hzb : ((n0 : Int) == 0) = true := by simpa using hz
      rw [leastR_no hs]
      clear hs hz
      go_enter Try.func110, Try.ntmps110
      go_wp2_with (go_at_call 186; refine (l2Row_any _ xs _ HX.out).mono ?_; rintro e w1 ⟨rfl, rfl⟩)
      go_ret2
      exact ⟨rfl, Below.refl _ _⟩
    · have hs : someB xs = true := by simp [someB, hrow]; rw [HN.out]; omega
      have hzb : ((n0 : Int) == 0) = false := by simpa using hz
      have hr := (rowB_true hrow).1
      have HIN := hid (rowB_cells hrow)
      rw [leastR_yes hs]
      have HALL := hid (cov_all hr HIN.out)
      obtain ⟨n, hn⟩ : ∃ n, leastN xs = n := ⟨_, rfl⟩
      have HAT : Hid (∀ k, k ≤ xs.length → covI xs k xs = true → (∀ j, j < k → covI xs j xs = false) → k = n) := hid fun k a b c => by rw [← hn]; exact (leastN_at a b c).symm
      have HSAME := hid (fun s => cov_same (l := xs) s hr HIN.out rfl HIN.out)
      have HR := hid hr
      rw [hn]
      rw [HN.out] at hr
      clear hn hs hz
      go_enter Try.func110, Try.ntmps110
      go_wp2_with (go_at_call 186; refine (l2Row_any _ xs _ HX.out).mono ?_; rintro e w1 ⟨rfl, rfl⟩)
      go_loopw [4] (fun ii wr => ∃ k : Nat, k ≤ n0 ∧ ii = .int .i64 k ∧ Hid (∀ j, j < k → covI xs j xs = false) ∧ Below w.heap.size w wr) (fun ii _ => n0 - (intOf ii).toNat)
      case atStart => exact ⟨0, by omega, rfl, hid fun j h => absurd h (Nat.not_lt_zero j), Below.refl _ _⟩
      case round =>
        obtain ⟨k, hk, rfl, HT, hbel⟩ := hrel
        have HI := hid (HX.out.later hbel)
        cases hc : covI xs k xs with
        | true =>
          have HE := hid (HAT.out k (by rw [HN.out]; exact hk) hc HT.out)
          have HCS := hid ((HSAME.out k).symm.trans hc)
          go_wp2_with fail
          refine (l8Cover_any xs HR.out HIN.out k _ _ xs _ HI.out HI.out rfl HIN.out (by omega)).mono ?_
          rintro e w2 ⟨rfl, hb2⟩
          rw [HCS.out]
          go_wp2
          go_ret2
          exact ⟨by rw [HE.out]; rfl, hbel.trans (hb2.mono hbel.size)⟩
        | false =>
          have HE := hid (show ∀ j, j < k + 1 → covI xs j xs = false from fun j hj => by
            by_cases e : j = k
            · subst e; exact hc
            · exact HT.out j (by omega))
          have HCS := hid ((HSAME.out k).symm.trans hc)
          have hklt : k + 1 ≤ n0 := by
            by_cases e : k = n0
            · have := HALL.out
              rw [HN.out, ← e, hc] at this
              cases this
            · omega
          go_wp2_with fail
          refine (l8Cover_any xs HR.out HIN.out k _ _ xs _ HI.out HI.out rfl HIN.out (by omega)).mono ?_
          rintro e w2 ⟨rfl, hb2⟩
          rw [HCS.out]
          go_wp2
          go_roundw
          case rel => exact ⟨k+1, hklt, by go_num, HE, hbel.trans (hb2.mono hbel.size)⟩
          case measure => simp [intOf]; omega

end Go.Proofs.Ytfgjaefcfmjleaa
