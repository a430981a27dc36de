import Derived.Test.YtfgjaefcfmjleaaGap
namespace Go.Proofs.Ytfgjaefcfmjleaa
open Go.RowKit

/-! ## GapPairs -/
def gapPairsR (xs : List Int) : List (Int × Int) × Bool := if codeB xs then (pairsL xs (fun n => n == gapF xs), true) else ([], false)
theorem gapPairsR_no {xs : List Int} (h : codeB xs = false) : gapPairsR xs = ([], false) := by simp [gapPairsR, h]
theorem gapPairsR_yes {xs : List Int} (h : codeB xs = true) : gapPairsR xs = (pairsL xs (fun n => n == gapF xs), true) := by simp [gapPairsR, h]
theorem gapPairsR_len (xs : List Int) : (gapPairsR xs).1.length ≤ 1048576 := by
  unfold gapPairsR
  split
  · rename_i h
    have := pairsL_len (fun n => n == gapF xs) (codeB_true h).1.2
    simp only
    omega
  · simp

theorem closureGapPairs_any (x d : Int) (ad : Addr) (w : World) (h : w.cell? ad = some (.int .i64 d)) :
    Calls Try.prog 135 #[.int .i64 x, .pointer (some ad)] w fun e w' => e = .returned (.bool (x == d)) ∧ w = w' := by
  go_enter Try.func135, Try.ntmps135
  go_wp2
  go_ret
  exact ⟨rfl, rfl⟩
theorem enterGapPairs (args : Array Value) (w : World) : (callFunc 135 args).run Try.prog w = .ok (.enter 135 args) w := by kernel_rfl

set_option maxHeartbeats 1000000 in
theorem implGapPairs_any (v1 : Value) (xs : List Int) (w : World) (h1 : Ints w v1 xs) :
    Calls Try.prog 13 #[v1] w fun e w' => ∃ v, e = .returned (.tuple #[v, .bool (gapPairsR xs).2]) ∧ Own2 42 w' w.heap.size v (gapPairsR xs).1 ∧ Below w.heap.size w w' := by
  have HX := hid h1
  cases hcode : codeB xs with
  | false =>
    rw [gapPairsR_no hcode]
    go_enter Try.func13, Try.ntmps13
    go_wp2_with (go_at_call 31; refine (IsCode_any _ xs _ HX.out).mono ?_; rintro e w' ⟨rfl, rfl⟩)
    go_ret2
    exact ⟨_, rfl, Own2.nil _ _ _, Below.refl _ _⟩
  | true =>
  rw [gapPairsR_yes hcode]
  have hl12 := hid (codeB_true hcode).1
  have hcc := hid (code_cells hcode)
  have HCODE := hid hcode
  go_enter Try.func13, Try.ntmps13
  go_wp2_with (first | (go_at_call 31; refine (IsCode_any _ xs _ HX.out).mono ?_; rintro e w' ⟨rfl, rfl⟩) | (go_at_call 131; refine (gap_any _ xs _ HX.out HCODE.out).mono ?_; rintro e w1 ⟨rfl, hb⟩))
  have HB1 := hid (hb.alloc hb.size (.cells #[.int .i64 (gapF xs)] 3))
  have HI := hid (HX.out.later HB1.out)
  have HCELL : Hid ((w1.alloc (.cells #[.int .i64 (gapF xs)] 3)).cell? ⟨w1.heap.size, 0, none⟩ = some (.int .i64 (gapF xs))) := hid (by simp [go_sem])
  clear hb
  refine (pairs_any _ xs _ ⟨w1.heap.size, 0, none⟩ (fun n => n == gapF xs) _ HI.out hl12.out.2 hcc.out enterGapPairs ?_).mono ?_
  · intro w' hb x _ _
    exact closureGapPairs_any x (gapF xs) _ w' ((hb.cell (by simp)).trans HCELL.out)
  rintro e w2 ⟨vp, rfl, ho, hb⟩
  have HO : Hid (Own2 42 w2 w.heap.size vp (pairsL xs (fun n => n == gapF xs))) := hid (by
    refine ⟨ho.1, ?_⟩
    rcases ho.2 with h | ⟨g, cap, cur, a, b, c⟩
    · exact .inl h
    · exact .inr ⟨g, cap, cur, a, Nat.le_trans HB1.out.size b, c⟩)
  have HB2 := hid (HB1.out.trans (hb.mono HB1.out.size))
  clear ho hb
  go_wp2
  go_ret2
  exact ⟨_, rfl, HO.out, HB2.out⟩

set_option maxHeartbeats 2000000 in
theorem specGapPairs_any (v1 : Value) (xs : List Int) (w : World) (h1 : Ints w v1 xs) :
    Calls Try.prog 14 #[v1] w fun e w' => ∃ v, e = .returned (.tuple #[v, .bool (gapPairsR xs).2]) ∧ Own2 42 w' w.heap.size v (gapPairsR xs).1 ∧ Below w.heap.size w w' := by
  obtain ⟨n, ao1, cap1, b1, o1, HN, rfl, ha1, hc1, hn1, hm1, HX⟩ := h1.open_
  have HB0 := hid ((Below.refl w.heap.size w).alloc (Nat.le_refl _) (.cells #[] 42))
  have HX0 := hid (h1.later HB0.out)
  clear h1
  cases hcode : codeB xs with
  | false =>
    rw [gapPairsR_no hcode]
    go_enter Try.func14, Try.ntmps14
    go_wp2_with (go_at_call 132; refine (l5Code_any _ xs _ HX0.out).mono ?_; rintro e w' ⟨rfl, m, rfl⟩)
    go_ret2
    exact ⟨_, rfl, (Own2.lit0 _ _ _ (Nat.le_refl _)).drawn m, below_drewN HB0.out m⟩
  | true =>
  rw [gapPairsR_yes hcode]
  have hp0 : ∃ p : Int → Bool, p = fun n => n == gapF xs := ⟨_, rfl⟩
  obtain ⟨p, hp⟩ := hp0
  rw [← hp]
  have HPP := hid (fun x => congrFun hp x)
  clear hp
  have hl12 := (codeB_true hcode).1.2
  rw [HN.out] at hl12
  have HC := hid (code_cells hcode)
  have HCODE := hid hcode
  go_enter Try.func14, Try.ntmps14
  go_wp2_with (first | (go_at_call 132; refine (l5Code_any _ xs _ HX0.out).mono ?_; rintro e w' ⟨rfl, m, rfl⟩) | (go_at_call 133; refine (l5Gap_any _ xs _ (HX0.out.drawn _) HCODE.out).mono ?_; rintro e w1 ⟨rfl, hb⟩))
  have HO0 := hid (((Own2.lit0 42 w w.heap.size (Nat.le_refl _)).drawn m).later hb)
  have HB1 := hid ((below_drewN HB0.out m).trans (hb.mono HB0.out.size))
  clear hb
  go_loopw [4, 6, 7] (fun v ii _ wr => ∃ i : Nat, i ≤ n ∧ ii = .int .i64 i ∧ Hid (Own2 42 wr w.heap.size v (pairsTo xs p i)) ∧ Below w.heap.size w wr) (fun _ ii _ _ => n - (intOf ii).toNat)
  case atStart => exact ⟨0, by omega, rfl, HO0, HB1.out⟩
  case round =>
    obtain ⟨i, hi, rfl, HO, hbel⟩ := hrel
    by_cases hlt : i < n
    · obtain ⟨rfl, hb1⟩ := ha1 (by omega)
      have HC1 := hid hc1
      clear hc1 ha1
      obtain ⟨wo, rfl⟩ : ∃ wo : World, wo = wr := ⟨_, rfl⟩
      go_wp2
      go_loopw [4, 7] (fun v kk wr => ∃ k : Nat, i < k ∧ k ≤ n ∧ kk = .int .i64 k ∧ Hid (Own2 42 wr w.heap.size v (pairsTo xs p i ++ innerP xs p i k)) ∧ Below w.heap.size w wr) (fun _ kk _ => n - (intOf kk).toNat)
      case atStart => exact ⟨i+1, by omega, by omega, by go_num, hid (by rw [innerP_start, List.append_nil]; exact HO.out), hbel⟩
      case round =>
        obtain ⟨k, hik, hk, rfl, HO2, hbel2⟩ := hrel
        clear hbel HO
        by_cases hkt : k < n
        · have e1 : wr.cell? ⟨b1, o1+i, none⟩ = some (.int .i64 (xs.getD i 0)) := (hbel2.cell (by exact hb1)).trans (HC1.out i (by omega))
          have e2 : wr.cell? ⟨b1, o1+k, none⟩ = some (.int .i64 (xs.getD k 0)) := (hbel2.cell (by exact hb1)).trans (HC1.out k (by omega))
          have hx := HC.out i (by rw [HN.out]; exact hlt)
          have hy := HC.out k (by rw [HN.out]; exact hkt)
          have HYES := hid (innerP_yes (xs := xs) (p := p) hik)
          have HNO := hid (innerP_no (xs := xs) (p := p) (i := i) (k := k))
          generalize xs.getD i 0 = x at e1 hx HYES HNO
          generalize xs.getD k 0 = y at e2 hy HYES HNO
          have hi0 : (0 : Int) ≤ i := by omega
          have hi1 : (i : Int) < n := by omega
          have hk0 : (0 : Int) ≤ k := by omega
          have hk1 : (k : Int) < n := by omega
          have hlen : (pairsTo xs p i ++ innerP xs p i k).length ≤ 1099511627776 := by
            have h1 := pairsTo_len xs p i
            have h2 := innerP_len xs p i k
            have h3 : i * xs.length ≤ 12 * 12 := Nat.mul_le_mul (by omega) (by rw [HN.out]; exact hl12)
            rw [List.length_append]
            omega
          cases hf : (farI x y == gapF xs) with
          | true =>
            have HS := hid (HYES.out (by rw [HPP.out]; exact hf))
            go_wp2
            go_quiet ((go_at_call 136; exact Calls.quiet_of_same ((l2Far_any _ _ _ hx hy).mono fun _ _ h => ⟨h.1, h.2.symm⟩)))
            have HO3 := hid (HO2.out.drawn nq)
            have hbel3 := below_drewN hbel2 nq
            clear HO2 hbel2 e1 e2
            go_wp2_with (at_builtin; refine wpList_appendP (wr.drewN nq) rfl _ _ rfl w.heap.size _ _ HO3.out rfl i k rfl hlen hbel3.size ?_; intro v' w2 ho' _ hb')
            rw [List.append_assoc, ← HS.out] at ho'
            have HO4 := hid ho'
            have hbel4 := hbel3.trans hb'
            clear ho' HO3 hb' hbel3 HS hlen
            go_wp2
            go_roundw
            case rel => exact ⟨k+1, by omega, by omega, by go_num, HO4, hbel4⟩
            case measure => simp [intOf]; omega
          | false =>
            have HS := hid (HNO.out (by rw [HPP.out]; exact hf))
            go_wp2
            go_quiet ((go_at_call 136; exact Calls.quiet_of_same ((l2Far_any _ _ _ hx hy).mono fun _ _ h => ⟨h.1, h.2.symm⟩)))
            go_wp2
            go_roundw
            case rel => exact ⟨k+1, by omega, by omega, by go_num, by rw [HS.out]; exact HO2.out.drawn _, below_drewN hbel2 _⟩
            case measure => simp [intOf]; omega
        · have hk' : k = n := by omega
          have ho := HO2.out
          have HS := hid (pairsTo_succ xs p i)
          rw [hk', ← HN.out, ← HS.out] at ho
          have HO3 := hid ho
          clear ho HO2
          go_wp2
          go_roundw
          case rel => exact ⟨i+1, by omega, by go_num, HO3, hbel2⟩
          case measure => simp [intOf]; omega
    · have ho := HO.out
      rw [show i = xs.length by rw [HN.out]; omega] at ho
      have HO3 := hid ho
      clear ho HO
      go_wp2
      go_ret2
      exact ⟨_, rfl, HO3.out, hbel⟩

end Go.Proofs.Ytfgjaefcfmjleaa
