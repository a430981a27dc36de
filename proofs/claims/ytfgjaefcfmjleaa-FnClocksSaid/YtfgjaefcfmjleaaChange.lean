import Derived.Test.YtfgjaefcfmjleaaLit
import Derived.Deep.QuietTactic
import Derived.BigQuiet
import Derived.IntWalk
namespace Go.Proofs.Ytfgjaefcfmjleaa
open Go.RowKit

/-! ## changes, l4Changes, MinuteChanges -/
set_option maxHeartbeats 2000000 in
theorem changes_any (v1 v2 : Value) (xs ys : List Int) (w : World) (h1 : Ints w v1 xs) (h2 : Ints w v2 ys) (hl : xs.length = ys.length) (h6 : xs.length ≤ 6) (hin1 : cellsIn xs) (hin2 : cellsIn ys) :
    Calls Try.prog 169 #[v1, v2] w fun e w' => e = .returned (.int .i64 (chTo xs ys xs.length)) ∧ w = w' := by
  obtain ⟨n, ao1, cap1, b1, o1, HN, rfl, ha1, hc1, hn1, hm1, HX⟩ := h1.open_
  obtain ⟨n2, ao2, cap2, b2, o2, HN2, rfl, ha2, hc2, hn2, hm2, HX2⟩ := h2.open_
  clear h1 h2
  rw [HN.out, HN2.out] at hl
  subst hl
  have HI1 := hid hin1
  have HI2 := hid hin2
  clear hin1 hin2
  rw [HN.out] at h6
  go_enter Try.func169, Try.ntmps169
  go_wp2
  go_loop [5, 6, 7, 10] (fun ss _ _ i => ∃ k : Nat, k ≤ n ∧ i = .int .i64 k ∧ ss = .int .i64 (chTo xs ys k)) (fun _ _ _ i => n - (intOf i).toNat)
  case atStart => exact ⟨0, by omega, rfl, rfl⟩
  case round =>
    obtain ⟨k, hk, rfl, rfl⟩ := hrel
    by_cases hlt : k < n
    · obtain ⟨rfl, hb1⟩ := ha1 (by omega)
      obtain ⟨rfl, hb2⟩ := ha2 (by omega)
      have e1 : w.cell? ⟨b1, o1+k, none⟩ = some (.int .i64 (xs.getD k 0)) := hc1 k (by omega)
      have e2 : w.cell? ⟨b2, o2+k, none⟩ = some (.int .i64 (ys.getD k 0)) := hc2 k (by omega)
      have hx := HI1.out k (by rw [HN.out]; exact hlt)
      have hy := HI2.out k (by rw [HN2.out]; exact hlt)
      have HS := hid (show chTo xs ys (k+1) = chTo xs ys k + cntI (xorI (xs.getD k 0) (ys.getD k 0)) from rfl)
      clear hc1 hc2 ha1 ha2
      generalize xs.getD k 0 = x at e1 hx HS
      generalize ys.getD k 0 = y at e2 hy HS
      have hX := xorI_range hx.1 hx.2 hy.1 hy.2
      have hr := chTo_range xs ys k
      have hc := cntI_range (xorI x y)
      have hk0 : (0 : Int) ≤ k := by omega
      have hkn : (k : Int) < n := by omega
      go_wp2_with (go_at_call 153; refine (count_any (xorI x y) _ hX.1 hX.2).mono ?_; rintro e w2 ⟨rfl, rfl⟩)
      go_round
      case rel => exact ⟨k+1, by omega, by go_num, int_eq HS.out.symm⟩
      case measure => simp [intOf]; omega
    · go_wp2
      go_ret
      exact ⟨by rw [HN.out, show k = n by omega]; rfl, rfl⟩

set_option maxHeartbeats 2000000 in
theorem l4Changes_any (v1 v2 : Value) (xs ys : List Int) (w : World) (h1 : Ints w v1 xs) (h2 : Ints w v2 ys) (hl : xs.length = ys.length) (h6 : xs.length ≤ 6) (hin1 : cellsIn xs) (hin2 : cellsIn ys) :
    Calls Try.prog 171 #[v1, v2] w fun e w' => e = .returned (.int .i64 (chTo xs ys xs.length)) ∧ Below w.heap.size w w' := by
  obtain ⟨n, ao1, cap1, b1, o1, HN, rfl, ha1, hc1, hn1, hm1, HX⟩ := h1.open_
  obtain ⟨n2, ao2, cap2, b2, o2, HN2, rfl, ha2, hc2, hn2, hm2, HX2⟩ := h2.open_
  clear h1 h2
  rw [HN.out, HN2.out] at hl
  subst hl
  have HI1 := hid hin1
  have HI2 := hid hin2
  clear hin1 hin2
  rw [HN.out] at h6
  go_enter Try.func171, Try.ntmps171
  go_wp2
  go_loopw [5, 6] (fun ss i wr => ∃ k : Nat, k ≤ n ∧ i = .int .i64 k ∧ ss = .int .i64 (chTo xs ys k) ∧ Below w.heap.size w wr) (fun _ i _ => n - (intOf i).toNat)
  case atStart => exact ⟨0, by omega, rfl, rfl, Below.refl _ _⟩
  case round =>
    obtain ⟨k, hk, rfl, rfl, hbel⟩ := hrel
    by_cases hlt : k < n
    · obtain ⟨rfl, hb1⟩ := ha1 (by omega)
      obtain ⟨rfl, hb2⟩ := ha2 (by omega)
      have e1 : wr.cell? ⟨b1, o1+k, none⟩ = some (.int .i64 (xs.getD k 0)) := (hbel.cell (by exact hb1)).trans (hc1 k (by omega))
      have e2 : wr.cell? ⟨b2, o2+k, none⟩ = some (.int .i64 (ys.getD k 0)) := (hbel.cell (by exact hb2)).trans (hc2 k (by omega))
      have hx := HI1.out k (by rw [HN.out]; exact hlt)
      have hy := HI2.out k (by rw [HN2.out]; exact hlt)
      have HS := hid (show chTo xs ys (k+1) = chTo xs ys k + farI (xs.getD k 0) (ys.getD k 0) from rfl)
      clear hc1 hc2 ha1 ha2
      generalize xs.getD k 0 = x at e1 hx HS
      generalize ys.getD k 0 = y at e2 hy HS
      have hr := chTo_range xs ys k
      have hc := farI_range x y
      have hk0 : (0 : Int) ≤ k := by omega
      have hkn : (k : Int) < n := by omega
      have hw1 : IntKind.i64.wrap (chTo xs ys k + farI x y) = chTo xs ys k + farI x y := IntWalk.i64_in _ (by omega)
      go_wp2
      go_quiet ((go_at_call 136; exact Calls.quiet_of_same ((l2Far_any _ _ _ hx hy).mono fun _ _ h => ⟨h.1, h.2.symm⟩)))
      go_wp2
      go_roundw
      case rel => exact ⟨k+1, by omega, by go_num, int_eq HS.out.symm, below_drewN hbel _⟩
      case measure => simp [intOf]; omega
    · go_wp2
      go_ret
      exact ⟨by rw [HN.out, show k = n by omega]; rfl, hbel⟩

def minR (t : Int) : Int × Bool := if timeB t then (chTo (rowT t) (rowT ((t+1)%1440)) 4, true) else (0, false)
theorem minR_no {t : Int} (h : timeB t = false) : minR t = (0, false) := by simp [minR, h]
theorem minR_yes {t : Int} (h : timeB t = true) : minR t = (chTo (rowT t) (rowT ((t+1)%1440)) 4, true) := by simp [minR, h]

set_option maxHeartbeats 2000000 in
theorem implMinuteChanges_any (t : Int) (w : World) :
    Calls Try.prog 55 #[.int .i64 t] w fun e w' => e = .returned (.tuple #[.int .i64 (minR t).1, .bool (minR t).2]) ∧ Below w.heap.size w w' := by
  cases hs : timeB t with
  | false =>
    rw [minR_no hs]
    go_enter Try.func55, Try.ntmps55
    go_wp2_with (go_at_call 165; refine (isTime_any _ _).mono ?_; rintro e w1 ⟨rfl, rfl⟩)
    go_ret2
    exact ⟨rfl, Below.refl _ _⟩
  | true =>
    have ht := timeB_true hs
    have hu0 : 0 ≤ (t+1)%1440 := by omega
    have hu1 : (t+1)%1440 ≤ 1439 := by omega
    have HI1 := hid (rowT_in ht.1 ht.2)
    have HI2 := hid (rowT_in hu0 hu1)
    rw [minR_yes hs]
    go_enter Try.func55, Try.ntmps55
    go_wp2_with (go_at_call 165; refine (isTime_any _ _).mono ?_; rintro e w1 ⟨rfl, rfl⟩)
    refine (clockRow_any t _ ht.1 ht.2).mono ?_
    rintro e w2 ⟨v2, rfl, ho, hb2⟩
    have HO := hid ho
    clear ho
    go_wp2_with fail
    refine (clockRow_any ((t+1)%1440) _ hu0 hu1).mono ?_
    rintro e w3 ⟨v3, rfl, ho, hb3⟩
    have HO3 := hid ho
    have HO2 := hid (HO.out.later hb3)
    have hbel := hb2.trans (hb3.mono hb2.size)
    clear ho HO
    go_wp2_with fail
    refine (changes_any _ _ (rowT t) (rowT ((t+1)%1440)) _ HO2.out.ints HO3.out.ints rfl (by simp [rowT]) HI1.out HI2.out).mono ?_
    rintro e w4 ⟨rfl, rfl⟩
    go_wp2
    go_ret2
    exact ⟨rfl, hbel⟩
set_option maxHeartbeats 2000000 in
theorem specMinuteChanges_any (t : Int) (w : World) :
    Calls Try.prog 56 #[.int .i64 t] w fun e w' => e = .returned (.tuple #[.int .i64 (minR t).1, .bool (minR t).2]) ∧ Below w.heap.size w w' := by
  cases hs : timeB t with
  | false =>
    rw [minR_no hs]
    go_enter Try.func56, Try.ntmps56
    go_wp2_with (go_at_call 167; refine (l6Time_any _ _).mono ?_; rintro e w1 ⟨rfl, rfl⟩)
    go_ret2
    exact ⟨rfl, Below.refl _ _⟩
  | true =>
    have ht := timeB_true hs
    have hu0 : 0 ≤ (t+1)%1440 := by omega
    have hu1 : (t+1)%1440 ≤ 1439 := by omega
    have HI1 := hid (rowT_in ht.1 ht.2)
    have HI2 := hid (rowT_in hu0 hu1)
    rw [minR_yes hs]
    go_enter Try.func56, Try.ntmps56
    go_wp2_with (go_at_call 167; refine (l6Time_any _ _).mono ?_; rintro e w1 ⟨rfl, rfl⟩)
    refine (l6Row_any t _ ht.1 ht.2).mono ?_
    rintro e w2 ⟨v2, rfl, ho, hb2⟩
    have HO := hid ho
    clear ho
    go_wp2_with fail
    refine (l6Row_any ((t+1)%1440) _ hu0 hu1).mono ?_
    rintro e w3 ⟨v3, rfl, ho, hb3⟩
    have HO3 := hid ho
    have HO2 := hid (HO.out.later hb3)
    have hbel := hb2.trans (hb3.mono hb2.size)
    clear ho HO
    go_wp2_with fail
    refine (l4Changes_any _ _ (rowT t) (rowT ((t+1)%1440)) _ HO2.out.ints HO3.out.ints rfl (by simp [rowT]) HI1.out HI2.out).mono ?_
    rintro e w4 ⟨rfl, hb4⟩
    go_wp2
    go_ret2
    exact ⟨rfl, hbel.trans (hb4.mono hbel.size)⟩

end Go.Proofs.Ytfgjaefcfmjleaa
