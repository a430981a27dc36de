import Derived.Test.YtfgjaefcfmjleaaClock
import Derived.Test.YtfgjaefcfmjleaaBits
import Derived.Test.YtfgjaefcfmjleaaAllI
namespace Go.Proofs.Ytfgjaefcfmjleaa
open Go.RowKit

/-! ## LitOf, litAt, l6Lit, LitAt; changes, l4Changes, MinuteChanges -/
def litTo (xs : List Int) : Nat → Int
  | 0 => 0
  | k+1 => litTo xs k + cntI (xs.getD k 0)
theorem litTo_range (xs : List Int) : ∀ k, 0 ≤ litTo xs k ∧ litTo xs k ≤ 7 * k
  | 0 => by simp [litTo]
  | k+1 => by
    have h := litTo_range xs k
    have h1 := cntI_range (xs.getD k 0)
    simp only [litTo]
    omega
def chTo (xs ys : List Int) : Nat → Int
  | 0 => 0
  | k+1 => chTo xs ys k + farI (xs.getD k 0) (ys.getD k 0)
theorem chTo_range (xs ys : List Int) : ∀ k, 0 ≤ chTo xs ys k ∧ chTo xs ys k ≤ 7 * k
  | 0 => by simp [chTo]
  | k+1 => by
    have h := chTo_range xs ys k
    have h1 := farI_range (xs.getD k 0) (ys.getD k 0)
    simp only [chTo]
    omega
def cellsIn (xs : List Int) : Prop := ∀ i, i < xs.length → 0 ≤ xs.getD i 0 ∧ xs.getD i 0 ≤ 127
theorem rowT_in {t : Int} (h0 : 0 ≤ t) (h1 : t ≤ 1439) : cellsIn (rowT t) := by
  have r1 := inB_mk (n := t/60/10) (lo := 0) (hi := 9) (by omega) (by omega)
  have r2 := inB_mk (n := t/60%10) (lo := 0) (hi := 9) (by omega) (by omega)
  have r3 := inB_mk (n := t%60/10) (lo := 0) (hi := 9) (by omega) (by omega)
  have r4 := inB_mk (n := t%60%10) (lo := 0) (hi := 9) (by omega) (by omega)
  intro i hi
  rw [length_rowT] at hi
  rcases (show i = 0 ∨ i = 1 ∨ i = 2 ∨ i = 3 by omega) with rfl | rfl | rfl | rfl
  · exact digitC_range r1
  · exact digitC_range r2
  · exact digitC_range r3
  · exact digitC_range r4
theorem rowB_of {xs : List Int} (hl : xs.length ≤ 6) (h : cellsIn xs) : rowB xs = true := by
  simp only [rowB, Bool.and_eq_true, decide_eq_true_eq, List.all_eq_true]
  refine ⟨hl, fun x hx => ?_⟩
  obtain ⟨i, hi, rfl⟩ := List.mem_iff_getElem.1 hx
  have := h i hi
  simp only [List.getD, List.getElem?_eq_getElem hi, Option.getD_some] at this
  exact inB_mk this.1 this.2
def litT (t : Int) : Int := litTo (rowT t) 4
theorem litT_range (t : Int) : 0 ≤ litT t ∧ litT t ≤ 28 := by
  have := litTo_range (rowT t) 4
  unfold litT
  omega

set_option maxHeartbeats 2000000 in
theorem LitOf_any (v1 : Value) (xs : List Int) (w : World) (h1 : Ints w v1 xs) (hl : xs.length ≤ 6) (hin : cellsIn xs) :
    Calls Try.prog 70 #[v1] w fun e w' => e = .returned (.tuple #[.int .i64 (litTo xs xs.length), .bool true]) ∧ Below w.heap.size w w' := by
  obtain ⟨n, ao1, cap1, b1, o1, HN, rfl, ha1, hc1, hn1, hm1, HX⟩ := h1.open_
  clear h1
  have hrow := rowB_of hl hin
  have HIN := hid hin
  clear hin
  rw [HN.out] at hl
  go_enter Try.func70, Try.ntmps70
  go_wp2_with (go_at_call 177; refine (IsRow_any _ xs _ HX.out).mono ?_; rintro e w1 ⟨rfl, hb⟩)
  go_loopw [4, 6, 12] (fun ss _ i wr => ∃ k : Nat, k ≤ n ∧ i = .int .i64 k ∧ ss = .int .i64 (litTo xs k) ∧ Below w.heap.size w wr) (fun _ _ i _ => n - (intOf i).toNat)
  case atStart => exact ⟨0, by omega, rfl, rfl, hb⟩
  case round =>
    obtain ⟨k, hk, rfl, rfl, hbel⟩ := hrel
    by_cases hlt : k < n
    · obtain ⟨rfl, hb1⟩ := ha1 (by omega)
      have e1 : wr.cell? ⟨b1, o1+k, none⟩ = some (.int .i64 (xs.getD k 0)) := (hbel.cell (by exact hb1)).trans (hc1 k (by omega))
      have hx := HIN.out k (by rw [HN.out]; exact hlt)
      have HS := hid (show litTo xs (k+1) = litTo xs k + cntI (xs.getD k 0) from rfl)
      generalize xs.getD k 0 = x at e1 hx HS
      have hr := litTo_range xs k
      have hc := cntI_range x
      go_wp2_with (go_at_call 153; refine (count_any _ _ hx.1 hx.2).mono ?_; rintro e w2 ⟨rfl, rfl⟩)
      go_roundw
      case rel => exact ⟨k+1, by omega, by go_num, int_eq HS.out.symm, hbel⟩
      case measure => simp [intOf]; omega
    · go_wp2
      go_ret2
      exact ⟨by rw [HN.out, show k = n by omega]; rfl, hbel⟩

set_option maxHeartbeats 2000000 in
theorem litAt_any (t : Int) (w : World) (h0 : 0 ≤ t) (h1 : t ≤ 1439) :
    Calls Try.prog 166 #[.int .i64 t] w fun e w' => e = .returned (.int .i64 (litT t)) ∧ Below w.heap.size w w' := by
  have HIN := hid (rowT_in h0 h1)
  go_enter Try.func166, Try.ntmps166
  go_wp2_with (first | (go_at_call 170; refine (clockRow_any _ _ h0 h1).mono ?_; rintro e w1 ⟨v, rfl, ho, hb⟩; have HO := hid ho; clear ho) | (go_at_call 70; refine (LitOf_any _ (rowT t) _ HO.out.ints (by simp [rowT]) HIN.out).mono ?_; rintro e w2 ⟨rfl, hb2⟩))
  go_ret
  exact ⟨rfl, hb.trans (hb2.mono hb.size)⟩

set_option maxHeartbeats 2000000 in
theorem l6Lit_any (t : Int) (w : World) (h0 : 0 ≤ t) (h1 : t ≤ 1439) :
    Calls Try.prog 168 #[.int .i64 t] w fun e w' => e = .returned (.int .i64 (litT t)) ∧ Below w.heap.size w w' := by
  have HIN := hid (rowT_in h0 h1)
  go_enter Try.func168, Try.ntmps168
  go_wp2_with (go_at_call 172; refine (l6Row_any _ _ h0 h1).mono ?_; rintro e w1 ⟨v, rfl, ho, hb⟩; have HI := hid ho.ints; clear ho)
  obtain ⟨n, ao1, cap1, b1, o1, HN, rfl, ha1, hc1, hn1, hm1, HX⟩ := HI.out.open_
  have hn4 : n = 4 := HN.out.symm.trans (length_rowT t)
  subst hn4
  obtain ⟨rfl, hb1⟩ := ha1 (by omega)
  have HT := hid (show litT t = litTo (rowT t) 4 from rfl)
  generalize rowT t = xs at *
  go_loopw [4, 5] (fun ss i wr => ∃ k : Nat, k ≤ 4 ∧ i = .int .i64 k ∧ ss = .int .i64 (litTo xs k) ∧ wr = w1) (fun _ i _ => 4 - (intOf i).toNat)
  case atStart => exact ⟨0, by omega, rfl, rfl, rfl⟩
  case round =>
    obtain ⟨k, hk, rfl, rfl, rfl⟩ := hrel
    by_cases hlt : k < 4
    · have e1 : wr.cell? ⟨b1, o1+k, none⟩ = some (.int .i64 (xs.getD k 0)) := hc1 k (by omega)
      clear hc1 ha1
      have hx := HIN.out k (by rw [HN.out]; exact hlt)
      have HS := hid (show litTo xs (k+1) = litTo xs k + cntI (xs.getD k 0) from rfl)
      generalize xs.getD k 0 = x at e1 hx HS
      have hr := litTo_range xs k
      have hc := cntI_range x
      go_wp2_with (go_at_call 221; refine (l2Count_any _ _ hx.1 hx.2).mono ?_; rintro e w2 ⟨rfl, rfl⟩)
      go_roundw
      case rel => exact ⟨k+1, by omega, by go_num, int_eq HS.out.symm, by first | rfl | trivial⟩
      case measure => simp [intOf]; omega
    · have hk4 : k = 4 := by omega
      subst hk4
      go_wp2
      go_ret
      exact ⟨by rw [HT.out]; rfl, hb⟩

def litR (t : Int) : Int × Bool := if timeB t then (litT t, true) else (0, false)
theorem litR_no {t : Int} (h : timeB t = false) : litR t = (0, false) := by simp [litR, h]
theorem litR_yes {t : Int} (h : timeB t = true) : litR t = (litT t, true) := by simp [litR, h]

set_option maxHeartbeats 1000000 in
theorem implLitAt_any (t : Int) (w : World) :
    Calls Try.prog 53 #[.int .i64 t] w fun e w' => e = .returned (.tuple #[.int .i64 (litR t).1, .bool (litR t).2]) ∧ Below w.heap.size w w' := by
  cases hs : timeB t with
  | false =>
    rw [litR_no hs]
    go_enter Try.func53, Try.ntmps53
    go_wp2_with (go_at_call 165; refine (isTime_any _ _).mono ?_; rintro e w1 ⟨rfl, rfl⟩)
    go_ret2
    exact ⟨rfl, Below.refl _ _⟩
  | true =>
    have ht := timeB_true hs
    rw [litR_yes hs]
    go_enter Try.func53, Try.ntmps53
    go_wp2_with (first | (go_at_call 165; refine (isTime_any _ _).mono ?_; rintro e w1 ⟨rfl, rfl⟩) | (go_at_call 166; refine (litAt_any _ _ ht.1 ht.2).mono ?_; rintro e w2 ⟨rfl, hb2⟩))
    go_ret2
    exact ⟨rfl, hb2⟩
set_option maxHeartbeats 1000000 in
theorem specLitAt_any (t : Int) (w : World) :
    Calls Try.prog 54 #[.int .i64 t] w fun e w' => e = .returned (.tuple #[.int .i64 (litR t).1, .bool (litR t).2]) ∧ Below w.heap.size w w' := by
  cases hs : timeB t with
  | false =>
    rw [litR_no hs]
    go_enter Try.func54, Try.ntmps54
    go_wp2_with (go_at_call 167; refine (l6Time_any _ _).mono ?_; rintro e w1 ⟨rfl, rfl⟩)
    go_ret2
    exact ⟨rfl, Below.refl _ _⟩
  | true =>
    have ht := timeB_true hs
    rw [litR_yes hs]
    go_enter Try.func54, Try.ntmps54
    go_wp2_with (first | (go_at_call 167; refine (l6Time_any _ _).mono ?_; rintro e w1 ⟨rfl, rfl⟩) | (go_at_call 168; refine (l6Lit_any _ _ ht.1 ht.2).mono ?_; rintro e w2 ⟨rfl, hb2⟩))
    go_ret2
    exact ⟨rfl, hb2⟩

end Go.Proofs.Ytfgjaefcfmjleaa
