/-
  OrdCost: OrderCost of both sides answers the cost of an order.
-/
import Derived.Test.YtgbnoljmmenlbaaTests
namespace Go.Proofs.Ytgbnoljmmenlbaa
open Go.RowKit

/-! ## l4Digits, l4Order, l4Cost; OrderCost -/
set_option maxHeartbeats 1000000 in
theorem l4Digits_any (a b : Int) (w : World) (ha : inB a 0 9 = true) (hb : inB b 0 9 = true) :
    Calls Try.prog 37 #[.int .i64 a, .int .i64 b] w fun e w' => e = .returned (.int .i64 (farI (digitC a) (digitC b))) ∧ Below w.heap.size w w' := by
  have hX := digitC_range ha
  have hY := digitC_range hb
  have HA := hid ha
  have HB := hid hb
  clear ha hb
  go_enter Try.func37, Try.ntmps37
  go_wp2_with fail
  refine (l2Digit_any _ _ HA.out).mono ?_
  rintro e w1 ⟨rfl, hb1⟩
  go_wp2_with fail
  refine (l2Digit_any _ _ HB.out).mono ?_
  rintro e w2 ⟨rfl, hb2⟩
  go_wp2_with fail
  refine (l2Far_any _ _ _ hX hY).mono ?_
  rintro e w3 ⟨rfl, rfl⟩
  go_wp2
  go_ret
  exact ⟨rfl, hb1.trans (hb2.mono hb1.size)⟩
theorem l4Digits_from (w0 : World) (a b : Int) (w : World) (ha : inB a 0 9 = true) (hb : inB b 0 9 = true) (hB : Below w0.heap.size w0 w) :
    Calls Try.prog 37 #[.int .i64 a, .int .i64 b] w fun e w' => e = .returned (.int .i64 (farI (digitC a) (digitC b))) ∧ Below w0.heap.size w0 w' :=
  (l4Digits_any a b w ha hb).mono fun _ _ ⟨he, hb⟩ => ⟨he, hB.trans (hb.mono hB.size)⟩

set_option maxHeartbeats 1000000 in
theorem l4Order_any (v1 : Value) (xs : List Int) (w : World) (h1 : Ints w v1 xs) :
    Calls Try.prog 28 #[v1] w fun e w' => e = .returned (.bool (orderB xs)) ∧ ∃ m, w' = w.drewN m := by
  obtain ⟨ao1, cap1, b1, o1, rfl, ha1, hc1, hn1, hm1⟩ := h1
  obtain ⟨n, hn⟩ : ∃ n, xs.length = n := ⟨_, rfl⟩
  have HN := hid hn
  rw [hn] at ha1 hc1 hn1 ⊢
  clear hn
  go_enter Try.func28, Try.ntmps28
  go_wp2
  go_loopw [3] (fun i wr => ∃ k m : Nat, k ≤ n ∧ i = .int .i64 k ∧ wr = w.drewN m ∧ Hid (orderTo xs k)) (fun i _ => n - (intOf i).toNat)
  case atStart => exact ⟨0, 0, by omega, rfl, rfl, hid (orderTo_zero xs)⟩
  case round =>
    obtain ⟨k, m, hk, rfl, hW, HT⟩ := hrel
    have HW := hid hW
    by_cases hlt : k < n ∧ k ≤ 10
    · obtain ⟨hlt, h12⟩ := hlt
      obtain ⟨rfl, hb1⟩ := ha1 (by omega)
      have e1 : wr.cell? ⟨b1, o1+k, none⟩ = some (.int .i64 (xs.getD k 0)) := by rw [hW]; exact hc1 k (by omega)
      have HI : Hid (∀ q, Ints (wr.drewN q) (.slice (some ⟨b1, o1, none⟩) k cap1) (xs.take k)) := hid fun q => by rw [hW]; exact ((Ints.take hc1 hb1 HN.out hn1 hm1 hk).drawn m).drawn q
      have HL := hid (show k < xs.length by rw [HN.out]; exact hlt)
      generalize hx : xs.getD k 0 = x at e1
      have HX := hid hx
      clear hx hc1 ha1 hW
      have hlt' : (k : Int) < n := by omega
      have hlt2 : (0 : Int) ≤ k := by omega
      cases hcell : inB x 0 9 with
      | false =>
        go_wp2
        go_quiet ((go_at_call 41; exact Calls.quiet_of_same ((l1In_any _ _ _ _).mono fun _ _ h => ⟨h.1, h.2.symm⟩)))
        go_wp2
        go_ret
        exact ⟨ret_bool (orderB_digit HL.out (by rw [HX.out]; exact hcell)).symm, m + nq, by rw [HW.out]; simp⟩
      | true =>
        by_cases hmem : x ∈ xs.take k
        all_goals
          go_wp2
          go_quiet ((first | (go_at_call 41; exact Calls.quiet_of_same ((l1In_any _ _ _ _).mono fun _ _ h => ⟨h.1, h.2.symm⟩)) | (go_at_call 45; exact Calls.quiet_of_same ((l1Has_any _ (xs.take k) _ _ (HI.out _)).mono fun _ _ h => ⟨h.1, h.2.symm⟩))))
          go_wp2
        · go_ret
          exact ⟨ret_bool (orderB_dup HL.out (by rw [HX.out]; exact hmem)).symm, m + nq, by rw [HW.out]; simp⟩
        · go_roundw
          case rel => exact ⟨k+1, m + nq, by omega, by go_num, by rw [HW.out]; simp, hid (orderTo_succ HT.out (by rw [HX.out]; exact hcell) (by rw [HX.out]; exact hmem))⟩
          case measure => simp [intOf]; omega
    · have hres : decide ((n : Int) ≤ 10) = orderB xs := by
        by_cases hk12 : k ≤ 10
        · have e : k = xs.length := by rw [HN.out]; omega
          have := HT.out
          rw [e] at this
          have h2 := (orderB_true (orderB_all this)).1
          rw [orderB_all this, decide_eq_true_eq]
          rw [HN.out] at h2
          omega
        · rw [orderB_long (by rw [HN.out]; omega), decide_eq_false_iff_not]
          omega
      have HR := hid hres
      clear hres hW
      by_cases h1 : k < n
      all_goals
        go_wp2
        go_ret
        exact ⟨ret_bool HR.out, m, HW.out⟩

/-- the cost of an order -/
def ocF (xs : List Int) (ring : Bool) : Int := dchF xs + (if ring = true ∧ 0 < xs.length then farI (digitC (xs.getD (xs.length - 1) 0)) (digitC (xs.getD 0 0)) else 0)
theorem ocF_no (xs : List Int) : ocF xs false = dchF xs := by simp [ocF]
theorem ocF_nil (xs : List Int) (b : Bool) (h : ¬ 0 < xs.length) : ocF xs b = dchF xs := by simp [ocF, h]
theorem ocF_yes {xs : List Int} (h : 0 < xs.length) : ocF xs true = dchF xs + farI (digitC (xs.getD (xs.length - 1) 0)) (digitC (xs.getD 0 0)) := by simp [ocF, h]
def ocR (xs : List Int) (ring : Bool) : Int × Bool := if orderB xs then (ocF xs ring, true) else (0, false)
theorem ocR_no {xs : List Int} {ring : Bool} (h : orderB xs = false) : ocR xs ring = (0, false) := by simp [ocR, h]
theorem ocR_yes {xs : List Int} {ring : Bool} (h : orderB xs = true) : ocR xs ring = (ocF xs ring, true) := by simp [ocR, h]
theorem dchTo_app (xs : List Int) (y : Int) : ∀ k, k + 1 ≤ xs.length → dchTo (xs ++ [y]) k = dchTo xs k := by
  intro k
  induction k with
  | zero => intro _; rfl
  | succ k ih =>
    intro hk
    simp only [dchTo]
    rw [ih (by omega)]
    have h1 : (xs ++ [y]).getD k 0 = xs.getD k 0 := by simp [List.getD, List.getElem?_append_left (show k < xs.length by omega)]
    have h2 : (xs ++ [y]).getD (k+1) 0 = xs.getD (k+1) 0 := by simp [List.getD, List.getElem?_append_left (show k+1 < xs.length by omega)]
    rw [h1, h2]
theorem dchF_ring {xs : List Int} (h : 0 < xs.length) : dchF (xs ++ [xs.getD 0 0]) = ocF xs true := by
  rw [ocF_yes h]
  unfold dchF
  obtain ⟨m, hm⟩ : ∃ m, xs.length = m + 1 := ⟨xs.length - 1, by omega⟩
  have e : (xs ++ [xs.getD 0 0]).length - 1 = m + 1 := by simp; omega
  rw [e, hm]
  simp only [dchTo, Nat.add_sub_cancel]
  rw [dchTo_app xs _ m (by omega)]
  have h1 : (xs ++ [xs.getD 0 0]).getD m 0 = xs.getD m 0 := by simp [List.getD, List.getElem?_append_left (show m < xs.length by omega)]
  have h2 : (xs ++ [xs.getD 0 0]).getD (m+1) 0 = xs.getD 0 0 := by
    have : m + 1 = xs.length := hm.symm
    simp only [List.getD]
    rw [List.getElem?_append_right (by omega), show m + 1 - xs.length = 0 by omega]
    rfl
  rw [h1, h2]
theorem order_dig9 {xs : List Int} (h : orderB xs = true) : ∀ i, i < xs.length → dig9 (xs.getD i 0) = true := fun i hi => ((orderB_true h).2 i hi).1

set_option maxRecDepth 100000 in
set_option maxHeartbeats 4000000 in
theorem l4Cost_any (v1 : Value) (xs : List Int) (ring : Bool) (w : World) (h1 : Ints w v1 xs) (hl : xs.length ≤ 1048576) (hd : ∀ i, i < xs.length → dig9 (xs.getD i 0) = true) :
    Calls Try.prog 29 #[v1, .bool ring] w fun e w' => e = .returned (.int .i64 (ocF xs ring)) ∧ Below w.heap.size w w' := by
  obtain ⟨n, ao1, cap1, b1, o1, HN, rfl, ha1, hc1, hn1, hm1, HX⟩ := h1.open_
  have HD := hid hd
  rw [HN.out] at hl
  clear h1 hd
  have HF := hid (show dchF xs = dchTo xs (n-1) by rw [← HN.out]; rfl)
  go_enter Try.func29, Try.ntmps29
  go_wp2
  go_loopw [5, 6] (fun ss ii wr => ∃ k : Nat, (k + 1 ≤ n ∨ k = 0) ∧ ii = .int .i64 ((k : Int) + 1) ∧ ss = .int .i64 (dchTo xs k) ∧ Hid (Below w.heap.size w wr)) (fun _ ii _ => n - (intOf ii).toNat)
  case atStart => exact ⟨0, by omega, rfl, rfl, hid (Below.refl _ _)⟩
  case round =>
    obtain ⟨k, hk, rfl, rfl, HB⟩ := hrel
    have hr := dchTo_range xs k
    by_cases hlt : k + 1 < n
    · obtain ⟨rfl, hb1⟩ := ha1 (by omega)
      have hb1r : b1 < wr.heap.size := Nat.lt_of_lt_of_le hb1 HB.out.size
      have e1 : wr.cell? ⟨b1, o1+k, none⟩ = some (.int .i64 (xs.getD k 0)) := (HB.out.cell (by exact hb1)).trans (hc1 k (by omega))
      have e2 : wr.cell? ⟨b1, o1+(k+1), none⟩ = some (.int .i64 (xs.getD (k+1) 0)) := (HB.out.cell (by exact hb1)).trans (hc1 (k+1) (by omega))
      have HST := hid (show dchTo xs (k+1) = dchTo xs k + farI (digitC (xs.getD k 0)) (digitC (xs.getD (k+1) 0)) from rfl)
      have hd1 : inB (xs.getD k 0) 0 9 = true := HD.out k (by rw [HN.out]; omega)
      have hd2 : inB (xs.getD (k+1) 0) 0 9 = true := HD.out (k+1) (by rw [HN.out]; omega)
      generalize xs.getD k 0 = x at *
      generalize xs.getD (k+1) 0 = y at *
      have hfr := farI_range (digitC x) (digitC y)
      have HCALL := hid (fun w' (hb : Below wr.heap.size wr w') => l4Digits_from wr x y w' hd1 hd2 hb)
      generalize farI (digitC x) (digitC y) = f at *
      clear hc1 ha1 hd1 hd2
      have hi0 : (0 : Int) ≤ (k : Int) + 1 := by omega
      have hi1 : (k : Int) + 1 < n := by omega
      have hi2 : ((k : Int) + 1).toNat = k + 1 := by omega
      have hi3 : (k : Int) + 1 - 1 = k := by omega
      have hk0 : (0 : Int) ≤ k := by omega
      have hk1 : (k : Int) < n := by omega
      have hw1 : IntKind.i64.wrap ((k : Int) + 1 - 1) = k := by rw [hi3]; exact IntWalk.i64_in _ (by omega)
      have hw2 : IntKind.i64.wrap (dchTo xs k + f) = dchTo xs k + f := IntWalk.i64_in _ (by omega)
      have hw3 : IntKind.i64.wrap (k : Int) = k := IntWalk.i64_in _ (by omega)
      have hbr : Below wr.heap.size wr wr.drew := (Below.refl _ _).drew
      go_wp2
      go_region_held3 (fun w' => w'.cell? ⟨b1, o1+k, none⟩ = some (.int .i64 x) ∧ w'.cell? ⟨b1, o1+(k+1), none⟩ = some (.int .i64 y) ∧ Below wr.heap.size wr w') (first | exact ⟨(hb'.cell (by exact hb1r)).trans e1, (hb'.cell (by exact hb1r)).trans e2, hb'⟩ | exact ⟨e1, e2, hbr⟩ | go_keep)
        (first
          | (go_at_call 37; refine (HCALL.out _ (by assumption)).mono ?_; rintro e w' ⟨rfl, hb'⟩))
      all_goals
        have HBF := hid (HB.out.trans (hb'.mono HB.out.size))
        clear hw1 hw2 hw3 hi3 hb' hbr e1 e2
        go_wp2
        go_roundw
        case rel => exact ⟨k+1, by omega, by go_num, int_eq HST.out.symm, HBF⟩
        case measure => simp [intOf]; omega
    · have hkn : k = n - 1 := by omega
      have hnot : ¬ ((k : Int) + 1 < n) := by omega
      have HDF := hid (show dchTo xs k = dchF xs by rw [HF.out, ← hkn])
      rw [HDF.out]
      have hrr := dchTo_range xs k
      rw [HDF.out] at hrr
      cases ring with
      | false =>
        go_wp2
        go_ret
        exact ⟨ret_int (ocF_no xs).symm, HB.out⟩
      | true =>
        by_cases hn0 : 0 < n
        · obtain ⟨rfl, hb1⟩ := ha1 hn0
          obtain ⟨m, hm⟩ : ∃ m, n - 1 = m := ⟨_, rfl⟩
          have hb1r : b1 < wr.heap.size := Nat.lt_of_lt_of_le hb1 HB.out.size
          have e1 : wr.cell? ⟨b1, o1+m, none⟩ = some (.int .i64 (xs.getD m 0)) := (HB.out.cell (by exact hb1)).trans (hc1 m (by omega))
          have e2 : wr.cell? ⟨b1, o1, none⟩ = some (.int .i64 (xs.getD 0 0)) := (HB.out.cell (by exact hb1)).trans (hc1 0 hn0)
          have HOC := hid (ocF_yes (xs := xs) (by rw [HN.out]; exact hn0))
          rw [HN.out, hm] at HOC
          have hd1 : inB (xs.getD m 0) 0 9 = true := HD.out m (by rw [HN.out]; omega)
          have hd2 : inB (xs.getD 0 0) 0 9 = true := HD.out 0 (by rw [HN.out]; omega)
          generalize xs.getD m 0 = x at *
          generalize xs.getD 0 0 = y at *
          have hfr := farI_range (digitC x) (digitC y)
          have HCALL := hid (fun w' (hb : Below wr.heap.size wr w') => l4Digits_from wr x y w' hd1 hd2 hb)
          generalize farI (digitC x) (digitC y) = f at *
          generalize dchF xs = sm at *
          have hw2 : IntKind.i64.wrap (sm + f) = sm + f := IntWalk.i64_in _ (by omega)
          have hnI : (0 : Int) < n := by omega
          have hi0 : (0 : Int) ≤ m := by omega
          have hi1 : (m : Int) < n := by omega
          have hw1 : IntKind.i64.wrap ((n : Int) - 1) = m := by rw [show (n : Int) - 1 = m by omega]; exact IntWalk.i64_in _ (by omega)
          have hbr : Below wr.heap.size wr wr.drew := (Below.refl _ _).drew
          clear hc1 ha1 hd1 hd2 hr HF HDF hk hkn hm
          go_wp2
          go_region_held3 (fun w' => w'.cell? ⟨b1, o1+m, none⟩ = some (.int .i64 x) ∧ w'.cell? ⟨b1, o1, none⟩ = some (.int .i64 y) ∧ Below wr.heap.size wr w') (first | exact ⟨(hb'.cell (by exact hb1r)).trans e1, (hb'.cell (by exact hb1r)).trans e2, hb'⟩ | exact ⟨e1, e2, hbr⟩ | go_keep)
            (first
              | (go_at_call 37; refine (HCALL.out _ (by assumption)).mono ?_; rintro e w' ⟨rfl, hb'⟩))
          all_goals
            have HBF := hid (HB.out.trans (hb'.mono HB.out.size))
            go_wp2
            go_ret
            exact ⟨ret_int HOC.out.symm, HBF.out⟩
        · have HOC := hid (ocF_nil xs true (by rw [HN.out]; exact hn0))
          have hnI : ¬ ((0 : Int) < n) := by omega
          go_wp2
          go_ret
          exact ⟨ret_int HOC.out.symm, HB.out⟩
end Go.Proofs.Ytgbnoljmmenlbaa
