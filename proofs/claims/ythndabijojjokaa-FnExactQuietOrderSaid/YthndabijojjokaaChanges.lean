import Derived.Test.YthndabijojjokaaTests
namespace Go.Proofs.Ythndabijojjokaa
open Go.RowKit

/-! ## l7Changes; ChangesOf -/
theorem l2Digit_from (w0 : World) (d : Int) (w : World) (h : inB d 0 9 = true) (hB : Below w0.heap.size w0 w) :
    Calls Try.prog 24 #[.int .i64 d] w fun e w' => e = .returned (.int .i64 (digitC d)) ∧ Below w0.heap.size w0 w' :=
  (l2Digit_any d w h).mono fun _ _ ⟨he, hb⟩ => ⟨he, hB.trans (hb.mono hB.size)⟩
set_option maxRecDepth 100000 in
set_option maxHeartbeats 4000000 in
theorem l7Changes_any (v1 : Value) (xs : List Int) (w : World) (h1 : Ints w v1 xs) (hl : xs.length ≤ 1048576) (hd : ∀ i, i < xs.length → dig9 (xs.getD i 0) = true) :
    Calls Try.prog 12 #[v1] w fun e w' => e = .returned (.int .i64 (dchF xs)) ∧ Below w.heap.size w w' := by
  obtain ⟨n, ao1, cap1, b1, o1, HN, rfl, ha1, hc1, hn1, hm1, HX⟩ := h1.open_
  have HD := hid hd
  rw [HN.out] at hl
  clear h1 hd
  have HF := hid (show dchF xs = dchTo xs (n-1) by rw [← HN.out]; rfl)
  go_enter Try.func12, Try.ntmps12
  go_wp2
  go_loopw [3, 4] (fun ss ii wr => ∃ k : Nat, (k + 1 ≤ n ∨ k = 0) ∧ ii = .int .i64 ((k : Int) + 1) ∧ ss = .int .i64 (dchTo xs k) ∧ Hid (Below w.heap.size w wr)) (fun _ ii _ => n - (intOf ii).toNat)
  case atStart => exact ⟨0, by omega, rfl, rfl, hid (Below.refl _ _)⟩
  case round =>
    obtain ⟨k, hk, rfl, rfl, HB⟩ := hrel
    have hr := dchTo_range xs k
    by_cases hlt : k + 1 < n
    · obtain ⟨rfl, hb1⟩ := ha1 (by omega)
      have hb1r : b1 < wr.heap.size := Nat.lt_of_lt_of_le hb1 HB.out.size
      have e1 : wr.cell? ⟨b1, o1+k, none⟩ = some (.int .i64 (xs.getD k 0)) := (HB.out.cell (by exact hb1)).trans (hc1 k (by omega))
      have e2 : wr.cell? ⟨b1, o1+(k+1), none⟩ = some (.int .i64 (xs.getD (k+1) 0)) := (HB.out.cell (by exact hb1)).trans (hc1 (k+1) (by omega))
      have HST := hid (show dchTo xs (k+1) = dchTo xs k + farI (digitC (xs.getD k 0)) (digitC (xs.getD (k+1) 0)) from rfl)
      have hd1 : inB (xs.getD k 0) 0 9 = true := HD.out k (by rw [HN.out]; omega)
      have hd2 : inB (xs.getD (k+1) 0) 0 9 = true := HD.out (k+1) (by rw [HN.out]; omega)
      generalize xs.getD k 0 = x at *
      generalize xs.getD (k+1) 0 = y at *
      have hX := digitC_range hd1
      have hY := digitC_range hd2
      have hfr := farI_range (digitC x) (digitC y)
      have HD1 := hid hd1
      have HD2 := hid hd2
      clear hc1 ha1 hd1 hd2
      have hi0 : (0 : Int) ≤ (k : Int) + 1 := by omega
      have hi1 : (k : Int) + 1 < n := by omega
      have hi2 : ((k : Int) + 1).toNat = k + 1 := by omega
      have hi3 : (k : Int) + 1 - 1 = k := by omega
      have hk0 : (0 : Int) ≤ k := by omega
      have hk1 : (k : Int) < n := by omega
      have hw1 : IntKind.i64.wrap ((k : Int) + 1 - 1) = k := by rw [hi3]; exact IntWalk.i64_in _ (by omega)
      have hw2 : IntKind.i64.wrap (dchTo xs k + farI (digitC x) (digitC y)) = dchTo xs k + farI (digitC x) (digitC y) := IntWalk.i64_in _ (by omega)
      have hw3 : IntKind.i64.wrap (k : Int) = k := IntWalk.i64_in _ (by omega)
      have hbr : Below wr.heap.size wr wr.drew := (Below.refl _ _).drew
      go_wp2
      go_region_held3 (fun w' => w'.cell? ⟨b1, o1+k, none⟩ = some (.int .i64 x) ∧ w'.cell? ⟨b1, o1+(k+1), none⟩ = some (.int .i64 y) ∧ Below wr.heap.size wr w') (first | exact ⟨(hb'.cell (by exact hb1r)).trans e1, (hb'.cell (by exact hb1r)).trans e2, hb'⟩ | exact ⟨e1, e2, hbr⟩ | go_keep)
        (first
          | (go_at_call 24; refine (l2Digit_from wr _ _ (by first | exact HD1.out | exact HD2.out) (by assumption)).mono ?_; rintro e w' ⟨rfl, hb'⟩)
          | (go_at_call 23; refine (l2Far_any _ _ _ hX hY).mono ?_; rintro e w' ⟨rfl, rfl⟩))
      all_goals
        have HBF := hid (HB.out.trans (hb'.mono HB.out.size))
        clear hw1 hw2 hw3 hi3 hb' hbr e1 e2
        go_wp2
        go_roundw
        case rel => exact ⟨k+1, by omega, by go_num, int_eq HST.out.symm, HBF⟩
        case measure => simp [intOf]; omega
    · have hkn : k = n - 1 := by omega
      have hnot : ¬ ((k : Int) + 1 < n) := by omega
      go_wp2
      go_ret
      exact ⟨ret_int (by rw [HF.out, ← hkn]), HB.out⟩

def changesR (xs : List Int) : Int × Bool := if testB xs then (dchF xs, true) else (0, false)
theorem changesR_no {xs : List Int} (h : testB xs = false) : changesR xs = (0, false) := by simp [changesR, h]
theorem changesR_yes {xs : List Int} (h : testB xs = true) : changesR xs = (dchF xs, true) := by simp [changesR, h]



end Go.Proofs.Ythndabijojjokaa
