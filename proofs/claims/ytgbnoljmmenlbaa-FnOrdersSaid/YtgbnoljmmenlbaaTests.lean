import Derived.Test.YtgbnoljmmenlbaaTable
import Derived.Test.YtgbnoljmmenlbaaAllI
import Derived.Deep.RegionHeld3
import Derived.Laws.CopyOwn
namespace Go.Proofs.Ytgbnoljmmenlbaa
open Go.RowKit

/-! ## isTest, l7Test; digitChanges, l7Changes; ChangesOf -/
def dig9 (c : Int) : Bool := inB c 0 9
def testB (xs : List Int) : Bool := decide (xs.length ≤ 10) && xs.all dig9
theorem testB_long {xs : List Int} (h : ¬ xs.length ≤ 10) : testB xs = false := by simp [testB]; intro h'; omega
theorem testB_short {xs : List Int} (h : xs.length ≤ 10) : testB xs = xs.all dig9 := by simp [testB, h]
theorem testB_bad {xs : List Int} {i : Nat} (hi : i < xs.length) (h : dig9 (xs.getD i 0) = false) : testB xs = false := by
  have : xs.all dig9 = false := by
    rw [List.all_eq_false]
    refine ⟨xs[i], List.getElem_mem hi, ?_⟩
    have e : xs.getD i 0 = xs[i] := by simp [List.getD, hi]
    rw [e] at h
    simp [h]
  simp [testB, this]
theorem testB_all {xs : List Int} (h : xs.length ≤ 10) (h' : ∀ i, i < xs.length → dig9 (xs.getD i 0) = true) : testB xs = true := by
  rw [testB_short h, List.all_eq_true]
  intro x hx
  obtain ⟨i, hi, rfl⟩ := List.mem_iff_getElem.1 hx
  have := h' i hi
  have e : xs.getD i 0 = xs[i] := by simp [List.getD, hi]
  rwa [e] at this
theorem testB_true {xs : List Int} (h : testB xs = true) : xs.length ≤ 10 ∧ ∀ i, i < xs.length → dig9 (xs.getD i 0) = true := by
  simp only [testB, Bool.and_eq_true, decide_eq_true_eq, List.all_eq_true] at h
  refine ⟨h.1, fun i hi => ?_⟩
  have e : xs.getD i 0 = xs[i] := by simp [List.getD, hi]
  rw [e]
  exact h.2 _ (List.getElem_mem hi)



/-- The changes from each digit to the next one, over the first k steps. -/
def dchTo (xs : List Int) : Nat → Int
  | 0 => 0
  | k+1 => dchTo xs k + farI (digitC (xs.getD k 0)) (digitC (xs.getD (k+1) 0))
theorem dchTo_range (xs : List Int) : ∀ k, 0 ≤ dchTo xs k ∧ dchTo xs k ≤ 7 * k
  | 0 => by simp [dchTo]
  | k+1 => by
    have h := dchTo_range xs k
    have h1 := farI_range (digitC (xs.getD k 0)) (digitC (xs.getD (k+1) 0))
    simp only [dchTo]
    omega
def dchF (xs : List Int) : Int := dchTo xs (xs.length - 1)
theorem nat_digit {x : Int} (h : dig9 x = true) : ∃ p : Nat, x = p ∧ p < 10 := by
  have := inB_true h
  exact ⟨x.toNat, by omega, by omega⟩

set_option maxRecDepth 100000 in
set_option maxHeartbeats 4000000 in
theorem digitChanges_any (v1 : Value) (xs : List Int) (w : World) (h1 : Ints w v1 xs) (hl : xs.length ≤ 1048576) (hd : ∀ i, i < xs.length → dig9 (xs.getD i 0) = true) :
    Calls Try.prog 26 #[v1] w fun e w' => e = .returned (.int .i64 (dchF xs)) ∧ Below w.heap.size w w' := by
  obtain ⟨n, ao1, cap1, b1, o1, HN, rfl, ha1, hc1, hn1, hm1, HX⟩ := h1.open_
  have HD := hid hd
  rw [HN.out] at hl
  clear h1 hd
  have HF := hid (show dchF xs = dchTo xs (n-1) by rw [← HN.out]; rfl)
  obtain ⟨hz, hs⟩ := zero_of_info infoTab
  obtain ⟨T0, hT0⟩ : ∃ T0, tabArr 0 = T0 := ⟨_, rfl⟩
  rw [hT0] at hz
  have HT0 := hid hT0
  have HS1 := hid (show (Try.prog.info? 33).map (·.size) = some (tabArr 100).size by rw [hs, size_tabArr])
  have HOLD := hid (show T0.size = (tabArr 100).size by rw [← HT0.out, size_tabArr, size_tabArr])
  have HONE := hid (tabArr_one 100)
  have HTAB : Hid (∀ p q : Nat, p < 10 → q < 10 → (tabArr 100)[p * 10 + q]? = some (.int .i64 (farI (digitC (p : Int)) (digitC (q : Int))))) := hid fun p q hp hq => by
    rw [tabArr_get _ _ (by omega), if_pos (by omega), tabAt_at hp hq]
  clear hT0 hs
  go_enter Try.func26, Try.ntmps26
  go_wp2_with fail
  refine (ChangeTable_any _).mono ?_
  rintro e w1 ⟨rfl, hb⟩
  unfold tabAgg
  have HK1 := hid (heap_alloc_last w1 (.cells T0 33))
  have HB1 := hid (below_setRow (hb.alloc hb.size (.cells T0 33)) (g := w1.heap.size) hb.size (tabArr 100))
  have HK2 : Hid (TBlk ((w1.alloc (.cells T0 33)).setRow w1.heap.size (tabArr 100)) w1.heap.size 33 (tabArr 100)) := hid (setRow_heap _ w1.heap.size T0 (tabArr 100) 33 (0, 0) HK1.out)
  clear hb
  generalize tabArr 100 = T1 at *
  go_wp2_with (refine wpList_store_row rfl 33 (.tmp 3) (.tmp 6) rfl w1.heap.size T1 rfl rfl 33 T0 HK1.out HS1.out HOLD.out HONE.out ?_)
  generalize (w1.alloc (.cells T0 33)).setRow w1.heap.size T1 = ws at *
  generalize w1.heap.size = b3 at *
  go_loopw [4, 5] (fun ss ii wr => ∃ k m : Nat, (k + 1 ≤ n ∨ k = 0) ∧ ii = .int .i64 ((k : Int) + 1) ∧ ss = .int .i64 (dchTo xs k) ∧ wr = ws.drewN m) (fun _ ii _ => n - (intOf ii).toNat)
  case atStart => exact ⟨0, 0, by omega, rfl, rfl, rfl⟩
  case round =>
    obtain ⟨k, m, hk, rfl, rfl, rfl⟩ := hrel
    have hr := dchTo_range xs k
    by_cases hlt : k + 1 < n
    · obtain ⟨rfl, hb1⟩ := ha1 (by omega)
      have e1 : ws.cell? ⟨b1, o1+k, none⟩ = some (.int .i64 (xs.getD k 0)) := (HB1.out.cell (by exact hb1)).trans (hc1 k (by omega))
      have e2 : ws.cell? ⟨b1, o1+(k+1), none⟩ = some (.int .i64 (xs.getD (k+1) 0)) := (HB1.out.cell (by exact hb1)).trans (hc1 (k+1) (by omega))
      have HST := hid (show dchTo xs (k+1) = dchTo xs k + farI (digitC (xs.getD k 0)) (digitC (xs.getD (k+1) 0)) from rfl)
      obtain ⟨p, hp, hp10⟩ := nat_digit (HD.out k (by rw [HN.out]; omega))
      obtain ⟨q, hq, hq10⟩ := nat_digit (HD.out (k+1) (by rw [HN.out]; omega))
      rw [hp, hq] at HST
      rw [hp] at e1
      rw [hq] at e2
      have e3 := (HK2.out.cell (p * 10 + q)).trans (HTAB.out p q hp10 hq10)
      have hfr := farI_range (digitC (p : Int)) (digitC (q : Int))
      generalize farI (digitC (p : Int)) (digitC (q : Int)) = f at *
      clear hp hq hc1 ha1
      have hi0 : (0 : Int) ≤ (k : Int) + 1 := by omega
      have hi1 : (k : Int) + 1 < n := by omega
      have hi2 : ((k : Int) + 1).toNat = k + 1 := by omega
      have hi3 : (k : Int) + 1 - 1 = k := by omega
      have hk0 : (0 : Int) ≤ k := by omega
      have hk1 : (k : Int) < n := by omega
      have hp0 : (0 : Int) ≤ p := by omega
      have hp1 : (p : Int) < 10 := by omega
      have hq0 : (0 : Int) ≤ q := by omega
      have hq1 : (q : Int) < 10 := by omega
      have hw1 : IntKind.i64.wrap ((k : Int) + 1 - 1) = k := by rw [hi3]; exact IntWalk.i64_in _ (by omega)
      have hw2 : IntKind.i64.wrap (dchTo xs k + f) = dchTo xs k + f := IntWalk.i64_in _ (by omega)
      have hw3 : IntKind.i64.wrap (k : Int) = k := IntWalk.i64_in _ (by omega)
      go_wp2
      go_quiet (fail)
      clear hw1 hw2 hw3 hi3
      go_wp2
      go_roundw
      case rel => exact ⟨k+1, m + nq, by omega, by go_num, int_eq HST.out.symm, by simp⟩
      case measure => simp [intOf]; omega
    · have hkn : k = n - 1 := by omega
      have hnot : ¬ ((k : Int) + 1 < n) := by omega
      go_wp2
      go_ret
      exact ⟨ret_int (by rw [HF.out, ← hkn]), below_drewN HB1.out m⟩

end Go.Proofs.Ytgbnoljmmenlbaa
