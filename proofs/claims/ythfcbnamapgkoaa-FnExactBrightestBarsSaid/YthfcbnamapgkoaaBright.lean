import Derived.Test.YthfcbnamapgkoaaDutyOf
namespace Go.Proofs.Ythfcbnamapgkoaa
open Go.RowKit

/-! ## BrightestBars -/
def mostTo (D : List Int) : Nat → Int
  | 0 => 0
  | t+1 => if 0 < D.getD t 0 then (if mostTo D t < D.getD t 0 then D.getD t 0 else mostTo D t) else mostTo D t
def leastTo (D : List Int) : Nat → Int
  | 0 => 0
  | t+1 => if 0 < D.getD t 0 then (if leastTo D t = 0 ∨ D.getD t 0 < leastTo D t then D.getD t 0 else leastTo D t) else leastTo D t
def lz (l : Int) : Int := if l = 0 then 13 else l
theorem mostTo_range {D : List Int} (h : ∀ p, 0 ≤ D.getD p 0 ∧ D.getD p 0 ≤ 12) : ∀ t, (0 ≤ mostTo D t ∧ mostTo D t ≤ 12) ∧ (0 ≤ leastTo D t ∧ leastTo D t ≤ 12) ∧ (mostTo D t = 0 ↔ leastTo D t = 0)
  | 0 => by simp [mostTo, leastTo]
  | t+1 => by
    have h1 := mostTo_range h t
    have h2 := h t
    simp only [mostTo, leastTo]
    split
    · split <;> split <;> omega
    · exact h1
theorem mostTo_yes {D : List Int} {t : Nat} (h : 0 < D.getD t 0) : mostTo D (t+1) = (if D.getD t 0 > mostTo D t then D.getD t 0 else mostTo D t) := by rw [mostTo, if_pos h]
theorem leastTo_yes {D : List Int} {t : Nat} (h : 0 < D.getD t 0) : leastTo D (t+1) = (if leastTo D t = 0 ∨ D.getD t 0 < leastTo D t then D.getD t 0 else leastTo D t) := by rw [leastTo, if_pos h]
theorem mostTo_no {D : List Int} {t : Nat} (h : ¬ 0 < D.getD t 0) : mostTo D (t+1) = mostTo D t := by rw [mostTo, if_neg h]
theorem leastTo_no {D : List Int} {t : Nat} (h : ¬ 0 < D.getD t 0) : leastTo D (t+1) = leastTo D t := by rw [leastTo, if_neg h]
theorem lz_step {z l : Int} (hz : 0 < z) (hz' : z ≤ 12) : (if z < lz l then z else lz l) = lz (if l = 0 ∨ z < l then z else l) := by
  unfold lz
  repeat' split
  all_goals omega
theorem lz_range {l : Int} (hl : 0 ≤ l ∧ l ≤ 12) : 1 ≤ lz l ∧ lz l ≤ 13 := by
  unfold lz
  split <;> omega

theorem dutyF_range {xs : List (Int × Int)} (hin : slotsIn xs) (hl : xs.length ≤ 12) {k : Nat} (hk : k ≤ 6) (p : Nat) : 0 ≤ (dutyF xs k).getD p 0 ∧ (dutyF xs k).getD p 0 ≤ 12 := by
  by_cases hp : p < 7 * k
  · have : (dutyF xs k).getD p 0 = dutyT xs p xs.length := by simp [dutyF, List.getD, hp]
    rw [this]
    have := dutyT_range hin (p := p) (by omega) xs.length (Nat.le_refl _)
    omega
  · rw [List.getD, List.getElem?_eq_none (by rw [length_dutyF]; omega)]
    simp

def brightR (k : Int) (xs : List (Int × Int)) : Int × Int × Bool :=
  if drivenB k xs then (mostTo (dutyF xs k.toNat) (7 * k.toNat), leastTo (dutyF xs k.toNat) (7 * k.toNat), decide (mostTo (dutyF xs k.toNat) (7 * k.toNat) > 0)) else (0, 0, false)
theorem brightR_no {k : Int} {xs : List (Int × Int)} (h : drivenB k xs = false) : brightR k xs = (0, 0, false) := by simp [brightR, h]
theorem brightR_yes {j : Nat} {xs : List (Int × Int)} (h : drivenB j xs = true) : brightR j xs = (mostTo (dutyF xs j) (7 * j), leastTo (dutyF xs j) (7 * j), decide (mostTo (dutyF xs j) (7 * j) > 0)) := by simp [brightR, h]

theorem l1Most_any (a b : Int) (w : World) : Calls Try.prog 80 #[.int .i64 a, .int .i64 b] w fun e w' => e = .returned (.int .i64 (if b > a then b else a)) ∧ w = w' := by
  by_cases h : b < a
  · go_enter Try.func80, Try.ntmps80
    go_wp2
    go_ret
    exact ⟨ret_int (by first | rfl | (split <;> omega)), rfl⟩
  by_cases h' : a < b
  · go_enter Try.func80, Try.ntmps80
    go_wp2
    go_ret
    exact ⟨ret_int (by first | rfl | (split <;> omega)), rfl⟩
  · obtain rfl : a = b := by omega
    go_enter Try.func80, Try.ntmps80
    go_wp2
    go_ret
    exact ⟨ret_int (by first | rfl | (split <;> omega)), rfl⟩

theorem run_index7 (F : Nat → Int) {j : Nat} (h : j < 7) (w : World) : (Instr.index 74 (.agg #[.int .i64 (F 0), .int .i64 (F 1), .int .i64 (F 2), .int .i64 (F 3), .int .i64 (F 4), .int .i64 (F 5), .int .i64 (F 6)]) (.int .i64 j)).run Try.prog w = .ok (.int .i64 (F j)) w := by
  rcases (show j = 0 ∨ j = 1 ∨ j = 2 ∨ j = 3 ∨ j = 4 ∨ j = 5 ∨ j = 6 by omega) with rfl | rfl | rfl | rfl | rfl | rfl | rfl
  all_goals kernel_rfl

set_option maxHeartbeats 4000000 in
theorem specBrightestBars_any (k : Int) (v1 : Value) (xs : List (Int × Int)) (w : World) (h1 : Two w v1 xs) :
    Calls Try.prog 45 #[.int .i64 k, v1] w fun e w' => e = .returned (.tuple #[.int .i64 (brightR k xs).1, .int .i64 (brightR k xs).2.1, .bool (brightR k xs).2.2]) ∧ Below w.heap.size w w' := by
  have HX := hid h1
  cases hs : drivenB k xs with
  | false =>
    rw [brightR_no hs]
    go_enter Try.func45, Try.ntmps45
    go_wp2_with (go_at_call 73; refine (l8Good_any _ _ xs _ HX.out).mono ?_; rintro e w1 ⟨rfl, hb⟩)
    go_ret3
    exact ⟨rfl, hb⟩
  | true =>
  obtain ⟨q, rfl, hq1, hq6⟩ := kNat (drivenB_true hs).1
  have hl := (frameB_true (drivenB_true hs).2).1
  have HIN := hid (slotsIn_of hq6 (drivenB_true hs).2)
  have HR := hid (fun p => dutyF_range HIN.out hl hq6 p)
  rw [brightR_yes hs]
  obtain ⟨D, hD⟩ : ∃ D, dutyF xs q = D := ⟨_, rfl⟩
  have hDl : D.length = 7 * q := by rw [← hD, length_dutyF]
  rw [hD] at HR ⊢
  have HRT := hid (fun t => mostTo_range HR.out t)
  have HDD := hid hD
  clear hD
  go_enter Try.func45, Try.ntmps45
  go_wp2_with (first | (go_at_call 73; refine (l8Good_any _ _ xs _ HX.out).mono ?_; rintro e w1 ⟨rfl, hb⟩; have HX1 := hid (HX.out.later hb)) | (go_at_call 77; refine (l8Duty_any q _ xs _ HX1.out hq6 hl HIN.out).mono ?_; rintro e w2 ⟨v2, rfl, ho2, hb2⟩; rw [HDD.out] at ho2; have HD := hid ho2; clear ho2))
  have hbel := hb.trans (hb2.mono hb.size)
  obtain ⟨n, ao, cap, b1, o1, hln, rfl, ha1, hc1, hn1, hm1⟩ := HD.out.sevens
  have hnq : n = q := by omega
  subst hnq
  obtain ⟨rfl, hb1⟩ := ha1 (by omega)
  clear HD ha1 hln HDD
  go_loopw [7, 8, 10, 11, 12] (fun mm ll jj _ _ wr => ∃ j : Nat, j ≤ n ∧ jj = .int .i64 j ∧ mm = .int .i64 (mostTo D (j*7)) ∧ ll = .int .i64 (leastTo D (j*7)) ∧ wr = w2) (fun _ _ jj _ _ _ => n - (intOf jj).toNat)
  case atStart => exact ⟨0, by omega, rfl, rfl, rfl, rfl⟩
  case round =>
    obtain ⟨j, hj, rfl, rfl, rfl, rfl⟩ := hrel
    by_cases hjk : j < n
    · go_wp2
      go_loopw [7, 8, 11, 12] (fun mm ll yy _ wq => ∃ y : Nat, y ≤ 7 ∧ yy = .int .i64 y ∧ mm = .int .i64 (mostTo D (j*7+y)) ∧ ll = .int .i64 (leastTo D (j*7+y)) ∧ wq = wr) (fun _ _ yy _ _ => 7 - (intOf yy).toNat)
      case atStart => exact ⟨0, by omega, rfl, rfl, rfl, rfl⟩
      case round =>
        obtain ⟨y, hy, rfl, rfl, rfl, rfl⟩ := hrel
        by_cases hy7 : y < 7
        · have e1 : wr.cell? ⟨b1, o1+j*7+y, none⟩ = some (.int .i64 (D.getD (j*7+y) 0)) := by rw [Nat.add_assoc]; exact hc1 (j*7+y) (by omega)
          have hr := HR.out (j*7+y)
          have hrt := HRT.out (j*7+y)
          have HM1 := hid (mostTo_yes (D := D) (t := j*7+y))
          have HM2 := hid (leastTo_yes (D := D) (t := j*7+y))
          have HM3 := hid (mostTo_no (D := D) (t := j*7+y))
          have HM4 := hid (leastTo_no (D := D) (t := j*7+y))
          generalize D.getD (j*7+y) 0 = z at e1 hr HM1 HM2 HM3 HM4
          generalize mostTo D (j*7+y) = m at hrt HM1 HM3 ⊢
          generalize leastTo D (j*7+y) = l at hrt HM2 HM4 ⊢
          have hj0 : (0 : Int) ≤ j := by omega
          have hjk' : (j : Int) < n := by omega
          have hy0 : (0 : Int) ≤ y := by omega
          have hy7' : (y : Int) < 7 := by omega
          by_cases hz : 0 < z
          · have HM1' := hid (HM1.out hz)
            have HM2' := hid (HM2.out hz)
            by_cases hl0 : l = 0
            · have hb0 : (l == 0) = true := by simpa using hl0
              go_wp2_with (go_at_call 80; refine (l1Most_any _ _ _).mono ?_; rintro e w' ⟨rfl, rfl⟩)
              go_roundw
              case rel => exact ⟨y+1, by omega, by go_num, int_eq (HM1'.out.symm), int_eq (by rw [show j*7+(y+1) = j*7+y+1 by omega, HM2'.out, if_pos (Or.inl hl0)]), by first | rfl | trivial⟩
              case measure => simp [intOf]; omega
            · have hb0 : (l == 0) = false := by simpa using hl0
              by_cases hzl : z < l
              · go_wp2_with (go_at_call 80; refine (l1Most_any _ _ _).mono ?_; rintro e w' ⟨rfl, rfl⟩)
                go_roundw
                case rel => exact ⟨y+1, by omega, by go_num, int_eq (HM1'.out.symm), int_eq (by rw [show j*7+(y+1) = j*7+y+1 by omega, HM2'.out, if_pos (Or.inr hzl)]), by first | rfl | trivial⟩
                case measure => simp [intOf]; omega
              · go_wp2_with (go_at_call 80; refine (l1Most_any _ _ _).mono ?_; rintro e w' ⟨rfl, rfl⟩)
                go_roundw
                case rel => exact ⟨y+1, by omega, by go_num, int_eq (HM1'.out.symm), int_eq (by rw [show j*7+(y+1) = j*7+y+1 by omega, HM2'.out, if_neg (by omega)]), by first | rfl | trivial⟩
                case measure => simp [intOf]; omega
          · have HM1' := hid (HM3.out hz)
            have HM2' := hid (HM4.out hz)
            go_wp2
            go_roundw
            case rel => exact ⟨y+1, by omega, by go_num, int_eq (HM1'.out.symm), int_eq (HM2'.out.symm), by first | rfl | trivial⟩
            case measure => simp [intOf]; omega
        · go_wp2
          go_roundw
          case rel => exact ⟨j+1, by omega, by go_num, int_eq (by rw [show j*7+y = (j+1)*7 by omega]), int_eq (by rw [show j*7+y = (j+1)*7 by omega]), by first | rfl | trivial⟩
          case measure => simp [intOf]; omega
    · go_wp2
      go_ret3
      exact ⟨by rw [show j*7 = 7*n by omega]; rfl, hbel⟩

set_option maxHeartbeats 4000000 in
theorem implBrightestBars_any (k : Int) (v1 : Value) (xs : List (Int × Int)) (w : World) (h1 : Two w v1 xs) :
    Calls Try.prog 46 #[.int .i64 k, v1] w fun e w' => e = .returned (.tuple #[.int .i64 (brightR k xs).1, .int .i64 (brightR k xs).2.1, .bool (brightR k xs).2.2]) ∧ Below w.heap.size w w' := by
  have HX := hid h1
  cases hs : drivenB k xs with
  | false =>
    rw [brightR_no hs]
    go_enter Try.func46, Try.ntmps46
    go_wp2_with (go_at_call 74; refine (isDriven_any _ _ xs _ HX.out).mono ?_; rintro e w1 ⟨rfl, hb⟩)
    go_ret3
    exact ⟨rfl, hb⟩
  | true =>
  obtain ⟨q, rfl, hq1, hq6⟩ := kNat (drivenB_true hs).1
  have hl := (frameB_true (drivenB_true hs).2).1
  have HIN := hid (slotsIn_of hq6 (drivenB_true hs).2)
  have HR := hid (fun p => dutyF_range HIN.out hl hq6 p)
  rw [brightR_yes hs]
  obtain ⟨D, hD⟩ : ∃ D, dutyF xs q = D := ⟨_, rfl⟩
  have hDl : D.length = 7 * q := by rw [← hD, length_dutyF]
  rw [hD] at HR ⊢
  have HRT := hid (fun t => mostTo_range HR.out t)
  have HDD := hid hD
  clear hD
  go_enter Try.func46, Try.ntmps46
  go_wp2_with (first | (go_at_call 74; refine (isDriven_any _ _ xs _ HX.out).mono ?_; rintro e w1 ⟨rfl, hb⟩; have HX1 := hid (HX.out.later hb)) | (go_at_call 78; refine (duty_any q _ xs _ HX1.out hq6 hl HIN.out).mono ?_; rintro e w2 ⟨v2, rfl, ho2, hb2⟩; rw [HDD.out] at ho2; have HD := hid ho2; clear ho2; obtain ⟨n, ao, cap, b1, o1, hln, rfl, ha1, hc1, hn1, hm1⟩ := HD.out.sevens))
  have hbel := hb.trans (hb2.mono hb.size)
  have hnq : n = q := by omega
  subst hnq
  obtain ⟨rfl, hb1⟩ := ha1 (by omega)
  clear HD ha1 hln HDD
  go_loopw [7, 8, 10, 12, 21, 26] (fun mm ll _ _ jj _ wr => ∃ j : Nat, j ≤ n ∧ jj = .int .i64 j ∧ mm = .int .i64 (mostTo D (j*7)) ∧ ll = .int .i64 (lz (leastTo D (j*7))) ∧ Below w2.heap.size w2 wr) (fun _ _ _ _ jj _ _ => n - (intOf jj).toNat)
  case atStart => exact ⟨0, by omega, rfl, rfl, rfl, Below.refl _ _⟩
  case round =>
    obtain ⟨j, hj, rfl, rfl, rfl, hbel2⟩ := hrel
    by_cases hjk : j < n
    · obtain ⟨F, hF⟩ : ∃ F : Nat → Int, (fun y => D.getD (j*7+y) 0) = F := ⟨_, rfl⟩
      have HF : Hid (∀ y, y < 7 → w2.cell? ⟨b1, o1+j*7+y, none⟩ = some (.int .i64 (F y))) := hid (fun y hy => by rw [← hF, Nat.add_assoc]; exact hc1 (j*7+y) (by omega))
      have HFE := hid hF
      clear hF
      have e0 : wr.cell? ⟨b1, o1+j*7, none⟩ = some (.int .i64 (F 0)) := (hbel2.cell (by exact hb1)).trans (HF.out 0 (by omega))
      have e1 : wr.cell? ⟨b1, o1+j*7+1, none⟩ = some (.int .i64 (F 1)) := (hbel2.cell (by exact hb1)).trans (HF.out 1 (by omega))
      have e2 : wr.cell? ⟨b1, o1+j*7+2, none⟩ = some (.int .i64 (F 2)) := (hbel2.cell (by exact hb1)).trans (HF.out 2 (by omega))
      have e3 : wr.cell? ⟨b1, o1+j*7+3, none⟩ = some (.int .i64 (F 3)) := (hbel2.cell (by exact hb1)).trans (HF.out 3 (by omega))
      have e4 : wr.cell? ⟨b1, o1+j*7+4, none⟩ = some (.int .i64 (F 4)) := (hbel2.cell (by exact hb1)).trans (HF.out 4 (by omega))
      have e5 : wr.cell? ⟨b1, o1+j*7+5, none⟩ = some (.int .i64 (F 5)) := (hbel2.cell (by exact hb1)).trans (HF.out 5 (by omega))
      have e6 : wr.cell? ⟨b1, o1+j*7+6, none⟩ = some (.int .i64 (F 6)) := (hbel2.cell (by exact hb1)).trans (HF.out 6 (by omega))
      have p0 : (wr.alloc (.cells #[.int .i64 (F 0), .int .i64 (F 1), .int .i64 (F 2), .int .i64 (F 3), .int .i64 (F 4), .int .i64 (F 5), .int .i64 (F 6)] 74)).cell? ⟨wr.heap.size, 0, none⟩ = some (.int .i64 (F 0)) := by simp [go_sem]
      have p1 : (wr.alloc (.cells #[.int .i64 (F 0), .int .i64 (F 1), .int .i64 (F 2), .int .i64 (F 3), .int .i64 (F 4), .int .i64 (F 5), .int .i64 (F 6)] 74)).cell? ⟨wr.heap.size, 1, none⟩ = some (.int .i64 (F 1)) := by simp [go_sem]
      have p2 : (wr.alloc (.cells #[.int .i64 (F 0), .int .i64 (F 1), .int .i64 (F 2), .int .i64 (F 3), .int .i64 (F 4), .int .i64 (F 5), .int .i64 (F 6)] 74)).cell? ⟨wr.heap.size, 2, none⟩ = some (.int .i64 (F 2)) := by simp [go_sem]
      have p3 : (wr.alloc (.cells #[.int .i64 (F 0), .int .i64 (F 1), .int .i64 (F 2), .int .i64 (F 3), .int .i64 (F 4), .int .i64 (F 5), .int .i64 (F 6)] 74)).cell? ⟨wr.heap.size, 3, none⟩ = some (.int .i64 (F 3)) := by simp [go_sem]
      have p4 : (wr.alloc (.cells #[.int .i64 (F 0), .int .i64 (F 1), .int .i64 (F 2), .int .i64 (F 3), .int .i64 (F 4), .int .i64 (F 5), .int .i64 (F 6)] 74)).cell? ⟨wr.heap.size, 4, none⟩ = some (.int .i64 (F 4)) := by simp [go_sem]
      have p5 : (wr.alloc (.cells #[.int .i64 (F 0), .int .i64 (F 1), .int .i64 (F 2), .int .i64 (F 3), .int .i64 (F 4), .int .i64 (F 5), .int .i64 (F 6)] 74)).cell? ⟨wr.heap.size, 5, none⟩ = some (.int .i64 (F 5)) := by simp [go_sem]
      have p6 : (wr.alloc (.cells #[.int .i64 (F 0), .int .i64 (F 1), .int .i64 (F 2), .int .i64 (F 3), .int .i64 (F 4), .int .i64 (F 5), .int .i64 (F 6)] 74)).cell? ⟨wr.heap.size, 6, none⟩ = some (.int .i64 (F 6)) := by simp [go_sem]
      have hbel3 := hbel2.alloc hbel2.size (.cells #[.int .i64 (F 0), .int .i64 (F 1), .int .i64 (F 2), .int .i64 (F 3), .int .i64 (F 4), .int .i64 (F 5), .int .i64 (F 6)] 74)
      go_wp2
      clear hbel2 e0 e1 e2 e3 e4 e5 e6 p0 p1 p2 p3 p4 p5 p6
      generalize wr.alloc (.cells #[.int .i64 (F 0), .int .i64 (F 1), .int .i64 (F 2), .int .i64 (F 3), .int .i64 (F 4), .int .i64 (F 5), .int .i64 (F 6)] 74) = wi at *
      go_loopw [7, 8, 12, 26] (fun mm ll _ yy wq => ∃ y : Nat, y ≤ 7 ∧ yy = .int .i64 y ∧ mm = .int .i64 (mostTo D (j*7+y)) ∧ ll = .int .i64 (lz (leastTo D (j*7+y))) ∧ wq = wi) (fun _ _ _ yy _ => 7 - (intOf yy).toNat)
      case atStart => exact ⟨0, by omega, rfl, rfl, rfl, rfl⟩
      case round =>
        obtain ⟨y, hy, rfl, rfl, rfl, rfl⟩ := hrel
        by_cases hy7 : y < 7
        · have hidx := fun w => run_index7 F hy7 w
          have hr := HR.out (j*7+y)
          have hrt := HRT.out (j*7+y)
          have HM1 := hid (mostTo_yes (D := D) (t := j*7+y))
          have HM2 := hid (leastTo_yes (D := D) (t := j*7+y))
          have HM3 := hid (mostTo_no (D := D) (t := j*7+y))
          have HM4 := hid (leastTo_no (D := D) (t := j*7+y))
          rw [show D.getD (j*7+y) 0 = F y by rw [← HFE.out]] at hr HM1 HM2 HM3 HM4
          generalize hz' : F y = z at hidx hr HM1 HM2 HM3 HM4
          generalize mostTo D (j*7+y) = m at hrt HM1 HM3 ⊢
          generalize leastTo D (j*7+y) = l at hrt HM2 HM4 ⊢
          have hL := lz_range hrt.2.1
          have HL := hid (fun hz => lz_step (z := z) (l := l) hz hr.2)
          generalize hLL : lz l = L at hL HL ⊢
          have HLL := hid hLL
          clear hLL
          have hy0 : (0 : Int) ≤ y := by omega
          have hy7' : (y : Int) < 7 := by omega
          by_cases hz : 0 < z
          · have HM1' := hid (HM1.out hz)
            have HM2' := hid (HM2.out hz)
            have HL' := hid (HL.out hz)
            go_wp2
            go_roundw
            case rel => exact ⟨y+1, by omega, by go_num, int_eq (HM1'.out.symm), int_eq (by rw [show j*7+(y+1) = j*7+y+1 by omega, HM2'.out, ← HL'.out]), by first | rfl | trivial⟩
            case measure => simp [intOf]; omega
          · have HM1' := hid (HM3.out hz)
            have HM2' := hid (HM4.out hz)
            go_wp2
            go_roundw
            case rel => exact ⟨y+1, by omega, by go_num, int_eq (HM1'.out.symm), int_eq (by rw [show j*7+(y+1) = j*7+y+1 by omega, HM2'.out]; exact HLL.out.symm), by first | rfl | trivial⟩
            case measure => simp [intOf]; omega
        · go_wp2
          go_roundw
          case rel => exact ⟨j+1, by omega, by go_num, int_eq (by rw [show j*7+y = (j+1)*7 by omega]), int_eq (by rw [show j*7+y = (j+1)*7 by omega]), by first | exact hbel3 | trivial⟩
          case measure => simp [intOf]; omega
    · have hrt := HRT.out (j*7)
      have hbel4 := hbel.trans (hbel2.mono hbel.size)
      rw [show j*7 = 7*n by omega] at hrt ⊢
      by_cases hm0 : mostTo D (7*n) = 0
      · have hb0 : (mostTo D (7*n) == 0) = true := by simpa using hm0
        go_wp2
        go_ret3
        exact ⟨by rw [hrt.2.2.1 hm0, hm0]; rfl, hbel4⟩
      · have hb0 : (mostTo D (7*n) == 0) = false := by simpa using hm0
        have hlz : lz (leastTo D (7*n)) = leastTo D (7*n) := by unfold lz; rw [if_neg (fun h => hm0 (hrt.2.2.2 h))]
        rw [hlz]
        have hmp : decide (mostTo D (7*n) > 0) = true := by simp; omega
        have HMP := hid hmp
        clear hmp
        go_wp2
        go_ret3
        exact ⟨by rw [HMP.out]; rfl, hbel4⟩

end Go.Proofs.Ythfcbnamapgkoaa
