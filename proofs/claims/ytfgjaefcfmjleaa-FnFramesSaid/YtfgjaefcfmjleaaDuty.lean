import Derived.Test.YtfgjaefcfmjleaaSev
import Derived.Test.YtfgjaefcfmjleaaSwitches
namespace Go.Proofs.Ytfgjaefcfmjleaa
open Go.RowKit

/-! ## duty, l8Duty -/
def dutyT (xs : List (Int × Int)) (p : Nat) : Nat → Int
  | 0 => 0
  | i+1 => dutyT xs p i + bitI (xs.getD i (0,0)).1 (p/7) * bitI (xs.getD i (0,0)).2 (p%7)
def dutyF (xs : List (Int × Int)) (k : Nat) : List Int := (List.range (7*k)).map fun p => dutyT xs p xs.length
theorem length_dutyF (xs : List (Int × Int)) (k : Nat) : (dutyF xs k).length = 7 * k := by simp [dutyF]
theorem dutyT_start (xs : List (Int × Int)) (k : Nat) : stepRow (dutyT xs) k 0 0 = List.replicate k 0 := by
  rw [stepRow_zero]
  apply List.ext_getElem?
  intro x
  by_cases h : x < k <;> simp [h, dutyT]
theorem dutyT_end (xs : List (Int × Int)) (k : Nat) : stepRow (dutyT xs) (7*k) xs.length 0 = dutyF xs k := by
  rw [stepRow_zero]; rfl
theorem dutyT_step (xs : List (Int × Int)) (x y i : Nat) (hy : y < 7) : dutyT xs (x*7+y) (i+1) = dutyT xs (x*7+y) i + bitI (xs.getD i (0,0)).1 x * bitI (xs.getD i (0,0)).2 y := by
  rw [dutyT, show (x*7+y)/7 = x by omega, show (x*7+y)%7 = y by omega]
theorem bitI_range {c : Int} (h0 : 0 ≤ c) (h1 : c ≤ 127) {k : Nat} (hk : k < 7) : 0 ≤ bitI c k ∧ bitI c k ≤ 1 := bit_range h0 h1 hk
theorem mul01 {a b : Int} (ha : 0 ≤ a ∧ a ≤ 1) (hb : 0 ≤ b ∧ b ≤ 1) : 0 ≤ a * b ∧ a * b ≤ 1 := by
  rcases (show a = 0 ∨ a = 1 by omega) with rfl | rfl <;> simp <;> omega
theorem dutyT_range {xs : List (Int × Int)} (hin : slotsIn xs) {p : Nat} (hp : p < 42) : ∀ i, i ≤ xs.length → 0 ≤ dutyT xs p i ∧ dutyT xs p i ≤ i
  | 0, _ => by simp [dutyT]
  | i+1, h => by
    have h1 := dutyT_range hin hp i (by omega)
    have h2 := hin i (by omega)
    have h3 := mul01 (bitI_range h2.1.1 h2.1.2 (k := p/7) (by omega)) (bitI_range h2.2.1 h2.2.2 (k := p%7) (by omega))
    rw [dutyT]
    omega

set_option maxRecDepth 100000 in
set_option maxHeartbeats 4000000 in
theorem l8Duty_any (k : Nat) (v1 : Value) (xs : List (Int × Int)) (w : World) (h1 : Two w v1 xs) (hk6 : k ≤ 6) (hl : xs.length ≤ 12) (hin : slotsIn xs) :
    Calls Try.prog 200 #[.int .i64 k, v1] w fun e w' => ∃ v, e = .returned v ∧ Own7 w' w.heap.size v (dutyF xs k) ∧ Below w.heap.size w w' := by
  obtain ⟨n, ao1, cap1, b1, o1, HN, rfl, ha1, hc1, hn1, hm1, HX⟩ := h1.open_
  clear h1
  have HIN := hid hin
  clear hin
  rw [HN.out] at hl
  obtain ⟨i0, hi, hz0, hz1, hz2⟩ := info_parts infoSev
  go_enter Try.func200, Try.ntmps200
  go_wp2_with (first | (at_make; refine wpList_make_full _ rfl (.tmp 9) (.tmp 9) 63 rfl w.heap.size 71 i0 (agg7 fun _ => 0) 7 Try.underlying63 hi hz0 hz1 .i64 .i64 k k k rfl rfl rfl rfl (by rw [hz2]; omega) (by unfold maxLen; omega) (Nat.le_refl _) ?_; intro w1 hown hgrow))
  have HO0 := hid (made7 hown)
  have hb1 := Below.of_grown hgrow
  clear hown hgrow
  go_loopw [6, 7, 8] (fun ii _ _ wr => ∃ i : Nat, i ≤ n ∧ ii = .int .i64 i ∧ Hid (Own7 wr w.heap.size (.slice (some ⟨w.heap.size, 0, none⟩) k k) (stepRow (dutyT xs) (7*k) i 0)) ∧ Below w.heap.size w wr) (fun ii _ _ _ => n - (intOf ii).toNat)
  case atStart => exact ⟨0, by omega, rfl, hid (by rw [dutyT_start]; exact HO0.out), hb1⟩
  case round =>
    obtain ⟨i, hi, rfl, HO, hbel⟩ := hrel
    by_cases hlt : i < n
    · obtain ⟨rfl, hb1⟩ := ha1 (by omega)
      have HC1 := hid (hc1 i hlt)
      have hra := HIN.out i (by rw [HN.out]; exact hlt)
      have HSTEP := hid (fun x y hy => dutyT_step xs x y i hy)
      have HRNG := hid (fun p (hp : p < 42) => dutyT_range HIN.out hp i (by rw [HN.out]; omega))
      clear hc1 ha1
      generalize hgc : (xs.getD i (0,0)).1 = c at HSTEP hra
      generalize hgb : (xs.getD i (0,0)).2 = b at HSTEP hra
      have HC : Hid (w.cell? ⟨b1, o1+i*2, none⟩ = some (.int .i64 c) ∧ w.cell? ⟨b1, o1+i*2+1, none⟩ = some (.int .i64 b)) := hid (by rw [← hgc, ← hgb]; exact HC1.out)
      clear hgc hgb HC1
      obtain ⟨wo, rfl⟩ : ∃ wo : World, wo = wr := ⟨_, rfl⟩
      go_wp2
      go_loopw [7, 8] (fun jj _ wr => ∃ j : Nat, j ≤ k ∧ jj = .int .i64 j ∧ Hid (Own7 wr w.heap.size (.slice (some ⟨w.heap.size, 0, none⟩) k k) (stepRow (dutyT xs) (7*k) i (j*7))) ∧ Below w.heap.size w wr) (fun jj _ _ => k - (intOf jj).toNat)
      case atStart => exact ⟨0, by omega, rfl, HO, hbel⟩
      case round =>
        clear hbel HO
        obtain ⟨j, hj, rfl, HO2, hbel2⟩ := hrel
        by_cases hjk : j < k
        · obtain ⟨wo, rfl⟩ : ∃ wo : World, wo = wr := ⟨_, rfl⟩
          go_wp2
          go_loopw [8] (fun yy wr => ∃ y : Nat, y ≤ 7 ∧ yy = .int .i64 y ∧ Hid (Own7 wr w.heap.size (.slice (some ⟨w.heap.size, 0, none⟩) k k) (stepRow (dutyT xs) (7*k) i (j*7+y))) ∧ Below w.heap.size w wr) (fun yy _ => 7 - (intOf yy).toNat)
          case atStart => exact ⟨0, by omega, rfl, HO2, hbel2⟩
          case round =>
            clear hbel2 HO2
            obtain ⟨y, hy, rfl, HO3, hbel3⟩ := hrel
            by_cases hy7 : y < 7
            · have e1 : wr.cell? ⟨b1, o1+i*2, none⟩ = some (.int .i64 c) := (hbel3.cell (by exact hb1)).trans HC.out.1
              have e2 : wr.cell? ⟨b1, o1+i*2+1, none⟩ = some (.int .i64 b) := (hbel3.cell (by exact hb1)).trans HC.out.2
              have hlt' : j*7+y < 7*k := by omega
              have hcA := HO3.out.cell hlt'
              rw [stepRow_get hlt'] at hcA
              have hfA := HO3.out.free (j*7+y)
              have hSt := hid (HSTEP.out j y hy7)
              have hr := HRNG.out (j*7+y) (by omega)
              generalize dutyT xs (j*7+y) i = z at hcA hSt hr
              have hB1 := bitI_range hra.1.1 hra.1.2 (k := j) (by omega)
              have hB2 := bitI_range hra.2.1 hra.2.2 (k := y) hy7
              have hM := mul01 hB1 hB2
              have hj0 : (0 : Int) ≤ j := by omega
              have hjk' : (j : Int) < k := by omega
              have hi0 : (0 : Int) ≤ i := by omega
              have hin' : (i : Int) < n := by omega
              have hy0 : (0 : Int) ≤ y := by omega
              have hy7' : (y : Int) < 7 := by omega
              have hw1 : IntKind.i64.wrap (bits .and .i64 (c / 2 ^ j) 1 * bits .and .i64 (b / 2 ^ y) 1) = bits .and .i64 (c / 2 ^ j) 1 * bits .and .i64 (b / 2 ^ y) 1 := IntWalk.i64_in _ (by unfold bitI at hM; omega)
              have hw2 : IntKind.i64.wrap (z + bits .and .i64 (c / 2 ^ j) 1 * bits .and .i64 (b / 2 ^ y) 1) = z + bits .and .i64 (c / 2 ^ j) 1 * bits .and .i64 (b / 2 ^ y) 1 := IntWalk.i64_in _ (by unfold bitI at hM; omega)
              obtain ⟨hs1, hs2⟩ := (HO3.out.drawn 1).set (j*7+y) (z + bits .and .i64 (c / 2 ^ j) 1 * bits .and .i64 (b / 2 ^ y) 1) (stepRow_set hSt.out.symm)
              have HS := hid hs1
              have HG := hid ((hbel3.drew).setCell (p := ⟨w.heap.size, j*7+y, none⟩) (Nat.le_refl _) (.int .i64 (z + bits .and .i64 (c / 2 ^ j) 1 * bits .and .i64 (b / 2 ^ y) 1)))
              clear hs1 hs2 HO3 hbel3
              go_wp2
              go_still_tail 29, (by kernel_rfl)
              show wpList _ _ _ _ _ wr.drew
              go_wp2
              go_roundw
              case rel => exact ⟨y+1, by omega, by go_num, HS, HG.out⟩
              case measure => simp [intOf]; omega
            · have ho := HO3.out
              rw [show j*7+y = (j+1)*7 by omega] at ho
              have HO4 := hid ho
              clear ho HO3
              go_wp2
              go_roundw
              case rel => exact ⟨j+1, by omega, by go_num, HO4, hbel3⟩
              case measure => simp [intOf]; omega
        · have ho := HO2.out
          rw [show j*7 = 7*k by omega, stepRow_full] at ho
          have HO3 := hid ho
          clear ho HO2
          go_wp2
          go_roundw
          case rel => exact ⟨i+1, by omega, by go_num, HO3, hbel2⟩
          case measure => simp [intOf]; omega
    · have ho := HO.out
      rw [show i = xs.length by rw [HN.out]; omega, dutyT_end] at ho
      have HO3 := hid ho
      clear ho HO
      go_wp2
      go_ret
      exact ⟨_, rfl, HO3.out, hbel⟩

set_option maxRecDepth 100000 in
set_option maxHeartbeats 4000000 in
theorem duty_any (k : Nat) (v1 : Value) (xs : List (Int × Int)) (w : World) (h1 : Two w v1 xs) (hk6 : k ≤ 6) (hl : xs.length ≤ 12) (hin : slotsIn xs) :
    Calls Try.prog 199 #[.int .i64 k, v1] w fun e w' => ∃ v, e = .returned v ∧ Own7 w' w.heap.size v (dutyF xs k) ∧ Below w.heap.size w w' := by
  obtain ⟨n, ao1, cap1, b1, o1, HN, rfl, ha1, hc1, hn1, hm1, HX⟩ := h1.open_
  clear h1
  have HIN := hid hin
  clear hin
  rw [HN.out] at hl
  obtain ⟨i0, hi, hz0, hz1, hz2⟩ := info_parts infoSev
  go_enter Try.func199, Try.ntmps199
  go_wp2_with (first | (at_make; refine wpList_make_full _ rfl (.tmp 10) (.tmp 10) 63 rfl w.heap.size 71 i0 (agg7 fun _ => 0) 7 Try.underlying63 hi hz0 hz1 .i64 .i64 k k k rfl rfl rfl rfl (by rw [hz2]; omega) (by unfold maxLen; omega) (Nat.le_refl _) ?_; intro w1 hown hgrow))
  have HO0 := hid (made7 hown)
  have hb1 := Below.of_grown hgrow
  clear hown hgrow
  go_loopw [7, 8, 9, 14, 20, 23] (fun _ _ _ ii _ _ wr => ∃ i : Nat, i ≤ n ∧ ii = .int .i64 i ∧ Hid (Own7 wr w.heap.size (.slice (some ⟨w.heap.size, 0, none⟩) k k) (stepRow (dutyT xs) (7*k) i 0)) ∧ Below w.heap.size w wr) (fun _ _ _ ii _ _ _ => n - (intOf ii).toNat)
  case atStart => exact ⟨0, by omega, rfl, hid (by rw [dutyT_start]; exact HO0.out), hb1⟩
  case round =>
    obtain ⟨i, hi, rfl, HO, hbel⟩ := hrel
    by_cases hlt : i < n
    · obtain ⟨rfl, hb1⟩ := ha1 (by omega)
      have HC1 := hid (hc1 i hlt)
      have hra := HIN.out i (by rw [HN.out]; exact hlt)
      have HSTEP := hid (fun x y hy => dutyT_step xs x y i hy)
      have HRNG := hid (fun p (hp : p < 42) => dutyT_range HIN.out hp i (by rw [HN.out]; omega))
      clear hc1 ha1
      generalize hgc : (xs.getD i (0,0)).1 = c at HSTEP hra
      generalize hgb : (xs.getD i (0,0)).2 = b at HSTEP hra
      have HC : Hid (w.cell? ⟨b1, o1+i*2, none⟩ = some (.int .i64 c) ∧ w.cell? ⟨b1, o1+i*2+1, none⟩ = some (.int .i64 b)) := hid (by rw [← hgc, ← hgb]; exact HC1.out)
      clear hgc hgb HC1
      obtain ⟨wo, rfl⟩ : ∃ wo : World, wo = wr := ⟨_, rfl⟩
      have e1 : wo.cell? ⟨b1, o1+i*2, none⟩ = some (.int .i64 c) := (hbel.cell (by exact hb1)).trans HC.out.1
      have e2 : wo.cell? ⟨b1, o1+i*2+1, none⟩ = some (.int .i64 b) := (hbel.cell (by exact hb1)).trans HC.out.2
      have hne : 0 < k → w.heap.size ≠ wo.heap.size := fun h0 => (World.new_ne wo _ (HO.out.cell (p := 0) (by omega))).symm
      have HOA := hid (HO.out.alloc (.cells #[.int .i64 c, .int .i64 b] 108))
      have hbelA := hbel.alloc hbel.size (.cells #[.int .i64 c, .int .i64 b] 108)
      have hp1 : (wo.alloc (.cells #[.int .i64 c, .int .i64 b] 108)).cell? ⟨wo.heap.size, 0, none⟩ = some (.int .i64 c) := by simp [go_sem]
      have hp2 : (wo.alloc (.cells #[.int .i64 c, .int .i64 b] 108)).cell? ⟨wo.heap.size, 1, none⟩ = some (.int .i64 b) := by simp [go_sem]
      go_wp2
      clear e1 e2 hbel HO
      generalize wo.alloc (.cells #[.int .i64 c, .int .i64 b] 108) = wi at *
      generalize wo.heap.size = p0 at *
      go_loopw [8, 9, 20, 23] (fun _ _ jj _ wr => ∃ j : Nat, j ≤ k ∧ jj = .int .i64 j ∧ (wr.cell? ⟨p0, 0, none⟩ = some (.int .i64 c) ∧ wr.cell? ⟨p0, 1, none⟩ = some (.int .i64 b)) ∧ Hid (Own7 wr w.heap.size (.slice (some ⟨w.heap.size, 0, none⟩) k k) (stepRow (dutyT xs) (7*k) i (j*7))) ∧ Below w.heap.size w wr) (fun _ _ jj _ _ => k - (intOf jj).toNat)
      case atStart => exact ⟨0, by omega, rfl, ⟨hp1, hp2⟩, HOA, hbelA⟩
      case round =>
        clear hbelA HOA hp1 hp2
        obtain ⟨j, hj, rfl, ⟨hp1, hp2⟩, HO2, hbel2⟩ := hrel
        by_cases hjk : j < k
        · obtain ⟨wo, rfl⟩ : ∃ wo : World, wo = wr := ⟨_, rfl⟩
          go_wp2
          go_loopw [9, 23] (fun _ yy wr => ∃ y : Nat, y ≤ 7 ∧ yy = .int .i64 y ∧ (wr.cell? ⟨p0, 0, none⟩ = some (.int .i64 c) ∧ wr.cell? ⟨p0, 1, none⟩ = some (.int .i64 b)) ∧ Hid (Own7 wr w.heap.size (.slice (some ⟨w.heap.size, 0, none⟩) k k) (stepRow (dutyT xs) (7*k) i (j*7+y))) ∧ Below w.heap.size w wr) (fun _ yy _ => 7 - (intOf yy).toNat)
          case atStart => exact ⟨0, by omega, rfl, ⟨hp1, hp2⟩, HO2, hbel2⟩
          case round =>
            clear hbel2 HO2 hp1 hp2
            obtain ⟨y, hy, rfl, ⟨hp1, hp2⟩, HO3, hbel3⟩ := hrel
            by_cases hy7 : y < 7
            · have hne' := hne (by omega)
              have hlt' : j*7+y < 7*k := by omega
              have hcA := HO3.out.cell hlt'
              rw [stepRow_get hlt'] at hcA
              have hfA := HO3.out.free (j*7+y)
              have hSt := hid (HSTEP.out j y hy7)
              have hr := HRNG.out (j*7+y) (by omega)
              generalize dutyT xs (j*7+y) i = z at hcA hSt hr
              have hB1 := bitI_range hra.1.1 hra.1.2 (k := j) (by omega)
              have hB2 := bitI_range hra.2.1 hra.2.2 (k := y) hy7
              have hM := mul01 hB1 hB2
              have hj0 : (0 : Int) ≤ j := by omega
              have hjk' : (j : Int) < k := by omega
              have hi0 : (0 : Int) ≤ i := by omega
              have hin' : (i : Int) < n := by omega
              have hy0 : (0 : Int) ≤ y := by omega
              have hy7' : (y : Int) < 7 := by omega
              have hw1 : IntKind.i64.wrap (bits .and .i64 (c / 2 ^ j) 1 * bits .and .i64 (b / 2 ^ y) 1) = bits .and .i64 (c / 2 ^ j) 1 * bits .and .i64 (b / 2 ^ y) 1 := IntWalk.i64_in _ (by unfold bitI at hM; omega)
              have hw2 : IntKind.i64.wrap (z + bits .and .i64 (c / 2 ^ j) 1 * bits .and .i64 (b / 2 ^ y) 1) = z + bits .and .i64 (c / 2 ^ j) 1 * bits .and .i64 (b / 2 ^ y) 1 := IntWalk.i64_in _ (by unfold bitI at hM; omega)
              obtain ⟨hs1, hs2⟩ := (HO3.out.drawn 1).set (j*7+y) (z + bits .and .i64 (c / 2 ^ j) 1 * bits .and .i64 (b / 2 ^ y) 1) (stepRow_set hSt.out.symm)
              have HS := hid hs1
              have HG := hid ((hbel3.drew).setCell (p := ⟨w.heap.size, j*7+y, none⟩) (Nat.le_refl _) (.int .i64 (z + bits .and .i64 (c / 2 ^ j) 1 * bits .and .i64 (b / 2 ^ y) 1)))
              have hq1 : (wr.drew.setCell ⟨w.heap.size, j*7+y, none⟩ (.int .i64 (z + bits .and .i64 (c / 2 ^ j) 1 * bits .and .i64 (b / 2 ^ y) 1))).cell? ⟨p0, 0, none⟩ = some (.int .i64 c) := (World.cell?_setCell_far _ _ _ _ hne').trans hp1
              have hq2 : (wr.drew.setCell ⟨w.heap.size, j*7+y, none⟩ (.int .i64 (z + bits .and .i64 (c / 2 ^ j) 1 * bits .and .i64 (b / 2 ^ y) 1))).cell? ⟨p0, 1, none⟩ = some (.int .i64 b) := (World.cell?_setCell_far _ _ _ _ hne').trans hp2
              clear hs1 hs2 HO3 hbel3
              go_wp2
              go_still_tail 20, (by kernel_rfl)
              show wpList _ _ _ _ _ wr.drew
              go_wp2
              go_roundw
              case rel => exact ⟨y+1, by omega, by go_num, ⟨hq1, hq2⟩, HS, HG.out⟩
              case measure => simp [intOf]; omega
            · have ho := HO3.out
              rw [show j*7+y = (j+1)*7 by omega] at ho
              have HO4 := hid ho
              clear ho HO3
              go_wp2
              go_roundw
              case rel => exact ⟨j+1, by omega, by go_num, ⟨hp1, hp2⟩, HO4, hbel3⟩
              case measure => simp [intOf]; omega
        · have ho := HO2.out
          rw [show j*7 = 7*k by omega, stepRow_full] at ho
          have HO3 := hid ho
          clear ho HO2
          go_wp2
          go_roundw
          case rel => exact ⟨i+1, by omega, by go_num, HO3, hbel2⟩
          case measure => simp [intOf]; omega
    · have ho := HO.out
      rw [show i = xs.length by rw [HN.out]; omega, dutyT_end] at ho
      have HO3 := hid ho
      clear ho HO
      go_wp2
      go_ret
      exact ⟨_, rfl, HO3.out, hbel⟩

end Go.Proofs.Ytfgjaefcfmjleaa
