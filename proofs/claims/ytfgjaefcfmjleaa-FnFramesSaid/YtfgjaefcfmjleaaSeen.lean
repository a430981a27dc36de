import Derived.Test.YtfgjaefcfmjleaaRows1
import Derived.Test.YtfgjaefcfmjleaaApp
import Derived.Deep.RegionHeld
namespace Go.Proofs.Ytfgjaefcfmjleaa
open Go.RowKit

/-! ## seen, l8Seen -/
def seenAt (xs : List (Int × Int)) (x : Nat) : Nat → Int
  | 0 => 0
  | i+1 => if bitI (xs.getD i (0,0)).1 x == 1 then bits .or .i64 (seenAt xs x i) (xs.getD i (0,0)).2 else seenAt xs x i
def seenRow (xs : List (Int × Int)) (k i j : Nat) : List Int := (List.range k).map fun x => if x < j then seenAt xs x (i+1) else seenAt xs x i
def seenF (xs : List (Int × Int)) (k : Nat) : List Int := (List.range k).map fun x => seenAt xs x xs.length
theorem length_seenRow (xs : List (Int × Int)) (k i j : Nat) : (seenRow xs k i j).length = k := by simp [seenRow]
theorem length_seenF (xs : List (Int × Int)) (k : Nat) : (seenF xs k).length = k := by simp [seenF]
theorem seenRow_start (xs : List (Int × Int)) (k : Nat) : seenRow xs k 0 0 = List.replicate k 0 := by
  unfold seenRow
  apply List.ext_getElem?
  intro x
  by_cases h : x < k <;> simp [h, seenAt]
theorem seenRow_zero (xs : List (Int × Int)) (k i : Nat) : seenRow xs k i 0 = (List.range k).map fun x => seenAt xs x i := by simp [seenRow]
theorem seenRow_full (xs : List (Int × Int)) (k i : Nat) : seenRow xs k i k = seenRow xs k (i+1) 0 := by
  unfold seenRow
  apply List.map_congr_left
  intro x hx
  simp [List.mem_range.1 hx]
theorem seenRow_end (xs : List (Int × Int)) (k : Nat) : seenRow xs k xs.length 0 = seenF xs k := by
  rw [seenRow_zero]; rfl
theorem seenRow_get {xs : List (Int × Int)} {k i j : Nat} (h : j < k) : (seenRow xs k i j).getD j 0 = seenAt xs j i := by simp [seenRow, List.getD, h]
theorem seenRow_yes {xs : List (Int × Int)} {k i j : Nat} (_h : j < k) (hb : (bitI (xs.getD i (0,0)).1 j == 1) = true) :
    (seenRow xs k i j).set j (bits .or .i64 (seenAt xs j i) (xs.getD i (0,0)).2) = seenRow xs k i (j+1) := by
  apply List.ext_getElem?
  intro x
  by_cases hx : x = j
  · subst hx
    by_cases hk : x < k
    · rw [List.getElem?_set_self (by rw [length_seenRow]; exact hk)]
      simp only [seenRow, List.getElem?_map, List.getElem?_range hk, Option.map_some, seenAt, hb]
      simp
    · rw [List.getElem?_eq_none (by rw [List.length_set, length_seenRow]; omega), List.getElem?_eq_none (by rw [length_seenRow]; omega)]
  · rw [List.getElem?_set_ne (by omega)]
    unfold seenRow
    simp only [List.getElem?_map]
    by_cases hk : x < k
    · rw [List.getElem?_range hk]
      simp only [Option.map_some]
      by_cases h1 : x < j
      · rw [if_pos h1, if_pos (by omega)]
      · rw [if_neg h1, if_neg (by omega)]
    · rw [List.getElem?_eq_none (by simp; omega)]; rfl
theorem seenRow_no {xs : List (Int × Int)} {k i j : Nat} (hb : (bitI (xs.getD i (0,0)).1 j == 1) = false) : seenRow xs k i (j+1) = seenRow xs k i j := by
  unfold seenRow
  apply List.map_congr_left
  intro x _
  by_cases hx : x = j
  · subst hx
    rw [if_pos (by omega), if_neg (by omega), seenAt, hb]
    rfl
  · by_cases h1 : x < j
    · rw [if_pos h1, if_pos (by omega)]
    · rw [if_neg h1, if_neg (by omega)]

theorem OwnI.made' {w : World} {B g n cap : Nat} (h : w.ownsRow B 3 1 (.slice (some ⟨g, 0, none⟩) n cap) n (madeCells (Value.int .i64 0).cells (n * 1)).toList) : OwnI w B (.slice (some ⟨g, 0, none⟩) n cap) (List.replicate n 0) := OwnI.made h

set_option maxRecDepth 100000 in
set_option maxHeartbeats 2000000 in
theorem l8Seen_any (k : Nat) (v1 : Value) (xs : List (Int × Int)) (w : World) (h1 : Two w v1 xs) (hk6 : k ≤ 6) :
    Calls Try.prog 196 #[.int .i64 k, v1] w fun e w' => ∃ v, e = .returned v ∧ OwnI w' w.heap.size v (seenF xs k) ∧ Below w.heap.size w w' := by
  obtain ⟨n, ao1, cap1, b1, o1, HN, rfl, ha1, hc1, hn1, hm1, HX⟩ := h1.open_
  clear h1
  obtain ⟨i0, hi, hz0, hz1, hz2⟩ := info_parts infoInt
  go_enter Try.func196, Try.ntmps196
  go_wp2_with (first | (at_make; refine wpList_make_full _ rfl (.tmp 8) (.tmp 8) 24 rfl w.heap.size 3 i0 (.int .i64 0) 1 Try.underlying24 hi hz0 hz1 .i64 .i64 k k k rfl rfl rfl rfl (by rw [hz2]; omega) (by unfold maxLen; omega) (Nat.le_refl _) ?_; intro w1 hown hgrow))
  have HO0 := hid (OwnI.made hown)
  have hb1 := Below.of_grown hgrow
  clear hown hgrow
  go_loopw [6, 7] (fun ii _ wr => ∃ i : Nat, i ≤ n ∧ ii = .int .i64 i ∧ Hid (OwnI wr w.heap.size (.slice (some ⟨w.heap.size, 0, none⟩) k k) (seenRow xs k i 0)) ∧ Below w.heap.size w wr) (fun ii _ _ => n - (intOf ii).toNat)
  case atStart => exact ⟨0, by omega, rfl, hid (by rw [seenRow_start]; exact HO0.out), hb1⟩
  case round =>
    obtain ⟨i, hi, rfl, HO, hbel⟩ := hrel
    by_cases hlt : i < n
    · obtain ⟨rfl, hb1⟩ := ha1 (by omega)
      have HC1 := hid (hc1 i hlt)
      clear hc1 ha1
      obtain ⟨wo, rfl⟩ : ∃ wo : World, wo = wr := ⟨_, rfl⟩
      go_wp2
      go_loopw [7] (fun jj wr => ∃ j : Nat, j ≤ k ∧ jj = .int .i64 j ∧ Hid (OwnI wr w.heap.size (.slice (some ⟨w.heap.size, 0, none⟩) k k) (seenRow xs k i j)) ∧ Below w.heap.size w wr) (fun jj _ => k - (intOf jj).toNat)
      case atStart => exact ⟨0, by omega, rfl, HO, hbel⟩
      case round =>
        obtain ⟨j, hj, rfl, HO2, hbel2⟩ := hrel
        clear hbel HO
        by_cases hjk : j < k
        · have e1 : wr.cell? ⟨b1, o1+i*2, none⟩ = some (.int .i64 (xs.getD i (0,0)).1) := (hbel2.cell (by exact hb1)).trans HC1.out.1
          have e2 : wr.cell? ⟨b1, o1+i*2+1, none⟩ = some (.int .i64 (xs.getD i (0,0)).2) := (hbel2.cell (by exact hb1)).trans HC1.out.2
          have HYES := hid (seenRow_yes (xs := xs) (i := i) hjk)
          have HNO := hid (seenRow_no (xs := xs) (k := k) (i := i) (j := j))
          have hcA := HO2.out.cell (length_seenRow _ _ _ _) hjk
          rw [seenRow_get hjk] at hcA
          have hfA := HO2.out.free (length_seenRow _ _ _ _) j
          generalize (xs.getD i (0,0)).1 = c at e1 HYES HNO
          generalize (xs.getD i (0,0)).2 = b at e2 HYES
          generalize seenAt xs j i = z at hcA HYES
          have hj0 : (0 : Int) ≤ j := by omega
          have hjk' : (j : Int) < k := by omega
          have hi0 : (0 : Int) ≤ i := by omega
          have hin' : (i : Int) < n := by omega
          cases hb : (bits .and .i64 (c / 2 ^ j) 1 == 1) with
          | true =>
            obtain ⟨hs1, hs2⟩ := (HO2.out.drawn 1).set (length_seenRow _ _ _ _) j (bits .or .i64 z b) (HYES.out hb)
            have HS := hid hs1
            have HG := hid ((hbel2.drew).setCell (p := ⟨w.heap.size, j, none⟩) (Nat.le_refl _) (.int .i64 (bits .or .i64 z b)))
            clear hs1 hs2 HO2 hbel2
            go_wp2
            go_still_tail 13, (by kernel_rfl)
            show wpList _ _ _ _ _ wr.drew
            go_wp2
            go_roundw
            case rel => exact ⟨j+1, by omega, by go_num, HS, HG.out⟩
            case measure => simp [intOf]; omega
          | false =>
            have HE := hid (HNO.out hb)
            go_wp2
            go_roundw
            case rel => exact ⟨j+1, by omega, by go_num, by rw [HE.out]; exact HO2, hbel2⟩
            case measure => simp [intOf]; omega
        · have ho := HO2.out
          rw [show j = k by omega, seenRow_full] at ho
          have HO3 := hid ho
          clear ho HO2
          go_wp2
          go_roundw
          case rel => exact ⟨i+1, by omega, by go_num, HO3, hbel2⟩
          case measure => simp [intOf]; omega
    · have ho := HO.out
      rw [show i = xs.length by rw [HN.out]; omega, seenRow_end] at ho
      have HO3 := hid ho
      clear ho HO
      go_wp2
      go_ret
      exact ⟨_, rfl, HO3.out, hbel⟩

set_option maxRecDepth 100000 in
set_option maxHeartbeats 2000000 in
theorem seen_any (k : Nat) (v1 : Value) (xs : List (Int × Int)) (w : World) (h1 : Two w v1 xs) (hk6 : k ≤ 6) :
    Calls Try.prog 194 #[.int .i64 k, v1] w fun e w' => ∃ v, e = .returned v ∧ OwnI w' w.heap.size v (seenF xs k) ∧ Below w.heap.size w w' := by
  obtain ⟨n, ao1, cap1, b1, o1, HN, rfl, ha1, hc1, hn1, hm1, HX⟩ := h1.open_
  clear h1
  obtain ⟨i0, hi, hz0, hz1, hz2⟩ := info_parts infoInt
  go_enter Try.func194, Try.ntmps194
  go_wp2_with (first | (at_make; refine wpList_make_full _ rfl (.tmp 9) (.tmp 9) 24 rfl w.heap.size 3 i0 (.int .i64 0) 1 Try.underlying24 hi hz0 hz1 .i64 .i64 k k k rfl rfl rfl rfl (by rw [hz2]; omega) (by unfold maxLen; omega) (Nat.le_refl _) ?_; intro w1 hown hgrow))
  have HO0 := hid (OwnI.made hown)
  have hb1 := Below.of_grown hgrow
  clear hown hgrow
  go_loopw [7, 8, 13, 19] (fun _ _ ii _ wr => ∃ i : Nat, i ≤ n ∧ ii = .int .i64 i ∧ Hid (OwnI wr w.heap.size (.slice (some ⟨w.heap.size, 0, none⟩) k k) (seenRow xs k i 0)) ∧ Below w.heap.size w wr) (fun _ _ ii _ _ => n - (intOf ii).toNat)
  case atStart => exact ⟨0, by omega, rfl, hid (by rw [seenRow_start]; exact HO0.out), hb1⟩
  case round =>
    obtain ⟨i, hi, rfl, HO, hbel⟩ := hrel
    by_cases hlt : i < n
    · obtain ⟨rfl, hb1⟩ := ha1 (by omega)
      have HC1 := hid (hc1 i hlt)
      have e1 : wr.cell? ⟨b1, o1+i*2, none⟩ = some (.int .i64 (xs.getD i (0,0)).1) := (hbel.cell (by exact hb1)).trans HC1.out.1
      have e2 : wr.cell? ⟨b1, o1+i*2+1, none⟩ = some (.int .i64 (xs.getD i (0,0)).2) := (hbel.cell (by exact hb1)).trans HC1.out.2
      have HYES := hid (fun j => seenRow_yes (xs := xs) (k := k) (i := i) (j := j))
      have HNO := hid (fun j => seenRow_no (xs := xs) (k := k) (i := i) (j := j))
      generalize hgc : (xs.getD i (0,0)).1 = c at e1 HYES HNO
      generalize hgb : (xs.getD i (0,0)).2 = b at e2 HYES
      clear hc1 ha1 hgc hgb HC1
      obtain ⟨wo, rfl⟩ : ∃ wo : World, wo = wr := ⟨_, rfl⟩
      have hne : 0 < k → w.heap.size ≠ wo.heap.size := fun h0 => (World.new_ne wo _ (HO.out.cell (length_seenRow _ _ _ _) h0)).symm
      have HOA := hid (HO.out.alloc (.cells #[.int .i64 c, .int .i64 b] 108))
      have hbelA := hbel.alloc hbel.size (.cells #[.int .i64 c, .int .i64 b] 108)
      have hp1 : (wo.alloc (.cells #[.int .i64 c, .int .i64 b] 108)).cell? ⟨wo.heap.size, 0, none⟩ = some (.int .i64 c) := by simp [go_sem]
      have hp2 : (wo.alloc (.cells #[.int .i64 c, .int .i64 b] 108)).cell? ⟨wo.heap.size, 1, none⟩ = some (.int .i64 b) := by simp [go_sem]
      go_wp2
      clear e1 e2 hbel HO
      generalize wo.alloc (.cells #[.int .i64 c, .int .i64 b] 108) = wi at *
      generalize wo.heap.size = p0 at *
      go_loopw [8, 19] (fun _ jj wr => ∃ j : Nat, j ≤ k ∧ jj = .int .i64 j ∧ Hid (OwnI wr w.heap.size (.slice (some ⟨w.heap.size, 0, none⟩) k k) (seenRow xs k i j)) ∧ Below w.heap.size w wr ∧ wr.cell? ⟨p0, 0, none⟩ = some (.int .i64 c) ∧ wr.cell? ⟨p0, 1, none⟩ = some (.int .i64 b)) (fun _ jj _ => k - (intOf jj).toNat)
      case atStart => exact ⟨0, by omega, rfl, HOA, hbelA, hp1, hp2⟩
      case round =>
        clear hp1 hp2 hbelA HOA
        obtain ⟨j, hj, rfl, HO2, hbel2, hp1, hp2⟩ := hrel
        by_cases hjk : j < k
        · have HYES' := hid (HYES.out j hjk)
          have HNO' := hid (HNO.out j)
          have hne' := hne (by omega)
          have hcA := HO2.out.cell (length_seenRow _ _ _ _) hjk
          rw [seenRow_get hjk] at hcA
          have hfA := HO2.out.free (length_seenRow _ _ _ _) j
          clear HYES HNO hne
          generalize seenAt xs j i = z at hcA HYES'
          have hj0 : (0 : Int) ≤ j := by omega
          have hjk' : (j : Int) < k := by omega
          cases hb : (bits .and .i64 (c / 2 ^ j) 1 == 1) with
          | true =>
            obtain ⟨hs1, hs2⟩ := (HO2.out.drawn 1).set (length_seenRow _ _ _ _) j (bits .or .i64 z b) (HYES'.out hb)
            have HS := hid hs1
            have HG := hid ((hbel2.drew).setCell (p := ⟨w.heap.size, j, none⟩) (Nat.le_refl _) (.int .i64 (bits .or .i64 z b)))
            have hq1 : (wr.drew.setCell ⟨w.heap.size, j, none⟩ (.int .i64 (bits .or .i64 z b))).cell? ⟨p0, 0, none⟩ = some (.int .i64 c) := (World.cell?_setCell_far _ _ _ _ hne').trans hp1
            have hq2 : (wr.drew.setCell ⟨w.heap.size, j, none⟩ (.int .i64 (bits .or .i64 z b))).cell? ⟨p0, 1, none⟩ = some (.int .i64 b) := (World.cell?_setCell_far _ _ _ _ hne').trans hp2
            clear hs1 hs2 HO2 hbel2
            go_wp2
            go_still_tail 8, (by kernel_rfl)
            show wpList _ _ _ _ _ wr.drew
            go_wp2
            go_roundw
            case rel => exact ⟨j+1, by omega, by go_num, HS, HG.out, hq1, hq2⟩
            case measure => simp [intOf]; omega
          | false =>
            have HE := hid (HNO'.out hb)
            go_wp2
            go_roundw
            case rel => exact ⟨j+1, by omega, by go_num, by rw [HE.out]; exact HO2, hbel2, hp1, hp2⟩
            case measure => simp [intOf]; omega
        · have ho := HO2.out
          rw [show j = k by omega, seenRow_full] at ho
          have HO3 := hid ho
          clear ho HO2
          go_wp2
          go_roundw
          case rel => exact ⟨i+1, by omega, by go_num, HO3, hbel2⟩
          case measure => simp [intOf]; omega
    · have ho := HO.out
      rw [show i = xs.length by rw [HN.out]; omega, seenRow_end] at ho
      have HO3 := hid ho
      clear ho HO
      go_wp2
      go_ret
      exact ⟨_, rfl, HO3.out, hbel⟩

end Go.Proofs.Ytfgjaefcfmjleaa
