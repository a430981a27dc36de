/-
  Shares2: BarShares of both sides.
-/
import Derived.Test.YtgbnoljmmenlbaaShares
namespace Go.Proofs.Ytgbnoljmmenlbaa
open Go.RowKit

def bitT (c : Int) (k : Nat) : Int := bits .and .i64 (c / 2 ^ k) 1
def shC : Nat → Nat → Int
  | 0, _ => 0
  | d+1, b => shC d b + bitT (digitC (d : Nat)) b
def shArr (d b : Nat) : Array Value := (((List.range 7).map fun j => if j < b then shC (d+1) j else shC d j).map (Value.int .i64)).toArray
def shAgg : Value := .agg (shArr 10 0)
theorem bitT_dec : ∀ d : Fin 10, ∀ k : Fin 7, 0 ≤ bitT (digitC ((d : Nat) : Int)) k ∧ bitT (digitC ((d : Nat) : Int)) k ≤ 1 := by decide +kernel
theorem bitT_range {d k : Nat} (hd : d < 10) (hk : k < 7) : 0 ≤ bitT (digitC (d : Int)) k ∧ bitT (digitC (d : Int)) k ≤ 1 := bitT_dec ⟨d, hd⟩ ⟨k, hk⟩
theorem shC_range {b : Nat} (hb : b < 7) : ∀ d, d ≤ 10 → 0 ≤ shC d b ∧ shC d b ≤ d := by
  intro d
  induction d with
  | zero => intro _; simp [shC]
  | succ d ih =>
    intro hd
    have h1 := ih (by omega)
    have h2 := bitT_range (d := d) (k := b) (by omega) hb
    simp only [shC]
    omega
theorem size_shArr (d b : Nat) : (shArr d b).size = 7 := by simp [shArr]
theorem shArr_one (d b : Nat) : (shArr d b).all (·.oneCell') = true := by
  rw [Array.all_eq_true]
  intro i hi
  simp only [shArr, List.getElem_toArray, List.getElem_map]
  rfl
theorem shArr_get (d b : Nat) {j : Nat} (h : j < 7) : (shArr d b)[j]? = some (.int .i64 (if j < b then shC (d+1) j else shC d j)) := by
  simp [shArr, h]
theorem shArr_ext {a b : Array Value} (ha : a.size = 7) (hb : b.size = 7) (h : ∀ j, j < 7 → a[j]? = b[j]?) : a = b := by
  apply Array.ext_getElem?
  intro j
  by_cases hj : j < 7
  · exact h j hj
  · rw [Array.getElem?_eq_none (by omega), Array.getElem?_eq_none (by omega)]
theorem shArr_set (d : Nat) {b : Nat} (h : b < 7) : (shArr d b).setIfInBounds b (.int .i64 (shC (d+1) b)) = shArr d (b+1) := by
  refine shArr_ext (by rw [Array.size_setIfInBounds, size_shArr]) (size_shArr _ _) fun j hj => ?_
  rw [Array.getElem?_setIfInBounds, shArr_get d (b+1) hj]
  by_cases e : b = j
  · subst e
    rw [if_pos rfl, if_pos (by rw [size_shArr]; exact h), if_pos (by omega)]
  · rw [if_neg e, shArr_get d b hj]
    by_cases h1 : j < b
    · rw [if_pos h1, if_pos (by omega)]
    · rw [if_neg h1, if_neg (by omega)]
theorem shArr_next (d : Nat) : shArr d 7 = shArr (d+1) 0 := by
  refine shArr_ext (size_shArr _ _) (size_shArr _ _) fun j hj => ?_
  rw [shArr_get d 7 hj, shArr_get (d+1) 0 hj, if_pos hj, if_neg (by omega)]

theorem info7 : (Try.prog.info? 35).map (fun i => (i.zero, i.size)) = some (some (.agg (shArr 0 0)), 7) := by kernel_rfl
set_option maxRecDepth 100000 in
set_option maxHeartbeats 4000000 in
theorem implBarShares_any (w : World) : Calls Try.prog 15 #[] w fun e w' => e = .returned shAgg ∧ Below w.heap.size w w' := by
  obtain ⟨hz, hs⟩ := zero_of_info info7
  obtain ⟨T0, hT0⟩ : ∃ T0, shArr 0 0 = T0 := ⟨_, rfl⟩
  rw [hT0] at hz
  have HT0 := hid hT0
  clear hT0
  have HK0 : Hid (TBlk ((w.alloc (.cells T0 35)).alloc (.cells T0 35)) w.heap.size 35 T0) := hid ((TBlk.new w _ _).alloc _)
  have HK1 : Hid (TBlk ((w.alloc (.cells T0 35)).alloc (.cells T0 35)) (w.heap.size + 1) 35 (shArr 0 0)) := hid (by rw [HT0.out]; have := TBlk.new (w.alloc (.cells T0 35)) 35 T0; simpa using this)
  have HB0 : Hid (Below w.heap.size w ((w.alloc (.cells T0 35)).alloc (.cells T0 35))) := hid (((Below.refl _ _).alloc (Nat.le_refl _) _).alloc (by simp) _)
  go_enter Try.func15, Try.ntmps15
  go_wp2_with fail
  refine (digitCells_any _).mono ?_
  rintro e w1 ⟨rfl, hb⟩
  have HA0 := hid (HK0.out.below hb)
  have HA1 := hid (HK1.out.below hb)
  have HAB := hid (HB0.out.trans (hb.mono HB0.out.size))
  have HAZ : Hid (w.heap.size + 2 ≤ w1.heap.size) := hid (by have := hb.size; simp at this; omega)
  obtain ⟨CA, hCA⟩ : ∃ CA, cellsAgg = CA := ⟨_, rfl⟩
  have hidx : ∀ (d : Nat) (w' : World), d < 10 → (Instr.index 32 CA (.int .i64 d)).run Try.prog w' = .ok (.int .i64 (digitC d)) w' := fun d w' hd => by rw [← hCA]; exact run_cells_index (inB_mk (by omega) (by omega)) w'
  rw [hCA]
  have HIDX := hid hidx
  clear hb HK0 HK1 HB0 hCA hidx
  go_wp2
  go_loopw [3, 4, 6, 9] (fun _ _ ii _ wr => ∃ i : Nat, i ≤ 10 ∧ ii = .int .i64 i ∧ Hid (TBlk wr w.heap.size 35 T0) ∧ Hid (TBlk wr (w.heap.size + 1) 35 (shArr i 0)) ∧ Hid (Below w.heap.size w wr) ∧ Hid (w.heap.size + 2 ≤ wr.heap.size)) (fun _ _ ii _ _ => 10 - (intOf ii).toNat)
  case atStart => exact ⟨0, by omega, rfl, HA0, HA1, HAB, HAZ⟩
  case round =>
    clear HA0 HA1 HAB HAZ
    obtain ⟨i, hi, rfl, HA0, HA1, HB, HZ⟩ := hrel
    by_cases hlt : i < 10
    · have hiI : (i : Int) < 10 := by omega
      have hi0 : (0 : Int) ≤ i := by omega
      have hidx := fun w' => HIDX.out i w' hlt
      have HDR := hid (digC_range hlt)
      have HST := hid (fun b => show shC (i+1) b = shC i b + bits .and .i64 (digitC (i : Int) / 2 ^ b) 1 from rfl)
      have HBR := hid (fun b (hb : b < 7) => show 0 ≤ bits .and .i64 (digitC (i : Int) / 2 ^ b) 1 ∧ bits .and .i64 (digitC (i : Int) / 2 ^ b) 1 ≤ 1 from bitT_range hlt hb)
      generalize digitC (i : Int) = x at *
      go_wp2
      clear hidx
      go_loopw [4, 9] (fun _ kk wr2 => ∃ k : Nat, k ≤ 7 ∧ kk = .int .i64 k ∧ Hid (TBlk wr2 w.heap.size 35 T0) ∧ Hid (TBlk wr2 (w.heap.size + 1) 35 (shArr i k)) ∧ Hid (Below w.heap.size w wr2) ∧ Hid (w.heap.size + 2 ≤ wr2.heap.size)) (fun _ kk _ => 7 - (intOf kk).toNat)
      case atStart => exact ⟨0, by omega, rfl, HA0, HA1, HB, HZ⟩
      case round =>
        clear HA0 HA1 HB HZ
        obtain ⟨k, hk, rfl, HC0, HC1, HBC, HZC⟩ := hrel
        by_cases hkt : k < 7
        · have hk0 : (0 : Int) ≤ k := by omega
          have hkI : (k : Int) < 7 := by omega
          have hk64 : (k : Int) < 64 := by omega
          have hbr := HBR.out k hkt
          have hsr := shC_range hkt i hi
          have hcell := (HC1.out.cell k).trans (shArr_get i k hkt)
          rw [if_neg (by omega)] at hcell
          have hfro := HC1.out.frozen k
          have HS := hid (shArr_set i hkt)
          rw [HST.out k] at HS
          generalize shC i k = sk at *
          have hw1 : IntKind.i64.wrap (sk + bits .and .i64 (x / 2 ^ k) 1) = sk + bits .and .i64 (x / 2 ^ k) 1 := IntWalk.i64_in _ (by omega)
          have HN1 : Hid (TBlk (wr.drew.setCell ⟨w.heap.size + 1, k, none⟩ (.int .i64 (sk + bits .and .i64 (x / 2 ^ k) 1))) w.heap.size 35 T0) := hid (HC0.out.drew.far (by simp) _)
          have HN2 : Hid (TBlk (wr.drew.setCell ⟨w.heap.size + 1, k, none⟩ (.int .i64 (sk + bits .and .i64 (x / 2 ^ k) 1))) (w.heap.size + 1) 35 (shArr i (k + 1))) := hid (by rw [← HS.out]; exact HC1.out.drew.set _ _)
          have HN3 : Hid (Below w.heap.size w (wr.drew.setCell ⟨w.heap.size + 1, k, none⟩ (.int .i64 (sk + bits .and .i64 (x / 2 ^ k) 1)))) := hid (HBC.out.drew.setCell (by simp) _)
          have HN4 : Hid (w.heap.size + 2 ≤ (wr.drew.setCell ⟨w.heap.size + 1, k, none⟩ (.int .i64 (sk + bits .and .i64 (x / 2 ^ k) 1))).heap.size) := hid (by have := HZC.out; simpa using this)
          clear HC0 HC1 HBC HZC HS
          go_wp2
          go_still_tail 8, (by kernel_rfl)
          show wpList _ _ _ _ _ wr.drew
          go_wp2
          go_roundw
          case rel => exact ⟨k+1, by omega, by go_num, HN1, HN2, HN3, HN4⟩
          case measure => simp [intOf]; omega
        · obtain rfl : k = 7 := by omega
          rw [shArr_next] at HC1
          go_wp2
          go_roundw
          case rel => exact ⟨i+1, by omega, by go_num, HC0, HC1, HBC, HZC⟩
          case measure => simp [intOf]; omega
    · obtain rfl : i = 10 := by omega
      have HU := hid Try.underlying35
      have HS1 := hid (show (Try.prog.info? 35).map (·.size) = some (shArr 10 0).size by rw [hs, size_shArr])
      have HOLD := hid (show T0.size = (shArr 10 0).size by rw [← HT0.out, size_shArr, size_shArr])
      have HONE := hid (shArr_one 10 0)
      have HAGG := hid (show shAgg = .agg (shArr 10 0) from rfl)
      clear hs hz
      generalize shArr 10 0 = T1 at *
      go_wp2_with (first
        | (refine wpList_load_row rfl 35 (.tmp 1) rfl (w.heap.size + 1) rfl 35 T1 (0, 0) _ HA1.out HU.out rfl HS1.out ?_)
        | (refine wpList_store_row rfl 35 (.tmp 0) (.tmp 23) rfl w.heap.size T1 rfl rfl 35 T0 HA0.out HS1.out HOLD.out HONE.out ?_))
      have HK := hid (setRow_heap wr w.heap.size T0 T1 35 (0, 0) HA0.out)
      refine bodyPost_ret (results_cell_row (p := 0) (ty := 35) rfl _ _ w.heap.size 35 T1 (0, 0) _ rfl HK.out HU.out rfl HS1.out) rfl ⟨by rw [HAGG.out], below_setRow HB.out (Nat.le_refl _) _⟩
theorem built_sh : Try.prog.built 35 [] = some (shArr 0 0) := by kernel_rfl
set_option maxRecDepth 100000 in
set_option maxHeartbeats 4000000 in
theorem specBarShares_any (w : World) : Calls Try.prog 16 #[] w fun e w' => e = .returned shAgg ∧ Below w.heap.size w w' := by
  obtain ⟨hz, hs⟩ := zero_of_info info7
  have HBU : Hid (∀ w : World, (Instr.build 35 #[]).run Try.prog w = .ok (.agg (shArr 0 0)) w) := hid fun w => run_build w _ #[] _ built_sh
  have HS0 := hid (show (Try.prog.info? 35).map (·.size) = some (shArr 0 0).size by rw [hs, size_shArr])
  have HONE0 := hid (shArr_one 0 0)
  obtain ⟨T0, hT0⟩ : ∃ T0, shArr 0 0 = T0 := ⟨_, rfl⟩
  rw [hT0] at hz HBU HS0 HONE0
  have HT0 := hid hT0
  clear hT0
  have HK0 : Hid (TBlk ((w.alloc (.cells T0 35)).alloc (.cells T0 35)) w.heap.size 35 T0) := hid ((TBlk.new w _ _).alloc _)
  have HK1 : Hid (TBlk ((w.alloc (.cells T0 35)).alloc (.cells T0 35)) (w.heap.size + 1) 35 T0) := hid (by have := TBlk.new (w.alloc (.cells T0 35)) 35 T0; simpa using this)
  have HB0 : Hid (Below w.heap.size w ((w.alloc (.cells T0 35)).alloc (.cells T0 35))) := hid (((Below.refl _ _).alloc (Nat.le_refl _) _).alloc (by simp) _)
  have HA0 : Hid (TBlk (((w.alloc (.cells T0 35)).alloc (.cells T0 35)).setRow (w.heap.size + 1) T0) w.heap.size 35 T0) := hid (HK0.out.farRow (by omega) _)
  have HA1 : Hid (TBlk (((w.alloc (.cells T0 35)).alloc (.cells T0 35)).setRow (w.heap.size + 1) T0) (w.heap.size + 1) 35 (shArr 0 0)) := hid (by rw [HT0.out]; exact setRow_heap _ _ _ _ _ _ HK1.out)
  have HAB : Hid (Below w.heap.size w (((w.alloc (.cells T0 35)).alloc (.cells T0 35)).setRow (w.heap.size + 1) T0)) := hid (below_setRow HB0.out (by omega) _)
  clear HK0 HB0
  go_enter Try.func16, Try.ntmps16
  go_wp2_with (first
    | (with_reducible refine wpList_build0 rfl 35 rfl _ (HBU.out _) ?_)
    | (refine wpList_store_row rfl 35 (.tmp 1) (.tmp 4) rfl (w.heap.size + 1) T0 rfl rfl 35 T0 HK1.out HS0.out rfl HONE0.out ?_))
  generalize ((w.alloc (.cells T0 35)).alloc (.cells T0 35)).setRow (w.heap.size + 1) T0 = ws at *
  clear HBU HS0 HONE0 HK1 hz
  have HAZ : Hid (w.heap.size + 2 ≤ ws.heap.size) := hid (by have := HA1.out.lt; omega)
  go_loopw [2, 3] (fun ii _ wr => ∃ i : Nat, i ≤ 10 ∧ ii = .int .i64 i ∧ Hid (TBlk wr w.heap.size 35 T0) ∧ Hid (TBlk wr (w.heap.size + 1) 35 (shArr i 0)) ∧ Hid (Below w.heap.size w wr) ∧ Hid (w.heap.size + 2 ≤ wr.heap.size)) (fun ii _ _ => 10 - (intOf ii).toNat)
  case atStart => exact ⟨0, by omega, rfl, HA0, HA1, HAB, HAZ⟩
  case round =>
    clear HA0 HA1 HAB HAZ
    obtain ⟨i, hi, rfl, HA0, HA1, HB, HZ⟩ := hrel
    by_cases hlt : i < 10
    · have hiI : (i : Int) < 10 := by omega
      have hi0 : (0 : Int) ≤ i := by omega
      have HDI := hid (inB_mk (n := (i : Int)) (lo := 0) (hi := 9) (by omega) (by omega))
      have HCD := hid (fun w' => l2Digit_any (i : Int) w' HDI.out)
      have HST := hid (fun b => show shC (i+1) b = shC i b + bits .and .i64 (digitC (i : Int) / 2 ^ b) 1 from rfl)
      have HBR := hid (fun b (hb : b < 7) => show 0 ≤ bits .and .i64 (digitC (i : Int) / 2 ^ b) 1 ∧ bits .and .i64 (digitC (i : Int) / 2 ^ b) 1 ≤ 1 from bitT_range hlt hb)
      generalize digitC (i : Int) = x at *
      go_wp2
      go_loopw [3] (fun kk wr2 => ∃ k : Nat, k ≤ 7 ∧ kk = .int .i64 k ∧ Hid (TBlk wr2 w.heap.size 35 T0) ∧ Hid (TBlk wr2 (w.heap.size + 1) 35 (shArr i k)) ∧ Hid (Below w.heap.size w wr2) ∧ Hid (w.heap.size + 2 ≤ wr2.heap.size)) (fun kk _ => 7 - (intOf kk).toNat)
      case atStart => exact ⟨0, by omega, rfl, HA0, HA1, HB, HZ⟩
      case round =>
        clear HA0 HA1 HB HZ
        obtain ⟨k, hk, rfl, HC0, HC1, HBC, HZC⟩ := hrel
        by_cases hkt : k < 7
        · have hk0 : (0 : Int) ≤ k := by omega
          have hkI : (k : Int) < 7 := by omega
          have hk64 : (k : Int) < 64 := by omega
          have hbr := HBR.out k hkt
          have hsr := shC_range hkt i hi
          have HS := hid (shArr_set i hkt)
          rw [HST.out k] at HS
          have HCELL : Hid (∀ w', Below wr.heap.size wr w' → w'.cell? ⟨w.heap.size + 1, k, none⟩ = some (.int .i64 (shC i k)) ∧ w'.frozen? ⟨w.heap.size + 1, k, none⟩ = false) := hid fun w' hb => by
            have h := HC1.out.below hb
            refine ⟨?_, h.frozen _⟩
            rw [h.cell, shArr_get _ _ hkt, if_neg (by omega)]
          generalize shC i k = sk at *
          have hw1 : IntKind.i64.wrap (sk + bits .and .i64 (x / 2 ^ k) 1) = sk + bits .and .i64 (x / 2 ^ k) 1 := IntWalk.i64_in _ (by omega)
          have hcell := (HCELL.out _ (Below.refl _ _).drew).1
          go_wp2
          go_region_with (go_at_call 38; refine (HCD.out _).mono ?_; rintro e w2 ⟨rfl, hb2⟩; have hb2' : Below wr.heap.size wr w2 := ((Below.refl wr.heap.size wr).drew).trans hb2; obtain ⟨hcell2, hfro2⟩ := HCELL.out w2 hb2')
          all_goals
            have HN1 : Hid (TBlk (w2.setCell ⟨w.heap.size + 1, k, none⟩ (.int .i64 (sk + bits .and .i64 (x / 2 ^ k) 1))) w.heap.size 35 T0) := hid ((HC0.out.below hb2').far (by simp) _)
            have HN2 : Hid (TBlk (w2.setCell ⟨w.heap.size + 1, k, none⟩ (.int .i64 (sk + bits .and .i64 (x / 2 ^ k) 1))) (w.heap.size + 1) 35 (shArr i (k + 1))) := hid (by rw [← HS.out]; exact (HC1.out.below hb2').set _ _)
            have HN3 : Hid (Below w.heap.size w (w2.setCell ⟨w.heap.size + 1, k, none⟩ (.int .i64 (sk + bits .and .i64 (x / 2 ^ k) 1)))) := hid ((HBC.out.trans (hb2'.mono HBC.out.size)).setCell (by simp) _)
            have HN4 : Hid (w.heap.size + 2 ≤ (w2.setCell ⟨w.heap.size + 1, k, none⟩ (.int .i64 (sk + bits .and .i64 (x / 2 ^ k) 1))).heap.size) := hid (by have := HZC.out; have := hb2'.size; simp; omega)
            clear hcell2 hfro2 hb2 hb2' HC0 HC1 HBC HZC HCELL hcell
            go_wp2
            go_roundw
            case rel => exact ⟨k+1, by omega, by go_num, HN1, HN2, HN3, HN4⟩
            case measure => simp [intOf]; omega
        · obtain rfl : k = 7 := by omega
          rw [shArr_next] at HC1
          go_wp2
          go_roundw
          case rel => exact ⟨i+1, by omega, by go_num, HC0, HC1, HBC, HZC⟩
          case measure => simp [intOf]; omega
    · obtain rfl : i = 10 := by omega
      have HU := hid Try.underlying35
      have HS1 := hid (show (Try.prog.info? 35).map (·.size) = some (shArr 10 0).size by rw [hs, size_shArr])
      have HOLD := hid (show T0.size = (shArr 10 0).size by rw [← HT0.out, size_shArr, size_shArr])
      have HONE := hid (shArr_one 10 0)
      have HAGG := hid (show shAgg = .agg (shArr 10 0) from rfl)
      clear hs
      generalize shArr 10 0 = T1 at *
      go_wp2_with (first
        | (refine wpList_load_row rfl 35 (.tmp 1) rfl (w.heap.size + 1) rfl 35 T1 (0, 0) _ HA1.out HU.out rfl HS1.out ?_)
        | (refine wpList_store_row rfl 35 (.tmp 0) (.tmp 24) rfl w.heap.size T1 rfl rfl 35 T0 HA0.out HS1.out HOLD.out HONE.out ?_))
      have HK := hid (setRow_heap wr w.heap.size T0 T1 35 (0, 0) HA0.out)
      refine bodyPost_ret (results_cell_row (p := 0) (ty := 35) rfl _ _ w.heap.size 35 T1 (0, 0) _ rfl HK.out HU.out rfl HS1.out) rfl ⟨by rw [HAGG.out], below_setRow HB.out (Nat.le_refl _) _⟩
end Go.Proofs.Ytgbnoljmmenlbaa
