/-
  Shares: ChangeTable of the reference; BarShares of both sides.
-/
import Derived.Test.YtgbnoljmmenlbaaRest4
import Derived.Deep.WholeRow
namespace Go.Proofs.Ytgbnoljmmenlbaa
open Go.RowKit

theorem wpList_build0 {P : Program} {w : World} {ops : Array Oper} {rest : List Oper} {o : Oper} {a : Act} {Q : Exit → Act → World → Prop} (hg : o.guard = none) (t : TypeId) (hop : o.op = Op.build t #[]) (v : Value) (hrun : (Instr.build t #[]).run P w = .ok v w) (hK : wpList P ops Q rest (a.put o.dst v) w) : wpList P ops Q (o :: rest) a w := by
  refine wpList_plain hg fun K' hK' => ?_
  unfold Oper.wp execOp
  simp only [hop, Sem.run_bind, List.map_toArray, List.map_nil, hrun, Result.andThen_ok]
  exact hK' _ _ hK

theorem TBlk.farRow {w : World} {g : Nat} {t : TypeId} {cs : Array Value} (h : TBlk w g t cs) {k : Nat} (hk : g ≠ k) (c' : Array Value) : TBlk (w.setRow k c') g t cs := by
  unfold TBlk at h ⊢
  have hk' : ¬ k = g := fun e => hk e.symm
  simp only [World.setRow]
  rw [Array.getElem?_modify, if_neg hk', h]

theorem built_tab : Try.prog.built 33 [] = some (tabArr 0) := by kernel_rfl
set_option maxRecDepth 100000 in
set_option maxHeartbeats 4000000 in
theorem specChangeTable_any (w : World) : Calls Try.prog 14 #[] w fun e w' => e = .returned tabAgg ∧ Below w.heap.size w w' := by
  obtain ⟨hz, hs⟩ := zero_of_info infoTab
  have HBU : Hid (∀ w : World, (Instr.build 33 #[]).run Try.prog w = .ok (.agg (tabArr 0)) w) := hid fun w => run_build w _ #[] _ built_tab
  have HS0 := hid (show (Try.prog.info? 33).map (·.size) = some (tabArr 0).size by rw [hs, size_tabArr])
  have HONE0 := hid (tabArr_one 0)
  obtain ⟨T0, hT0⟩ : ∃ T0, tabArr 0 = T0 := ⟨_, rfl⟩
  rw [hT0] at hz HBU HS0 HONE0
  have HT0 := hid hT0
  clear hT0
  have HK0 : Hid (TBlk ((w.alloc (.cells T0 33)).alloc (.cells T0 33)) w.heap.size 33 T0) := hid ((TBlk.new w _ _).alloc _)
  have HK1 : Hid (TBlk ((w.alloc (.cells T0 33)).alloc (.cells T0 33)) (w.heap.size + 1) 33 T0) := hid (by have := TBlk.new (w.alloc (.cells T0 33)) 33 T0; simpa using this)
  have HB0 : Hid (Below w.heap.size w ((w.alloc (.cells T0 33)).alloc (.cells T0 33))) := hid (((Below.refl _ _).alloc (Nat.le_refl _) _).alloc (by simp) _)
  have HW0 : Hid (TBlk (((w.alloc (.cells T0 33)).alloc (.cells T0 33)).setRow (w.heap.size + 1) T0) w.heap.size 33 T0) := hid (HK0.out.farRow (by omega) _)
  have HW1 : Hid (TBlk (((w.alloc (.cells T0 33)).alloc (.cells T0 33)).setRow (w.heap.size + 1) T0) (w.heap.size + 1) 33 (tabArr 0)) := hid (by rw [HT0.out]; exact setRow_heap _ _ _ _ _ _ HK1.out)
  have HWB : Hid (Below w.heap.size w (((w.alloc (.cells T0 33)).alloc (.cells T0 33)).setRow (w.heap.size + 1) T0)) := hid (below_setRow HB0.out (by omega) _)
  clear HK0 HB0
  go_enter Try.func14, Try.ntmps14
  go_wp2_with (first
    | (with_reducible refine wpList_build0 rfl 33 rfl _ (HBU.out _) ?_)
    | (refine wpList_store_row rfl 33 (.tmp 1) (.tmp 4) rfl (w.heap.size + 1) T0 rfl rfl 33 T0 HK1.out HS0.out rfl HONE0.out ?_))
  generalize ((w.alloc (.cells T0 33)).alloc (.cells T0 33)).setRow (w.heap.size + 1) T0 = ws at *
  clear HBU HS0 HONE0 HK1 hz
  go_loopw [2, 3] (fun ii _ wr => ∃ i : Nat, i ≤ 10 ∧ ii = .int .i64 i ∧ Hid (TBlk wr w.heap.size 33 T0) ∧ Hid (TBlk wr (w.heap.size + 1) 33 (tabArr (i * 10))) ∧ Hid (Below w.heap.size w wr) ∧ Hid (w.heap.size + 2 ≤ wr.heap.size)) (fun ii _ _ => 10 - (intOf ii).toNat)
  case atStart => exact ⟨0, by omega, rfl, HW0, HW1, HWB, hid (by have := HW1.out.lt; omega)⟩
  case round =>
    clear HW0 HW1 HWB
    obtain ⟨i, hi, rfl, HA0, HA1, HB, HZ⟩ := hrel
    by_cases hlt : i < 10
    · have hi0 : (0 : Int) ≤ i := by omega
      have hiI : (i : Int) < 10 := by omega
      have HTA := hid (fun k (hk : k < 10) => tabAt_at hlt hk)
      have HDI := hid (inB_mk (n := (i : Int)) (lo := 0) (hi := 9) (by omega) (by omega))
      go_wp2
      go_loopw [3] (fun kk wr2 => ∃ k : Nat, k ≤ 10 ∧ kk = .int .i64 k ∧ Hid (TBlk wr2 w.heap.size 33 T0) ∧ Hid (TBlk wr2 (w.heap.size + 1) 33 (tabArr (i * 10 + k))) ∧ Hid (Below w.heap.size w wr2) ∧ Hid (w.heap.size + 2 ≤ wr2.heap.size)) (fun kk _ => 10 - (intOf kk).toNat)
      case atStart => exact ⟨0, by omega, rfl, HA0, HA1, HB, HZ⟩
      case round =>
        clear HA0 HA1 HB HZ
        obtain ⟨k, hk, rfl, HC0, HC1, HBC, HZC⟩ := hrel
        by_cases hkt : k < 10
        · have hk0 : (0 : Int) ≤ k := by omega
          have hkI : (k : Int) < 10 := by omega
          have HT := hid (HTA.out k hkt)
          have HDK := hid (inB_mk (n := (k : Int)) (lo := 0) (hi := 9) (by omega) (by omega))
          have HCALL := hid (fun w' (hb : Below wr.heap.size wr w') => l4Digits_from wr (i : Int) (k : Int) w' HDI.out HDK.out hb)
          have HS := hid (tabArr_set (i * 10 + k) (by omega))
          rw [HT.out] at HS
          generalize farI (digitC (i : Int)) (digitC (k : Int)) = f at *
          obtain ⟨z, hz0⟩ : ∃ z, (if i * 10 + k < i * 10 + k then tabAt (i * 10 + k) else 0) = z := ⟨_, rfl⟩
          have HCELL : Hid (∀ w', Below wr.heap.size wr w' → w'.cell? ⟨w.heap.size + 1, i * 10 + k, none⟩ = some (.int .i64 z) ∧ w'.frozen? ⟨w.heap.size + 1, i * 10 + k, none⟩ = false) := hid fun w' hb => by
            have h := HC1.out.below hb
            refine ⟨?_, h.frozen _⟩
            rw [h.cell, tabArr_get _ _ (by omega), hz0]
          clear hz0
          go_wp2
          go_region_with (go_at_call 37; refine (HCALL.out _ (by first | exact Below.refl _ _ | exact (Below.refl _ _).drew)).mono ?_; rintro e w2 ⟨rfl, hb2⟩; obtain ⟨hcell2, hfro2⟩ := HCELL.out w2 hb2)
          all_goals
            have HN1 : Hid (TBlk (w2.setCell ⟨w.heap.size + 1, i * 10 + k, none⟩ (.int .i64 f)) w.heap.size 33 T0) := hid ((HC0.out.below hb2).far (by simp) _)
            have HN2 : Hid (TBlk (w2.setCell ⟨w.heap.size + 1, i * 10 + k, none⟩ (.int .i64 f)) (w.heap.size + 1) 33 (tabArr (i * 10 + (k + 1)))) := hid (by rw [← Nat.add_assoc, ← HS.out]; exact (HC1.out.below hb2).set _ _)
            have HN3 : Hid (Below w.heap.size w (w2.setCell ⟨w.heap.size + 1, i * 10 + k, none⟩ (.int .i64 f))) := hid ((HBC.out.trans (hb2.mono HBC.out.size)).setCell (by simp) _)
            have HN4 : Hid (w.heap.size + 2 ≤ (w2.setCell ⟨w.heap.size + 1, i * 10 + k, none⟩ (.int .i64 f)).heap.size) := hid (by have := HZC.out; have := hb2.size; simp; omega)
            clear hcell2 hfro2 hb2 HC0 HC1 HBC HZC HCELL HCALL
            go_wp2
            go_roundw
            case rel => exact ⟨k+1, by omega, by go_num, HN1, HN2, HN3, HN4⟩
            case measure => simp [intOf]; omega
        · obtain rfl : k = 10 := by omega
          rw [show i * 10 + 10 = (i+1) * 10 by omega] at HC1
          go_wp2
          go_roundw
          case rel => exact ⟨i+1, by omega, by go_num, HC0, HC1, HBC, HZC⟩
          case measure => simp [intOf]; omega
    · obtain rfl : i = 10 := by omega
      have HU := hid Try.underlying33
      have HS1 := hid (show (Try.prog.info? 33).map (·.size) = some (tabArr (10 * 10)).size by rw [hs, size_tabArr])
      have HOLD := hid (show T0.size = (tabArr (10 * 10)).size by rw [← HT0.out, size_tabArr, size_tabArr])
      have HONE := hid (tabArr_one (10 * 10))
      have HAGG := hid (show tabAgg = .agg (tabArr (10 * 10)) from rfl)
      clear hs
      generalize tabArr (10 * 10) = T1 at *
      go_wp2_with (first
        | (refine wpList_load_row rfl 33 (.tmp 1) rfl (w.heap.size + 1) rfl 33 T1 (0, 0) _ HA1.out HU.out rfl HS1.out ?_)
        | (refine wpList_store_row rfl 33 (.tmp 0) (.tmp 20) rfl w.heap.size T1 rfl rfl 33 T0 HA0.out HS1.out HOLD.out HONE.out ?_))
      have HK := hid (setRow_heap wr w.heap.size T0 T1 33 (0, 0) HA0.out)
      refine bodyPost_ret (results_cell_row (p := 0) (ty := 33) rfl _ _ w.heap.size 33 T1 (0, 0) _ rfl HK.out HU.out rfl HS1.out) rfl ⟨by rw [HAGG.out], below_setRow HB.out (Nat.le_refl _) _⟩
end Go.Proofs.Ytgbnoljmmenlbaa
