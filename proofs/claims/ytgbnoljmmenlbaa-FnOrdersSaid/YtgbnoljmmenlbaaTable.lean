import Derived.Test.YtgbnoljmmenlbaaDigit
import Derived.Test.YtgbnoljmmenlbaaClone
import Derived.Deep.WholeRow
import Derived.Laws.CopyOwn
import Derived.Deep.RegionWith
import Derived.Deep.QuietTactic
import Derived.BigQuiet
import Derived.IntWalk
namespace Go.Proofs.Ytgbnoljmmenlbaa
open Go.RowKit

/-! ## ChangeTable, digitChanges -/
def tabAt (j : Nat) : Int := farI (digitC ((j / 10 : Nat) : Int)) (digitC ((j % 10 : Nat) : Int))
/-- The table's cells of which the first m are laid. -/
def tabTo (m : Nat) : List Int := (List.range 100).map fun j => if j < m then tabAt j else 0
def tabArr (m : Nat) : Array Value := ((tabTo m).map (Value.int .i64)).toArray
def tabAgg : Value := .agg (tabArr 100)
theorem size_tabArr (m : Nat) : (tabArr m).size = 100 := by simp [tabArr, tabTo]
theorem tabArr_one (m : Nat) : (tabArr m).all (·.oneCell') = true := by
  rw [Array.all_eq_true]
  intro i hi
  simp only [tabArr, List.getElem_toArray, List.getElem_map]
  rfl
theorem tabArr_get (m j : Nat) (h : j < 100) : (tabArr m)[j]? = some (.int .i64 (if j < m then tabAt j else 0)) := by
  simp [tabArr, tabTo, h]
theorem tabArr_set (m : Nat) (h : m < 100) : (tabArr m).setIfInBounds m (.int .i64 (tabAt m)) = tabArr (m+1) := by
  apply Array.ext_getElem?
  intro j
  rw [Array.getElem?_setIfInBounds]
  by_cases hj : j < 100
  · rw [tabArr_get (m+1) j hj]
    by_cases e : m = j
    · subst e
      rw [if_pos rfl, if_pos (by rw [size_tabArr]; exact h), if_pos (by omega)]
    · rw [if_neg e, tabArr_get m j hj]
      by_cases h1 : j < m
      · rw [if_pos h1, if_pos (by omega)]
      · rw [if_neg h1, if_neg (by omega)]
  · rw [if_neg (by omega), Array.getElem?_eq_none (by rw [size_tabArr]; omega), Array.getElem?_eq_none (by rw [size_tabArr]; omega)]

/-- Block g of w is just these cells. -/
def TBlk (w : World) (g : Nat) (t : TypeId) (cs : Array Value) : Prop := w.heap[g]? = some (.cells cs t (0, 0))
theorem TBlk.cell {w : World} {g : Nat} {t : TypeId} {cs : Array Value} (h : TBlk w g t cs) (i : Nat) : w.cell? ⟨g, i, none⟩ = cs[i]? := cell_of_row w g i cs t (0, 0) h
theorem TBlk.frozen {w : World} {g : Nat} {t : TypeId} {cs : Array Value} (h : TBlk w g t cs) (i : Nat) : w.frozen? ⟨g, i, none⟩ = false := by
  unfold TBlk at h
  simp [World.frozen?, h]
theorem TBlk.lt {w : World} {g : Nat} {t : TypeId} {cs : Array Value} (h : TBlk w g t cs) : g < w.heap.size := by
  rcases Nat.lt_or_ge g w.heap.size with hlt | hge
  · exact hlt
  · unfold TBlk at h; rw [Array.getElem?_eq_none hge] at h; cases h
theorem TBlk.new (w : World) (t : TypeId) (cs : Array Value) : TBlk (w.alloc (.cells cs t)) w.heap.size t cs := heap_alloc_last w _
theorem TBlk.alloc {w : World} {g : Nat} {t : TypeId} {cs : Array Value} (h : TBlk w g t cs) (o : Obj) : TBlk (w.alloc o) g t cs := (Below.heap_alloc w o g h.lt).trans h
theorem TBlk.set {w : World} {g : Nat} {t : TypeId} {cs : Array Value} (h : TBlk w g t cs) (i : Nat) (u : Value) : TBlk (w.setCell ⟨g, i, none⟩ u) g t (cs.setIfInBounds i u) := by
  unfold TBlk at h ⊢
  simp [World.setCell, Array.getElem?_modify, h]
theorem TBlk.far {w : World} {g : Nat} {t : TypeId} {cs : Array Value} (h : TBlk w g t cs) {p : Addr} (hp : g ≠ p.block) (u : Value) : TBlk (w.setCell p u) g t cs := (Below.heap_setCell w p u g hp).trans h
theorem TBlk.below {w w' : World} {g : Nat} {t : TypeId} {cs : Array Value} (h : TBlk w g t cs) (hb : Below w.heap.size w w') : TBlk w' g t cs := (hb.block g h.lt).trans h
theorem TBlk.drew {w : World} {g : Nat} {t : TypeId} {cs : Array Value} (h : TBlk w g t cs) : TBlk w.drew g t cs := h

def cells10 : Array Value := #[.int .i64 63, .int .i64 6, .int .i64 91, .int .i64 79, .int .i64 102, .int .i64 109, .int .i64 125, .int .i64 7, .int .i64 127, .int .i64 111]
theorem digC_range {k : Nat} (h : k < 10) : 0 ≤ digitC (k : Int) ∧ digitC (k : Int) ≤ 127 := digitC_range (inB_mk (by omega) (by omega))
theorem tabAt_at {i k : Nat} (_hi : i < 10) (hk : k < 10) : tabAt (i * 10 + k) = farI (digitC (i : Int)) (digitC (k : Int)) := by
  unfold tabAt
  rw [show (i * 10 + k) / 10 = i by omega, show (i * 10 + k) % 10 = k by omega]

theorem infoTab : (Try.prog.info? 33).map (fun i => (i.zero, i.size)) = some (some (.agg (tabArr 0)), 100) := by kernel_rfl
set_option maxRecDepth 100000 in
set_option maxHeartbeats 4000000 in
theorem ChangeTable_any (w : World) : Calls Try.prog 13 #[] w fun e w' => e = .returned tabAgg ∧ Below w.heap.size w w' := by
  obtain ⟨hz, hs⟩ := zero_of_info infoTab
  obtain ⟨T0, hT0⟩ : ∃ T0, tabArr 0 = T0 := ⟨_, rfl⟩
  rw [hT0] at hz
  have HT0 := hid hT0
  clear hT0
  have HB0 : Hid (Below w.heap.size w ((w.alloc (.cells T0 33)).alloc (.cells T0 33))) := hid (((Below.refl _ _).alloc (Nat.le_refl _) _).alloc (by simp) _)
  have HK0 : Hid (TBlk ((w.alloc (.cells T0 33)).alloc (.cells T0 33)) w.heap.size 33 T0) := hid ((TBlk.new w _ _).alloc _)
  have HK1 : Hid (TBlk ((w.alloc (.cells T0 33)).alloc (.cells T0 33)) (w.heap.size + 1) 33 T0) := hid (by have := TBlk.new (w.alloc (.cells T0 33)) 33 T0; simpa using this)
  go_enter Try.func13, Try.ntmps13
  go_wp2_with fail
  refine (digitCells_any _).mono ?_
  rintro e w1 ⟨rfl, hb⟩
  unfold cellsAgg
  have HB1 := hid ((HB0.out.trans (hb.mono HB0.out.size)).alloc (Nat.le_trans HB0.out.size hb.size) (.cells cells10 32))
  have HK2 := hid ((HK0.out.below hb).alloc (.cells cells10 32))
  have HK3 := hid ((HK1.out.below hb).alloc (.cells cells10 32))
  have HK4 := hid (TBlk.new w1 32 cells10)
  have hsz : w.heap.size + 2 ≤ w1.heap.size := by
    have := hb.size
    simp at this
    omega
  rw [← HT0.out] at HK3
  clear hb HB0 HK0 HK1
  unfold cells10 at HB1 HK2 HK3 HK4
  go_wp2
  generalize w1.alloc (.cells #[.int .i64 63, .int .i64 6, .int .i64 91, .int .i64 79, .int .i64 102, .int .i64 109, .int .i64 125, .int .i64 7, .int .i64 127, .int .i64 111] 32) = ws at *
  generalize w1.heap.size = bo at *
  go_loopw [3, 4, 5, 6, 9, 13, 14] (fun _ _ _ _ ii _ _ wr => ∃ i : Nat, i ≤ 10 ∧ ii = .int .i64 i ∧ Hid (TBlk wr w.heap.size 33 T0) ∧ Hid (TBlk wr (w.heap.size + 1) 33 (tabArr (i * 10))) ∧ Hid (TBlk wr bo 32 cells10) ∧ Hid (Below w.heap.size w wr)) (fun _ _ _ _ ii _ _ _ => 10 - (intOf ii).toNat)
  case atStart => exact ⟨0, by omega, rfl, HK2, HK3, HK4, HB1⟩
  case round =>
    obtain ⟨i, hi, rfl, HA0, HA1, HA2, HB⟩ := hrel
    clear HK2 HK3 HK4 HB1
    by_cases hlt : i < 10
    · have hdi := digC_range hlt
      have hidx : ∀ w' : World, (Instr.index 32 cellsAgg (.int .i64 i)).run Try.prog w' = .ok (.int .i64 (digitC i)) w' := fun w' => run_cells_index (inB_mk (by omega) (by omega)) w'
      unfold cellsAgg at hidx
      have c0 := HA2.out.cell 0
      have c1 := HA2.out.cell 1
      have c2 := HA2.out.cell 2
      have c3 := HA2.out.cell 3
      have c4 := HA2.out.cell 4
      have c5 := HA2.out.cell 5
      have c6 := HA2.out.cell 6
      have c7 := HA2.out.cell 7
      have c8 := HA2.out.cell 8
      have c9 := HA2.out.cell 9
      simp only [cells10, List.getElem?_toArray, List.getElem?_cons_zero, List.getElem?_cons_succ] at c0 c1 c2 c3 c4 c5 c6 c7 c8 c9
      have HI := hid hlt
      have hiI : (i : Int) < 10 := by omega
      have HTA := hid (fun k (hk : k < 10) => tabAt_at hlt hk)
      generalize digitC (i : Int) = x at *
      go_wp2
      clear hidx c0 c1 c2 c3 c4 c5 c6 c7 c8 c9
      go_loopw [5, 6, 14] (fun _ _ kk wr2 => ∃ k : Nat, k ≤ 10 ∧ kk = .int .i64 k ∧ Hid (TBlk wr2 w.heap.size 33 T0) ∧ Hid (TBlk wr2 (w.heap.size + 1) 33 (tabArr (i * 10 + k))) ∧ Hid (TBlk wr2 bo 32 cells10) ∧ Hid (Below w.heap.size w wr2)) (fun _ _ kk _ => 10 - (intOf kk).toNat)
      case atStart => exact ⟨0, by omega, rfl, HA0, HA1, HA2, HB⟩
      case round =>
        obtain ⟨k, hk, rfl, HC0, HC1, HC2, HBC⟩ := hrel
        clear HA0 HA1 HA2 HB
        by_cases hkt : k < 10
        · have hdk := digC_range hkt
          have hidx2 : ∀ w' : World, (Instr.index 32 cellsAgg (.int .i64 k)).run Try.prog w' = .ok (.int .i64 (digitC k)) w' := fun w' => run_cells_index (inB_mk (by omega) (by omega)) w'
          unfold cellsAgg at hidx2
          have HT := hid (HTA.out k hkt)
          have hcell := (HC1.out.cell (i * 10 + k)).trans (tabArr_get _ _ (by omega))
          have hfro := HC1.out.frozen (i * 10 + k)
          obtain ⟨z, hz0⟩ : ∃ z, (if i * 10 + k < i * 10 + k then tabAt (i * 10 + k) else 0) = z := ⟨_, rfl⟩
          rw [hz0] at hcell
          clear hz0
          have hX := xorI_range hdi.1 hdi.2 hdk.1 hdk.2
          have HS := hid (tabArr_set (i * 10 + k) (by omega))
          rw [HT.out] at HS
          generalize digitC (k : Int) = y at *
          have HN1 : Hid (TBlk (wr.drew.setCell ⟨w.heap.size + 1, i * 10 + k, none⟩ (.int .i64 (farI x y))) w.heap.size 33 T0) := hid (HC0.out.drew.far (by simp) _)
          have HN2 : Hid (TBlk (wr.drew.setCell ⟨w.heap.size + 1, i * 10 + k, none⟩ (.int .i64 (farI x y))) (w.heap.size + 1) 33 (tabArr (i * 10 + k + 1))) := hid (by rw [← HS.out]; exact HC1.out.drew.set _ _)
          have HN3 : Hid (TBlk (wr.drew.setCell ⟨w.heap.size + 1, i * 10 + k, none⟩ (.int .i64 (farI x y))) bo 32 cells10) := hid (HC2.out.drew.far (by simp; omega) _)
          have HN4 : Hid (Below w.heap.size w (wr.drew.setCell ⟨w.heap.size + 1, i * 10 + k, none⟩ (.int .i64 (farI x y)))) := hid (HBC.out.drew.setCell (by simp) _)
          have HFX := hid (show farI x y = cntI (xorI x y) from rfl)
          rw [HFX.out] at HN1 HN2 HN3 HN4
          have hi0 : (0 : Int) ≤ i := by omega
          have hi1 : (i : Int) < 10 := by omega
          have hk0 : (0 : Int) ≤ k := by omega
          have hk1 : (k : Int) < 10 := by omega
          clear HC0 HC1 HC2 HBC HS HT
          go_wp2
          go_region_with (go_at_call 36; refine (count_any (xorI x y) _ hX.1 hX.2).mono ?_; rintro e w2 ⟨rfl, rfl⟩)
          all_goals
            go_wp2
            go_roundw
            case rel => exact ⟨k+1, by omega, by go_num, HN1, HN2, HN3, HN4⟩
            case measure => simp [intOf]; omega
        · have hk10 : k = 10 := by omega
          rw [hk10, show i * 10 + 10 = (i+1) * 10 by omega] at HC1
          go_wp2
          go_roundw
          case rel => exact ⟨i+1, by omega, by go_num, HC0, HC1, HC2, HBC⟩
          case measure => simp [intOf]; omega
    · have hi10 : i = 10 := by omega
      rw [hi10] at HA1
      have HU := hid Try.underlying33
      have HS1 := hid (show (Try.prog.info? 33).map (·.size) = some (tabArr (10 * 10)).size by rw [hs, size_tabArr])
      have HOLD := hid (show T0.size = (tabArr (10 * 10)).size by rw [← HT0.out, size_tabArr, size_tabArr])
      have HONE := hid (tabArr_one (10 * 10))
      have HAGG := hid (show tabAgg = .agg (tabArr (10 * 10)) from rfl)
      clear hs hz
      generalize tabArr (10 * 10) = T1 at *
      go_wp2_with (first
        | (refine wpList_load_row rfl 33 (.tmp 1) rfl (w.heap.size + 1) rfl 33 T1 (0, 0) _ HA1.out HU.out rfl HS1.out ?_)
        | (refine wpList_store_row rfl 33 (.tmp 0) (.tmp 28) rfl w.heap.size T1 rfl rfl 33 T0 HA0.out HS1.out HOLD.out HONE.out ?_))
      have HK := hid (setRow_heap wr w.heap.size T0 T1 33 (0, 0) HA0.out)
      refine bodyPost_ret (results_cell_row (p := 0) (ty := 33) rfl _ _ w.heap.size 33 T1 (0, 0) _ rfl HK.out HU.out rfl HS1.out) rfl ⟨by rw [HAGG.out], below_setRow HB.out (Nat.le_refl _) _⟩

end Go.Proofs.Ytgbnoljmmenlbaa
