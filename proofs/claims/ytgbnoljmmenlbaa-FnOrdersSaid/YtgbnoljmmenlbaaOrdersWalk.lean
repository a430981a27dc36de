/-
  FnOrders: the law's call returns true, whatever its argument, and leaves what was there.
-/
import Derived.Test.YtgbnoljmmenlbaaOrdersLaw
import Derived.Test.YtgbnoljmmenlbaaOrdEq
import Derived.Test.YtgbnoljmmenlbaaOrdCost2
import Derived.Test.YtgbnoljmmenlbaaSpecLeast
import Derived.Test.YtgbnoljmmenlbaaDrawO
import Derived.Deep.RegionHeld3
import Derived.Deep.DeepCutAuto
import Derived.Deep.CutRange
import Derived.Deep.CutBlock
namespace Go.Proofs.Ytgbnoljmmenlbaa
open Go.RowKit

/-- Block tb holds the table of changes; block sb holds the shares. -/
def TabB (w : World) (tb : Nat) : Prop := (∀ p q : Nat, p < 10 → q < 10 → w.cell? ⟨tb, p * 10 + q, none⟩ = some (.int .i64 (dd p q))) ∧ tb < w.heap.size
theorem TabB.later {w w' : World} {tb : Nat} (h : TabB w tb) (hb : Below w.heap.size w w') : TabB w' tb :=
  ⟨fun p q hp hq => (hb.cell (by exact h.2)).trans (h.1 p q hp hq), Nat.lt_of_lt_of_le h.2 hb.size⟩
def ShB (w : World) (sb : Nat) : Prop := (∀ j : Nat, j < 7 → w.cell? ⟨sb, j, none⟩ = some (.int .i64 (shC 10 j))) ∧ sb < w.heap.size
theorem ShB.later {w w' : World} {sb : Nat} (h : ShB w sb) (hb : Below w.heap.size w w') : ShB w' sb :=
  ⟨fun j hj => (hb.cell (by exact h.2)).trans (h.1 j hj), Nat.lt_of_lt_of_le h.2 hb.size⟩

theorem rIntsT_any (v1 v2 : Value) (xs : List Int) (w : World) (h1 : Ints w v1 xs) (h2 : Ints w v2 xs) :
    Calls Try.prog 10 #[v1, v2] w fun e w' => e = .returned (.bool true) ∧ Below w.heap.size w w' :=
  (rInts_any v1 v2 xs xs w h1 h2).mono fun e w' ⟨he, m, hm⟩ => ⟨by rw [he, decide_eq_true rfl], hm ▸ below_drewN (Below.refl _ _) m⟩
theorem tab_out : ∃ TL : List Value, tabAgg = .agg TL.toArray ∧ (Try.prog.info? 33).map (·.size) = some TL.length ∧ TL.toArray.all (·.oneCell') = true ∧
    (∀ p q : Nat, p < 10 → q < 10 → TL[p * 10 + q]? = some (.int .i64 (dd p q))) ∧ (∀ w, (binOp .neq 33 (.agg TL.toArray) (.agg TL.toArray)).run Try.prog w = .ok (.bool false) w) := by
  obtain ⟨hz, hs⟩ := zero_of_info infoTab
  refine ⟨(tabTo 100).map (Value.int .i64), rfl, ?_, tabArr_one 100, fun p q hp hq => ?_, neq_tab⟩
  · rw [hs, List.length_map]
    simp [tabTo]
  · have h := tabArr_get 100 (p * 10 + q) (by omega)
    rw [if_pos (by omega), tabAt_at hp hq] at h
    unfold tabArr at h
    rw [List.getElem?_toArray] at h
    exact h
theorem sh_out : shAgg = .agg #[.int .i64 (shC 10 0), .int .i64 (shC 10 1), .int .i64 (shC 10 2), .int .i64 (shC 10 3), .int .i64 (shC 10 4), .int .i64 (shC 10 5), .int .i64 (shC 10 6)] := rfl

set_option maxRecDepth 100000 in
set_option maxHeartbeats 40000000 in
theorem fnOrders_law (v : Value) (n : Nat) (w : World) (hx : Byts w v n) :
    Calls Try.prog 3 #[v] w fun e w' => e = .returned (.bool true) ∧ Below w.heap.size w w' := by
  have HC := hid hx
  have HB := hid (Below.refl w.heap.size w)
  clear hx
  by_cases hbig : 65536 < n
  · have hb : decide (65536 < n) = true := decide_eq_true hbig
    go_enter Try.func3, Try.ntmps3
    go_wp2_with fail
    refine (rBig_any v n w HC.out).mono ?_
    rintro e w' ⟨rfl, rfl⟩
    rw [hb]
    go_wp2
    go_ret
    exact ⟨rfl, HB.out⟩
  have hbd : decide (65536 < n) = false := decide_eq_false hbig
  have HN := hid hbig
  clear hbig
  obtain ⟨TL, hTA, hTS, hTO, hTG, hTN⟩ := tab_out
  have HTS := hid hTS
  have HTO := hid hTO
  have HTG := hid hTG
  have HTN := hid hTN
  have HCT : Hid (∀ w, Calls Try.prog 13 #[] w fun e w' => e = .returned (.agg TL.toArray) ∧ Below w.heap.size w w') := hid (by rw [← hTA]; exact ChangeTable_any)
  have HST : Hid (∀ w, Calls Try.prog 14 #[] w fun e w' => e = .returned (.agg TL.toArray) ∧ Below w.heap.size w w') := hid (by rw [← hTA]; exact specChangeTable_any)
  clear hTA hTS hTO hTG hTN
  obtain ⟨hz0, hs0⟩ := zero_of_info infoTab
  obtain ⟨T0, hT0⟩ : ∃ T0, tabArr 0 = T0 := ⟨_, rfl⟩
  rw [hT0] at hz0
  have HT0 := hid (show T0.size = TL.toArray.size by
    have h1 := HTS.out
    rw [hs0] at h1
    rw [← hT0, size_tabArr, List.size_toArray]
    simpa using h1)
  have HZ0 := hid hz0
  clear hT0 hs0 hz0
  go_enter Try.func3, Try.ntmps3
  go_wp2_with fail
  refine (rBig_any v n w HC.out).mono ?_
  rintro e w' ⟨rfl, rfl⟩
  rw [hbd]
  clear hbd
  go_wp2_with fail
  refine (DrawOrderCost_any v n _ HC.out (by have := HN.out; omega)).mono ?_
  rintro e w1 ⟨u, xs, ring, rfl, ho, hlx, hb⟩
  replace HC := hid (HC.out.later hb)
  replace HB := hid (HB.out.trans (hb.mono HB.out.size))
  clear hb hlx
  obtain ⟨aU, cU, rfl⟩ := ho.spell rfl
  have HU := hid ho
  clear ho
  obtain ⟨ok, c, best, circle, least, round, other, more, h1, h2, h3, h4⟩ := orders_out xs ring
  have HOC := hid h1
  have HLS := hid h2
  have HLR := hid h3
  have HLAW := hid h4
  clear h1 h2 h3 h4
  go_wp2_with fail
  have hc := implOrderCost_any _ xs ring _ HU.out.ints
  simp only [HOC.out] at hc
  refine hc.mono ?_
  clear hc
  rintro e w2 ⟨rfl, hb⟩
  replace HC := hid (HC.out.later hb)
  replace HU := hid (HU.out.later hb)
  replace HB := hid (HB.out.trans (hb.mono HB.out.size))
  clear hb
  go_wp2_with fail
  have hc := specOrderCost_any _ xs ring _ HU.out.ints
  simp only [HOC.out] at hc
  refine hc.mono ?_
  clear hc
  rintro e w3 ⟨rfl, hb⟩
  replace HC := hid (HC.out.later hb)
  replace HU := hid (HU.out.later hb)
  replace HB := hid (HB.out.trans (hb.mono HB.out.size))
  clear hb
  go_wp2_with fail
  have hc := implLeastOrder_any _ xs _ HU.out.ints
  simp only [HLS.out] at hc
  refine hc.mono ?_
  clear hc
  rintro e w4 ⟨vB, rfl, ho, hb⟩
  replace HC := hid (HC.out.later hb)
  replace HU := hid (HU.out.later hb)
  replace HB := hid (HB.out.trans (hb.mono HB.out.size))
  clear hb
  obtain ⟨aB, cB, rfl⟩ := ho.spell rfl
  have HBS := hid ho
  clear ho
  go_wp2_with fail
  have hc := specLeastOrder_any _ xs _ HU.out.ints
  simp only [HLS.out] at hc
  refine hc.mono ?_
  clear hc
  rintro e w5 ⟨vX, rfl, ho, hb⟩
  replace HC := hid (HC.out.later hb)
  replace HU := hid (HU.out.later hb)
  replace HBS := hid (HBS.out.later hb)
  replace HB := hid (HB.out.trans (hb.mono HB.out.size))
  clear hb
  have HX := hid ho
  clear ho
  go_wp2_with fail
  refine (rIntsT_any _ _ best _ HBS.out.ints HX.out.ints).mono ?_
  clear HX
  rintro e w6 ⟨rfl, hb⟩
  replace HC := hid (HC.out.later hb)
  replace HU := hid (HU.out.later hb)
  replace HBS := hid (HBS.out.later hb)
  replace HB := hid (HB.out.trans (hb.mono HB.out.size))
  clear hb
  go_wp2_with fail
  have hc := implLeastRing_any _ xs _ HU.out.ints
  simp only [HLR.out] at hc
  refine hc.mono ?_
  clear hc
  rintro e w7 ⟨vC, rfl, ho, hb⟩
  replace HC := hid (HC.out.later hb)
  replace HU := hid (HU.out.later hb)
  replace HBS := hid (HBS.out.later hb)
  replace HB := hid (HB.out.trans (hb.mono HB.out.size))
  clear hb
  obtain ⟨aC, cC, rfl⟩ := ho.spell rfl
  have HCI := hid ho
  clear ho
  go_wp2_with fail
  have hc := specLeastRing_any _ xs _ HU.out.ints
  simp only [HLR.out] at hc
  refine hc.mono ?_
  clear hc
  rintro e w8 ⟨vY, rfl, ho, hb⟩
  replace HC := hid (HC.out.later hb)
  replace HU := hid (HU.out.later hb)
  replace HBS := hid (HBS.out.later hb)
  replace HCI := hid (HCI.out.later hb)
  replace HB := hid (HB.out.trans (hb.mono HB.out.size))
  clear hb
  have HX := hid ho
  clear ho
  go_wp2_with fail
  refine (rIntsT_any _ _ circle _ HCI.out.ints HX.out.ints).mono ?_
  clear HX
  rintro e w9 ⟨rfl, hb⟩
  replace HC := hid (HC.out.later hb)
  replace HU := hid (HU.out.later hb)
  replace HBS := hid (HBS.out.later hb)
  replace HCI := hid (HCI.out.later hb)
  replace HB := hid (HB.out.trans (hb.mono HB.out.size))
  clear hb
  go_wp2_with fail
  refine (HCT.out _).mono ?_
  rintro e w10 ⟨rfl, hb⟩
  replace HC := hid (HC.out.later hb)
  replace HU := hid (HU.out.later hb)
  replace HBS := hid (HBS.out.later hb)
  replace HCI := hid (HCI.out.later hb)
  replace HB := hid (HB.out.trans (hb.mono HB.out.size))
  clear hb
  have HTB0 : Hid (TBlk (w10.alloc (.cells T0 33)) w10.heap.size 33 T0) := hid (TBlk.new w10 _ _)
  have hb0 : Below w10.heap.size w10 ((w10.alloc (.cells T0 33)).setRow w10.heap.size TL.toArray) := below_setRow ((Below.refl w10.heap.size w10).alloc (Nat.le_refl _) _) (Nat.le_refl _) _
  have HTT : Hid (TBlk ((w10.alloc (.cells T0 33)).setRow w10.heap.size TL.toArray) w10.heap.size 33 TL.toArray) := hid (setRow_heap _ w10.heap.size T0 TL.toArray 33 (0, 0) HTB0.out)
  have HSZA : Hid ((Try.prog.info? 33).map (·.size) = some TL.toArray.size) := hid (by rw [HTS.out, List.size_toArray])
  have hz0 := HZ0.out
  go_wp2_with (refine wpList_store_row rfl 33 (.tmp 21) (.tmp 136) rfl w10.heap.size TL.toArray rfl rfl 33 T0 HTB0.out HSZA.out HT0.out HTO.out ?_)
  clear hz0 HZ0 HT0 HTO HSZA HTB0 HCT
  generalize hW11 : (w10.alloc (.cells T0 33)).setRow w10.heap.size TL.toArray = w11 at *
  clear hW11
  replace HC := hid (HC.out.later hb0)
  replace HU := hid (HU.out.later hb0)
  replace HBS := hid (HBS.out.later hb0)
  replace HCI := hid (HCI.out.later hb0)
  replace HB := hid (HB.out.trans (hb0.mono HB.out.size))
  clear hb0
  generalize w10.heap.size = tb at *
  have htl := HTT.out.lt
  have HRG : Hid (∀ W, Below w11.heap.size w11 W → W.rangeAt tb 0 TL ∧ Below w11.heap.size w11 W) := hid fun W hb => ⟨fun j v hv => by rw [Nat.zero_add]; exact (HTT.out.below hb).cell j |>.trans (by rw [List.getElem?_toArray]; exact hv), hb⟩
  have hu33 := Try.underlying33
  have hi33 := HTS.out
  have hneq := HTN.out
  simp only [Act.put]
  go_region_held3 (fun W => W.rangeAt tb 0 TL ∧ Below w11.heap.size w11 W) (first | exact HRG.out _ hb' | exact HRG.out _ (Below.refl _ _).drew)
    (first
      | (go_at_call 14; refine (HST.out _).mono ?_; rintro e w12 ⟨rfl, hbt⟩; have hb' : Below w11.heap.size w11 w12 := ((Below.refl w11.heap.size w11).drew).trans hbt))
  have HTAB : Hid (TabB w12 tb) := hid ⟨fun p q hp hq => by
    rw [(HTT.out.below hb').cell, List.getElem?_toArray]; exact HTG.out p q hp hq, Nat.lt_of_lt_of_le htl hb'.size⟩
  replace HC := hid (HC.out.later hb')
  replace HU := hid (HU.out.later hb')
  replace HBS := hid (HBS.out.later hb')
  replace HCI := hid (HCI.out.later hb')
  replace HB := hid (HB.out.trans (hb'.mono HB.out.size))
  clear hb' hbt hneq hi33 hu33 HRG htl HTT HTS HTG HTN HST
  have HSI : Hid (∀ w, Calls Try.prog 15 #[] w fun e w' => e = .returned (.agg #[.int .i64 (shC 10 0), .int .i64 (shC 10 1), .int .i64 (shC 10 2), .int .i64 (shC 10 3), .int .i64 (shC 10 4), .int .i64 (shC 10 5), .int .i64 (shC 10 6)]) ∧ Below w.heap.size w w') := hid (by rw [← sh_out]; exact implBarShares_any)
  have HSS : Hid (∀ w, Calls Try.prog 16 #[] w fun e w' => e = .returned (.agg #[.int .i64 (shC 10 0), .int .i64 (shC 10 1), .int .i64 (shC 10 2), .int .i64 (shC 10 3), .int .i64 (shC 10 4), .int .i64 (shC 10 5), .int .i64 (shC 10 6)]) ∧ Below w.heap.size w w') := hid (by rw [← sh_out]; exact specBarShares_any)
  have HSN : Hid (∀ w, (binOp .neq 35 (.agg #[.int .i64 (shC 10 0), .int .i64 (shC 10 1), .int .i64 (shC 10 2), .int .i64 (shC 10 3), .int .i64 (shC 10 4), .int .i64 (shC 10 5), .int .i64 (shC 10 6)]) (.agg #[.int .i64 (shC 10 0), .int .i64 (shC 10 1), .int .i64 (shC 10 2), .int .i64 (shC 10 3), .int .i64 (shC 10 4), .int .i64 (shC 10 5), .int .i64 (shC 10 6)])).run Try.prog w = .ok (.bool false) w) := hid (fun w => by rw [← sh_out]; exact neq_sh w)
  obtain ⟨sh, hsh⟩ : ∃ sh : Nat → Int, shC 10 = sh := ⟨_, rfl⟩
  have HSH := hid hsh
  rw [hsh] at HSI HSS HSN
  clear hsh
  go_wp2_with fail
  refine (HSI.out _).mono ?_
  rintro e w13 ⟨rfl, hb⟩
  replace HC := hid (HC.out.later hb)
  replace HU := hid (HU.out.later hb)
  replace HBS := hid (HBS.out.later hb)
  replace HCI := hid (HCI.out.later hb)
  replace HTAB := hid (HTAB.out.later hb)
  replace HB := hid (HB.out.trans (hb.mono HB.out.size))
  clear hb HSI
  go_wp2
  have HSK : Hid (TBlk (w13.alloc (.cells #[.int .i64 (sh 0), .int .i64 (sh 1), .int .i64 (sh 2), .int .i64 (sh 3), .int .i64 (sh 4), .int .i64 (sh 5), .int .i64 (sh 6)] 35)) w13.heap.size 35 #[.int .i64 (sh 0), .int .i64 (sh 1), .int .i64 (sh 2), .int .i64 (sh 3), .int .i64 (sh 4), .int .i64 (sh 5), .int .i64 (sh 6)]) := hid (TBlk.new w13 _ _)
  have hb0 : Below w13.heap.size w13 (w13.alloc (.cells #[.int .i64 (sh 0), .int .i64 (sh 1), .int .i64 (sh 2), .int .i64 (sh 3), .int .i64 (sh 4), .int .i64 (sh 5), .int .i64 (sh 6)] 35)) := (Below.refl _ _).alloc (Nat.le_refl _) _
  replace HC := hid (HC.out.later hb0)
  replace HU := hid (HU.out.later hb0)
  replace HBS := hid (HBS.out.later hb0)
  replace HCI := hid (HCI.out.later hb0)
  replace HTAB := hid (HTAB.out.later hb0)
  replace HB := hid (HB.out.trans (hb0.mono HB.out.size))
  clear hb0
  generalize hW14 : w13.alloc (.cells #[.int .i64 (sh 0), .int .i64 (sh 1), .int .i64 (sh 2), .int .i64 (sh 3), .int .i64 (sh 4), .int .i64 (sh 5), .int .i64 (sh 6)] 35) = w14 at *
  clear hW14
  generalize w13.heap.size = sb at *
  have HSC : Hid (∀ W, Below w14.heap.size w14 W → W.cell? ⟨sb, 0, none⟩ = some (.int .i64 (sh 0)) ∧ W.cell? ⟨sb, 1, none⟩ = some (.int .i64 (sh 1)) ∧ W.cell? ⟨sb, 2, none⟩ = some (.int .i64 (sh 2)) ∧ W.cell? ⟨sb, 3, none⟩ = some (.int .i64 (sh 3)) ∧ W.cell? ⟨sb, 4, none⟩ = some (.int .i64 (sh 4)) ∧ W.cell? ⟨sb, 5, none⟩ = some (.int .i64 (sh 5)) ∧ W.cell? ⟨sb, 6, none⟩ = some (.int .i64 (sh 6)) ∧ Below w14.heap.size w14 W) := hid fun W hb => by
    have h := HSK.out.below hb
    exact ⟨h.cell 0, h.cell 1, h.cell 2, h.cell 3, h.cell 4, h.cell 5, h.cell 6, hb⟩
  have hsl := HSK.out.lt
  have hneq := HSN.out
  go_region_held3 (fun W => W.cell? ⟨sb, 0, none⟩ = some (.int .i64 (sh 0)) ∧ W.cell? ⟨sb, 1, none⟩ = some (.int .i64 (sh 1)) ∧ W.cell? ⟨sb, 2, none⟩ = some (.int .i64 (sh 2)) ∧ W.cell? ⟨sb, 3, none⟩ = some (.int .i64 (sh 3)) ∧ W.cell? ⟨sb, 4, none⟩ = some (.int .i64 (sh 4)) ∧ W.cell? ⟨sb, 5, none⟩ = some (.int .i64 (sh 5)) ∧ W.cell? ⟨sb, 6, none⟩ = some (.int .i64 (sh 6)) ∧ Below w14.heap.size w14 W) (first | exact HSC.out _ hb' | exact HSC.out _ (Below.refl _ _).drew)
    (first
      | (go_at_call 16; refine (HSS.out _).mono ?_; rintro e w15 ⟨rfl, hbt⟩; have hb' : Below w14.heap.size w14 w15 := ((Below.refl w14.heap.size w14).drew).trans hbt))
  have HSB : Hid (ShB w15 sb) := hid ⟨fun j hj => by
    have h := HSK.out.below hb'
    rw [HSH.out, h.cell]
    rcases (show j = 0 ∨ j = 1 ∨ j = 2 ∨ j = 3 ∨ j = 4 ∨ j = 5 ∨ j = 6 by omega) with rfl | rfl | rfl | rfl | rfl | rfl | rfl <;> rfl, Nat.lt_of_lt_of_le hsl hb'.size⟩
  replace HC := hid (HC.out.later hb')
  replace HU := hid (HU.out.later hb')
  replace HBS := hid (HBS.out.later hb')
  replace HCI := hid (HCI.out.later hb')
  replace HTAB := hid (HTAB.out.later hb')
  replace HB := hid (HB.out.trans (hb'.mono HB.out.size))
  clear hb' hbt hneq hsl HSC HSK HSN HSS HSH
  go_wp2_with fail
  refine (DrawNearestDigits_any v n _ HC.out (by have := HN.out; omega)).mono ?_
  clear HC
  rintro e w16 ⟨d, rfl, hb⟩
  replace HU := hid (HU.out.later hb)
  replace HBS := hid (HBS.out.later hb)
  replace HCI := hid (HCI.out.later hb)
  replace HTAB := hid (HTAB.out.later hb)
  replace HSB := hid (HSB.out.later hb)
  replace HB := hid (HB.out.trans (hb.mono HB.out.size))
  clear hb
  obtain ⟨near, far, three, hnd, hnl⟩ : ∃ (near : List Int) (far : Int) (three : Bool), ndR d = (near, far, three) ∧ (three = true → inB d 0 9 = true ∧ near = (ndTo d 10).1 ∧ far = (ndTo d 10).2) := by
    cases h : inB d 0 9 with
    | false => exact ⟨[], 0, false, ndR_no h, fun e => by cases e⟩
    | true => exact ⟨_, _, true, ndR_yes h, fun _ => ⟨rfl, rfl, rfl⟩⟩
  have HND := hid hnd
  have HNL := hid hnl
  clear hnd hnl
  go_wp2_with fail
  have hc := implNearestDigits_any d w16
  simp only [HND.out] at hc
  refine hc.mono ?_
  clear hc
  rintro e w17 ⟨vN, rfl, ho, hb⟩
  replace HU := hid (HU.out.later hb)
  replace HBS := hid (HBS.out.later hb)
  replace HCI := hid (HCI.out.later hb)
  replace HTAB := hid (HTAB.out.later hb)
  replace HSB := hid (HSB.out.later hb)
  replace HB := hid (HB.out.trans (hb.mono HB.out.size))
  clear hb
  have HNE := hid ho
  clear ho
  go_wp2_with fail
  have hc := specNearestDigits_any d w17
  simp only [HND.out] at hc
  refine hc.mono ?_
  clear hc
  rintro e w18 ⟨vM, rfl, ho, hb⟩
  replace HU := hid (HU.out.later hb)
  replace HBS := hid (HBS.out.later hb)
  replace HCI := hid (HCI.out.later hb)
  replace HTAB := hid (HTAB.out.later hb)
  replace HSB := hid (HSB.out.later hb)
  replace HNE := hid (HNE.out.later hb)
  replace HB := hid (HB.out.trans (hb.mono HB.out.size))
  clear hb
  have HX := hid ho
  clear ho
  go_wp2_with fail
  refine (rIntsT_any _ _ near _ HNE.out.ints HX.out.ints).mono ?_
  clear HX
  rintro e w19 ⟨rfl, hb⟩
  replace HU := hid (HU.out.later hb)
  replace HBS := hid (HBS.out.later hb)
  replace HCI := hid (HCI.out.later hb)
  replace HTAB := hid (HTAB.out.later hb)
  replace HSB := hid (HSB.out.later hb)
  replace HNE := hid (HNE.out.later hb)
  replace HB := hid (HB.out.trans (hb.mono HB.out.size))
  clear hb
  go_wp2
  go_loopw [30, 31, 32, 33, 34, 35, 36] (fun ll aa _ _ _ _ _ wr => ∃ a : Nat, a ≤ 10 ∧ aa = .int .i64 a ∧ ll = .int .i64 (litTo a) ∧ Hid (Below w19.heap.size w19 wr)) (fun _ aa _ _ _ _ _ _ => 10 - (intOf aa).toNat)
  case atStart => exact ⟨0, by omega, rfl, rfl, hid (Below.refl _ _)⟩
  case round =>
    obtain ⟨a, ha, rfl, rfl, HBL⟩ := hrel
    by_cases hat : a < 10
    · have ha0 : (0 : Int) ≤ a := by omega
      have haI : (a : Int) < 10 := by omega
      have HDA := hid (inB_mk (n := (a : Int)) (lo := 0) (hi := 9) (by omega) (by omega))
      have hdr := digC_range hat
      have hlr := litTo_range a
      have HLT := hid (litTo_succ a)
      have HCL := hid (fun w' => CellOf_any (a : Int) w' HDA.out)
      generalize digitC (a : Int) = x at *
      have hcr := cntI_range x
      go_wp2_with fail
      refine (HCL.out _).mono ?_
      rintro e w20 ⟨rfl, hb⟩
      have HB20 := hid (HBL.out.trans (hb.mono HBL.out.size))
      clear hb HBL HCL
      go_wp2_with fail
      refine (CountBars_any x _ hdr.1 hdr.2).mono ?_
      rintro e w21 ⟨rfl, rfl⟩
      generalize cntI x = y at *
      have hw1 : IntKind.i64.wrap (litTo a + y) = litTo a + y := IntWalk.i64_in _ (by omega)
      generalize litTo a = la at *
      go_wp2
      clear hw1
      go_loopw [36] (fun bb wr2 => ∃ b : Nat, b ≤ 10 ∧ bb = .int .i64 b ∧ Hid (Below w19.heap.size w19 wr2)) (fun bb _ => 10 - (intOf bb).toNat)
      case atStart => exact ⟨0, by omega, rfl, HB20⟩
      case round =>
        clear HB20
        obtain ⟨b, hb, rfl, HB21⟩ := hrel
        by_cases hbt : b < 10
        · have hb0 : (0 : Int) ≤ b := by omega
          have hbI : (b : Int) < 10 := by omega
          have HT21 := hid (HTAB.out.later HB21.out)
          have e1 := HT21.out.1 a b hat hbt
          have e2 := HT21.out.1 b a hbt hat
          rw [← dd_sym hat hbt] at e2
          have hz := dd_zero hat hbt
          have HB22 := hid (fun m => below_drewN HB21.out m)
          generalize dd (a : Int) (b : Int) = f at *
          have hff : (f != f) = false := by simp
          generalize hr : ((a : Int) == b) = r at *
          clear HT21 HB21
          cases r with
          | true =>
            go_wp2
            go_quiet (fail)
            go_wp2
            go_roundw
            case rel => exact ⟨b+1, by omega, by go_num, hid (HB22.out _)⟩
            case measure => simp [intOf]; omega
          | false =>
            go_wp2
            go_quiet (fail)
            go_wp2
            go_roundw
            case rel => exact ⟨b+1, by omega, by go_num, hid (HB22.out _)⟩
            case measure => simp [intOf]; omega
        · have hb10 : b = 10 := by omega
          subst hb10
          go_wp2
          go_roundw
          case rel => exact ⟨a+1, by omega, by go_num, int_eq HLT.out.symm, HB21⟩
          case measure => simp [intOf]; omega
    · have ha10 : a = 10 := by omega
      subst ha10
      replace HU := hid (HU.out.later HBL.out)
      replace HBS := hid (HBS.out.later HBL.out)
      replace HCI := hid (HCI.out.later HBL.out)
      replace HTAB := hid (HTAB.out.later HBL.out)
      replace HSB := hid (HSB.out.later HBL.out)
      replace HNE := hid (HNE.out.later HBL.out)
      replace HB := hid (HB.out.trans (HBL.out.mono HB.out.size))
      clear HBL
      obtain ⟨wl, rfl⟩ : ∃ wl : World, wl = wr := ⟨_, rfl⟩
      have HLB0 := hid (show litTo 10 = litBack 0 from rfl)
      rw [HLB0.out]
      clear HLB0
      go_wp2
      go_loopw [30, 37] (fun ll kk wr => ∃ k : Nat, k ≤ 7 ∧ kk = .int .i64 k ∧ ll = .int .i64 (litBack k) ∧ wr = wl) (fun _ kk _ => 7 - (intOf kk).toNat)
      case atStart => exact ⟨0, by omega, rfl, rfl, rfl⟩
      case round =>
        obtain ⟨k, hk, rfl, rfl, rfl⟩ := hrel
        by_cases hkt : k < 7
        · have hk0 : (0 : Int) ≤ k := by omega
          have hkI : (k : Int) < 7 := by omega
          have e1 := HSB.out.1 k hkt
          have h1 := shC_range hkt 10 (by omega)
          have h2 := litBack_range k hk
          have HE := hid (show litBack (k+1) = litBack k - shC 10 k from rfl)
          generalize shC 10 k = y at *
          generalize litBack k = lb at *
          have hw1 : IntKind.i64.wrap (lb - y) = lb - y := IntWalk.i64_in _ (by omega)
          go_wp2
          go_roundw
          case rel => exact ⟨k+1, by omega, by go_num, int_eq HE.out.symm, by first | rfl | trivial⟩
          case measure => simp [intOf]; omega
        · have hk7 : k = 7 := by omega
          subst hk7
          rw [litBack_end]
          go_upto_if 233 with fail
          go_cut [38] from 234 to 262 (fun _ wx => Hid (Below wr.heap.size wr wx))
          case first => as_aux_lemma =>
            cases three with
            | false =>
              go_wp2
              go_meet
              exact hid (Below.refl _ _)
            | true =>
              obtain ⟨hd, rfl, rfl⟩ := HNL.out rfl
              have hdd := inB_true hd
              obtain ⟨q, rfl⟩ : ∃ q : Nat, d = q := ⟨d.toNat, by omega⟩
              have HNR := hid (fun (b : Nat) (hb : b < 10) (hne : ¬ (b : Int) = q) => near_law hd hb hne)
              have hq0 : (0 : Int) ≤ q := by omega
              have hqI : (q : Int) < 10 := by omega
              generalize (ndTo (q : Int) 10).1 = near at *
              generalize (ndTo (q : Int) 10).2 = far at *
              clear hd hdd
              obtain ⟨wz, hwz⟩ : ∃ wz : World, wr = wz := ⟨_, rfl⟩
              rw [hwz] at HTAB HNE
              have HWZ := hid hwz
              clear hwz
              go_wp2
              go_loopw [38] (fun bb wx => ∃ b m : Nat, b ≤ 10 ∧ bb = .int .i64 b ∧ wx = wz.drewN m) (fun bb _ => 10 - (intOf bb).toNat)
              case atStart => exact ⟨0, 0, by omega, rfl, HWZ.out⟩
              case round =>
                obtain ⟨b, m, hb, rfl, hW⟩ := hrel
                have HW := hid hW
                by_cases hbt : b < 10
                · have hb0 : (0 : Int) ≤ b := by omega
                  have hbI : (b : Int) < 10 := by omega
                  by_cases hbd : (b : Int) = q
                  · have hne : ((b : Int) != q) = false := by simp [hbd]
                    clear hbd hW
                    go_wp2
                    go_quiet (fail)
                    go_wp2
                    go_roundw
                    case rel => exact ⟨b+1, m + nq, by omega, by go_num, by rw [HW.out]; simp⟩
                    case measure => simp [intOf]; omega
                  · have hne : ((b : Int) != q) = true := by simp [hbd]
                    have e1 : wr.cell? ⟨tb, q * 10 + b, none⟩ = some (.int .i64 (dd (q : Int) (b : Int))) := by rw [hW]; exact HTAB.out.1 q b (by omega) hbt
                    obtain ⟨h1, h2⟩ := HNR.out b hbt hbd
                    have HHAS := hid (fun m' => rHas_any _ near (b : Int) (wr.drewN m') (by rw [hW]; exact ((HNE.out.drawn m).drawn m').ints))
                    generalize dd (q : Int) (b : Int) = f at *
                    generalize decide ((b : Int) ∈ near) = r at *
                    clear hbd hW
                    cases r with
                    | true =>
                      go_wp2
                      go_quiet ((go_at_call 22; exact Calls.quiet_of_same ((HHAS.out _).mono fun _ _ h => ⟨h.1, h.2.symm⟩)))
                      go_wp2
                      go_roundw
                      case rel => exact ⟨b+1, m + nq, by omega, by go_num, by rw [HW.out]; simp⟩
                      case measure => simp [intOf]; omega
                    | false =>
                      go_wp2
                      go_quiet ((go_at_call 22; exact Calls.quiet_of_same ((HHAS.out _).mono fun _ _ h => ⟨h.1, h.2.symm⟩)))
                      go_wp2
                      go_roundw
                      case rel => exact ⟨b+1, m + nq, by omega, by go_num, by rw [HW.out]; simp⟩
                      case measure => simp [intOf]; omega
                · have hb10 : b = 10 := by omega
                  subst hb10
                  clear hW
                  go_wp2
                  go_meet
                  exact hid (by rw [HW.out, HWZ.out]; exact below_drewN (Below.refl _ _) _)
          case rest =>
            have HCU := hcut
            clear hcut
            replace HU := hid (HU.out.later HCU.out)
            replace HBS := hid (HBS.out.later HCU.out)
            replace HCI := hid (HCI.out.later HCU.out)
            replace HB := hid (HB.out.trans (HCU.out.mono HB.out.size))
            clear HCU HTAB HSB HNE HNL HND
            cases ok with
            | false =>
              go_wp2
              go_ret
              exact ⟨rfl, HB.out⟩
            | true =>
              obtain ⟨g1, g2, g3, g4, g5, g6, g7, g8, g9⟩ := HLAW.out rfl
              have HG1 := hid g1
              have HG2 := hid g2
              have HG3 := hid g3
              have HG4 := hid g4
              clear g1 g2 g3 g4 HLAW
              have h5 : least ≤ other := g5
              have h6 : round ≤ more := g6
              have h7 : round ≥ least := g7
              have h8 : ((best.length : Int) == xs.length) = true := by rw [g8]; simp
              have h9 : ((circle.length : Int) == xs.length) = true := by rw [g9]; simp
              clear g5 g6 g7 g8 g9
              go_wp2_with fail
              have hc := implOrderCost_any _ best false _ HBS.out.ints
              simp only [HG1.out] at hc
              refine hc.mono ?_
              clear hc
              rintro e w30 ⟨rfl, hb⟩
              replace HU := hid (HU.out.later hb)
              replace HCI := hid (HCI.out.later hb)
              replace HB := hid (HB.out.trans (hb.mono HB.out.size))
              clear hb HBS
              go_wp2_with fail
              have hc := implOrderCost_any _ circle true _ HCI.out.ints
              simp only [HG2.out] at hc
              refine hc.mono ?_
              clear hc
              rintro e w31 ⟨rfl, hb⟩
              replace HU := hid (HU.out.later hb)
              replace HB := hid (HB.out.trans (hb.mono HB.out.size))
              clear hb HCI
              go_wp2_with fail
              have hc := implOrderCost_any _ xs false _ HU.out.ints
              simp only [HG3.out] at hc
              refine hc.mono ?_
              clear hc
              rintro e w32 ⟨rfl, hb⟩
              replace HU := hid (HU.out.later hb)
              replace HB := hid (HB.out.trans (hb.mono HB.out.size))
              clear hb
              go_wp2_with fail
              have hc := implOrderCost_any _ xs true _ HU.out.ints
              simp only [HG4.out] at hc
              refine hc.mono ?_
              clear hc
              rintro e w33 ⟨rfl, hb⟩
              replace HB := hid (HB.out.trans (hb.mono HB.out.size))
              clear hb HU
              go_wp2
              go_ret
              exact ⟨rfl, HB.out⟩
end Go.Proofs.Ytgbnoljmmenlbaa
