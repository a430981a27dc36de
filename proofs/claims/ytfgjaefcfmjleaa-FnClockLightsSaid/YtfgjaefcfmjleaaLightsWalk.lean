/-
  FnClockLights: the law's call returns true, whatever its argument, and leaves what was there.
-/
import Derived.Test.YtfgjaefcfmjleaaLightsLaw
import Derived.Test.YtfgjaefcfmjleaaVHelp
import Derived.Test.YtfgjaefcfmjleaaDrawT2
import Derived.Deep.DeepCutAuto
import Derived.Deep.CutRange
import Derived.Deep.CutBlock
namespace Go.Proofs.Ytfgjaefcfmjleaa
open Go.RowKit

set_option maxRecDepth 100000 in
set_option maxHeartbeats 40000000 in
theorem fnClockLights_law (v : Value) (n : Nat) (w : World) (hx : Byts w v n) :
    Calls Try.prog 5 #[v] w fun e w' => e = .returned (.bool true) ∧ Below w.heap.size w w' := by
  have HC := hid hx
  have HB := hid (Below.refl w.heap.size w)
  clear hx
  by_cases hbig : 65536 < n
  · have hb : decide (65536 < n) = true := decide_eq_true hbig
    go_enter Try.func5, Try.ntmps5
    go_wp2_with fail
    refine (rBig_any v n w HC.out).mono ?_
    rintro e w' ⟨rfl, rfl⟩
    rw [hb]
    go_wp2
    go_ret
    exact ⟨rfl, HB.out⟩
  have hbd : decide (65536 < n) = false := decide_eq_false hbig
  have HN := hid hbig
  clear hbig
  go_enter Try.func5, Try.ntmps5
  go_wp2_with fail
  refine (rBig_any v n w HC.out).mono ?_
  rintro e w' ⟨rfl, rfl⟩
  rw [hbd]
  clear hbd
  go_wp2_with fail
  refine (DrawLitAt_any v n _ HC.out (by have := HN.out; omega)).mono ?_
  rintro e w1 ⟨t, rfl, hb⟩
  replace HC := hid (HC.out.later hb)
  replace HB := hid (HB.out.trans (hb.mono HB.out.size))
  clear hb
  obtain ⟨tb, lit, ch, h1, h2, h3, h4⟩ := lights_out t
  obtain ⟨bt, most, dt, least, h5, h6, h7⟩ := best_out
  have HLIT := hid h1
  have HMIN := hid h2
  have HCLK := hid h3
  have HTB := hid h4
  have HBT := hid h5
  have HDT := hid h6
  have HBD := hid h7
  clear h1 h2 h3 h4 h5 h6 h7
  go_wp2_with fail
  have hc := implLitAt_any t w1
  simp only [HLIT.out] at hc
  refine hc.mono ?_
  clear hc
  rintro e w2 ⟨rfl, hb⟩
  replace HC := hid (HC.out.later hb)
  replace HB := hid (HB.out.trans (hb.mono HB.out.size))
  clear hb
  go_wp2_with fail
  have hc := specLitAt_any t w2
  simp only [HLIT.out] at hc
  refine hc.mono ?_
  clear hc
  rintro e w3 ⟨rfl, hb⟩
  replace HC := hid (HC.out.later hb)
  replace HB := hid (HB.out.trans (hb.mono HB.out.size))
  clear hb
  go_wp2_with fail
  have hc := implMinuteChanges_any t w3
  simp only [HMIN.out] at hc
  refine hc.mono ?_
  clear hc
  rintro e w4 ⟨rfl, hb⟩
  replace HC := hid (HC.out.later hb)
  replace HB := hid (HB.out.trans (hb.mono HB.out.size))
  clear hb
  go_wp2_with fail
  have hc := specMinuteChanges_any t w4
  simp only [HMIN.out] at hc
  refine hc.mono ?_
  clear hc
  rintro e w5 ⟨rfl, hb⟩
  replace HC := hid (HC.out.later hb)
  replace HB := hid (HB.out.trans (hb.mono HB.out.size))
  clear hb
  go_wp2_with fail
  have hc := implBrightestTime_any w5
  simp only [HBT.out] at hc
  refine hc.mono ?_
  clear hc
  rintro e w6 ⟨rfl, hb⟩
  replace HC := hid (HC.out.later hb)
  replace HB := hid (HB.out.trans (hb.mono HB.out.size))
  clear hb
  go_wp2_with fail
  have hc := specBrightestTime_any w6
  simp only [HBT.out] at hc
  refine hc.mono ?_
  clear hc
  rintro e w7 ⟨rfl, hb⟩
  replace HC := hid (HC.out.later hb)
  replace HB := hid (HB.out.trans (hb.mono HB.out.size))
  clear hb
  go_wp2_with fail
  have hc := implDarkestTime_any w7
  simp only [HDT.out] at hc
  refine hc.mono ?_
  clear hc
  rintro e w8 ⟨rfl, hb⟩
  replace HC := hid (HC.out.later hb)
  replace HB := hid (HB.out.trans (hb.mono HB.out.size))
  clear hb
  go_wp2_with fail
  have hc := specDarkestTime_any w8
  simp only [HDT.out] at hc
  refine hc.mono ?_
  clear hc
  rintro e w9 ⟨rfl, hb⟩
  replace HC := hid (HC.out.later hb)
  replace HB := hid (HB.out.trans (hb.mono HB.out.size))
  clear hb
  go_wp2_with fail
  refine (DrawTimesLike_any v n _ HC.out (by have := HN.out; omega)).mono ?_
  rintro e w10 ⟨vR, rs, rfl, ho, hlr, hb⟩
  replace HC := hid (HC.out.later hb)
  replace HB := hid (HB.out.trans (hb.mono HB.out.size))
  clear hb
  obtain ⟨avR, cvR, rfl⟩ := ho.spell rfl
  have HR := hid ho
  clear ho
  clear hlr
  obtain ⟨lb, ls, h1, h2, h3⟩ := like_out rs
  have HLR := hid h1
  have HLL := hid h2
  have HLK := hid h3
  clear h1 h2 h3
  go_wp2_with fail
  have hc := implTimesLike_any _ rs _ HR.out.ints
  simp only [HLR.out] at hc
  refine hc.mono ?_
  clear hc
  rintro e w11 ⟨vK, rfl, ho, hb⟩
  replace HC := hid (HC.out.later hb)
  replace HR := hid (HR.out.later hb)
  replace HB := hid (HB.out.trans (hb.mono HB.out.size))
  clear hb
  obtain ⟨avK, cvK, rfl⟩ := ho.spell rfl
  have HK := hid ho
  clear ho
  go_wp2_with fail
  have hc := specTimesLike_any _ rs _ HR.out.ints
  simp only [HLR.out] at hc
  refine hc.mono ?_
  clear hc
  rintro e w12 ⟨vL, rfl, ho, hb⟩
  replace HC := hid (HC.out.later hb)
  replace HR := hid (HR.out.later hb)
  replace HK := hid (HK.out.later hb)
  replace HB := hid (HB.out.trans (hb.mono HB.out.size))
  clear hb
  obtain ⟨avL, cvL, rfl⟩ := ho.spell rfl
  have HKQ := hid ho
  clear ho
  go_wp2_with fail
  refine (drawn_below (rInts_any _ _ ls ls _ HK.out.ints HKQ.out.ints)).mono ?_
  rintro e w13 ⟨rfl, hb⟩
  replace HC := hid (HC.out.later hb)
  replace HR := hid (HR.out.later hb)
  replace HK := hid (HK.out.later hb)
  replace HKQ := hid (HKQ.out.later hb)
  replace HB := hid (HB.out.trans (hb.mono HB.out.size))
  clear hb
  clear HKQ
  go_wp2_with fail
  refine (DrawTimesOfBars_any v n _ HC.out (by have := HN.out; omega)).mono ?_
  rintro e w14 ⟨b, rfl, hb⟩
  replace HC := hid (HC.out.later hb)
  replace HR := hid (HR.out.later hb)
  replace HK := hid (HK.out.later hb)
  replace HB := hid (HB.out.trans (hb.mono HB.out.size))
  clear hb
  obtain ⟨bb, ts, h1, h2, h3⟩ := bars_out b
  have HBR := hid h1
  have HTL := hid h2
  have HTS := hid h3
  clear h1 h2 h3
  go_wp2_with fail
  have hc := implTimesOfBars_any b w14
  simp only [HBR.out] at hc
  refine hc.mono ?_
  clear hc
  rintro e w15 ⟨vT, rfl, ho, hb⟩
  replace HC := hid (HC.out.later hb)
  replace HR := hid (HR.out.later hb)
  replace HK := hid (HK.out.later hb)
  replace HB := hid (HB.out.trans (hb.mono HB.out.size))
  clear hb
  obtain ⟨avT, cvT, rfl⟩ := ho.spell rfl
  have HT := hid ho
  clear ho
  go_wp2_with fail
  have hc := specTimesOfBars_any b w15
  simp only [HBR.out] at hc
  refine hc.mono ?_
  clear hc
  rintro e w16 ⟨vU, rfl, ho, hb⟩
  replace HC := hid (HC.out.later hb)
  replace HR := hid (HR.out.later hb)
  replace HK := hid (HK.out.later hb)
  replace HT := hid (HT.out.later hb)
  replace HB := hid (HB.out.trans (hb.mono HB.out.size))
  clear hb
  obtain ⟨avU, cvU, rfl⟩ := ho.spell rfl
  have HTQ := hid ho
  clear ho
  go_wp2_with fail
  refine (drawn_below (rInts_any _ _ ts ts _ HT.out.ints HTQ.out.ints)).mono ?_
  rintro e w17 ⟨rfl, hb⟩
  replace HC := hid (HC.out.later hb)
  replace HR := hid (HR.out.later hb)
  replace HK := hid (HK.out.later hb)
  replace HT := hid (HT.out.later hb)
  replace HTQ := hid (HTQ.out.later hb)
  replace HB := hid (HB.out.trans (hb.mono HB.out.size))
  clear hb
  clear HTQ
  have HR := hid HR.out.ints
  have HK := hid HK.out.ints
  have HT := hid HT.out.ints
  go_upto_block 0 with fail
  go_cut [30, 31, 32, 33] from 157 to 196 (fun _ _ _ _ wx => Hid (Ints wx (.slice avT ts.length cvT) ts) ∧ Hid (Below w.heap.size w wx))
  case first => as_aux_lemma =>
    go_wp2
    go_loopw [30, 31, 32, 33] (fun ii _ _ _ wr => ∃ i : Nat, i ≤ ls.length ∧ ii = .int .i64 i ∧ Hid (Ints wr (.slice avR rs.length cvR) rs) ∧ Hid (Ints wr (.slice avK ls.length cvK) ls) ∧ Hid (Ints wr (.slice avT ts.length cvT) ts) ∧ Hid (Below w.heap.size w wr)) (fun ii _ _ _ _ => ls.length - (intOf ii).toNat)
    case atStart => exact ⟨0, by omega, rfl, HR, HK, HT, HB⟩
    case round =>
      clear HR HK HT HB
      obtain ⟨i, hi, rfl, HR, HK, HT, HB⟩ := hrel
      have hl1440 := HLL.out
      by_cases hlt : i < ls.length
      · by_cases h100 : i < 100
        · obtain ⟨tt, he0, ht, h4, hlk⟩ := HLK.out i hlt
          have HLKK := hid hlk
          have H4 := hid h4
          obtain ⟨ao3, cap3, p3, o3, he, ha3, hc3, hn3, hm3⟩ := HK.out
          simp only [Value.slice.injEq] at he
          obtain ⟨rfl, _, rfl⟩ := he
          obtain ⟨rfl, hbL⟩ := ha3 (by omega)
          have e3 : wr.cell? ⟨p3, o3+i, none⟩ = some (.int .i64 (tt : Int)) := by rw [hc3 i hlt, he0]
          clear hc3 ha3 he0 hlk h4
          have HCK := hid (clockR_yes (inB_mk (show (0 : Int) ≤ tt by omega) (show (tt : Int) ≤ 1439 by omega)))
          have z1 : (0 : Int) ≤ i := by omega
          have z2 : (i : Int) < ls.length := by omega
          have z3 : (i : Int) < 100 := by omega
          go_wp2_with fail
          have hc := implClockRow_any (tt : Int) wr
          simp only [HCK.out] at hc
          refine hc.mono ?_
          rintro e wq ⟨vW, rfl, ho, hb⟩
          clear hc
          obtain ⟨aW, cW, rfl⟩ := ho.spell (n := 4) (length_rowT _)
          have HW := hid ho.ints
          replace HR := hid (HR.out.later hb)
          replace HK := hid (HK.out.later hb)
          replace HT := hid (HT.out.later hb)
          replace HB := hid (HB.out.trans (hb.mono HB.out.size))
          clear ho hb e3
          go_wp2
          go_loopw [33] (fun kk wr => ∃ k : Nat, k ≤ 4 ∧ kk = .int .i64 k ∧ Hid (Ints wr (.slice avR rs.length cvR) rs) ∧ Hid (Ints wr (.slice (some ⟨p3, o3, none⟩) ls.length cvK) ls) ∧ Hid (Ints wr (.slice avT ts.length cvT) ts) ∧ Hid (Ints wr (.slice aW 4 cW) (rowT (tt : Int))) ∧ Hid (Below w.heap.size w wr)) (fun kk _ => 4 - (intOf kk).toNat)
          case atStart => exact ⟨0, by omega, rfl, HR, HK, HT, HW, HB⟩
          case round =>
            clear HR HK HT HW HB
            obtain ⟨k, hk, rfl, HR, HK, HT, HW, HB⟩ := hrel
            by_cases hk4 : k < 4
            · obtain ⟨ao4, cap4, p4, o4, he, ha4, hc4, hn4, hm4⟩ := HR.out
              simp only [Value.slice.injEq] at he
              obtain ⟨rfl, _, rfl⟩ := he
              obtain ⟨rfl, hbR⟩ := ha4 (by rw [H4.out]; omega)
              obtain ⟨ao5, cap5, p5, o5, he, ha5, hc5, hn5, hm5⟩ := HW.out
              simp only [Value.slice.injEq] at he
              obtain ⟨rfl, _, rfl⟩ := he
              obtain ⟨rfl, hbW⟩ := ha5 (by rw [length_rowT]; omega)
              have e4 : wr.cell? ⟨p4, o4+k, none⟩ = some (.int .i64 (rs.getD k 0)) := hc4 k (by rw [H4.out]; omega)
              have e5 : wr.cell? ⟨p5, o5+k, none⟩ = some (.int .i64 ((rowT (tt : Int)).getD k 0)) := hc5 k (by rw [length_rowT]; omega)
              have HOR := hid (HLKK.out k hk4)
              clear hc4 hc5 ha4 ha5
              generalize rs.getD k 0 = x at e4 HOR
              generalize (rowT (tt : Int)).getD k 0 = y at e5 HOR
              have y1 : (0 : Int) ≤ k := by omega
              have y2 : (k : Int) < rs.length := by rw [H4.out]; omega
              have y3 : (k : Int) < 4 := by omega
              rcases HOR.out with hor | hor
              · have hb1 : (x != -1) = false := by rw [hor]; rfl
                clear hor
                go_wp2
                go_quiet (fail)
                go_wp2
                go_roundw
                case rel => exact ⟨k+1, by omega, by go_num, hid (HR.out.drawn _), hid (HK.out.drawn _), hid (HT.out.drawn _), hid (HW.out.drawn _), hid (below_drewN HB.out _)⟩
                case measure => simp [intOf]; omega
              · have hb2 : (x != y) = false := by rw [hor]; simp
                clear hor
                cases hb1 : (x != -1) with
                | false =>
                  go_wp2
                  go_quiet (fail)
                  go_wp2
                  go_roundw
                  case rel => exact ⟨k+1, by omega, by go_num, hid (HR.out.drawn _), hid (HK.out.drawn _), hid (HT.out.drawn _), hid (HW.out.drawn _), hid (below_drewN HB.out _)⟩
                  case measure => simp [intOf]; omega
                | true =>
                  go_wp2
                  go_quiet (fail)
                  go_wp2
                  go_roundw
                  case rel => exact ⟨k+1, by omega, by go_num, hid (HR.out.drawn _), hid (HK.out.drawn _), hid (HT.out.drawn _), hid (HW.out.drawn _), hid (below_drewN HB.out _)⟩
                  case measure => simp [intOf]; omega
            · have hk4e : k = 4 := by omega
              have y3 : ¬ (k : Int) < 4 := by omega
              go_wp2
              go_roundw
              case rel => exact ⟨i+1, by omega, by go_num, HR, HK, HT, HB⟩
              case measure => simp [intOf]; omega
        · have z2 : (i : Int) < ls.length := by omega
          have z3 : ¬ (i : Int) < 100 := by omega
          go_wp2
          go_meet
          exact ⟨HT, HB⟩
      · have z2 : ¬ (i : Int) < ls.length := by omega
        go_wp2
        go_meet
        exact ⟨HT, HB⟩
  case rest =>
    clear HR HK HT HB HC
    obtain ⟨HT, HB⟩ := hcut
    go_upto_region 41 with fail
    go_cut [212] from 197 to 212 (fun r wx => r = .bool false ∧ Hid (Ints wx (.slice avT ts.length cvT) ts) ∧ Hid (Below w.heap.size w wx))
    case first => as_aux_lemma =>
      cases bb with
      | false =>
        go_wp2
        go_meet
        exact ⟨rfl, HT, HB⟩
      | true =>
        obtain ⟨h1, h2⟩ := HTS.out rfl
        have H2 := hid h2
        clear h1 h2
        by_cases hb1 : b < least
        · have hz : ((ts.length : Int) != 0) = false := by
            have : (ts.length : Int) = 0 := Classical.byContradiction fun hne => by
              obtain ⟨t', h0, h1, he⟩ := H2.out hne
              have := (HBD.out t' h0 h1).1
              omega
            rw [this]; rfl
          go_wp2
          go_meet
          exact ⟨rfl, HT, HB⟩
        · by_cases hb2 : most < b
          · have hz : ((ts.length : Int) != 0) = false := by
              have : (ts.length : Int) = 0 := Classical.byContradiction fun hne => by
                obtain ⟨t', h0, h1, he⟩ := H2.out hne
                have := (HBD.out t' h0 h1).2
                omega
              rw [this]; rfl
            go_wp2
            go_meet
            exact ⟨rfl, HT, HB⟩
          · go_wp2
            go_meet
            exact ⟨by first | rfl | exact bool_eq (decide_eq_false (by omega)), HT, HB⟩
    case rest =>
      clear HT HB
      obtain ⟨rfl, HT, HB⟩ := hcut
      cases tb with
      | false =>
        go_wp2
        go_ret
        exact ⟨rfl, HB.out⟩
      | true =>
        obtain ⟨h0, h1, hlit⟩ := HTB.out rfl
        have hbd1 := (HBD.out t h0 h1).1
        have hbd2 := (HBD.out t h0 h1).2
        have HLE : Hid (litTo (rowT t) (rowT t).length = lit) := hid (by rw [length_rowT]; exact hlit.symm)
        have HCK : Hid (clockR t = (rowT t, true)) := hid (clockR_yes (inB_mk h0 h1))
        rw [← hlit] at hbd1 hbd2
        have HLI := hid hlit
        clear hlit
        cases bb with
        | false =>
          go_wp2_with fail
          have hc := implClockRow_any t wc
          simp only [HCK.out] at hc
          refine hc.mono ?_
          rintro e wq ⟨vW, rfl, ho, hb⟩
          clear hc
          have HW := hid ho.ints
          have HB1 := hid (HB.out.trans (hb.mono HB.out.size))
          clear ho hb
          go_wp2_with fail
          have hc := LitOf_any _ (rowT t) _ HW.out (by rw [length_rowT]; omega) (rowT_in h0 h1)
          simp only [HLE.out] at hc
          refine hc.mono ?_
          rintro e wq2 ⟨rfl, hb⟩
          clear hc
          go_wp2
          go_ret
          exact ⟨rfl, HB1.out.trans (hb.mono HB1.out.size)⟩
        | true =>
          have HME := hid ((HTS.out rfl).1 t h0 h1)
          go_wp2_with fail
          refine (rHas_any _ ts t _ HT.out).mono ?_
          rintro e w' ⟨rfl, rfl⟩
          rw [HME.out, ← HLI.out]
          go_wp2_with fail
          have hc := implClockRow_any t wc
          simp only [HCK.out] at hc
          refine hc.mono ?_
          rintro e wq ⟨vW, rfl, ho, hb⟩
          clear hc
          have HW := hid ho.ints
          have HB1 := hid (HB.out.trans (hb.mono HB.out.size))
          clear ho hb
          go_wp2_with fail
          have hc := LitOf_any _ (rowT t) _ HW.out (by rw [length_rowT]; omega) (rowT_in h0 h1)
          simp only [HLE.out] at hc
          refine hc.mono ?_
          rintro e wq2 ⟨rfl, hb⟩
          clear hc
          go_wp2
          go_ret
          exact ⟨rfl, HB1.out.trans (hb.mono HB1.out.size)⟩

end Go.Proofs.Ytfgjaefcfmjleaa
