/-
  FnClocks: the law's call returns true, whatever its argument, and leaves what was there.
-/
import Derived.Test.YtfgjaefcfmjleaaClocksLaw
import Derived.Test.YtfgjaefcfmjleaaVHelp2
import Derived.Test.YtfgjaefcfmjleaaDrawT3
import Derived.Deep.DeepCutAuto
import Derived.Deep.CutRange
import Derived.Deep.CutBlock
namespace Go.Proofs.Ytfgjaefcfmjleaa
open Go.RowKit

set_option maxRecDepth 100000 in
set_option maxHeartbeats 40000000 in
theorem fnClocks_law (v : Value) (n : Nat) (w : World) (hx : Byts w v n) :
    Calls Try.prog 6 #[v] w fun e w' => e = .returned (.bool true) ∧ Below w.heap.size w w' := by
  have HC := hid hx
  have HB := hid (Below.refl w.heap.size w)
  clear hx
  by_cases hbig : 65536 < n
  · have hb : decide (65536 < n) = true := decide_eq_true hbig
    go_enter Try.func6, Try.ntmps6
    go_wp2_with fail
    refine (rBig_any v n w HC.out).mono ?_
    rintro e w' ⟨rfl, rfl⟩
    rw [hb]
    go_wp2
    go_ret
    exact ⟨rfl, HB.out⟩
  have hbd : decide (65536 < n) = false := decide_eq_false hbig
  have HN := hid hbig
  clear hbig
  obtain ⟨sm, hsm⟩ : ∃ sm, sameMR = sm := ⟨_, rfl⟩
  obtain ⟨st, hst⟩ : ∃ st, sameTR = st := ⟨_, rfl⟩
  obtain ⟨pm, hpm⟩ : ∃ pm, mpR = pm := ⟨_, rfl⟩
  have HPL : Hid (pm.length ≤ 1440) := hid (by rw [← hpm]; exact mpTo_len 1440)
  have HSM := hid hsm
  have HST := hid hst
  have HPM := hid hpm
  clear hsm hst hpm
  go_enter Try.func6, Try.ntmps6
  go_wp2_with fail
  refine (rBig_any v n w HC.out).mono ?_
  rintro e w' ⟨rfl, rfl⟩
  rw [hbd]
  clear hbd
  go_wp2_with fail
  refine (DrawMirrorTime_any v n _ HC.out (by have := HN.out; omega)).mono ?_
  rintro e w1 ⟨t, rfl, hb⟩
  replace HC := hid (HC.out.later hb)
  replace HB := hid (HB.out.trans (hb.mono HB.out.size))
  clear hb
  obtain ⟨tb, ok, one, mi, tu, wait, rw0, h1, h2, h3, h4, h5, h6, h7⟩ := clocks_out t
  have HMI := hid h1
  have HTU := hid h2
  have HCK := hid h3
  have HWT := hid h4
  have HOK := hid h5
  have HONE := hid h6
  have HTB := hid h7
  clear h1 h2 h3 h4 h5 h6 h7
  go_wp2_with fail
  have hc := implMirrorTime_any t w1
  simp only [HMI.out] at hc
  refine hc.mono ?_
  clear hc
  rintro e w2 ⟨rfl, hb⟩
  replace HC := hid (HC.out.later hb)
  replace HB := hid (HB.out.trans (hb.mono HB.out.size))
  clear hb
  go_wp2_with fail
  have hc := specMirrorTime_any t w2
  simp only [HMI.out] at hc
  refine hc.mono ?_
  clear hc
  rintro e w3 ⟨rfl, hb⟩
  replace HC := hid (HC.out.later hb)
  replace HB := hid (HB.out.trans (hb.mono HB.out.size))
  clear hb
  go_wp2_with fail
  have hc := implTurnTime_any t w3
  simp only [HTU.out] at hc
  refine hc.mono ?_
  clear hc
  rintro e w4 ⟨rfl, hb⟩
  replace HC := hid (HC.out.later hb)
  replace HB := hid (HB.out.trans (hb.mono HB.out.size))
  clear hb
  go_wp2_with fail
  have hc := specTurnTime_any t w4
  simp only [HTU.out] at hc
  refine hc.mono ?_
  clear hc
  rintro e w5 ⟨rfl, hb⟩
  replace HC := hid (HC.out.later hb)
  replace HB := hid (HB.out.trans (hb.mono HB.out.size))
  clear hb
  go_wp2_with fail
  have hc := implClockRow_any t w5
  simp only [HCK.out] at hc
  refine hc.mono ?_
  clear hc
  rintro e w6 ⟨vW, rfl, ho, hb⟩
  replace HC := hid (HC.out.later hb)
  replace HB := hid (HB.out.trans (hb.mono HB.out.size))
  clear hb
  obtain ⟨avW, cvW, rfl⟩ := ho.spell rfl
  have HW := hid ho
  clear ho
  go_wp2_with fail
  have hc := specClockRow_any t w6
  simp only [HCK.out] at hc
  refine hc.mono ?_
  clear hc
  rintro e w7 ⟨vX, rfl, ho, hb⟩
  replace HC := hid (HC.out.later hb)
  replace HW := hid (HW.out.later hb)
  replace HB := hid (HB.out.trans (hb.mono HB.out.size))
  clear hb
  obtain ⟨avX, cvX, rfl⟩ := ho.spell rfl
  have HWQ := hid ho
  clear ho
  go_wp2_with fail
  refine (drawn_below (rInts_any _ _ rw0 rw0 _ HW.out.ints HWQ.out.ints)).mono ?_
  rintro e w8 ⟨rfl, hb⟩
  replace HC := hid (HC.out.later hb)
  replace HW := hid (HW.out.later hb)
  replace HWQ := hid (HWQ.out.later hb)
  replace HB := hid (HB.out.trans (hb.mono HB.out.size))
  clear hb
  clear HWQ
  go_wp2_with fail
  refine (DrawTimeOfRow_any v n _ HC.out (by have := HN.out; omega)).mono ?_
  rintro e w9 ⟨vR, rs, rfl, ho, hlr, hb⟩
  replace HC := hid (HC.out.later hb)
  replace HW := hid (HW.out.later hb)
  replace HB := hid (HB.out.trans (hb.mono HB.out.size))
  clear hb
  obtain ⟨avR, cvR, rfl⟩ := ho.spell rfl
  have HR := hid ho
  clear ho
  clear hlr
  obtain ⟨⟨sh, sb⟩, h1⟩ : ∃ r, timeOf rs = r := ⟨_, rfl⟩
  have HTO := hid h1
  clear h1
  go_wp2_with fail
  have hc := implTimeOfRow_any _ rs _ HR.out.ints
  simp only [HTO.out] at hc
  refine hc.mono ?_
  clear hc
  rintro e w10 ⟨rfl, hb⟩
  replace HC := hid (HC.out.later hb)
  replace HW := hid (HW.out.later hb)
  replace HR := hid (HR.out.later hb)
  replace HB := hid (HB.out.trans (hb.mono HB.out.size))
  clear hb
  go_wp2_with fail
  have hc := specTimeOfRow_any _ rs _ HR.out.ints
  simp only [HTO.out] at hc
  refine hc.mono ?_
  clear hc
  rintro e w11 ⟨rfl, hb⟩
  replace HC := hid (HC.out.later hb)
  replace HW := hid (HW.out.later hb)
  replace HR := hid (HR.out.later hb)
  replace HB := hid (HB.out.trans (hb.mono HB.out.size))
  clear hb
  clear HR
  go_wp2_with fail
  have hc := implWaitForMirror_any t w11
  simp only [HWT.out] at hc
  refine hc.mono ?_
  clear hc
  rintro e w12 ⟨rfl, hb⟩
  replace HC := hid (HC.out.later hb)
  replace HW := hid (HW.out.later hb)
  replace HB := hid (HB.out.trans (hb.mono HB.out.size))
  clear hb
  have HWZ : Hid (ok = true → wait = 0) := hid fun h => (HOK.out h).1
  go_wp2_with fail
  have hc := specWaitForMirror_any t w12
  simp only [HWT.out] at hc
  refine hc.mono ?_
  clear hc
  rintro e w13 ⟨rfl, hb⟩
  replace HC := hid (HC.out.later hb)
  replace HW := hid (HW.out.later hb)
  replace HB := hid (HB.out.trans (hb.mono HB.out.size))
  clear hb
  go_upto_region 23 with fail
  have HWI := hid HW.out.ints
  go_cut [151] from 132 to 151 (fun r wx => r = .bool false ∧ Hid (Byts wx v n) ∧ Hid (Ints wx (.slice avW rw0.length cvW) rw0) ∧ Hid (Below w.heap.size w wx))
  case first =>
    cases ok with
    | false =>
      go_wp2
      go_meet
      exact ⟨rfl, HC, HWI, HB⟩
    | true =>
      have hw0 : (wait != 0) = false := by rw [HWZ.out rfl]; rfl
      go_wp2
      go_meet
      exact ⟨rfl, HC, HWI, HB⟩
  case rest =>
    clear HC HW HWI HB HWZ
    obtain ⟨rfl, HC, HWI, HB⟩ := hcut
    go_wp2_with fail
    refine (DrawApartInMirror_any v n _ HC.out (by have := HN.out; omega)).mono ?_
    rintro e w14 ⟨m, rfl, hb⟩
    replace HC := hid (HC.out.later hb)
    replace HWI := hid (HWI.out.later hb)
    replace HB := hid (HB.out.trans (hb.mono HB.out.size))
    clear hb
    obtain ⟨pb, al, h1, h2, h3⟩ := apart_out m
    have HAP := hid h1
    have HAL := hid h2
    have HAQ := hid h3
    clear h1 h2 h3
    go_wp2_with fail
    have hc := implApartInMirror_any m w14
    simp only [HAP.out] at hc
    refine hc.mono ?_
    clear hc
    rintro e w15 ⟨vA, rfl, ho, hb⟩
    replace HC := hid (HC.out.later hb)
    replace HWI := hid (HWI.out.later hb)
    replace HB := hid (HB.out.trans (hb.mono HB.out.size))
    clear hb
    obtain ⟨avA, cvA, rfl⟩ := ho.spell rfl
    have HA := hid ho
    clear ho
    go_wp2_with fail
    have hc := specApartInMirror_any m w15
    simp only [HAP.out] at hc
    refine hc.mono ?_
    clear hc
    rintro e w16 ⟨vB, rfl, ho, hb⟩
    replace HC := hid (HC.out.later hb)
    replace HWI := hid (HWI.out.later hb)
    replace HA := hid (HA.out.later hb)
    replace HB := hid (HB.out.trans (hb.mono HB.out.size))
    clear hb
    obtain ⟨avB, cvB, rfl⟩ := ho.spell rfl
    have HAQ2 := hid ho
    clear ho
    go_wp2_with fail
    refine (drawn_below (rInts_any _ _ al al _ HA.out.ints HAQ2.out.ints)).mono ?_
    rintro e w17 ⟨rfl, hb⟩
    replace HC := hid (HC.out.later hb)
    replace HWI := hid (HWI.out.later hb)
    replace HA := hid (HA.out.later hb)
    replace HAQ2 := hid (HAQ2.out.later hb)
    replace HB := hid (HB.out.trans (hb.mono HB.out.size))
    clear hb
    clear HAQ2
    go_wp2_with fail
    have hc := implSameInMirror_any w17
    simp only [HSM.out] at hc
    refine hc.mono ?_
    clear hc
    rintro e w18 ⟨v0, rfl, ho, hb⟩
    replace HC := hid (HC.out.later hb)
    replace HWI := hid (HWI.out.later hb)
    replace HA := hid (HA.out.later hb)
    replace HB := hid (HB.out.trans (hb.mono HB.out.size))
    clear hb
    obtain ⟨aS, cS, rfl⟩ := ho.spell rfl
    have HS := hid ho
    clear ho
    go_wp2_with fail
    have hc := implMirrorPairs_any w18
    simp only [HPM.out] at hc
    refine hc.mono ?_
    clear hc
    rintro e w19 ⟨v0, rfl, ho, hb⟩
    replace HC := hid (HC.out.later hb)
    replace HWI := hid (HWI.out.later hb)
    replace HA := hid (HA.out.later hb)
    replace HS := hid (HS.out.later hb)
    replace HB := hid (HB.out.trans (hb.mono HB.out.size))
    clear hb
    obtain ⟨aP, cP, rfl⟩ := ho.spell rfl
    have HP := hid ho
    clear ho
    go_wp2_with fail
    have hc := specSameInMirror_any w19
    simp only [HSM.out] at hc
    refine hc.mono ?_
    clear hc
    rintro e w20 ⟨v0, rfl, ho, hb⟩
    replace HC := hid (HC.out.later hb)
    replace HWI := hid (HWI.out.later hb)
    replace HA := hid (HA.out.later hb)
    replace HS := hid (HS.out.later hb)
    replace HP := hid (HP.out.later hb)
    replace HB := hid (HB.out.trans (hb.mono HB.out.size))
    clear hb
    obtain ⟨aS2, cS2, rfl⟩ := ho.spell rfl
    have HS2 := hid ho
    clear ho
    go_wp2_with fail
    refine (drawn_below (rInts_any _ _ sm sm _ HS.out.ints HS2.out.ints)).mono ?_
    rintro e w21 ⟨rfl, hb⟩
    replace HC := hid (HC.out.later hb)
    replace HWI := hid (HWI.out.later hb)
    replace HA := hid (HA.out.later hb)
    replace HS := hid (HS.out.later hb)
    replace HP := hid (HP.out.later hb)
    replace HS2 := hid (HS2.out.later hb)
    replace HB := hid (HB.out.trans (hb.mono HB.out.size))
    clear hb
    clear HS2
    go_wp2_with fail
    have hc := specMirrorPairs_any w21
    simp only [HPM.out] at hc
    refine hc.mono ?_
    clear hc
    rintro e w22 ⟨v0, rfl, ho, hb⟩
    replace HC := hid (HC.out.later hb)
    replace HWI := hid (HWI.out.later hb)
    replace HA := hid (HA.out.later hb)
    replace HS := hid (HS.out.later hb)
    replace HP := hid (HP.out.later hb)
    replace HB := hid (HB.out.trans (hb.mono HB.out.size))
    clear hb
    obtain ⟨aP2, cP2, rfl⟩ := ho.spell rfl
    have HP2 := hid ho
    clear ho
    go_wp2_with fail
    refine (drawn_below (rPairs_any _ _ pm _ HP.out.two HP2.out.two)).mono ?_
    rintro e w23 ⟨rfl, hb⟩
    replace HC := hid (HC.out.later hb)
    replace HWI := hid (HWI.out.later hb)
    replace HA := hid (HA.out.later hb)
    replace HS := hid (HS.out.later hb)
    replace HP := hid (HP.out.later hb)
    replace HP2 := hid (HP2.out.later hb)
    replace HB := hid (HB.out.trans (hb.mono HB.out.size))
    clear hb
    clear HP2
    go_wp2_with fail
    have hc := implSameTurned_any w23
    simp only [HST.out] at hc
    refine hc.mono ?_
    clear hc
    rintro e w24 ⟨v0, rfl, ho, hb⟩
    replace HC := hid (HC.out.later hb)
    replace HWI := hid (HWI.out.later hb)
    replace HA := hid (HA.out.later hb)
    replace HS := hid (HS.out.later hb)
    replace HP := hid (HP.out.later hb)
    replace HB := hid (HB.out.trans (hb.mono HB.out.size))
    clear hb
    obtain ⟨aT1, cT1, rfl⟩ := ho.spell rfl
    have HT1 := hid ho
    clear ho
    go_wp2_with fail
    have hc := specSameTurned_any w24
    simp only [HST.out] at hc
    refine hc.mono ?_
    clear hc
    rintro e w25 ⟨v0, rfl, ho, hb⟩
    replace HC := hid (HC.out.later hb)
    replace HWI := hid (HWI.out.later hb)
    replace HA := hid (HA.out.later hb)
    replace HS := hid (HS.out.later hb)
    replace HP := hid (HP.out.later hb)
    replace HT1 := hid (HT1.out.later hb)
    replace HB := hid (HB.out.trans (hb.mono HB.out.size))
    clear hb
    obtain ⟨aT2, cT2, rfl⟩ := ho.spell rfl
    have HT2 := hid ho
    clear ho
    go_wp2_with fail
    refine (drawn_below (rInts_any _ _ st st _ HT1.out.ints HT2.out.ints)).mono ?_
    rintro e w26 ⟨rfl, hb⟩
    replace HC := hid (HC.out.later hb)
    replace HWI := hid (HWI.out.later hb)
    replace HA := hid (HA.out.later hb)
    replace HS := hid (HS.out.later hb)
    replace HP := hid (HP.out.later hb)
    replace HT1 := hid (HT1.out.later hb)
    replace HT2 := hid (HT2.out.later hb)
    replace HB := hid (HB.out.trans (hb.mono HB.out.size))
    clear hb
    clear HT1 HT2
    have HS := hid HS.out.ints
    have HP := hid HP.out.two
    have HA := hid HA.out.ints
    go_upto_if 191 with fail
    go_cut [32, 33, 34, 35] from 192 to 260 (fun _ _ _ _ wx => Hid (Ints wx (.slice avA al.length cvA) al) ∧ Hid (Ints wx (.slice avW rw0.length cvW) rw0) ∧ Hid (Below w.heap.size w wx))
    case first => as_aux_lemma =>
      cases ok with
      | false =>
        go_wp2
        go_meet
        exact ⟨HA, HWI, HB⟩
      | true =>
        obtain ⟨hwz, hmb, hsame, hfnd⟩ := HOK.out rfl
        clear hwz
        rw [HSM.out] at hsame
        rw [HPM.out] at hfnd
        have HMB := hid hmb
        have HSA := hid hsame
        have HFN := hid hfnd
        clear hmb hsame hfnd
        go_wp2_with fail
        have hc := implMirrorTime_any mi w26
        simp only [HMB.out] at hc
        refine hc.mono ?_
        clear hc
        rintro e w27 ⟨rfl, hb⟩
        replace HS := hid (HS.out.later hb)
        replace HP := hid (HP.out.later hb)
        replace HA := hid (HA.out.later hb)
        replace HWI := hid (HWI.out.later hb)
        replace HB := hid (HB.out.trans (hb.mono HB.out.size))
        clear hb
        go_wp2_with fail
        refine (rHas_any _ sm t _ HS.out).mono ?_
        rintro e w' ⟨rfl, rfl⟩
        rw [HSA.out]
        go_wp2
        go_loopw [34, 35] (fun ff ii wr => ∃ i : Nat, i ≤ pm.length ∧ ii = .int .i64 i ∧ ff = .bool (fnd pm t mi i) ∧ Hid (Ints wr (.slice aS sm.length cS) sm) ∧ Hid (Two wr (.slice aP pm.length cP) pm) ∧ Hid (Ints wr (.slice avA al.length cvA) al) ∧ Hid (Ints wr (.slice avW rw0.length cvW) rw0) ∧ Hid (Below w.heap.size w wr)) (fun _ ii _ => pm.length - (intOf ii).toNat)
        case atStart => exact ⟨0, by omega, rfl, rfl, HS, HP, HA, HWI, HB⟩
        case round =>
          clear HS HP HA HWI HB
          obtain ⟨i, hi, rfl, rfl, HS, HP, HA, HWI, HB⟩ := hrel
          have hl1440 := HPL.out
          by_cases hlt : i < pm.length
          · obtain ⟨ao2, cap2, p2, o2, he, ha, hc, hn2, hm2⟩ := HP.out
            simp only [Value.slice.injEq] at he
            obtain ⟨rfl, _, rfl⟩ := he
            obtain ⟨rfl, hbP⟩ := ha (by omega)
            have e1 : wr.cell? ⟨p2, o2+i*2, none⟩ = some (.int .i64 (pm.getD i (0, 0)).1) := (hc i hlt).1
            have e2 : wr.cell? ⟨p2, o2+i*2+1, none⟩ = some (.int .i64 (pm.getD i (0, 0)).2) := (hc i hlt).2
            have HSTP : Hid (fnd pm t mi (i+1) = ((fnd pm t mi i || ((pm.getD i (0, 0)).1 == t && (pm.getD i (0, 0)).2 == mi)) || ((pm.getD i (0, 0)).2 == t && (pm.getD i (0, 0)).1 == mi))) := hid rfl
            clear hc ha
            generalize (pm.getD i (0, 0)).1 = x at e1 HSTP
            generalize (pm.getD i (0, 0)).2 = y at e2 HSTP
            generalize fnd pm t mi i = f0 at HSTP
            have z1 : (0 : Int) ≤ i := by omega
            have z2 : (i : Int) < pm.length := by omega
            cases f0 with
            | true =>
              go_wp2
              go_roundw
              case rel => exact ⟨i+1, by omega, by go_num, bool_eq (by rw [HSTP.out]; rfl), HS, HP, HA, HWI, HB⟩
              case measure => simp [intOf]; omega
            | false =>
              cases h1 : (x == t) <;> cases h2 : (y == mi) <;> cases h3 : (y == t) <;> cases h4 : (x == mi)
              all_goals
                rw [h1, h2, h3, h4] at HSTP
                go_wp2
                go_roundw
                case rel => exact ⟨i+1, by omega, by go_num, bool_eq (by rw [HSTP.out]; first | rfl | simp [h1, h2, h3, h4]), HS, HP, HA, HWI, HB⟩
                case measure => simp [intOf]; omega
          · obtain rfl : i = pm.length := by omega
            rw [HFN.out]
            have z2 : ¬ (pm.length : Int) < pm.length := by omega
            go_wp2
            go_meet
            exact ⟨HA, HWI, HB⟩
    case rest =>
      clear HS HP HA HWI HB HC
      obtain ⟨HA, HWI, HB⟩ := hcut
      go_upto_if 261 with fail
      go_cut [36, 37] from 262 to 273 (fun _ _ wx => Hid (Ints wx (.slice avA al.length cvA) al) ∧ Hid (Ints wx (.slice avW rw0.length cvW) rw0) ∧ Hid (Below w.heap.size w wx))
      case first => as_aux_lemma =>
        cases one with
        | false =>
          go_wp2
          go_meet
          exact ⟨HA, HWI, HB⟩
        | true =>
          have HTT := hid (HONE.out rfl)
          go_wp2_with fail
          have hc := implTurnTime_any tu wc
          simp only [HTT.out] at hc
          refine hc.mono ?_
          clear hc
          rintro e w28 ⟨rfl, hb⟩
          replace HA := hid (HA.out.later hb)
          replace HWI := hid (HWI.out.later hb)
          replace HB := hid (HB.out.trans (hb.mono HB.out.size))
          clear hb
          go_wp2
          go_meet
          exact ⟨HA, HWI, HB⟩
      case rest =>
        clear HA HWI HB
        obtain ⟨HA, HWI, HB⟩ := hcut
        go_upto_block 2 with fail
        go_cut [38, 39, 40] from 274 to 300 (fun _ _ _ wx => Hid (Ints wx (.slice avW rw0.length cvW) rw0) ∧ Hid (Below w.heap.size w wx))
        case first => as_aux_lemma =>
          go_wp2
          go_loopw [38, 39, 40] (fun ii _ _ wr => ∃ i : Nat, i ≤ al.length ∧ ii = .int .i64 i ∧ Hid (Ints wr (.slice avA al.length cvA) al) ∧ Hid (Ints wr (.slice avW rw0.length cvW) rw0) ∧ Hid (Below w.heap.size w wr)) (fun ii _ _ _ => al.length - (intOf ii).toNat)
          case atStart => exact ⟨0, by omega, rfl, HA, HWI, HB⟩
          case round =>
            clear HA HWI HB
            obtain ⟨i, hi, rfl, HA, HWI, HB⟩ := hrel
            have hl1440 := HAL.out
            by_cases hlt : i < al.length
            · obtain ⟨a, ha0, ha1, hm0, hm1, hmir⟩ := HAQ.out i hlt
              have HMR := hid hmir
              obtain ⟨ao3, cap3, p3, o3, he, ha3, hc3, hn3, hm3⟩ := HA.out
              simp only [Value.slice.injEq] at he
              obtain ⟨rfl, _, rfl⟩ := he
              obtain ⟨rfl, hbL⟩ := ha3 (by omega)
              have e3 : wr.cell? ⟨p3, o3+i, none⟩ = some (.int .i64 (a : Int)) := by rw [hc3 i hlt, ha0]
              clear hc3 ha3 ha0 hmir
              have z1 : (0 : Int) ≤ i := by omega
              have z2 : (i : Int) < al.length := by omega
              have z3 : (0 : Int) ≤ (a : Int) := by omega
              have z4 : (a : Int) ≤ 1439 := by omega
              go_wp2_with fail
              have hc := implMirrorTime_any (a : Int) wr
              simp only [HMR.out] at hc
              refine hc.mono ?_
              rintro e wq ⟨rfl, hb⟩
              clear hc
              have e4 := (hb.cell (p := ⟨p3, o3+i, none⟩) (by exact hbL)).trans e3
              replace HA := hid (HA.out.later hb)
              replace HWI := hid (HWI.out.later hb)
              replace HB := hid (HB.out.trans (hb.mono HB.out.size))
              clear e3 hb
              go_wp2
              go_roundw
              case rel => exact ⟨i+1, by omega, by go_num, HA, HWI, HB⟩
              case measure => simp [intOf]; omega
            · have z2 : ¬ (i : Int) < al.length := by omega
              go_wp2
              go_meet
              exact ⟨HWI, HB⟩
        case rest =>
          clear HA HWI HB
          obtain ⟨HWI, HB⟩ := hcut
          cases tb with
          | false =>
            go_wp2
            go_ret
            exact ⟨rfl, HB.out⟩
          | true =>
            have HTZ := hid (HTB.out rfl)
            go_wp2_with fail
            have hc := implTimeOfRow_any _ rw0 _ HWI.out
            simp only [HTZ.out] at hc
            refine hc.mono ?_
            rintro e wq ⟨rfl, hb⟩
            clear hc
            go_wp2
            go_ret
            exact ⟨rfl, HB.out.trans (hb.mono HB.out.size)⟩

end Go.Proofs.Ytfgjaefcfmjleaa
