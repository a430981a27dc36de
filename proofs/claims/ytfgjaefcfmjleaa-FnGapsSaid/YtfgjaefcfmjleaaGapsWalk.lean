/-
  FnGaps: the law's call returns true, whatever its argument, and leaves what was there.
-/
import Derived.Test.YtfgjaefcfmjleaaGapsLaw
import Derived.Test.YtfgjaefcfmjleaaVHelp
import Derived.Test.YtfgjaefcfmjleaaDraws
import Derived.Test.YtfgjaefcfmjleaaDraw6
import Derived.Deep.DeepCutAuto
import Derived.Deep.CutRange
namespace Go.Proofs.Ytfgjaefcfmjleaa
open Go.RowKit

set_option maxRecDepth 100000 in
set_option maxHeartbeats 40000000 in
theorem fnGaps_law (v : Value) (n : Nat) (w : World) (hx : Byts w v n) :
    Calls Try.prog 3 #[v] w fun e w' => e = .returned (.bool true) ∧ Below w.heap.size w w' := by
  have HC := hid hx
  have HB := hid (Below.refl w.heap.size w)
  clear hx
  by_cases hbig : 65536 < n
  · have hb : decide (65536 < n) = true := decide_eq_true hbig
    go_enter Try.func3, Try.ntmps3
    go_wp2_with fail
    refine (vBig_any v n w HC.out).mono ?_
    rintro e w' ⟨rfl, rfl⟩
    rw [hb]
    go_wp2
    go_ret
    exact ⟨rfl, HB.out⟩
  have hbd : decide (65536 < n) = false := decide_eq_false hbig
  have HN := hid hbig
  clear hbig
  go_enter Try.func3, Try.ntmps3
  go_wp2_with fail
  refine (vBig_any v n w HC.out).mono ?_
  rintro e w' ⟨rfl, rfl⟩
  rw [hbd]
  clear hbd
  go_wp2_with fail
  refine (DrawGapOf_any v n _ HC.out (by have := HN.out; omega)).mono ?_
  rintro e w1 ⟨vL, xs, rfl, ho, hlx, hb⟩
  replace HC := hid (HC.out.later hb)
  replace HB := hid (HB.out.trans (hb.mono HB.out.size))
  clear hb
  obtain ⟨avL, cvL, rfl⟩ := ho.spell rfl
  have HL := hid ho
  clear ho
  obtain ⟨kb, tb, gp, mm, ss, ps, hk, hg, hps, hm, hs, hlaw, hpair⟩ := gaps_out xs
  have HK := hid hk
  have HG := hid hg
  have HPS := hid hps
  have HM := hid hm
  have HS := hid hs
  have HLAW := hid hlaw
  have HPAIR := hid hpair
  clear hk hg hps hm hs hlaw hpair hlx
  go_wp2_with fail
  have hc := implGapOf_any _ xs _ HL.out.ints
  simp only [HG.out] at hc
  refine hc.mono ?_
  clear hc
  rintro e w2 ⟨rfl, hb⟩
  replace HC := hid (HC.out.later hb)
  replace HL := hid (HL.out.later hb)
  replace HB := hid (HB.out.trans (hb.mono HB.out.size))
  clear hb
  go_wp2_with fail
  have hc := specGapOf_any _ xs _ HL.out.ints
  simp only [HG.out] at hc
  refine hc.mono ?_
  clear hc
  rintro e w3 ⟨rfl, hb⟩
  replace HC := hid (HC.out.later hb)
  replace HL := hid (HL.out.later hb)
  replace HB := hid (HB.out.trans (hb.mono HB.out.size))
  clear hb
  go_wp2_with fail
  have hc := implGapPairs_any _ xs _ HL.out.ints
  simp only [HPS.out] at hc
  refine hc.mono ?_
  clear hc
  rintro e w4 ⟨vP, rfl, ho, hb⟩
  replace HC := hid (HC.out.later hb)
  replace HL := hid (HL.out.later hb)
  replace HB := hid (HB.out.trans (hb.mono HB.out.size))
  clear hb
  obtain ⟨avP, cvP, rfl⟩ := ho.spell rfl
  have HP := hid ho
  clear ho
  go_wp2_with fail
  have hc := specGapPairs_any _ xs _ HL.out.ints
  simp only [HPS.out] at hc
  refine hc.mono ?_
  clear hc
  rintro e w5 ⟨vQ, rfl, ho, hb⟩
  replace HC := hid (HC.out.later hb)
  replace HL := hid (HL.out.later hb)
  replace HP := hid (HP.out.later hb)
  replace HB := hid (HB.out.trans (hb.mono HB.out.size))
  clear hb
  obtain ⟨avQ, cvQ, rfl⟩ := ho.spell rfl
  have HQ := hid ho
  clear ho
  go_wp2_with fail
  have hc := implMendsUpTo_any _ xs _ HL.out.ints
  simp only [HM.out] at hc
  refine hc.mono ?_
  clear hc
  rintro e w6 ⟨rfl, hb⟩
  replace HC := hid (HC.out.later hb)
  replace HL := hid (HL.out.later hb)
  replace HP := hid (HP.out.later hb)
  replace HQ := hid (HQ.out.later hb)
  replace HB := hid (HB.out.trans (hb.mono HB.out.size))
  clear hb
  go_wp2_with fail
  have hc := specMendsUpTo_any _ xs _ HL.out.ints
  simp only [HM.out] at hc
  refine hc.mono ?_
  clear hc
  rintro e w7 ⟨rfl, hb⟩
  replace HC := hid (HC.out.later hb)
  replace HL := hid (HL.out.later hb)
  replace HP := hid (HP.out.later hb)
  replace HQ := hid (HQ.out.later hb)
  replace HB := hid (HB.out.trans (hb.mono HB.out.size))
  clear hb
  go_wp2_with fail
  have hc := implSeesUpTo_any _ xs _ HL.out.ints
  simp only [HS.out] at hc
  refine hc.mono ?_
  clear hc
  rintro e w8 ⟨rfl, hb⟩
  replace HC := hid (HC.out.later hb)
  replace HL := hid (HL.out.later hb)
  replace HP := hid (HP.out.later hb)
  replace HQ := hid (HQ.out.later hb)
  replace HB := hid (HB.out.trans (hb.mono HB.out.size))
  clear hb
  go_wp2_with fail
  have hc := specSeesUpTo_any _ xs _ HL.out.ints
  simp only [HS.out] at hc
  refine hc.mono ?_
  clear hc
  rintro e w9 ⟨rfl, hb⟩
  replace HC := hid (HC.out.later hb)
  replace HL := hid (HL.out.later hb)
  replace HP := hid (HP.out.later hb)
  replace HQ := hid (HQ.out.later hb)
  replace HB := hid (HB.out.trans (hb.mono HB.out.size))
  clear hb
  go_wp2_with fail
  refine (vCut_any v n 1 _ HC.out (by have := HN.out; omega) (by omega)).mono ?_
  rintro e w10 ⟨vC1, nC1, rfl, ho, hlC1, hb⟩
  replace HC := hid (HC.out.later hb)
  replace HL := hid (HL.out.later hb)
  replace HP := hid (HP.out.later hb)
  replace HQ := hid (HQ.out.later hb)
  replace HB := hid (HB.out.trans (hb.mono HB.out.size))
  have HC1 := hid ho
  clear ho hb
  go_wp2_with fail
  refine (DrawFlipCode_any vC1 nC1 _ HC1.out (by omega)).mono ?_
  rintro e w11 ⟨vU, us, b, rfl, ho, hlu, hb⟩
  replace HC := hid (HC.out.later hb)
  replace HL := hid (HL.out.later hb)
  replace HP := hid (HP.out.later hb)
  replace HQ := hid (HQ.out.later hb)
  replace HC1 := hid (HC1.out.later hb)
  replace HB := hid (HB.out.trans (hb.mono HB.out.size))
  clear hb
  obtain ⟨avU, cvU, rfl⟩ := ho.spell rfl
  have HU := hid ho
  clear ho
  clear hlu hlC1
  obtain ⟨fb, fs, hf, hflaw⟩ := flip_out us b
  have HFL := hid hf
  have HFLAW := hid hflaw
  clear hf hflaw
  clear HC1
  go_wp2_with fail
  have hc := implFlipCode_any _ us b _ HU.out.ints
  simp only [HFL.out] at hc
  refine hc.mono ?_
  clear hc
  rintro e w12 ⟨vF, rfl, ho, hb⟩
  replace HC := hid (HC.out.later hb)
  replace HL := hid (HL.out.later hb)
  replace HP := hid (HP.out.later hb)
  replace HQ := hid (HQ.out.later hb)
  replace HU := hid (HU.out.later hb)
  replace HB := hid (HB.out.trans (hb.mono HB.out.size))
  clear hb
  obtain ⟨avF, cvF, rfl⟩ := ho.spell rfl
  have HF := hid ho
  clear ho
  go_wp2_with fail
  have hc := specFlipCode_any _ us b _ HU.out.ints
  simp only [HFL.out] at hc
  refine hc.mono ?_
  clear hc
  rintro e w13 ⟨vG, rfl, ho, hb⟩
  replace HC := hid (HC.out.later hb)
  replace HL := hid (HL.out.later hb)
  replace HP := hid (HP.out.later hb)
  replace HQ := hid (HQ.out.later hb)
  replace HU := hid (HU.out.later hb)
  replace HF := hid (HF.out.later hb)
  replace HB := hid (HB.out.trans (hb.mono HB.out.size))
  clear hb
  obtain ⟨avG, cvG, rfl⟩ := ho.spell rfl
  have HFQ := hid ho
  clear ho
  go_wp2_with fail
  refine (vCut_any v n 2 _ HC.out (by have := HN.out; omega) (by omega)).mono ?_
  rintro e w14 ⟨vC2, nC2, rfl, ho, hlC2, hb⟩
  replace HC := hid (HC.out.later hb)
  replace HL := hid (HL.out.later hb)
  replace HP := hid (HP.out.later hb)
  replace HQ := hid (HQ.out.later hb)
  replace HU := hid (HU.out.later hb)
  replace HF := hid (HF.out.later hb)
  replace HFQ := hid (HFQ.out.later hb)
  replace HB := hid (HB.out.trans (hb.mono HB.out.size))
  have HC2 := hid ho
  clear ho hb
  go_wp2_with fail
  refine (DrawCountFar_any vC2 nC2 _ HC2.out (by omega)).mono ?_
  rintro e w15 ⟨vV, vs, d, rfl, ho, hlv, hb⟩
  replace HC := hid (HC.out.later hb)
  replace HL := hid (HL.out.later hb)
  replace HP := hid (HP.out.later hb)
  replace HQ := hid (HQ.out.later hb)
  replace HU := hid (HU.out.later hb)
  replace HF := hid (HF.out.later hb)
  replace HFQ := hid (HFQ.out.later hb)
  replace HC2 := hid (HC2.out.later hb)
  replace HB := hid (HB.out.trans (hb.mono HB.out.size))
  clear hb
  obtain ⟨avV, cvV, rfl⟩ := ho.spell rfl
  have HV := hid ho
  clear ho
  clear hlv hlC2
  obtain ⟨cb, cc, hc0, hclaw⟩ := counts_out vs d
  have HCN := hid hc0
  have HCLAW := hid hclaw
  clear hc0 hclaw
  clear HC2
  go_wp2_with fail
  have hc := implCountFar_any _ vs d _ HV.out.ints
  simp only [HCN.out] at hc
  refine hc.mono ?_
  clear hc
  rintro e w16 ⟨rfl, hb⟩
  replace HC := hid (HC.out.later hb)
  replace HL := hid (HL.out.later hb)
  replace HP := hid (HP.out.later hb)
  replace HQ := hid (HQ.out.later hb)
  replace HU := hid (HU.out.later hb)
  replace HF := hid (HF.out.later hb)
  replace HFQ := hid (HFQ.out.later hb)
  replace HV := hid (HV.out.later hb)
  replace HB := hid (HB.out.trans (hb.mono HB.out.size))
  clear hb
  go_wp2_with fail
  have hc := specCountFar_any _ vs d _ HV.out.ints
  simp only [HCN.out] at hc
  refine hc.mono ?_
  clear hc
  rintro e w17 ⟨rfl, hb⟩
  replace HC := hid (HC.out.later hb)
  replace HL := hid (HL.out.later hb)
  replace HP := hid (HP.out.later hb)
  replace HQ := hid (HQ.out.later hb)
  replace HU := hid (HU.out.later hb)
  replace HF := hid (HF.out.later hb)
  replace HFQ := hid (HFQ.out.later hb)
  replace HV := hid (HV.out.later hb)
  replace HB := hid (HB.out.trans (hb.mono HB.out.size))
  clear hb
  go_wp2_with fail
  refine (DrawDigitCode_any v n _ HC.out (by have := HN.out; omega)).mono ?_
  rintro e w18 ⟨vD, ds, rfl, ho, hld, hb⟩
  replace HC := hid (HC.out.later hb)
  replace HL := hid (HL.out.later hb)
  replace HP := hid (HP.out.later hb)
  replace HQ := hid (HQ.out.later hb)
  replace HU := hid (HU.out.later hb)
  replace HF := hid (HF.out.later hb)
  replace HFQ := hid (HFQ.out.later hb)
  replace HV := hid (HV.out.later hb)
  replace HB := hid (HB.out.trans (hb.mono HB.out.size))
  clear hb
  obtain ⟨avD, cvD, rfl⟩ := ho.spell rfl
  have HD := hid ho
  clear ho
  clear hld
  obtain ⟨db, os, hd0, hdlaw⟩ := digits_out ds
  have HDG := hid hd0
  have HDLAW := hid hdlaw
  clear hd0 hdlaw
  go_wp2_with fail
  have hc := implDigitCode_any _ ds _ HD.out.ints
  simp only [HDG.out] at hc
  refine hc.mono ?_
  clear hc
  rintro e w19 ⟨vO, rfl, ho, hb⟩
  replace HC := hid (HC.out.later hb)
  replace HL := hid (HL.out.later hb)
  replace HP := hid (HP.out.later hb)
  replace HQ := hid (HQ.out.later hb)
  replace HU := hid (HU.out.later hb)
  replace HF := hid (HF.out.later hb)
  replace HFQ := hid (HFQ.out.later hb)
  replace HV := hid (HV.out.later hb)
  replace HD := hid (HD.out.later hb)
  replace HB := hid (HB.out.trans (hb.mono HB.out.size))
  clear hb
  obtain ⟨avO, cvO, rfl⟩ := ho.spell rfl
  have HO := hid ho
  clear ho
  go_wp2_with fail
  have hc := specDigitCode_any _ ds _ HD.out.ints
  simp only [HDG.out] at hc
  refine hc.mono ?_
  clear hc
  rintro e w20 ⟨vR, rfl, ho, hb⟩
  replace HC := hid (HC.out.later hb)
  replace HL := hid (HL.out.later hb)
  replace HP := hid (HP.out.later hb)
  replace HQ := hid (HQ.out.later hb)
  replace HU := hid (HU.out.later hb)
  replace HF := hid (HF.out.later hb)
  replace HFQ := hid (HFQ.out.later hb)
  replace HV := hid (HV.out.later hb)
  replace HD := hid (HD.out.later hb)
  replace HO := hid (HO.out.later hb)
  replace HB := hid (HB.out.trans (hb.mono HB.out.size))
  clear hb
  obtain ⟨avR, cvR, rfl⟩ := ho.spell rfl
  have HR := hid ho
  clear ho
  go_wp2_with fail
  refine (drawn_below (vPairs_any _ _ ps _ HP.out.two HQ.out.two)).mono ?_
  rintro e w21 ⟨rfl, hb⟩
  replace HC := hid (HC.out.later hb)
  replace HL := hid (HL.out.later hb)
  replace HP := hid (HP.out.later hb)
  replace HQ := hid (HQ.out.later hb)
  replace HU := hid (HU.out.later hb)
  replace HF := hid (HF.out.later hb)
  replace HFQ := hid (HFQ.out.later hb)
  replace HV := hid (HV.out.later hb)
  replace HD := hid (HD.out.later hb)
  replace HO := hid (HO.out.later hb)
  replace HR := hid (HR.out.later hb)
  replace HB := hid (HB.out.trans (hb.mono HB.out.size))
  clear hb
  clear HQ
  go_wp2_with fail
  refine (drawn_below (vInts_any _ _ fs fs _ HF.out.ints HFQ.out.ints)).mono ?_
  rintro e w22 ⟨rfl, hb⟩
  replace HC := hid (HC.out.later hb)
  replace HL := hid (HL.out.later hb)
  replace HP := hid (HP.out.later hb)
  replace HU := hid (HU.out.later hb)
  replace HF := hid (HF.out.later hb)
  replace HFQ := hid (HFQ.out.later hb)
  replace HV := hid (HV.out.later hb)
  replace HD := hid (HD.out.later hb)
  replace HO := hid (HO.out.later hb)
  replace HR := hid (HR.out.later hb)
  replace HB := hid (HB.out.trans (hb.mono HB.out.size))
  clear hb
  clear HFQ
  go_wp2_with fail
  refine (drawn_below (vInts_any _ _ os os _ HO.out.ints HR.out.ints)).mono ?_
  rintro e w23 ⟨rfl, hb⟩
  replace HC := hid (HC.out.later hb)
  replace HL := hid (HL.out.later hb)
  replace HP := hid (HP.out.later hb)
  replace HU := hid (HU.out.later hb)
  replace HF := hid (HF.out.later hb)
  replace HV := hid (HV.out.later hb)
  replace HD := hid (HD.out.later hb)
  replace HO := hid (HO.out.later hb)
  replace HR := hid (HR.out.later hb)
  replace HB := hid (HB.out.trans (hb.mono HB.out.size))
  clear hb
  clear HR
  go_wp2_with fail
  have hc := IsCode_any _ xs _ HL.out.ints
  simp only [HK.out] at hc
  refine hc.mono ?_
  clear hc
  rintro e w' ⟨rfl, rfl⟩
  go_wp2_with fail
  have hc := drawn_below (specIsCode_any _ xs _ HL.out.ints)
  simp only [HK.out] at hc
  refine hc.mono ?_
  clear hc
  rintro e w24 ⟨rfl, hb⟩
  replace HC := hid (HC.out.later hb)
  replace HL := hid (HL.out.later hb)
  replace HP := hid (HP.out.later hb)
  replace HU := hid (HU.out.later hb)
  replace HF := hid (HF.out.later hb)
  replace HV := hid (HV.out.later hb)
  replace HD := hid (HD.out.later hb)
  replace HO := hid (HO.out.later hb)
  replace HB := hid (HB.out.trans (hb.mono HB.out.size))
  clear hb
  go_wp2_with fail
  have hc := IsCode_any _ xs _ HL.out.ints
  simp only [HK.out] at hc
  refine hc.mono ?_
  clear hc
  rintro e w' ⟨rfl, rfl⟩
  have HL := hid HL.out.ints
  have HP := hid HP.out.two
  have HU := hid HU.out.ints
  have HF := hid HF.out.ints
  have HV := hid HV.out.ints
  have HO := hid HO.out.ints
  go_upto_if 238 with fail
  go_cut [37, 38, 39, 40, 41] from 239 to 329 (fun _ _ _ _ _ wx => Hid (Ints wx (.slice avU us.length cvU) us) ∧ Hid (Ints wx (.slice avF fs.length cvF) fs) ∧ Hid (Ints wx (.slice avV vs.length cvV) vs) ∧ Hid (Ints wx (.slice avO os.length cvO) os) ∧ Hid (Below w.heap.size w wx))
  case first =>
    cases kb with
    | false =>
      go_wp2_with fail
      go_meet
      exact ⟨HU, HF, HV, HO, HB⟩
    | true =>
      have HPI := hid (HPAIR.out rfl)
      clear HPAIR
      rcases HLAW.out rfl with ⟨rfl, hb1, hb2, hb3, hb4⟩ | ⟨rfl, hb1, hb2, hb3, hp144, hg1, hg7, hse, hme, hcf⟩
      · go_wp2
        go_loopw [37, 38, 39] (fun ii _ _ wr => ∃ i : Nat, i ≤ ps.length ∧ ii = .int .i64 i ∧ Hid (Ints wr (.slice avL xs.length cvL) xs) ∧ Hid (Two wr (.slice avP ps.length cvP) ps) ∧ Hid (Ints wr (.slice avU us.length cvU) us) ∧ Hid (Ints wr (.slice avF fs.length cvF) fs) ∧ Hid (Ints wr (.slice avV vs.length cvV) vs) ∧ Hid (Ints wr (.slice avO os.length cvO) os) ∧ Hid (Below w.heap.size w wr)) (fun ii _ _ _ => ps.length - (intOf ii).toNat)
        case atStart => exact ⟨0, by omega, rfl, HL, HP, HU, HF, HV, HO, HB⟩
        case round =>
          clear HL HP HU HF HV HO HB
          obtain ⟨i, hi, rfl, HL, HP, HU, HF, HV, HO, HB⟩ := hrel
          by_cases hlt : i < ps.length
          · exact absurd (Nat.lt_of_le_of_lt (Nat.zero_le i) hlt) hb4
          · go_wp2
            go_meet
            exact ⟨HU, HF, HV, HO, HB⟩
      · have q1 : (ss != gp - 1) = false := by rw [hse]; simp
        have q2 : (mm != (gp - 1) / 2) = false := by rw [hme]; simp
        have HSE := hid hse
        have HME := hid hme
        clear hse hme
        go_wp2
        go_loopw [37, 38, 39] (fun ii _ _ wr => ∃ i : Nat, i ≤ ps.length ∧ ii = .int .i64 i ∧ Hid (Ints wr (.slice avL xs.length cvL) xs) ∧ Hid (Two wr (.slice avP ps.length cvP) ps) ∧ Hid (Ints wr (.slice avU us.length cvU) us) ∧ Hid (Ints wr (.slice avF fs.length cvF) fs) ∧ Hid (Ints wr (.slice avV vs.length cvV) vs) ∧ Hid (Ints wr (.slice avO os.length cvO) os) ∧ Hid (Below w.heap.size w wr)) (fun ii _ _ _ => ps.length - (intOf ii).toNat)
        case atStart => exact ⟨0, by omega, rfl, HL, HP, HU, HF, HV, HO, HB⟩
        case round =>
          clear HL HP HU HF HV HO HB
          obtain ⟨i, hi, rfl, HL, HP, HU, HF, HV, HO, HB⟩ := hrel
          by_cases hlt : i < ps.length
          · obtain ⟨a, b2, hab, hbl, hpi, hfar, hxr, hyr⟩ := HPI.out i hlt
            have HFAR := hid hfar
            clear hfar
            obtain ⟨ao2, cap2, p2, o2, he, ha, hc, hn2, hm2⟩ := HP.out
            simp only [Value.slice.injEq] at he
            obtain ⟨rfl, _, rfl⟩ := he
            obtain ⟨rfl, hbP⟩ := ha (by omega)
            obtain ⟨ao3, cap3, p3, o3, he, ha3, hc3, hn3, hm3⟩ := HL.out
            simp only [Value.slice.injEq] at he
            obtain ⟨rfl, _, rfl⟩ := he
            obtain ⟨rfl, hbL⟩ := ha3 (by omega)
            have e1 : wr.cell? ⟨p2, o2+i*2, none⟩ = some (.int .i64 (a : Int)) := by rw [(hc i hlt).1, hpi]
            have e2 : wr.cell? ⟨p2, o2+i*2+1, none⟩ = some (.int .i64 (b2 : Int)) := by rw [(hc i hlt).2, hpi]
            have e3 : wr.cell? ⟨p3, o3+a, none⟩ = some (.int .i64 (xs.getD a 0)) := hc3 a (by omega)
            have e4 : wr.cell? ⟨p3, o3+b2, none⟩ = some (.int .i64 (xs.getD b2 0)) := hc3 b2 hbl
            clear hc hc3 ha ha3 hpi
            generalize xs.getD a 0 = x at e3 hxr HFAR
            generalize xs.getD b2 0 = y at e4 hyr HFAR
            have hfb : (farI x y != gp) = false := by rw [HFAR.out]; simp
            have z1 : (0 : Int) ≤ i := by omega
            have z2 : (i : Int) < ps.length := by omega
            have z3 : (0 : Int) ≤ a := by omega
            have z4 : (a : Int) < xs.length := by omega
            have z5 : (0 : Int) ≤ b2 := by omega
            have z6 : (b2 : Int) < xs.length := by omega
            have z7 : ¬ ((b2 : Int) ≤ a) := by omega
            go_wp2
            go_quiet ((go_at_call 33; exact Calls.quiet_of_same ((FarCells_any x y _ hxr hyr).mono fun _ _ h => ⟨h.1, h.2.symm⟩)))
            go_wp2
            go_quiet (fail)
            go_wp2
            go_roundw
            case rel => exact ⟨i+1, by omega, by go_num, hid (HL.out.drawn _), hid (HP.out.drawn _), hid (HU.out.drawn _), hid (HF.out.drawn _), hid (HV.out.drawn _), hid (HO.out.drawn _), hid (below_drewN HB.out _)⟩
            case measure => simp [intOf]; omega
          · go_wp2_with fail
            have hc := implCountFar_any _ xs gp _ HL.out
            simp only [hcf] at hc
            refine hc.mono ?_
            rintro e wq ⟨rfl, hb⟩
            clear hc
            go_wp2
            go_meet
            exact ⟨hid (HU.out.later hb), hid (HF.out.later hb), hid (HV.out.later hb), hid (HO.out.later hb), hid (HB.out.trans (hb.mono HB.out.size))⟩
  case rest =>
    clear HU HF HV HO HB HC HD HL HP
    obtain ⟨HU, HF, HV, HO, HB⟩ := hcut
    go_upto_if 330 with fail
    go_cut [42, 43, 44, 45, 46, 47] from 331 to 367 (fun _ _ _ _ _ _ wx => Hid (Ints wx (.slice avV vs.length cvV) vs) ∧ Hid (Ints wx (.slice avO os.length cvO) os) ∧ Hid (Below w.heap.size w wx))
    case first =>
      cases fb with
      | false =>
        go_wp2
        go_meet
        exact ⟨HV, HO, HB⟩
      | true =>
        obtain ⟨q, hq1, hq2, hq3⟩ := HFLAW.out rfl
        have HQ1 := hid hq1
        have HQ2 := hid hq2
        have HQ3 := hid hq3
        clear hq1 hq2 hq3
        go_wp2_with fail
        have hc := implGapOf_any _ us _ HU.out
        simp only [HQ1.out] at hc
        refine hc.mono ?_
        clear hc
        rintro e w25 ⟨rfl, hb⟩
        replace HU := hid (HU.out.later hb)
        replace HF := hid (HF.out.later hb)
        replace HV := hid (HV.out.later hb)
        replace HO := hid (HO.out.later hb)
        replace HB := hid (HB.out.trans (hb.mono HB.out.size))
        clear hb
        go_wp2_with fail
        have hc := implGapOf_any _ fs _ HF.out
        simp only [HQ2.out] at hc
        refine hc.mono ?_
        clear hc
        rintro e w26 ⟨rfl, hb⟩
        replace HU := hid (HU.out.later hb)
        replace HF := hid (HF.out.later hb)
        replace HV := hid (HV.out.later hb)
        replace HO := hid (HO.out.later hb)
        replace HB := hid (HB.out.trans (hb.mono HB.out.size))
        clear hb
        go_wp2_with fail
        have hc := implFlipCode_any _ fs b _ HF.out
        simp only [HQ3.out] at hc
        refine hc.mono ?_
        clear hc
        rintro e w27 ⟨vH, rfl, ho, hb⟩
        replace HU := hid (HU.out.later hb)
        replace HF := hid (HF.out.later hb)
        replace HV := hid (HV.out.later hb)
        replace HO := hid (HO.out.later hb)
        replace HB := hid (HB.out.trans (hb.mono HB.out.size))
        clear hb
        obtain ⟨avH, cvH, rfl⟩ := ho.spell rfl
        have HH := hid ho
        clear ho
        go_wp2_with fail
        refine (drawn_below (vInts_any _ _ us us _ HH.out.ints HU.out)).mono ?_
        rintro e w28 ⟨rfl, hb⟩
        replace HU := hid (HU.out.later hb)
        replace HF := hid (HF.out.later hb)
        replace HV := hid (HV.out.later hb)
        replace HO := hid (HO.out.later hb)
        replace HH := hid (HH.out.later hb)
        replace HB := hid (HB.out.trans (hb.mono HB.out.size))
        clear hb
        go_wp2
        go_meet
        exact ⟨HV, HO, HB⟩
    case rest =>
      clear HU HF HV HO HB
      obtain ⟨HV, HO, HB⟩ := hcut
      go_upto_if 368 with fail
      go_cut [48, 49, 50, 51] from 369 to 392 (fun _ _ _ _ wx => Hid (Ints wx (.slice avO os.length cvO) os) ∧ Hid (Below w.heap.size w wx))
      case first =>
        cases cb with
        | false =>
          go_wp2
          go_meet
          exact ⟨HO, HB⟩
        | true =>
          obtain ⟨hv12, hcn, hle, hz, hmul⟩ := HCLAW.out rfl
          have HCNT := hid hcn
          have HLE := hid hle
          have HMUL := hid hmul
          clear hcn hle hmul HCLAW
          go_wp2
          go_loopw [48, 49, 50, 51] (fun ss kk _ _ wr => ∃ k : Nat, k ≤ 7 ∧ kk = .int .i64 ((k : Int) + 1) ∧ ss = .int .i64 (farSum vs k : Nat) ∧ Hid (Ints wr (.slice avV vs.length cvV) vs) ∧ Hid (Ints wr (.slice avO os.length cvO) os) ∧ Hid (Below w.heap.size w wr)) (fun _ kk _ _ _ => 8 - (intOf kk).toNat)
          case atStart => exact ⟨0, by omega, rfl, by rw [hz]; rfl, HV, HO, HB⟩
          case round =>
            clear HV HO HB
            obtain ⟨k, hk, rfl, rfl, HV, HO, HB⟩ := hrel
            have h1 := HLE.out k
            by_cases hlt : k < 7
            · have h2 := HLE.out (k+1)
              have HCK := hid (HCNT.out k hlt)
              generalize hs1 : farSum vs (k+1) = s1 at h2 HCK
              generalize farSum vs k = s0 at h1 HCK
              have HS1 := hid hs1
              clear hs1
              have z1 : (k : Int) + 1 ≤ 7 := by omega
              go_wp2_with fail
              have hc := implCountFar_any _ vs ((k : Int) + 1) _ HV.out
              simp only [HCK.out] at hc
              refine hc.mono ?_
              rintro e wq ⟨rfl, hb⟩
              clear hc
              go_wp2
              go_roundw
              case rel => exact ⟨k+1, by omega, by go_num, by rw [HS1.out]; exact int_eq (by omega), hid (HV.out.later hb), hid (HO.out.later hb), hid (HB.out.trans (hb.mono HB.out.size))⟩
              case measure => simp [intOf]; omega
            · obtain rfl : k = 7 := by omega
              have hhalf := half_same HMUL.out (by omega)
              go_wp2
              go_meet
              exact ⟨HO, HB⟩
      case rest =>
        clear HV HO HB
        obtain ⟨HO, HB⟩ := hcut
        cases db with
        | false =>
          go_wp2
          go_ret
          exact ⟨rfl, HB.out⟩
        | true =>
          obtain ⟨hco, hlo⟩ := HDLAW.out rfl
          have HCO := hid hco
          have hlen : ((os.length : Int) == (ds.length : Int)) = true := by rw [hlo]; simp
          clear hco hlo
          go_wp2_with fail
          have hc := IsCode_any _ os _ HO.out
          simp only [HCO.out] at hc
          refine hc.mono ?_
          rintro e w' ⟨rfl, rfl⟩
          clear hc
          go_wp2
          go_ret
          exact ⟨rfl, HB.out⟩

end Go.Proofs.Ytfgjaefcfmjleaa
