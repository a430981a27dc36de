/-
  FnFrames: the law's call returns true, whatever its argument, and leaves what was there.
-/
import Derived.Test.YtfgjaefcfmjleaaFramesLaw
import Derived.Test.YtfgjaefcfmjleaaLeast
import Derived.Test.YtfgjaefcfmjleaaVHelp3
import Derived.Test.YtfgjaefcfmjleaaDrawF2
import Derived.Deep.DeepCutAuto
import Derived.Deep.CutRange
import Derived.Deep.CutBlock
namespace Go.Proofs.Ytfgjaefcfmjleaa
open Go.RowKit

set_option maxRecDepth 100000 in
set_option maxHeartbeats 40000000 in
theorem fnFrames_law (v : Value) (n : Nat) (w : World) (hx : Byts w v n) :
    Calls Try.prog 7 #[v] w fun e w' => e = .returned (.bool true) ∧ Below w.heap.size w w' := by
  have HC := hid hx
  have HB := hid (Below.refl w.heap.size w)
  clear hx
  by_cases hbig : 65536 < n
  · have hb : decide (65536 < n) = true := decide_eq_true hbig
    go_enter Try.func7, Try.ntmps7
    go_wp2_with fail
    refine (rBig_any v n w HC.out).mono ?_
    rintro e w' ⟨rfl, rfl⟩
    rw [hb]
    go_wp2
    go_ret
    exact ⟨rfl, HB.out⟩
  have hbd : decide (65536 < n) = false := decide_eq_false hbig
  have HN := hid hbig
  clear hbig
  go_enter Try.func7, Try.ntmps7
  go_wp2_with fail
  refine (rBig_any v n w HC.out).mono ?_
  rintro e w' ⟨rfl, rfl⟩
  rw [hbd]
  clear hbd
  go_wp2_with fail
  refine (DrawSeenOf_any v n _ HC.out (by have := HN.out; omega)).mono ?_
  rintro e w1 ⟨k, vF, xs, rfl, ho, hlx, hb⟩
  replace HC := hid (HC.out.later hb)
  replace HB := hid (HB.out.trans (hb.mono HB.out.size))
  clear hb
  obtain ⟨avF, cvF, rfl⟩ := ho.spell rfl
  have HF := hid ho
  clear ho
  clear hlx
  obtain ⟨dr, is, one, four, sf, du, gh, bl, h1, h2, h3, h4, h5, h6, h7, h8⟩ := frames_out k xs
  have HSE := hid h1
  have HIS := hid h2
  have HDU := hid h3
  have HGH := hid h4
  have HBL := hid h5
  have HDR := hid h6
  have HLAW := hid h7
  have HFOUR := hid h8
  clear h1 h2 h3 h4 h5 h6 h7 h8
  go_wp2_with fail
  have hc := implSeenOf_any k _ xs _ HF.out.two
  simp only [HSE.out] at hc
  refine hc.mono ?_
  clear hc
  rintro e w2 ⟨vS, rfl, ho, hb⟩
  replace HC := hid (HC.out.later hb)
  replace HF := hid (HF.out.later hb)
  replace HB := hid (HB.out.trans (hb.mono HB.out.size))
  clear hb
  obtain ⟨avS, cvS, rfl⟩ := ho.spell rfl
  have HS := hid ho
  clear ho
  go_wp2_with fail
  have hc := specSeenOf_any k _ xs _ HF.out.two
  simp only [HSE.out] at hc
  refine hc.mono ?_
  clear hc
  rintro e w3 ⟨vT, rfl, ho, hb⟩
  replace HC := hid (HC.out.later hb)
  replace HF := hid (HF.out.later hb)
  replace HS := hid (HS.out.later hb)
  replace HB := hid (HB.out.trans (hb.mono HB.out.size))
  clear hb
  obtain ⟨avT, cvT, rfl⟩ := ho.spell rfl
  have HSQ := hid ho
  clear ho
  go_wp2_with fail
  refine (drawn_below (rInts_any _ _ sf sf _ HS.out.ints HSQ.out.ints)).mono ?_
  rintro e w4 ⟨rfl, hb⟩
  replace HC := hid (HC.out.later hb)
  replace HF := hid (HF.out.later hb)
  replace HS := hid (HS.out.later hb)
  replace HSQ := hid (HSQ.out.later hb)
  replace HB := hid (HB.out.trans (hb.mono HB.out.size))
  clear hb
  clear HSQ
  go_wp2_with fail
  have hc := implIsFrame_any k _ xs _ HF.out.two
  simp only [HIS.out] at hc
  refine hc.mono ?_
  clear hc
  rintro e w5 ⟨rfl, hb⟩
  replace HC := hid (HC.out.later hb)
  replace HF := hid (HF.out.later hb)
  replace HS := hid (HS.out.later hb)
  replace HB := hid (HB.out.trans (hb.mono HB.out.size))
  clear hb
  go_wp2_with fail
  have hc := specIsFrame_any k _ xs _ HF.out.two
  simp only [HIS.out] at hc
  refine hc.mono ?_
  clear hc
  rintro e w6 ⟨rfl, hb⟩
  replace HC := hid (HC.out.later hb)
  replace HF := hid (HF.out.later hb)
  replace HS := hid (HS.out.later hb)
  replace HB := hid (HB.out.trans (hb.mono HB.out.size))
  clear hb
  replace HF := hid HF.out.two
  replace HS := hid HS.out.ints
  go_upto_region 10 with fail
  go_cut [106] from 91 to 106 (fun r wx => r = .bool false ∧ Hid (Byts wx v n) ∧ Hid (Two wx (.slice avF xs.length cvF) xs) ∧ Hid (Ints wx (.slice avS sf.length cvS) sf) ∧ Hid (Below w.heap.size w wx))
  case first =>
    cases one <;> cases is
    all_goals
      obtain rfl := HDR.out
      go_wp2
      go_meet
      exact ⟨rfl, HC, HF, HS, HB⟩
  case rest =>
    clear HC HF HS HB
    obtain ⟨rfl, HC, HF, HS, HB⟩ := hcut
    go_wp2_with fail
    have hc := implDutyOf_any k _ xs _ HF.out
    simp only [HDU.out] at hc
    refine hc.mono ?_
    clear hc
    rintro e w7 ⟨vD, rfl, ho, hb⟩
    replace HC := hid (HC.out.later hb)
    replace HF := hid (HF.out.later hb)
    replace HS := hid (HS.out.later hb)
    replace HB := hid (HB.out.trans (hb.mono HB.out.size))
    clear hb
    have HD := hid ho
    clear ho
    go_wp2_with fail
    have hc := specDutyOf_any k _ xs _ HF.out
    simp only [HDU.out] at hc
    refine hc.mono ?_
    clear hc
    rintro e w8 ⟨vE, rfl, ho, hb⟩
    replace HC := hid (HC.out.later hb)
    replace HF := hid (HF.out.later hb)
    replace HS := hid (HS.out.later hb)
    replace HD := hid (HD.out.later hb)
    replace HB := hid (HB.out.trans (hb.mono HB.out.size))
    clear hb
    have HDQ := hid ho
    clear ho
    go_wp2_with fail
    refine (drawn_below (rSevens_any _ _ du _ HD.out.sevens HDQ.out.sevens)).mono ?_
    rintro e w9 ⟨rfl, hb⟩
    replace HC := hid (HC.out.later hb)
    replace HF := hid (HF.out.later hb)
    replace HS := hid (HS.out.later hb)
    replace HD := hid (HD.out.later hb)
    replace HDQ := hid (HDQ.out.later hb)
    replace HB := hid (HB.out.trans (hb.mono HB.out.size))
    clear hb
    clear HDQ
    go_wp2_with fail
    have hc := implGhostsOf_any k _ xs _ HF.out
    simp only [HGH.out] at hc
    refine hc.mono ?_
    clear hc
    rintro e w10 ⟨vG, rfl, ho, hb⟩
    replace HC := hid (HC.out.later hb)
    replace HF := hid (HF.out.later hb)
    replace HS := hid (HS.out.later hb)
    replace HD := hid (HD.out.later hb)
    replace HB := hid (HB.out.trans (hb.mono HB.out.size))
    clear hb
    obtain ⟨avG, cvG, rfl⟩ := ho.spell rfl
    have HG := hid ho
    clear ho
    go_wp2_with fail
    have hc := specGhostsOf_any k _ xs _ HF.out
    simp only [HGH.out] at hc
    refine hc.mono ?_
    clear hc
    rintro e w11 ⟨vH, rfl, ho, hb⟩
    replace HC := hid (HC.out.later hb)
    replace HF := hid (HF.out.later hb)
    replace HS := hid (HS.out.later hb)
    replace HD := hid (HD.out.later hb)
    replace HG := hid (HG.out.later hb)
    replace HB := hid (HB.out.trans (hb.mono HB.out.size))
    clear hb
    obtain ⟨avH, cvH, rfl⟩ := ho.spell rfl
    have HGQ := hid ho
    clear ho
    go_wp2_with fail
    refine (drawn_below (rInts_any _ _ gh gh _ HG.out.ints HGQ.out.ints)).mono ?_
    rintro e w12 ⟨rfl, hb⟩
    replace HC := hid (HC.out.later hb)
    replace HF := hid (HF.out.later hb)
    replace HS := hid (HS.out.later hb)
    replace HD := hid (HD.out.later hb)
    replace HG := hid (HG.out.later hb)
    replace HGQ := hid (HGQ.out.later hb)
    replace HB := hid (HB.out.trans (hb.mono HB.out.size))
    clear hb
    clear HGQ
    go_wp2_with fail
    have hc := implWithBlanks_any k _ xs _ HF.out
    simp only [HBL.out] at hc
    refine hc.mono ?_
    clear hc
    rintro e w13 ⟨vB, rfl, ho, hb⟩
    replace HC := hid (HC.out.later hb)
    replace HF := hid (HF.out.later hb)
    replace HS := hid (HS.out.later hb)
    replace HD := hid (HD.out.later hb)
    replace HG := hid (HG.out.later hb)
    replace HB := hid (HB.out.trans (hb.mono HB.out.size))
    clear hb
    obtain ⟨avB, cvB, rfl⟩ := ho.spell rfl
    have HBK := hid ho
    clear ho
    go_wp2_with fail
    have hc := specWithBlanks_any k _ xs _ HF.out
    simp only [HBL.out] at hc
    refine hc.mono ?_
    clear hc
    rintro e w14 ⟨vI, rfl, ho, hb⟩
    replace HC := hid (HC.out.later hb)
    replace HF := hid (HF.out.later hb)
    replace HS := hid (HS.out.later hb)
    replace HD := hid (HD.out.later hb)
    replace HG := hid (HG.out.later hb)
    replace HBK := hid (HBK.out.later hb)
    replace HB := hid (HB.out.trans (hb.mono HB.out.size))
    clear hb
    obtain ⟨avI, cvI, rfl⟩ := ho.spell rfl
    have HBQ := hid ho
    clear ho
    go_wp2_with fail
    refine (drawn_below (rSlots_any _ _ bl _ HBK.out.two HBQ.out.two)).mono ?_
    rintro e w15 ⟨rfl, hb⟩
    replace HC := hid (HC.out.later hb)
    replace HF := hid (HF.out.later hb)
    replace HS := hid (HS.out.later hb)
    replace HD := hid (HD.out.later hb)
    replace HG := hid (HG.out.later hb)
    replace HBK := hid (HBK.out.later hb)
    replace HBQ := hid (HBQ.out.later hb)
    replace HB := hid (HB.out.trans (hb.mono HB.out.size))
    clear hb
    clear HBQ
    go_wp2_with fail
    refine (DrawPlainFrame_any v n _ HC.out (by have := HN.out; omega)).mono ?_
    rintro e w16 ⟨vR, rs, rfl, ho, hlr, hb⟩
    replace HC := hid (HC.out.later hb)
    replace HF := hid (HF.out.later hb)
    replace HS := hid (HS.out.later hb)
    replace HD := hid (HD.out.later hb)
    replace HG := hid (HG.out.later hb)
    replace HBK := hid (HBK.out.later hb)
    replace HB := hid (HB.out.trans (hb.mono HB.out.size))
    clear hb
    obtain ⟨avR, cvR, rfl⟩ := ho.spell rfl
    have HR := hid ho
    clear ho
    clear hlr
    obtain ⟨five, pl, h1, h2⟩ := plain_out rs
    have HPL := hid h1
    have HFIVE := hid h2
    clear h1 h2
    go_wp2_with fail
    have hc := implPlainFrame_any _ rs _ HR.out.ints
    simp only [HPL.out] at hc
    refine hc.mono ?_
    clear hc
    rintro e w17 ⟨vP, rfl, ho, hb⟩
    replace HC := hid (HC.out.later hb)
    replace HF := hid (HF.out.later hb)
    replace HS := hid (HS.out.later hb)
    replace HD := hid (HD.out.later hb)
    replace HG := hid (HG.out.later hb)
    replace HBK := hid (HBK.out.later hb)
    replace HR := hid (HR.out.later hb)
    replace HB := hid (HB.out.trans (hb.mono HB.out.size))
    clear hb
    obtain ⟨avP, cvP, rfl⟩ := ho.spell rfl
    have HP := hid ho
    clear ho
    go_wp2_with fail
    have hc := specPlainFrame_any _ rs _ HR.out.ints
    simp only [HPL.out] at hc
    refine hc.mono ?_
    clear hc
    rintro e w18 ⟨vQ, rfl, ho, hb⟩
    replace HC := hid (HC.out.later hb)
    replace HF := hid (HF.out.later hb)
    replace HS := hid (HS.out.later hb)
    replace HD := hid (HD.out.later hb)
    replace HG := hid (HG.out.later hb)
    replace HBK := hid (HBK.out.later hb)
    replace HR := hid (HR.out.later hb)
    replace HP := hid (HP.out.later hb)
    replace HB := hid (HB.out.trans (hb.mono HB.out.size))
    clear hb
    obtain ⟨avQ, cvQ, rfl⟩ := ho.spell rfl
    have HPQ := hid ho
    clear ho
    go_wp2_with fail
    refine (drawn_below (rSlots_any _ _ pl _ HP.out.two HPQ.out.two)).mono ?_
    rintro e w19 ⟨rfl, hb⟩
    replace HC := hid (HC.out.later hb)
    replace HF := hid (HF.out.later hb)
    replace HS := hid (HS.out.later hb)
    replace HD := hid (HD.out.later hb)
    replace HG := hid (HG.out.later hb)
    replace HBK := hid (HBK.out.later hb)
    replace HR := hid (HR.out.later hb)
    replace HP := hid (HP.out.later hb)
    replace HPQ := hid (HPQ.out.later hb)
    replace HB := hid (HB.out.trans (hb.mono HB.out.size))
    clear hb
    clear HPQ
    go_wp2_with fail
    refine (DrawLeastSlots_any v n _ HC.out (by have := HN.out; omega)).mono ?_
    rintro e w20 ⟨vX, ys, rfl, ho, hly, hb⟩
    replace HC := hid (HC.out.later hb)
    replace HF := hid (HF.out.later hb)
    replace HS := hid (HS.out.later hb)
    replace HD := hid (HD.out.later hb)
    replace HG := hid (HG.out.later hb)
    replace HBK := hid (HBK.out.later hb)
    replace HR := hid (HR.out.later hb)
    replace HP := hid (HP.out.later hb)
    replace HB := hid (HB.out.trans (hb.mono HB.out.size))
    clear hb
    obtain ⟨avX, cvX, rfl⟩ := ho.spell rfl
    have HX := hid ho
    clear ho
    clear hly
    obtain ⟨six, le, h1, h2⟩ := least_out ys
    have HLE := hid h1
    have HSIX := hid h2
    clear h1 h2
    go_wp2_with fail
    have hc := implLeastSlots_any _ ys _ HX.out.ints
    simp only [HLE.out] at hc
    refine hc.mono ?_
    clear hc
    rintro e w21 ⟨rfl, hb⟩
    replace HC := hid (HC.out.later hb)
    replace HF := hid (HF.out.later hb)
    replace HS := hid (HS.out.later hb)
    replace HD := hid (HD.out.later hb)
    replace HG := hid (HG.out.later hb)
    replace HBK := hid (HBK.out.later hb)
    replace HR := hid (HR.out.later hb)
    replace HP := hid (HP.out.later hb)
    replace HX := hid (HX.out.later hb)
    replace HB := hid (HB.out.trans (hb.mono HB.out.size))
    clear hb
    go_wp2_with fail
    have hc := specLeastSlots_any _ ys _ HX.out.ints
    simp only [HLE.out] at hc
    refine hc.mono ?_
    clear hc
    rintro e w22 ⟨rfl, hb⟩
    replace HC := hid (HC.out.later hb)
    replace HF := hid (HF.out.later hb)
    replace HS := hid (HS.out.later hb)
    replace HD := hid (HD.out.later hb)
    replace HG := hid (HG.out.later hb)
    replace HBK := hid (HBK.out.later hb)
    replace HR := hid (HR.out.later hb)
    replace HP := hid (HP.out.later hb)
    replace HX := hid (HX.out.later hb)
    replace HB := hid (HB.out.trans (hb.mono HB.out.size))
    clear hb
    go_wp2_with fail
    refine (DrawFullBars_any v n _ HC.out (by have := HN.out; omega)).mono ?_
    rintro e w23 ⟨vY, zs, cl, rfl, ho, hlz, hb⟩
    replace HC := hid (HC.out.later hb)
    replace HF := hid (HF.out.later hb)
    replace HS := hid (HS.out.later hb)
    replace HD := hid (HD.out.later hb)
    replace HG := hid (HG.out.later hb)
    replace HBK := hid (HBK.out.later hb)
    replace HR := hid (HR.out.later hb)
    replace HP := hid (HP.out.later hb)
    replace HX := hid (HX.out.later hb)
    replace HB := hid (HB.out.trans (hb.mono HB.out.size))
    clear hb
    obtain ⟨avY, cvY, rfl⟩ := ho.spell rfl
    have HY := hid ho
    clear ho
    clear hlz
    obtain ⟨⟨fu, sv⟩, h1⟩ : ∃ r, fullR zs cl = r := ⟨_, rfl⟩
    have HFU := hid h1
    clear h1
    go_wp2_with fail
    have hc := implFullBars_any _ zs cl _ HY.out.ints
    simp only [HFU.out] at hc
    refine hc.mono ?_
    clear hc
    rintro e w24 ⟨rfl, hb⟩
    replace HC := hid (HC.out.later hb)
    replace HF := hid (HF.out.later hb)
    replace HS := hid (HS.out.later hb)
    replace HD := hid (HD.out.later hb)
    replace HG := hid (HG.out.later hb)
    replace HBK := hid (HBK.out.later hb)
    replace HR := hid (HR.out.later hb)
    replace HP := hid (HP.out.later hb)
    replace HX := hid (HX.out.later hb)
    replace HY := hid (HY.out.later hb)
    replace HB := hid (HB.out.trans (hb.mono HB.out.size))
    clear hb
    go_wp2_with fail
    have hc := specFullBars_any _ zs cl _ HY.out.ints
    simp only [HFU.out] at hc
    refine hc.mono ?_
    clear hc
    rintro e w25 ⟨rfl, hb⟩
    replace HC := hid (HC.out.later hb)
    replace HF := hid (HF.out.later hb)
    replace HS := hid (HS.out.later hb)
    replace HD := hid (HD.out.later hb)
    replace HG := hid (HG.out.later hb)
    replace HBK := hid (HBK.out.later hb)
    replace HR := hid (HR.out.later hb)
    replace HP := hid (HP.out.later hb)
    replace HX := hid (HX.out.later hb)
    replace HY := hid (HY.out.later hb)
    replace HB := hid (HB.out.trans (hb.mono HB.out.size))
    clear hb
    replace HD := hid HD.out.sevens
    replace HG := hid HG.out.ints
    replace HBK := hid HBK.out.two
    replace HR := hid HR.out.ints
    replace HP := hid HP.out.two
    replace HX := hid HX.out.ints
    go_upto_if 246 with fail
    go_cut [41, 42] from 247 to 261 (fun _ _ wx => Hid (Ints wx (.slice avS sf.length cvS) sf) ∧ Hid (Sevens wx vD du) ∧ Hid (Ints wx (.slice avG gh.length cvG) gh) ∧ Hid (Two wx (.slice avB bl.length cvB) bl) ∧ Hid (Ints wx (.slice avX ys.length cvX) ys) ∧ Hid (Below w.heap.size w wx))
    case first => as_aux_lemma =>
      cases five with
      | false =>
        go_wp2
        go_meet
        exact ⟨HS, HD, HG, HBK, HX, HB⟩
      | true =>
        have HSN := hid (HFIVE.out rfl)
        go_wp2_with fail
        have hc := implSeenOf_any (rs.length : Int) _ pl _ HP.out
        simp only [HSN.out] at hc
        refine hc.mono ?_
        clear hc
        rintro e w26 ⟨vZ, rfl, ho, hb⟩
        replace HS := hid (HS.out.later hb)
        replace HD := hid (HD.out.later hb)
        replace HG := hid (HG.out.later hb)
        replace HBK := hid (HBK.out.later hb)
        replace HP := hid (HP.out.later hb)
        replace HR := hid (HR.out.later hb)
        replace HX := hid (HX.out.later hb)
        replace HB := hid (HB.out.trans (hb.mono HB.out.size))
        clear hb
        obtain ⟨avZ, cvZ, rfl⟩ := ho.spell rfl
        have HZ := hid ho
        clear ho
        go_wp2_with fail
        refine (drawn_below (rInts_any _ _ rs rs _ HZ.out.ints HR.out)).mono ?_
        rintro e w27 ⟨rfl, hb⟩
        replace HS := hid (HS.out.later hb)
        replace HD := hid (HD.out.later hb)
        replace HG := hid (HG.out.later hb)
        replace HBK := hid (HBK.out.later hb)
        replace HP := hid (HP.out.later hb)
        replace HR := hid (HR.out.later hb)
        replace HX := hid (HX.out.later hb)
        replace HZ := hid (HZ.out.later hb)
        replace HB := hid (HB.out.trans (hb.mono HB.out.size))
        clear hb
        go_wp2
        go_meet
        exact ⟨HS, HD, HG, HBK, HX, HB⟩
    case rest =>
      clear HS HD HG HBK HP HR HX HB HC HF HY
      obtain ⟨HS, HD, HG, HBK, HX, HB⟩ := hcut
      go_upto_if 262 with fail
      go_cut [43, 44] from 263 to 283 (fun _ _ wx => Hid (Ints wx (.slice avS sf.length cvS) sf) ∧ Hid (Sevens wx vD du) ∧ Hid (Ints wx (.slice avG gh.length cvG) gh) ∧ Hid (Two wx (.slice avB bl.length cvB) bl) ∧ Hid (Below w.heap.size w wx))
      case first => as_aux_lemma =>
        cases six with
        | false =>
          go_wp2
          go_meet
          exact ⟨HS, HD, HG, HBK, HB⟩
        | true =>
          obtain ⟨pl2, h1, h2, h3⟩ := HSIX.out rfl
          have HP2 := hid h1
          have HEQ := hid h3
          clear h1 h3
          go_wp2_with fail
          have hc := implPlainFrame_any _ ys _ HX.out
          simp only [HP2.out] at hc
          refine hc.mono ?_
          clear hc
          rintro e w28 ⟨vZ, rfl, ho, hb⟩
          replace HS := hid (HS.out.later hb)
          replace HD := hid (HD.out.later hb)
          replace HG := hid (HG.out.later hb)
          replace HBK := hid (HBK.out.later hb)
          replace HX := hid (HX.out.later hb)
          replace HB := hid (HB.out.trans (hb.mono HB.out.size))
          clear hb
          obtain ⟨avZ, cvZ, rfl⟩ := ho.spell rfl
          have HZ := hid ho
          clear ho
          have hq : ((le == 0) != ((pl2.length : Int) == 0)) = false := by rw [HEQ.out]; simp
          cases hc1 : (le == 0) with
          | false =>
            have hc2 : ((pl2.length : Int) == 0) = false := by rw [← HEQ.out]; exact hc1
            clear hq
            go_wp2
            go_meet
            exact ⟨HS, HD, HG, HBK, HB⟩
          | true =>
            have hc2 : ((pl2.length : Int) == 0) = true := by rw [← HEQ.out]; exact hc1
            clear hq
            go_wp2
            go_meet
            exact ⟨HS, HD, HG, HBK, HB⟩
      case rest =>
        clear HS HD HG HBK HX HB
        obtain ⟨HS, HD, HG, HBK, HB⟩ := hcut
        go_upto_if 284 with fail
        go_cut [45, 46, 47, 48] from 285 to 315 (fun _ _ _ _ wx => Hid (Ints wx (.slice avS sf.length cvS) sf) ∧ Hid (Sevens wx vD du) ∧ Hid (Ints wx (.slice avG gh.length cvG) gh) ∧ Hid (Below w.heap.size w wx))
        case first => as_aux_lemma =>
          cases four with
          | false =>
            go_wp2
            go_meet
            exact ⟨HS, HD, HG, HB⟩
          | true =>
            obtain ⟨q, rfl, hq6, h1, h2⟩ := HFOUR.out rfl
            have HB1 := hid h1
            have HB2 := hid h2
            clear h1 h2
            go_wp2_with fail
            have hc := implGhostsOf_any (q : Int) _ bl _ HBK.out
            simp only [HB2.out] at hc
            refine hc.mono ?_
            clear hc
            rintro e w29 ⟨vZ, rfl, ho, hb⟩
            replace HS := hid (HS.out.later hb)
            replace HD := hid (HD.out.later hb)
            replace HG := hid (HG.out.later hb)
            replace HBK := hid (HBK.out.later hb)
            replace HB := hid (HB.out.trans (hb.mono HB.out.size))
            clear hb
            obtain ⟨avZ, cvZ, rfl⟩ := ho.spell rfl
            simp only [List.length_replicate] at ho
            have HZ := hid ho
            clear ho
            go_wp2_with fail
            have hc := implSeenOf_any (q : Int) _ bl _ HBK.out
            simp only [HB1.out] at hc
            refine hc.mono ?_
            clear hc
            rintro e w30 ⟨vZ2, rfl, ho, hb⟩
            replace HS := hid (HS.out.later hb)
            replace HD := hid (HD.out.later hb)
            replace HG := hid (HG.out.later hb)
            replace HBK := hid (HBK.out.later hb)
            replace HZ := hid (HZ.out.later hb)
            replace HB := hid (HB.out.trans (hb.mono HB.out.size))
            clear hb
            obtain ⟨avZ2, cvZ2, rfl⟩ := ho.spell rfl
            have HZ2 := hid ho
            clear ho
            go_wp2_with fail
            refine (drawn_below (rInts_any _ _ sf sf _ HZ2.out.ints HS.out)).mono ?_
            rintro e w31 ⟨rfl, hb⟩
            replace HS := hid (HS.out.later hb)
            replace HD := hid (HD.out.later hb)
            replace HG := hid (HG.out.later hb)
            replace HBK := hid (HBK.out.later hb)
            replace HZ := hid (HZ.out.later hb)
            replace HZ2 := hid (HZ2.out.later hb)
            replace HB := hid (HB.out.trans (hb.mono HB.out.size))
            clear hb
            obtain ⟨i0, hi, hz0, hz1, hz2⟩ := info_parts infoInt
            have hmk : ∀ W : World, (Instr.makeSlice 24 (.int .i64 q) (.int .i64 q)).run Try.prog W = .ok (.slice (some ⟨W.heap.size, 0, none⟩) q q) (W.alloc (.cells (madeCells #[Value.int .i64 0] q) 3)) := fun W => by
              have hr := run_makeSlice (P := Try.prog) (w := W) 24 3 i0 (.int .i64 0) Try.underlying24 hi hz0 .i64 .i64 q q (by omega) (Int.le_refl _) (by rw [hz1]; simp; omega) (by rw [hz2]; omega) (by omega)
              rw [hz1] at hr
              simpa [go_sem] using hr
            clear hi hz0 hz1 hz2
            have HBM : Hid (Below w31.heap.size w31 (w31.alloc (.cells (madeCells #[Value.int .i64 0] q) 3))) := hid ((Below.refl _ _).alloc (Nat.le_refl _) _)
            have HZM := hid (OwnI.mk w31 w31.heap.size q (Nat.le_refl _) (by omega))
            go_wp2_with fail
            refine (drawn_below (rInts_any _ _ (List.replicate q 0) (List.replicate q 0) _ (HZ.out.ints.later HBM.out) HZM.out.ints)).mono ?_
            rintro e wz ⟨rfl, hb⟩
            have hbt := HBM.out.trans (hb.mono HBM.out.size)
            clear hb
            go_wp2
            go_meet
            exact ⟨hid (HS.out.later hbt), hid (HD.out.later hbt), hid (HG.out.later hbt), hid (HB.out.trans (hbt.mono HB.out.size))⟩
        case rest =>
          clear HS HD HG HBK HB
          obtain ⟨HS, HD, HG, HB⟩ := hcut
          cases dr with
          | false =>
            go_wp2
            go_ret
            exact ⟨rfl, HB.out⟩
          | true =>
            obtain ⟨q, rfl, hq6, hls, hld, hlg, hfact⟩ := HLAW.out rfl
            have HLS := hid hls
            have HLD := hid hld
            have HLG := hid hlg
            have HFA := hid hfact
            clear hls hld hlg hfact
            go_wp2
            go_loopw [49, 50] (fun ii _ wr => ∃ i : Nat, i ≤ q ∧ ii = .int .i64 i ∧ Hid (Ints wr (.slice avS sf.length cvS) sf) ∧ Hid (Sevens wr vD du) ∧ Hid (Ints wr (.slice avG gh.length cvG) gh) ∧ Hid (Below w.heap.size w wr)) (fun ii _ _ => q - (intOf ii).toNat)
            case atStart => exact ⟨0, by omega, rfl, HS, HD, HG, HB⟩
            case round =>
              clear HS HD HG HB
              obtain ⟨i, hi, rfl, HS, HD, HG, HB⟩ := hrel
              by_cases hlt : i < q
              · have z1 : (i : Int) < q := by omega
                go_wp2
                go_loopw [50] (fun jj wr => ∃ j : Nat, j ≤ 7 ∧ jj = .int .i64 j ∧ Hid (Ints wr (.slice avS sf.length cvS) sf) ∧ Hid (Sevens wr vD du) ∧ Hid (Ints wr (.slice avG gh.length cvG) gh) ∧ Hid (Below w.heap.size w wr)) (fun jj _ => 7 - (intOf jj).toNat)
                case atStart => exact ⟨0, by omega, rfl, HS, HD, HG, HB⟩
                case round =>
                  clear HS HD HG HB
                  obtain ⟨j, hj, rfl, HS, HD, HG, HB⟩ := hrel
                  by_cases hj7 : j < 7
                  · obtain ⟨hsr, hdu, hgs⟩ := HFA.out i j hlt hj7
                    obtain ⟨ao3, cap3, p3, o3, he, ha3, hc3, hn3, hm3⟩ := HS.out
                    simp only [Value.slice.injEq] at he
                    obtain ⟨rfl, _, rfl⟩ := he
                    obtain ⟨rfl, hbL⟩ := ha3 (by rw [HLS.out]; omega)
                    obtain ⟨ao4, cap4, p4, o4, he, ha4, hc4, hn4, hm4⟩ := HG.out
                    simp only [Value.slice.injEq] at he
                    obtain ⟨rfl, _, rfl⟩ := he
                    obtain ⟨rfl, hbG⟩ := ha4 (by rw [HLG.out]; omega)
                    obtain ⟨nd, ao5, cap5, p5, o5, hnd, rfl, ha5, hc5, hn5, hm5⟩ := HD.out
                    have hndq : nd = q := by have := HLD.out; omega
                    subst hndq
                    obtain ⟨rfl, hbD⟩ := ha5 (by omega)
                    have e1 : wr.cell? ⟨p5, o5+i*7+j, none⟩ = some (.int .i64 (du.getD (i*7+j) 0)) := by rw [Nat.add_assoc]; exact hc5 (i*7+j) (by omega)
                    have e2 : wr.cell? ⟨p3, o3+i, none⟩ = some (.int .i64 (sf.getD i 0)) := hc3 i (by rw [HLS.out]; omega)
                    have e3 : wr.cell? ⟨p4, o4+i, none⟩ = some (.int .i64 (gh.getD i 0)) := hc4 i (by rw [HLG.out]; omega)
                    have HHD := hid hdu
                    have HHG := hid hgs
                    clear hc3 hc4 hc5 ha3 ha4 ha5 hdu hgs
                    generalize du.getD (i*7+j) 0 = dd at e1 HHD
                    generalize sf.getD i 0 = ss at e2 hsr HHD HHG
                    generalize gh.getD i 0 = gg at e3 HHG
                    have hz : (bits .and .i64 ss gg != 0) = false := by rw [HHG.out]; rfl
                    have y1 : (0 : Int) ≤ i := by omega
                    have y2 : (i : Int) < sf.length := by rw [HLS.out]; omega
                    have y3 : (i : Int) < gh.length := by rw [HLG.out]; omega
                    have y4 : (0 : Int) ≤ j := by omega
                    have y5 : (j : Int) < 7 := by omega
                    by_cases hd : 0 < dd
                    · have hx : (bits .and .i64 (ss / 2 ^ j) 1 == 1) = true := by rw [← HHD.out]; exact decide_eq_true hd
                      go_wp2
                      go_quiet (fail)
                      go_wp2
                      go_roundw
                      case rel => exact ⟨j+1, by omega, by go_num, hid (HS.out.drawn _), hid (HD.out.later (below_drewN (Below.refl _ _) _)), hid (HG.out.drawn _), hid (below_drewN HB.out _)⟩
                      case measure => simp [intOf]; omega
                    · have hx : (bits .and .i64 (ss / 2 ^ j) 1 == 1) = false := by rw [← HHD.out]; exact decide_eq_false hd
                      go_wp2
                      go_quiet (fail)
                      go_wp2
                      go_roundw
                      case rel => exact ⟨j+1, by omega, by go_num, hid (HS.out.drawn _), hid (HD.out.later (below_drewN (Below.refl _ _) _)), hid (HG.out.drawn _), hid (below_drewN HB.out _)⟩
                      case measure => simp [intOf]; omega
                  · have y5 : ¬ (j : Int) < 7 := by omega
                    go_wp2
                    go_roundw
                    case rel => exact ⟨i+1, by omega, by go_num, HS, HD, HG, HB⟩
                    case measure => simp [intOf]; omega
              · have z1 : ¬ (i : Int) < q := by omega
                go_wp2
                go_ret
                exact ⟨rfl, HB.out⟩

end Go.Proofs.Ytfgjaefcfmjleaa
