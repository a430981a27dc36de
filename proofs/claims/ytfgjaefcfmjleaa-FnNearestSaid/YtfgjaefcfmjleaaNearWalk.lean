/-
  FnNearest: the law's call returns true, whatever its argument, and leaves what was there.
-/
import Derived.Test.YtfgjaefcfmjleaaNearLaw
import Derived.Test.YtfgjaefcfmjleaaVHelp
import Derived.Test.YtfgjaefcfmjleaaSpreadTop
import Derived.Test.YtfgjaefcfmjleaaDrawG
import Derived.Deep.DeepCutAuto
import Derived.Deep.CutRange
namespace Go.Proofs.Ytfgjaefcfmjleaa
open Go.RowKit

set_option maxRecDepth 100000 in
set_option maxHeartbeats 40000000 in
theorem fnNearest_law (v : Value) (n : Nat) (w : World) (hx : Byts w v n) :
    Calls Try.prog 4 #[v] w fun e w' => e = .returned (.bool true) ∧ Below w.heap.size w w' := by
  have HC := hid hx
  have HB := hid (Below.refl w.heap.size w)
  clear hx
  by_cases hbig : 65536 < n
  · have hb : decide (65536 < n) = true := decide_eq_true hbig
    go_enter Try.func4, Try.ntmps4
    go_wp2_with fail
    refine (vBig_any v n w HC.out).mono ?_
    rintro e w' ⟨rfl, rfl⟩
    rw [hb]
    go_wp2
    go_ret
    exact ⟨rfl, HB.out⟩
  have hbd : decide (65536 < n) = false := decide_eq_false hbig
  have HN := hid hbig
  clear hbig
  go_enter Try.func4, Try.ntmps4
  go_wp2_with fail
  refine (vBig_any v n w HC.out).mono ?_
  rintro e w' ⟨rfl, rfl⟩
  rw [hbd]
  clear hbd
  go_wp2_with fail
  refine (DrawNearestOf_any v n _ HC.out (by have := HN.out; omega)).mono ?_
  rintro e w1 ⟨vL, xs, c, rfl, ho, hlx, hb⟩
  replace HC := hid (HC.out.later hb)
  replace HB := hid (HB.out.trans (hb.mono HB.out.size))
  clear hb
  obtain ⟨avL, cvL, rfl⟩ := ho.spell rfl
  have HL := hid ho
  clear ho
  obtain ⟨nb, ns, f, hk, hlaw⟩ := near_out xs c
  have HNE := hid hk
  have HNLAW := hid hlaw
  clear hk hlaw hlx
  go_wp2_with fail
  have hc := implNearestOf_any _ xs c _ HL.out.ints
  simp only [HNE.out] at hc
  refine hc.mono ?_
  clear hc
  rintro e w2 ⟨vN, rfl, ho, hb⟩
  replace HC := hid (HC.out.later hb)
  replace HL := hid (HL.out.later hb)
  replace HB := hid (HB.out.trans (hb.mono HB.out.size))
  clear hb
  obtain ⟨avN, cvN, rfl⟩ := ho.spell rfl
  have HNS := hid ho
  clear ho
  go_wp2_with fail
  have hc := specNearestOf_any _ xs c _ HL.out.ints
  simp only [HNE.out] at hc
  refine hc.mono ?_
  clear hc
  rintro e w3 ⟨vM, rfl, ho, hb⟩
  replace HC := hid (HC.out.later hb)
  replace HL := hid (HL.out.later hb)
  replace HNS := hid (HNS.out.later hb)
  replace HB := hid (HB.out.trans (hb.mono HB.out.size))
  clear hb
  obtain ⟨avM, cvM, rfl⟩ := ho.spell rfl
  have HNQ := hid ho
  clear ho
  go_wp2_with fail
  refine (vCut_any v n 1 _ HC.out (by have := HN.out; omega) (by omega)).mono ?_
  rintro e w4 ⟨vC1, nC1, rfl, ho, hlC1, hb⟩
  replace HC := hid (HC.out.later hb)
  replace HL := hid (HL.out.later hb)
  replace HNS := hid (HNS.out.later hb)
  replace HNQ := hid (HNQ.out.later hb)
  replace HB := hid (HB.out.trans (hb.mono HB.out.size))
  have HC1 := hid ho
  clear ho hb
  go_wp2_with fail
  refine (DrawCountNear_any vC1 nC1 _ HC1.out (by omega)).mono ?_
  rintro e w5 ⟨vU, us, k, rfl, ho, hlu, hb⟩
  replace HC := hid (HC.out.later hb)
  replace HL := hid (HL.out.later hb)
  replace HNS := hid (HNS.out.later hb)
  replace HNQ := hid (HNQ.out.later hb)
  replace HC1 := hid (HC1.out.later hb)
  replace HB := hid (HB.out.trans (hb.mono HB.out.size))
  clear hb
  obtain ⟨avU, cvU, rfl⟩ := ho.spell rfl
  have HU := hid ho
  clear ho
  clear hlu hlC1
  obtain ⟨kb, fb, q, cc, many, h1, h2, h3, h4, h5, h6⟩ := cover_out us k
  have HCO := hid h1
  have HFC := hid h2
  have HCN := hid h3
  have HL1 := hid h4
  have HL2 := hid h5
  have HL3 := hid h6
  clear h1 h2 h3 h4 h5 h6
  clear HC1
  go_wp2_with fail
  have hc := implCountNear_any _ us k _ HU.out.ints
  simp only [HCN.out] at hc
  refine hc.mono ?_
  clear hc
  rintro e w6 ⟨rfl, hb⟩
  replace HC := hid (HC.out.later hb)
  replace HL := hid (HL.out.later hb)
  replace HNS := hid (HNS.out.later hb)
  replace HNQ := hid (HNQ.out.later hb)
  replace HU := hid (HU.out.later hb)
  replace HB := hid (HB.out.trans (hb.mono HB.out.size))
  clear hb
  go_wp2_with fail
  have hc := specCountNear_any _ us k _ HU.out.ints
  simp only [HCN.out] at hc
  refine hc.mono ?_
  clear hc
  rintro e w7 ⟨rfl, hb⟩
  replace HC := hid (HC.out.later hb)
  replace HL := hid (HL.out.later hb)
  replace HNS := hid (HNS.out.later hb)
  replace HNQ := hid (HNQ.out.later hb)
  replace HU := hid (HU.out.later hb)
  replace HB := hid (HB.out.trans (hb.mono HB.out.size))
  clear hb
  go_wp2_with fail
  have hc := implCoverOf_any _ us _ HU.out.ints
  simp only [HCO.out] at hc
  refine hc.mono ?_
  clear hc
  rintro e w8 ⟨rfl, hb⟩
  replace HC := hid (HC.out.later hb)
  replace HL := hid (HL.out.later hb)
  replace HNS := hid (HNS.out.later hb)
  replace HNQ := hid (HNQ.out.later hb)
  replace HU := hid (HU.out.later hb)
  replace HB := hid (HB.out.trans (hb.mono HB.out.size))
  clear hb
  go_wp2_with fail
  have hc := specCoverOf_any _ us _ HU.out.ints
  simp only [HCO.out] at hc
  refine hc.mono ?_
  clear hc
  rintro e w9 ⟨rfl, hb⟩
  replace HC := hid (HC.out.later hb)
  replace HL := hid (HL.out.later hb)
  replace HNS := hid (HNS.out.later hb)
  replace HNQ := hid (HNQ.out.later hb)
  replace HU := hid (HU.out.later hb)
  replace HB := hid (HB.out.trans (hb.mono HB.out.size))
  clear hb
  go_wp2_with fail
  have hc := implFarthestCell_any _ us _ HU.out.ints
  simp only [HFC.out] at hc
  refine hc.mono ?_
  clear hc
  rintro e w10 ⟨rfl, hb⟩
  replace HC := hid (HC.out.later hb)
  replace HL := hid (HL.out.later hb)
  replace HNS := hid (HNS.out.later hb)
  replace HNQ := hid (HNQ.out.later hb)
  replace HU := hid (HU.out.later hb)
  replace HB := hid (HB.out.trans (hb.mono HB.out.size))
  clear hb
  go_wp2_with fail
  have hc := specFarthestCell_any _ us _ HU.out.ints
  simp only [HFC.out] at hc
  refine hc.mono ?_
  clear hc
  rintro e w11 ⟨rfl, hb⟩
  replace HC := hid (HC.out.later hb)
  replace HL := hid (HL.out.later hb)
  replace HNS := hid (HNS.out.later hb)
  replace HNQ := hid (HNQ.out.later hb)
  replace HU := hid (HU.out.later hb)
  replace HB := hid (HB.out.trans (hb.mono HB.out.size))
  clear hb
  go_wp2_with fail
  refine (vCut_any v n 2 _ HC.out (by have := HN.out; omega) (by omega)).mono ?_
  rintro e w12 ⟨vC2, nC2, rfl, ho, hlC2, hb⟩
  replace HC := hid (HC.out.later hb)
  replace HL := hid (HL.out.later hb)
  replace HNS := hid (HNS.out.later hb)
  replace HNQ := hid (HNQ.out.later hb)
  replace HU := hid (HU.out.later hb)
  replace HB := hid (HB.out.trans (hb.mono HB.out.size))
  have HC2 := hid ho
  clear ho hb
  go_wp2_with fail
  refine (DrawSpreadPart_any vC2 nC2 _ HC2.out (by omega)).mono ?_
  rintro e w13 ⟨vV, vs, d, rfl, ho, hlv, hb⟩
  replace HC := hid (HC.out.later hb)
  replace HL := hid (HL.out.later hb)
  replace HNS := hid (HNS.out.later hb)
  replace HNQ := hid (HNQ.out.later hb)
  replace HU := hid (HU.out.later hb)
  replace HC2 := hid (HC2.out.later hb)
  replace HB := hid (HB.out.trans (hb.mono HB.out.size))
  clear hb
  obtain ⟨avV, cvV, rfl⟩ := ho.spell rfl
  have HV := hid ho
  clear ho
  clear hlv hlC2
  obtain ⟨sb, pl, h1, h2⟩ := spread_out vs d
  have HSP := hid h1
  have HSLAW := hid h2
  clear h1 h2
  clear HC2
  go_wp2_with fail
  have hc := implSpreadPart_any _ vs d _ HV.out.ints
  simp only [HSP.out] at hc
  refine hc.mono ?_
  clear hc
  rintro e w14 ⟨vP, rfl, ho, hb⟩
  replace HC := hid (HC.out.later hb)
  replace HL := hid (HL.out.later hb)
  replace HNS := hid (HNS.out.later hb)
  replace HNQ := hid (HNQ.out.later hb)
  replace HU := hid (HU.out.later hb)
  replace HV := hid (HV.out.later hb)
  replace HB := hid (HB.out.trans (hb.mono HB.out.size))
  clear hb
  obtain ⟨avP, cvP, rfl⟩ := ho.spell rfl
  have HP := hid ho
  clear ho
  go_wp2_with fail
  have hc := specSpreadPart_any _ vs d _ HV.out.ints
  simp only [HSP.out] at hc
  refine hc.mono ?_
  clear hc
  rintro e w15 ⟨vQ, rfl, ho, hb⟩
  replace HC := hid (HC.out.later hb)
  replace HL := hid (HL.out.later hb)
  replace HNS := hid (HNS.out.later hb)
  replace HNQ := hid (HNQ.out.later hb)
  replace HU := hid (HU.out.later hb)
  replace HV := hid (HV.out.later hb)
  replace HP := hid (HP.out.later hb)
  replace HB := hid (HB.out.trans (hb.mono HB.out.size))
  clear hb
  obtain ⟨avQ, cvQ, rfl⟩ := ho.spell rfl
  have HPQ := hid ho
  clear ho
  go_wp2_with fail
  refine (DrawGreedyCode_any v n _ HC.out (by have := HN.out; omega)).mono ?_
  rintro e w16 ⟨gd, gm, rfl, hb⟩
  replace HC := hid (HC.out.later hb)
  replace HL := hid (HL.out.later hb)
  replace HNS := hid (HNS.out.later hb)
  replace HNQ := hid (HNQ.out.later hb)
  replace HU := hid (HU.out.later hb)
  replace HV := hid (HV.out.later hb)
  replace HP := hid (HP.out.later hb)
  replace HPQ := hid (HPQ.out.later hb)
  replace HB := hid (HB.out.trans (hb.mono HB.out.size))
  clear hb
  obtain ⟨gb, gs, h1, h2⟩ := greedy_out gd gm
  have HGR := hid h1
  have HGLAW := hid h2
  clear h1 h2
  go_wp2_with fail
  have hc := implGreedyCode_any gd gm w16
  simp only [HGR.out] at hc
  refine hc.mono ?_
  clear hc
  rintro e w17 ⟨vG, rfl, ho, hb⟩
  replace HC := hid (HC.out.later hb)
  replace HL := hid (HL.out.later hb)
  replace HNS := hid (HNS.out.later hb)
  replace HNQ := hid (HNQ.out.later hb)
  replace HU := hid (HU.out.later hb)
  replace HV := hid (HV.out.later hb)
  replace HP := hid (HP.out.later hb)
  replace HPQ := hid (HPQ.out.later hb)
  replace HB := hid (HB.out.trans (hb.mono HB.out.size))
  clear hb
  obtain ⟨avG, cvG, rfl⟩ := ho.spell rfl
  have HG := hid ho
  clear ho
  go_wp2_with fail
  have hc := specGreedyCode_any gd gm w17
  simp only [HGR.out] at hc
  refine hc.mono ?_
  clear hc
  rintro e w18 ⟨vH, rfl, ho, hb⟩
  replace HC := hid (HC.out.later hb)
  replace HL := hid (HL.out.later hb)
  replace HNS := hid (HNS.out.later hb)
  replace HNQ := hid (HNQ.out.later hb)
  replace HU := hid (HU.out.later hb)
  replace HV := hid (HV.out.later hb)
  replace HP := hid (HP.out.later hb)
  replace HPQ := hid (HPQ.out.later hb)
  replace HG := hid (HG.out.later hb)
  replace HB := hid (HB.out.trans (hb.mono HB.out.size))
  clear hb
  obtain ⟨avH, cvH, rfl⟩ := ho.spell rfl
  have HGQ := hid ho
  clear ho
  go_upto_region 19 with fail
  go_cut [233] from 166 to 233 (fun r wx => r = .bool false ∧ Hid (Ints wx (.slice avL xs.length cvL) xs) ∧ Hid (Ints wx (.slice avN ns.length cvN) ns) ∧ Hid (Ints wx (.slice avU us.length cvU) us) ∧ Hid (Ints wx (.slice avV vs.length cvV) vs) ∧ Hid (Ints wx (.slice avP pl.length cvP) pl) ∧ Hid (Ints wx (.slice avG gs.length cvG) gs) ∧ Hid (Below w.heap.size w wx))
  case first => as_aux_lemma =>
    go_wp2_with fail
    refine (drawn_below (vInts_any _ _ ns ns _ HNS.out.ints HNQ.out.ints)).mono ?_
    rintro e w19 ⟨rfl, hb⟩
    replace HC := hid (HC.out.later hb)
    replace HL := hid (HL.out.later hb)
    replace HNS := hid (HNS.out.later hb)
    replace HNQ := hid (HNQ.out.later hb)
    replace HU := hid (HU.out.later hb)
    replace HV := hid (HV.out.later hb)
    replace HP := hid (HP.out.later hb)
    replace HPQ := hid (HPQ.out.later hb)
    replace HG := hid (HG.out.later hb)
    replace HGQ := hid (HGQ.out.later hb)
    replace HB := hid (HB.out.trans (hb.mono HB.out.size))
    clear hb
    clear HNQ
    go_wp2_with fail
    refine (drawn_below (vInts_any _ _ pl pl _ HP.out.ints HPQ.out.ints)).mono ?_
    rintro e w20 ⟨rfl, hb⟩
    replace HC := hid (HC.out.later hb)
    replace HL := hid (HL.out.later hb)
    replace HNS := hid (HNS.out.later hb)
    replace HU := hid (HU.out.later hb)
    replace HV := hid (HV.out.later hb)
    replace HP := hid (HP.out.later hb)
    replace HPQ := hid (HPQ.out.later hb)
    replace HG := hid (HG.out.later hb)
    replace HGQ := hid (HGQ.out.later hb)
    replace HB := hid (HB.out.trans (hb.mono HB.out.size))
    clear hb
    clear HPQ
    go_wp2_with fail
    refine (drawn_below (vInts_any _ _ gs gs _ HG.out.ints HGQ.out.ints)).mono ?_
    rintro e w21 ⟨rfl, hb⟩
    replace HC := hid (HC.out.later hb)
    replace HL := hid (HL.out.later hb)
    replace HNS := hid (HNS.out.later hb)
    replace HU := hid (HU.out.later hb)
    replace HV := hid (HV.out.later hb)
    replace HP := hid (HP.out.later hb)
    replace HG := hid (HG.out.later hb)
    replace HGQ := hid (HGQ.out.later hb)
    replace HB := hid (HB.out.trans (hb.mono HB.out.size))
    clear hb
    clear HGQ
    cases fb with
    | false =>
      go_wp2
      go_meet
      exact ⟨rfl, hid HL.out.ints, hid HNS.out.ints, hid HU.out.ints, hid HV.out.ints, hid HP.out.ints, hid HG.out.ints, HB⟩
    | true =>
      obtain rfl := HL1.out rfl
      go_wp2
      go_meet
      exact ⟨rfl, hid HL.out.ints, hid HNS.out.ints, hid HU.out.ints, hid HV.out.ints, hid HP.out.ints, hid HG.out.ints, HB⟩
  case rest =>
    clear HL HNS HU HV HP HG HB HC HNQ HPQ HGQ
    obtain ⟨rfl, HL, HNS, HU, HV, HP, HG, HB⟩ := hcut
    go_upto_if 234 with fail
    go_cut [39, 40, 41] from 235 to 265 (fun _ _ _ wx => Hid (Ints wx (.slice avU us.length cvU) us) ∧ Hid (Ints wx (.slice avV vs.length cvV) vs) ∧ Hid (Ints wx (.slice avP pl.length cvP) pl) ∧ Hid (Ints wx (.slice avG gs.length cvG) gs) ∧ Hid (Below w.heap.size w wx))
    case first => as_aux_lemma =>
      cases nb with
      | false =>
        go_wp2
        go_meet
        exact ⟨HU, HV, HP, HG, HB⟩
      | true =>
        obtain ⟨hcr, hpi⟩ := HNLAW.out rfl
        have HPI := hid hpi
        clear hpi HNLAW
        go_wp2
        go_loopw [39, 40, 41] (fun ii _ _ wr => ∃ i : Nat, i ≤ xs.length ∧ ii = .int .i64 i ∧ Hid (Ints wr (.slice avL xs.length cvL) xs) ∧ Hid (Ints wr (.slice avN ns.length cvN) ns) ∧ Hid (Ints wr (.slice avU us.length cvU) us) ∧ Hid (Ints wr (.slice avV vs.length cvV) vs) ∧ Hid (Ints wr (.slice avP pl.length cvP) pl) ∧ Hid (Ints wr (.slice avG gs.length cvG) gs) ∧ Hid (Below w.heap.size w wr)) (fun ii _ _ _ => xs.length - (intOf ii).toNat)
        case atStart => exact ⟨0, by omega, rfl, HL, HNS, HU, HV, HP, HG, HB⟩
        case round =>
          clear HL HNS HU HV HP HG HB
          obtain ⟨i, hi, rfl, HL, HNS, HU, HV, HP, HG, HB⟩ := hrel
          by_cases hlt : i < xs.length
          · obtain ⟨hxr, hnf, hmem⟩ := HPI.out i hlt
            obtain ⟨ao3, cap3, p3, o3, he, ha3, hc3, hn3, hm3⟩ := HL.out
            simp only [Value.slice.injEq] at he
            obtain ⟨rfl, _, rfl⟩ := he
            obtain ⟨rfl, hbL⟩ := ha3 (by omega)
            have e3 : wr.cell? ⟨p3, o3+i, none⟩ = some (.int .i64 (xs.getD i 0)) := hc3 i hlt
            have HMEM := hid hmem
            clear hc3 ha3 hmem
            generalize xs.getD i 0 = x at e3 hxr hnf HMEM
            have z1 : (0 : Int) ≤ i := by omega
            have z2 : (i : Int) < xs.length := by omega
            go_wp2_with fail
            refine (FarCells_any x c _ hxr hcr).mono ?_
            rintro e w' ⟨rfl, rfl⟩
            go_wp2_with fail
            refine (vHas_any _ ns (i : Int) _ HNS.out).mono ?_
            rintro e w' ⟨rfl, rfl⟩
            rw [HMEM.out]
            go_wp2
            go_roundw
            case rel => exact ⟨i+1, by omega, by go_num, HL, HNS, HU, HV, HP, HG, HB⟩
            case measure => simp [intOf]; omega
          · go_wp2
            go_meet
            exact ⟨HU, HV, HP, HG, HB⟩
    case rest =>
      clear HL HNS HU HV HP HG HB
      obtain ⟨HU, HV, HP, HG, HB⟩ := hcut
      go_upto_if 266 with fail
      go_cut [42, 43, 44, 45, 46, 47, 48] from 267 to 314 (fun _ _ _ _ _ _ _ wx => Hid (Ints wx (.slice avU us.length cvU) us) ∧ Hid (Ints wx (.slice avV vs.length cvV) vs) ∧ Hid (Ints wx (.slice avP pl.length cvP) pl) ∧ Hid (Ints wx (.slice avG gs.length cvG) gs) ∧ Hid (Below w.heap.size w wx))
      case first => as_aux_lemma =>
        cases kb with
        | false =>
          go_wp2
          go_meet
          exact ⟨HU, HV, HP, HG, HB⟩
        | true =>
          obtain ⟨h1, ⟨n2, h2⟩, hq0, hq7, h3⟩ := HL2.out rfl
          have HA := hid h1
          have HZ := hid h2
          have HE := hid h3
          clear h1 h2 h3
          go_wp2_with fail
          have hc := implCountNear_any _ us q _ HU.out
          simp only [HA.out] at hc
          refine hc.mono ?_
          clear hc
          rintro e w22 ⟨rfl, hb⟩
          replace HU := hid (HU.out.later hb)
          replace HV := hid (HV.out.later hb)
          replace HP := hid (HP.out.later hb)
          replace HG := hid (HG.out.later hb)
          replace HB := hid (HB.out.trans (hb.mono HB.out.size))
          clear hb
          go_wp2_with fail
          have hc := implNearestOf_any _ us cc _ HU.out
          simp only [HZ.out] at hc
          refine hc.mono ?_
          clear hc
          rintro e w23 ⟨vY, rfl, ho, hb⟩
          replace HU := hid (HU.out.later hb)
          replace HV := hid (HV.out.later hb)
          replace HP := hid (HP.out.later hb)
          replace HG := hid (HG.out.later hb)
          replace HB := hid (HB.out.trans (hb.mono HB.out.size))
          clear hb
          obtain ⟨avY, cvY, rfl⟩ := ho.spell rfl
          have HY := hid ho
          clear ho
          clear HY
          by_cases hq : 0 < q
          · obtain ⟨l, h1, hl⟩ := HE.out hq
            have HX := hid h1
            clear h1
            have hnl : ¬ 128 ≤ l := by omega
            go_wp2_with fail
            have hc := implCountNear_any _ us (q - 1) _ HU.out
            simp only [HX.out] at hc
            refine hc.mono ?_
            clear hc
            rintro e w24 ⟨rfl, hb⟩
            replace HU := hid (HU.out.later hb)
            replace HV := hid (HV.out.later hb)
            replace HP := hid (HP.out.later hb)
            replace HG := hid (HG.out.later hb)
            replace HB := hid (HB.out.trans (hb.mono HB.out.size))
            clear hb
            go_wp2
            go_meet
            exact ⟨HU, HV, HP, HG, HB⟩
          · go_wp2
            go_meet
            exact ⟨HU, HV, HP, HG, HB⟩
      case rest =>
        clear HU HV HP HG HB
        obtain ⟨HU, HV, HP, HG, HB⟩ := hcut
        go_upto_region 37 with fail
        go_cut [340] from 315 to 340 (fun r wx => r = .bool false ∧ Hid (Ints wx (.slice avV vs.length cvV) vs) ∧ Hid (Ints wx (.slice avP pl.length cvP) pl) ∧ Hid (Ints wx (.slice avG gs.length cvG) gs) ∧ Hid (Below w.heap.size w wx))
        case first => as_aux_lemma =>
          cases fb with
          | false =>
            go_wp2
            go_meet
            exact ⟨rfl, HV, HP, HG, HB⟩
          | true =>
            obtain ⟨h1, h2, h3⟩ := HL3.out rfl
            have H2 := hid h2
            have H3 := hid h3
            clear h2 h3
            have m1 : ∀ z : Int, many = z → (many != z) = false := fun z h => by rw [h]; simp
            by_cases k0 : k = 0
            · have b1 : (k == 0) = true := by rw [k0]; rfl
              have b2 := m1 _ (H2.out k0)
              clear k0 m1
              by_cases kq : q ≤ k
              · have b3 : (many != 128) = false := by rw [H3.out kq]; simp
                go_wp2
                go_meet
                exact ⟨by first | rfl | exact bool_eq (decide_eq_false (by omega)), HV, HP, HG, HB⟩
              · go_wp2
                go_meet
                exact ⟨by first | rfl | exact bool_eq (decide_eq_false (by omega)), HV, HP, HG, HB⟩
            · have b1 : (k == 0) = false := by simpa using k0
              clear k0 m1
              by_cases kq : q ≤ k
              · have b3 : (many != 128) = false := by rw [H3.out kq]; simp
                go_wp2
                go_meet
                exact ⟨by first | rfl | exact bool_eq (decide_eq_false (by omega)), HV, HP, HG, HB⟩
              · go_wp2
                go_meet
                exact ⟨by first | rfl | exact bool_eq (decide_eq_false (by omega)), HV, HP, HG, HB⟩
        case rest =>
          clear HU HV HP HG HB
          obtain ⟨rfl, HV, HP, HG, HB⟩ := hcut
          go_upto_if 341 with fail
          go_cut [49, 50, 51, 52] from 342 to 389 (fun _ _ _ _ wx => Hid (Ints wx (.slice avG gs.length cvG) gs) ∧ Hid (Below w.heap.size w wx))
          case first => as_aux_lemma =>
            cases sb with
            | false =>
              go_wp2
              go_meet
              exact ⟨HG, HB⟩
            | true =>
              obtain ⟨hp12, hpl, gg, hgap, hgd⟩ := HSLAW.out rfl
              have HPL := hid hpl
              have HGAP := hid hgap
              clear hpl hgap HSLAW
              have HO0 := hid (OwnI.lit0 wc wc.heap.size (Nat.le_refl _))
              have HB0 := hid ((Below.refl wc.heap.size wc).alloc (Nat.le_refl _) (.cells #[] 3))
              go_wp2
              go_loopw [49, 50] (fun oo ii wr => ∃ i : Nat, i ≤ pl.length ∧ ii = .int .i64 i ∧ (∃ ao cap, oo = .slice ao i cap) ∧ Hid (OwnI wr wc.heap.size oo ((pl.take i).map fun k => vs.getD k.toNat 0)) ∧ Hid (Below wc.heap.size wc wr)) (fun _ ii _ => pl.length - (intOf ii).toNat)
              case atStart => exact ⟨0, by omega, rfl, ⟨_, _, rfl⟩, HO0, HB0⟩
              case round =>
                clear HO0 HB0
                obtain ⟨i, hi, rfl, ⟨aoo, coo, rfl⟩, HO, HBR⟩ := hrel
                by_cases hlt : i < pl.length
                · obtain ⟨pp, hpp, hpn⟩ := HPL.out i hlt
                  obtain ⟨ao2, cap2, p2, o2, he, ha, hc, hn2, hm2⟩ := HP.out.later HBR.out
                  simp only [Value.slice.injEq] at he
                  obtain ⟨rfl, _, rfl⟩ := he
                  obtain ⟨rfl, hbP⟩ := ha (by omega)
                  obtain ⟨ao3, cap3, p3, o3, he, ha3, hc3, hn3, hm3⟩ := HV.out.later HBR.out
                  simp only [Value.slice.injEq] at he
                  obtain ⟨rfl, _, rfl⟩ := he
                  obtain ⟨rfl, hbL⟩ := ha3 (by omega)
                  have e1 : wr.cell? ⟨p2, o2+i, none⟩ = some (.int .i64 (pp : Int)) := by rw [hc i hlt, hpp]
                  have e3 : wr.cell? ⟨p3, o3+pp, none⟩ = some (.int .i64 (vs.getD pp 0)) := hc3 pp hpn
                  have HSN := hid (map_take_snoc (fun k : Int => vs.getD k.toNat 0) hlt hpp)
                  have HSX : Hid (vs.getD (pp : Int).toNat 0 = vs.getD pp 0) := hid rfl
                  clear hc hc3 ha ha3 hpp
                  generalize vs.getD pp 0 = x at e3 HSX
                  have z1 : (0 : Int) ≤ i := by omega
                  have z2 : (i : Int) < pl.length := by omega
                  have z3 : (0 : Int) ≤ pp := by omega
                  have z4 : (pp : Int) < vs.length := by omega
                  have hlen : ((pl.take i).map fun k => vs.getD k.toNat 0).length ≤ 1099511627776 := by rw [List.length_map, List.length_take]; omega
                  go_wp2_with (at_builtin; refine wpList_appendI wr rfl _ _ rfl wc.heap.size _ _ HO.out rfl x rfl hlen HBR.out.size ?_; intro v' wq ho' _ hb' _)
                  have ho2 : OwnI wq wc.heap.size v' ((pl.take (i+1)).map fun k => vs.getD k.toNat 0) := by rw [HSN.out, HSX.out]; exact ho'
                  obtain ⟨a4, c4, rfl⟩ := ho2.spell (n := i+1) (by rw [List.length_map, List.length_take]; omega)
                  have HO2 := hid ho2
                  have HBR2 := hid (HBR.out.trans hb')
                  clear ho2 ho' hb' HO HBR hlen
                  go_wp2
                  go_roundw
                  case rel => exact ⟨i+1, by omega, by go_num, ⟨_, _, rfl⟩, HO2, HBR2⟩
                  case measure => simp [intOf]; omega
                · obtain rfl : i = pl.length := by omega
                  rw [List.take_length] at HO
                  by_cases hl1 : 1 < pl.length
                  · have hgd1 := hgd hl1
                    have hl1I : 1 < (pl.length : Int) := by omega
                    go_wp2_with fail
                    have hc := implGapOf_any _ _ _ HO.out.ints
                    simp only [HGAP.out] at hc
                    refine hc.mono ?_
                    rintro e wq ⟨rfl, hb⟩
                    have hbt := HBR.out.trans (hb.mono HBR.out.size)
                    clear hc
                    go_wp2
                    go_meet
                    exact ⟨hid (HG.out.later hbt), hid (HB.out.trans (hbt.mono HB.out.size))⟩
                  · have hl1I : ¬ 1 < (pl.length : Int) := by omega
                    go_wp2_with fail
                    have hc := implGapOf_any _ _ _ HO.out.ints
                    simp only [HGAP.out] at hc
                    refine hc.mono ?_
                    rintro e wq ⟨rfl, hb⟩
                    have hbt := HBR.out.trans (hb.mono HBR.out.size)
                    clear hc
                    go_wp2
                    go_meet
                    exact ⟨hid (HG.out.later hbt), hid (HB.out.trans (hbt.mono HB.out.size))⟩
          case rest =>
            clear HV HP HG HB
            obtain ⟨HG, HB⟩ := hcut
            cases gb with
            | false =>
              go_wp2
              go_ret
              exact ⟨rfl, HB.out⟩
            | true =>
              obtain ⟨gg, hgap, hsz, hgd⟩ := HGLAW.out rfl
              have HGAP := hid hgap
              clear hgap
              by_cases hl1 : 1 < gs.length
              · have hgd1 := hgd hl1
                have hl1I : 1 < (gs.length : Int) := by omega
                go_wp2_with fail
                have hc := implGapOf_any _ gs _ HG.out
                simp only [HGAP.out] at hc
                refine hc.mono ?_
                rintro e wq ⟨rfl, hb⟩
                clear hc
                go_wp2
                go_ret
                exact ⟨rfl, HB.out.trans (hb.mono HB.out.size)⟩
              · have hl1I : ¬ 1 < (gs.length : Int) := by omega
                go_wp2_with fail
                have hc := implGapOf_any _ gs _ HG.out
                simp only [HGAP.out] at hc
                refine hc.mono ?_
                rintro e wq ⟨rfl, hb⟩
                clear hc
                go_wp2
                go_ret
                exact ⟨rfl, HB.out.trans (hb.mono HB.out.size)⟩

end Go.Proofs.Ytfgjaefcfmjleaa
