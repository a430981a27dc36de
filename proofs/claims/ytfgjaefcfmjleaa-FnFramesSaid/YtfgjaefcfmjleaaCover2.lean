import Derived.Test.YtfgjaefcfmjleaaCover
namespace Go.Proofs.Ytfgjaefcfmjleaa
open Go.RowKit

/-! ## l8Whole, l8Cover -/
def wholeTo (r : List Int) (c bars : Int) (k : Nat) : Bool := (List.range k).all fun i => !((bitI c i == 0) && (bits .and .i64 (r.getD i 0) bars == bars))
theorem wholeTo_succ (r : List Int) (c bars : Int) (k : Nat) : wholeTo r c bars (k+1) = (wholeTo r c bars k && !((bits .and .i64 (c / 2 ^ k) 1 == 0) && (bits .and .i64 (r.getD k 0) bars == bars))) := by
  unfold wholeTo
  rw [List.range_succ, List.all_append]
  simp only [List.all_cons, List.all_nil, Bool.and_true]
  rfl
theorem wholeTo_false {r : List Int} {c bars : Int} {k n : Nat} (hk : k < n) (h : (!((bits .and .i64 (c / 2 ^ k) 1 == 0) && (bits .and .i64 (r.getD k 0) bars == bars))) = false) : wholeTo r c bars n = false := by
  unfold wholeTo
  rw [List.all_eq_false]
  exact ⟨k, List.mem_range.2 hk, by rw [show (!((bitI c k == 0) && (bits .and .i64 (r.getD k 0) bars == bars))) = false from h]; simp⟩

set_option maxHeartbeats 4000000 in
theorem l8Whole_any (v1 : Value) (r : List Int) (c bars : Int) (w : World) (h1 : Ints w v1 r) (hl : r.length ≤ 6) :
    Calls Try.prog 241 #[v1, .int .i64 c, .int .i64 bars] w fun e w' => e = .returned (.bool (wholeB r c bars)) ∧ w = w' := by
  obtain ⟨n, ao1, cap1, b1, o1, HN, rfl, ha1, hc1, hn1, hm1, HX⟩ := h1.open_
  rw [HN.out] at hl
  clear h1
  have HW := hid (show wholeB r c bars = wholeTo r c bars n by rw [← HN.out]; rfl)
  go_enter Try.func241, Try.ntmps241
  go_wp2
  go_loop [7] (fun i => ∃ k : Nat, k ≤ n ∧ i = .int .i64 k ∧ Hid (wholeTo r c bars k = true)) (fun i => n - (intOf i).toNat)
  case atStart => exact ⟨0, by omega, rfl, hid rfl⟩
  case round =>
    obtain ⟨k, hk, rfl, HT⟩ := hrel
    by_cases hlt : k < n
    · obtain ⟨rfl, hb1⟩ := ha1 (by omega)
      have e1 : w.cell? ⟨b1, o1+k, none⟩ = some (.int .i64 (r.getD k 0)) := hc1 k (by omega)
      have HS := hid (wholeTo_succ r c bars k)
      rw [HT.out] at HS
      have HF := hid (wholeTo_false (r := r) (c := c) (bars := bars) hlt)
      generalize r.getD k 0 = x at e1 HS HF
      clear hc1 ha1
      cases hq1 : (bits .and .i64 (c / 2 ^ k) 1 == 0) with
      | false =>
        have HE := hid (show wholeTo r c bars (k+1) = true by rw [HS.out, hq1]; rfl)
        clear HS HF
        go_wp2
        go_round
        case rel => exact ⟨k+1, by omega, by go_num, HE⟩
        case measure => simp [intOf]; omega
      | true =>
        cases hq2 : (bits .and .i64 x bars == bars) with
        | false =>
          have HE := hid (show wholeTo r c bars (k+1) = true by rw [HS.out, hq1, hq2]; rfl)
          clear HS HF
          go_wp2
          go_round
          case rel => exact ⟨k+1, by omega, by go_num, HE⟩
          case measure => simp [intOf]; omega
        | true =>
          have HE := hid (HF.out (by rw [hq1, hq2]; rfl))
          clear HS HF
          go_wp2
          go_ret
          exact ⟨ret_bool (by rw [HW.out, HE.out]), rfl⟩
    · have hkn : k = n := by omega
      rw [hkn] at HT
      go_wp2
      go_ret
      exact ⟨ret_bool (by rw [HW.out, HT.out]), rfl⟩

theorem any_nz_of {l : List Int} {k : Nat} (hk : k < l.length) (h : l.getD k 0 ≠ 0) : l.any nzQ = true := by
  refine List.any_eq_true.2 ⟨l[k], List.getElem_mem hk, ?_⟩
  have e : l.getD k 0 = l[k] := by simp [List.getD, hk]
  rw [e] at h
  simpa [nzQ] using h
theorem findIdx_nz {l : List Int} {k : Nat} (hk : k < l.length) (h : l.getD k 0 ≠ 0) (hn : ∀ j, j < k → l.getD j 0 = 0) : l.findIdx nzQ = k := by
  rw [List.findIdx_eq hk]
  have e : ∀ j (hj : j < l.length), l.getD j 0 = l[j] := fun j hj => by simp [List.getD, hj]
  refine ⟨?_, fun j hj => ?_⟩
  · rw [e k hk] at h
    simpa [nzQ] using h
  · have := hn j hj
    rw [e j (by omega)] at this
    simp [nzQ, this]
theorem any_nz_none {l : List Int} (h : ∀ j, j < l.length → l.getD j 0 = 0) : l.any nzQ = false := by
  rw [List.any_eq_false]
  intro x hx
  obtain ⟨i, hi, rfl⟩ := List.mem_iff_getElem.1 hx
  have := h i hi
  have e : l.getD i 0 = l[i] := by simp [List.getD, hi]
  rw [e] at this
  simp [nzQ, this]
theorem lowB_at {x : Int} {b : Nat} (hb : b < 7) (h : (bits .and .i64 (x / 2 ^ b) 1 == 0) = false) (hl : ∀ b', b' < b → (bits .and .i64 (x / 2 ^ b') 1 == 0) = true) : lowB x = b := by
  unfold lowB
  rw [List.findIdx_eq (by simpa using hb)]
  simp only [List.getElem_range]
  exact ⟨by rw [show (bitI x b == 0) = false from h]; rfl, fun j hj => by rw [show (bitI x j == 0) = true from hl j hj]; rfl⟩
theorem bit_seven {x : Int} (h0 : 0 ≤ x) (h1 : x ≤ 127) (hx : x ≠ 0) {b : Nat} (hl : ∀ b', b' < b → (bits .and .i64 (x / 2 ^ b') 1 == 0) = true) : b < 7 := by
  by_cases h : b < 7
  · exact h
  · exfalso
    obtain ⟨j, hj, hb⟩ := hasB_some (x := x) (by omega) h1
    have h2 := hasB_zero h0 h1 hj
    rw [hb, show (bitI x j == 0) = true from hl j (by omega)] at h2
    cases h2

set_option maxRecDepth 100000 in
set_option maxHeartbeats 8000000 in
theorem l8Cover_any (r : List Int) (hr : r.length ≤ 6) (hinr : cellsIn r) : ∀ (s : Nat) (v1 v2 : Value) (l : List Int) (w : World), Ints w v1 r → Ints w v2 l → l.length = r.length → cellsIn l → s ≤ 100 →
    Calls Try.prog 205 #[v1, v2, .int .i64 s] w fun e w' => e = .returned (.bool (covS r s l)) ∧ Below w.heap.size w w' := by
  have HIR := hid hinr
  clear hinr
  intro s
  induction s using Nat.strongRecOn with
  | _ s ih =>
    intro v1 v2 l w h1 h2 hl hin hs
    have IH := hid ih
    clear ih
    have HIN := hid hin
    have HLL := hid hl
    obtain ⟨n, ao1, cap1, b1, o1, HN1, rfl, ha1, hc1, hn1, hm1, HX1⟩ := h1.open_
    obtain ⟨n2, ao2, cap2, b2, o2, HN2, rfl, ha2, hc2, hn2, hm2, HX2⟩ := h2.open_
    have hnn : n2 = n := HN2.out.symm.trans (hl.trans HN1.out)
    subst hnn
    rw [HN1.out] at hr
    have HC2 := hid hc2
    have HA2 := hid ha2
    clear h1 h2 hl hin hc1 ha1 hc2 ha2
    have hs00 : (0 : Int) ≤ s := by omega
    go_enter Try.func205, Try.ntmps205
    go_wp2
    go_loop [7] (fun i => ∃ k : Nat, k ≤ n2 ∧ i = .int .i64 k ∧ Hid (∀ j, j < k → l.getD j 0 = 0)) (fun i => n2 - (intOf i).toNat)
    case atStart => exact ⟨0, by omega, rfl, hid fun j h => absurd h (Nat.not_lt_zero j)⟩
    case round =>
      obtain ⟨f, hk, rfl, HT⟩ := hrel
      by_cases hf : f < n2
      · obtain ⟨hae, hb2⟩ := HA2.out (by omega)
        subst hae
        have e0 : w.cell? ⟨b2, o2 + f, none⟩ = some (.int .i64 (l.getD f 0)) := HC2.out f hf
        have hx := HIN.out f (by rw [HN2.out]; exact hf)
        have hf0 : (0 : Int) ≤ f := by omega
        have hf1 : (f : Int) < n2 := by omega
        by_cases hxz : l.getD f 0 = 0
        · have HE := hid (show ∀ j, j < f + 1 → l.getD j 0 = 0 from fun j hj => by
            by_cases e : j = f
            · subst e; exact hxz
            · exact HT.out j (by omega))
          rw [hxz] at e0
          clear hxz hx
          go_wp2
          go_round
          case rel => exact ⟨f+1, by omega, by go_num, HE⟩
          case measure => simp [intOf]; omega
        · have HANY := hid (any_nz_of (l := l) (k := f) (by rw [HN2.out]; exact hf) hxz)
          have HFE := hid (findIdx_nz (l := l) (k := f) (by rw [HN2.out]; exact hf) hxz HT.out)
          obtain ⟨x, hxe⟩ : ∃ x, l.getD f 0 = x := ⟨_, rfl⟩
          have HBIT : Hid (∀ b, (∀ b', b' < b → (bits .and .i64 (x / 2 ^ b') 1 == 0) = true) → b < 7) := hid fun b h => bit_seven (by omega) (by omega) (by omega) h
          have hxb : (x == 0) = false := by
            have : x ≠ 0 := by omega
            simpa using this
          have HXX := hid hxe
          rw [hxe] at e0 hx
          have HXZ := hid hxz
          clear hxe hxz HT
          by_cases hs0 : s = 0
          · have hsb : ((s : Int) == 0) = true := by simpa using hs0
            have HR := hid (show covS r s l = false by rw [hs0]; simp only [covS, covG, HANY.out]; rfl)
            clear hs0
            go_wp2
            go_ret
            exact ⟨ret_bool HR.out.symm, Below.refl _ _⟩
          · have hsb : ((s : Int) == 0) = false := by simpa using hs0
            obtain ⟨s', hs'⟩ : ∃ s', s = s' + 1 := ⟨s - 1, by omega⟩
            have HSS := hid hs'
            have HSI : Hid ((s : Int) - 1 = (s' : Int)) := hid (by omega)
            have HR := hid (show covS r s l = (List.range (2 ^ r.length)).any (tryG (condS r) r s' l f) by rw [hs']; exact covG_step (cond := condS r) (r := r) (s := s') HANY.out HFE.out)
            have hp := pow_two_le hr
            have HPC := hid (pow_cast n2)
            obtain ⟨p, hpe⟩ : ∃ p, 2 ^ n2 = p := ⟨_, rfl⟩
            rw [hpe] at hp HPC
            have HP := hid hpe
            have hp0 : 1 ≤ p := by
              have := Nat.two_pow_pos n2
              omega
            have HTR : Hid (∀ c : Nat, tryG (condS r) r s' l f c = (decide (1 ≤ c) && (!(bitI (c : Int) f == 0) && !(bitI (fullF r (c : Int)) (lowB (l.getD f 0)) == 0) && wholeB r (c : Int) (fullF r (c : Int))) && covS r s' (restF l (c : Int) (fullF r (c : Int))))) := hid fun c => rfl
            have HSTART := hid (any_range_one (p := tryG (condS r) r s' l f) ((HTR.out 0).trans rfl))
            rw [HXX.out] at HTR
            rw [show r.length = n2 from HN1.out, hpe] at HR
            clear hs' hpe hs0 HFE HANY
            go_wp2
            go_loop [8] (fun bb => ∃ b : Nat, b ≤ 7 ∧ bb = .int .i64 b ∧ Hid (∀ b', b' < b → (bits .and .i64 (x / 2 ^ b') 1 == 0) = true)) (fun bb => 7 - (intOf bb).toNat)
            case atStart => exact ⟨0, by omega, rfl, hid fun j h => absurd h (Nat.not_lt_zero j)⟩
            case round =>
              obtain ⟨b, hb7', rfl, HBB⟩ := hrel
              have hb7 := HBIT.out b HBB.out
              have hbI0 : (0 : Int) ≤ b := by omega
              cases hbit : (bits .and .i64 (x / 2 ^ b) 1 == 0) with
              | true =>
                have HE := hid (show ∀ b', b' < b + 1 → (bits .and .i64 (x / 2 ^ b') 1 == 0) = true from fun j hj => by
                  by_cases e : j = b
                  · subst e; exact hbit
                  · exact HBB.out j (by omega))
                go_wp2
                go_round
                case rel => exact ⟨b+1, by omega, by go_num, HE⟩
                case measure => simp [intOf]; omega
              | false =>
                have HLB := hid (lowB_at hb7 hbit HBB.out)
                rw [HLB.out] at HTR
                have HTR2 : Hid (∀ c : Nat, tryG (condS r) r s' l f c = (decide (1 ≤ c) && (!(bits .and .i64 ((c : Int) / 2 ^ f) 1 == 0) && !(bits .and .i64 (fullF r (c : Int) / 2 ^ b) 1 == 0) && wholeB r (c : Int) (fullF r (c : Int))) && covS r s' (restF l (c : Int) (fullF r (c : Int))))) := HTR
                clear HBB HBIT HLB HTR
                go_wp2
                go_loopw [9, 10, 11, 12] (fun cc _ _ _ wr => ∃ c : Nat, 1 ≤ c ∧ c ≤ p ∧ cc = .int .i64 c ∧ Hid ((List.range c).any (tryG (condS r) r s' l f) = false) ∧ Below w.heap.size w wr) (fun cc _ _ _ _ => p - (intOf cc).toNat)
                case atStart => exact ⟨1, by omega, by omega, rfl, HSTART, Below.refl _ _⟩
                case round =>
                  obtain ⟨c, hc1, hcp, rfl, HT, hbel⟩ := hrel
                  clear HSTART
                  have h2 := pow6 hr
                  by_cases hlt : c < p
                  · have hcI : (c : Int) < 2 ^ n2 := by rw [← HPC.out]; omega
                    have c0 : (0 : Int) ≤ c := by omega
                    have c1 : (c : Int) ≤ 127 := by omega
                    have HC := hid (HTR2.out c)
                    rw [show decide (1 ≤ c) = true by simpa using hc1] at HC
                    have HNEXT := hid (any_range_succ (p := tryG (condS r) r s' l f) (c := c) HT.out)
                    have HAT := hid (any_range_at (p := tryG (condS r) r s' l f) (c := c) (n := p) hlt)
                    have HRI := hid (HX1.out.later hbel)
                    have HRL := hid (HX2.out.later hbel)
                    have hfr := fullF_has HIR.out c0 c1 (by rw [HN1.out]; exact hr)
                    have HF := hid (show 0 ≤ fullF r (c : Int) ∧ fullF r (c : Int) ≤ 127 from ⟨hfr.1, hfr.2.1⟩)
                    have HRINR := hid (restF_in HIN.out (c := (c : Int)) HF.out.1 HF.out.2)
                    have HRLEN := hid (length_restF l (c : Int) (fullF r (c : Int)))
                    clear hfr
                    cases hq1 : (bits .and .i64 ((c : Int) / 2 ^ f) 1 == 0) with
                    | true =>
                      have HE := hid (HNEXT.out (by rw [HC.out, hq1]; rfl))
                      clear HNEXT HAT HC
                      go_wp2_with (go_at_call 207; refine (l8Full_any _ r _ _ HRI.out (by rw [HN1.out]; exact hr)).mono ?_; rintro e w2 ⟨rfl, rfl⟩)
                      go_roundw
                      case rel => exact ⟨c+1, by omega, by omega, by go_num, HE, hbel⟩
                      case measure => simp [intOf]; omega
                    | false =>
                      cases hq2 : (bits .and .i64 (fullF r (c : Int) / 2 ^ b) 1 == 0) with
                      | true =>
                        have HE := hid (HNEXT.out (by rw [HC.out, hq1, hq2]; rfl))
                        clear HNEXT HAT HC
                        go_wp2_with (go_at_call 207; refine (l8Full_any _ r _ _ HRI.out (by rw [HN1.out]; exact hr)).mono ?_; rintro e w2 ⟨rfl, rfl⟩)
                        go_roundw
                        case rel => exact ⟨c+1, by omega, by omega, by go_num, HE, hbel⟩
                        case measure => simp [intOf]; omega
                      | false =>
                        cases hq3 : wholeB r (c : Int) (fullF r (c : Int)) with
                        | false =>
                          have HE := hid (HNEXT.out (by rw [HC.out, hq1, hq2, hq3]; rfl))
                          clear HNEXT HAT HC
                          go_wp2_with (first | (go_at_call 207; refine (l8Full_any _ r _ _ HRI.out (by rw [HN1.out]; exact hr)).mono ?_; rintro e w2 ⟨rfl, rfl⟩) | (go_at_call 241; refine (l8Whole_any _ r _ _ _ HRI.out (by rw [HN1.out]; exact hr)).mono ?_; rintro e w2 ⟨rfl, rfl⟩))
                          go_roundw
                          case rel => exact ⟨c+1, by omega, by omega, by go_num, HE, hbel⟩
                          case measure => simp [intOf]; omega
                        | true =>
                          have HCV := hid (show tryG (condS r) r s' l f c = covS r s' (restF l (c : Int) (fullF r (c : Int))) by rw [HC.out, hq1, hq2, hq3]; rfl)
                          have HGET : Hid (∀ k, k < n2 → (restF l (c : Int) (fullF r (c : Int))).getD k 0 = if bits .and .i64 ((c : Int) / 2 ^ k) 1 == 1 then bits .andNot .i64 (l.getD k 0) (fullF r (c : Int)) else l.getD k 0) := hid fun k hk => getD_restF (by rw [HN2.out]; exact hk)
                          clear HC
                          go_wp2_with (first | (go_at_call 207; refine (l8Full_any _ r _ _ HRI.out (by rw [HN1.out]; exact hr)).mono ?_; rintro e w2 ⟨rfl, rfl⟩) | (go_at_call 241; refine (l8Whole_any _ r _ _ _ HRI.out (by rw [HN1.out]; exact hr)).mono ?_; rintro e w2 ⟨rfl, rfl⟩))
                          refine (l1Own_any _ l _ HRL.out (by rw [HN2.out]; omega)).mono ?_
                          rintro e w2 ⟨v, rfl, ho, hb⟩
                          obtain ⟨g, cap, rfl, hg1, hg2⟩ := ho.shape HN2.out (by omega)
                          have hgB : w.heap.size ≤ g := Nat.le_trans hbel.size hg1
                          have HO := hid (ho.mono hbel.size)
                          have hbel2 := hbel.trans (hb.mono hbel.size)
                          clear ho hb hbel hg1 hg2
                          generalize fullF r (c : Int) = bars at *
                          generalize restF l (c : Int) bars = rest at *
                          go_wp2
                          go_loopw [12] (fun ii wr => ∃ k : Nat, k ≤ n2 ∧ ii = .int .i64 k ∧ Hid (OwnI wr w.heap.size (.slice (some ⟨g, 0, none⟩) n2 cap) (rest.take k ++ l.drop k)) ∧ Below w.heap.size w wr) (fun ii _ => n2 - (intOf ii).toNat)
                          case atStart => exact ⟨0, by omega, rfl, hid (by simpa using HO.out), hbel2⟩
                          case round =>
                            obtain ⟨k, hk, rfl, HO3, hbel3⟩ := hrel
                            clear HO hbel2
                            by_cases hkn : k < n2
                            · have HG := hid (HGET.out k hkn)
                              have HM := hid (mix_get (xs := l) (ys := rest) (k := k) HRLEN.out (by rw [HN2.out]; exact hkn))
                              have HLM := hid ((length_mix (xs := l) (ys := rest) (k := k) HRLEN.out (by rw [HN2.out]; omega)).trans HN2.out)
                              have HST := hid (fun z => mix_set (xs := l) (ys := rest) (k := k) (x := z) HRLEN.out (by rw [HN2.out]; exact hkn))
                              have HSM := hid (mix_same (xs := l) (ys := rest) (k := k) HRLEN.out (by rw [HN2.out]; exact hkn))
                              have hcA := HO3.out.cell HLM.out hkn
                              rw [HM.out] at hcA
                              have hfA := HO3.out.free HLM.out k
                              have hk0 : (0 : Int) ≤ k := by omega
                              have hk1 : (k : Int) < n2 := by omega
                              cases hbit2 : (bits .and .i64 ((c : Int) / 2 ^ k) 1 == 1) with
                              | true =>
                                rw [hbit2] at HG
                                have HG2 := hid (HST.out _ HG.out)
                                clear HST HSM HG HGET
                                generalize l.getD k 0 = z at *
                                obtain ⟨hs1, hs2⟩ := HO3.out.set HLM.out k _ HG2.out
                                have HS := hid hs1
                                have HB := hid (hbel3.setCell (p := ⟨g, k, none⟩) hgB (.int .i64 (bits .andNot .i64 z bars)))
                                clear hs1 hs2 HO3 hbel3
                                go_wp2
                                go_roundw
                                case rel => exact ⟨k+1, by omega, by go_num, HS, HB.out⟩
                                case measure => simp [intOf]; omega
                              | false =>
                                rw [hbit2] at HG
                                have HG2 := hid (HSM.out HG.out)
                                clear HST HSM HG HGET
                                go_wp2
                                go_roundw
                                case rel => exact ⟨k+1, by omega, by go_num, by rw [← HG2.out]; exact HO3, hbel3⟩
                                case measure => simp [intOf]; omega
                            · have ho := HO3.out
                              have hkn2 : k = n2 := by omega
                              rw [List.take_of_length_le (by rw [HRLEN.out, HN2.out]; omega), List.drop_of_length_le (by rw [HN2.out]; omega), List.append_nil] at ho
                              have HO4 := hid ho.ints
                              have HR4 := hid (HX1.out.later hbel3)
                              clear ho HO3 hkn2
                              cases hcv : covS r s' rest with
                              | true =>
                                have HE := hid (HAT.out (by rw [HCV.out, hcv]))
                                go_wp2_with fail
                                rw [HSI.out]
                                refine (IH.out s' (by have := HSS.out; omega) _ _ rest _ HR4.out HO4.out (by rw [HRLEN.out]; exact HLL.out) HRINR.out (by have := HSS.out; omega)).mono ?_
                                rintro e w3 ⟨rfl, hb3⟩
                                rw [hcv]
                                go_wp2
                                go_ret
                                exact ⟨ret_bool (by rw [HR.out, HE.out]), hbel3.trans (hb3.mono hbel3.size)⟩
                              | false =>
                                have HE := hid (HNEXT.out (by rw [HCV.out, hcv]))
                                go_wp2_with fail
                                rw [HSI.out]
                                refine (IH.out s' (by have := HSS.out; omega) _ _ rest _ HR4.out HO4.out (by rw [HRLEN.out]; exact HLL.out) HRINR.out (by have := HSS.out; omega)).mono ?_
                                rintro e w3 ⟨rfl, hb3⟩
                                rw [hcv]
                                go_wp2
                                go_roundw
                                case rel => exact ⟨c+1, by omega, by omega, by go_num, HE, hbel3.trans (hb3.mono hbel3.size)⟩
                                case measure => simp [intOf]; omega
                  · have hcI : ¬ ((c : Int) < 2 ^ n2) := by rw [← HPC.out]; omega
                    have hcp2 : c = p := by omega
                    rw [hcp2] at HT
                    go_wp2
                    go_ret
                    exact ⟨ret_bool (by rw [HR.out, HT.out]), hbel⟩
      · have hfn : f = n2 := by omega
        have HNONE := hid (any_nz_none (l := l) (by rw [HN2.out, ← hfn]; exact HT.out))
        have HR : Hid (covS r s l = true) := hid (by cases s <;> simp [covS, covG, HNONE.out])
        subst hfn
        go_wp2
        go_ret
        exact ⟨ret_bool HR.out.symm, Below.refl _ _⟩

end Go.Proofs.Ytfgjaefcfmjleaa
