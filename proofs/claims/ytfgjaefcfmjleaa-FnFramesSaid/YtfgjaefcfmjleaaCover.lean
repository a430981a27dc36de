import Derived.Test.YtfgjaefcfmjleaaCoverLaw
import Derived.Test.YtfgjaefcfmjleaaClone
import Derived.Deep.QuietTactic
import Derived.BigQuiet
import Derived.IntWalk
import Derived.Deep.AppendLies
namespace Go.Proofs.Ytfgjaefcfmjleaa
open Go.RowKit

/-! ## covers, l8Cover; LeastSlots -/
theorem mix_get {xs ys : List Int} {k : Nat} (hl : ys.length = xs.length) (h : k < xs.length) : (ys.take k ++ xs.drop k).getD k 0 = xs.getD k 0 := by
  simp [List.getD, List.getElem?_append, show min k ys.length = k by omega, h]
theorem length_mix {xs ys : List Int} {k : Nat} (hl : ys.length = xs.length) (h : k ≤ xs.length) : (ys.take k ++ xs.drop k).length = xs.length := by
  rw [List.length_append, List.length_take, List.length_drop]; omega
theorem mix_set {xs ys : List Int} {k : Nat} {x : Int} (hl : ys.length = xs.length) (h : k < xs.length) (e : ys.getD k 0 = x) : (ys.take k ++ xs.drop k).set k x = ys.take (k+1) ++ xs.drop (k+1) := by
  rw [List.set_append_right _ _ (by rw [List.length_take]; omega), List.length_take, Nat.min_eq_left (by omega), Nat.sub_self, take_snoc (by omega) e, List.drop_eq_getElem_cons h, List.set_cons_zero, List.append_assoc]
  rfl
theorem mix_same {xs ys : List Int} {k : Nat} (hl : ys.length = xs.length) (h : k < xs.length) (e : ys.getD k 0 = xs.getD k 0) : ys.take k ++ xs.drop k = ys.take (k+1) ++ xs.drop (k+1) := by
  rw [take_snoc (xs := ys) (by omega) e, drop_cons h rfl, List.append_assoc]
  rfl

theorem idxQ_none_lt {xs : List Int} {q : Int → Bool} (h : xs.any q = false) : idxQ xs q < 0 := by rw [idxQ_none h]; omega
theorem idxQ_yes {xs : List Int} {q : Int → Bool} (h : xs.any q = true) : idxQ xs q = ((xs.findIdx q : Nat) : Int) := by simp [idxQ, h]
/-- What a set of cells c leads to. -/
def tryG (cond : List Int → Nat → Int → Bool) (r : List Int) (s : Nat) (l : List Int) (f c : Nat) : Bool := decide (1 ≤ c) && cond l f (c : Int) && covG cond r s (restF l (c : Int) (fullF r (c : Int)))
theorem covG_step {cond : List Int → Nat → Int → Bool} {r l : List Int} {s f : Nat} (h : l.any nzQ = true) (hf : l.findIdx nzQ = f) : covG cond r (s+1) l = (List.range (2 ^ r.length)).any (tryG cond r s l f) := by
  subst hf
  simp only [covG, h, Bool.not_true, Bool.false_or]
  rfl
theorem any_range_succ {p : Nat → Bool} {c : Nat} (h : (List.range c).any p = false) (hp : p c = false) : (List.range (c+1)).any p = false := by
  rw [List.range_succ, List.any_append, h]
  simp [hp]
theorem any_range_at {p : Nat → Bool} {c n : Nat} (hc : c < n) (hp : p c = true) : (List.range n).any p = true :=
  List.any_eq_true.2 ⟨c, List.mem_range.2 hc, hp⟩
theorem any_range_one {p : Nat → Bool} (h : p 0 = false) : (List.range 1).any p = false := by
  simp [List.range_succ, h]
theorem neg_cell {x : Int} (h0 : 0 ≤ x) (h1 : x ≤ 127) : IntKind.i64.wrap (-x) = -x := IntWalk.i64_in _ (by omega)
theorem pow_cast (n : Nat) : ((2 ^ n : Nat) : Int) = (2 : Int) ^ n := by simp

theorem enterCovers1 (args : Array Value) (w : World) : (callFunc 240 args).run Try.prog w = .ok (.enter 240 args) w := by kernel_rfl
theorem coversClosure_any (c : Int) (w : World) :
    Calls Try.prog 240 #[.int .i64 c] w fun e w' => e = .returned (.bool (nzQ c)) ∧ w = w' := by
  go_enter Try.func240, Try.ntmps240
  go_wp2
  go_ret
  exact ⟨rfl, rfl⟩

set_option maxRecDepth 100000 in
set_option maxHeartbeats 8000000 in
theorem covers_any (r : List Int) (hr : r.length ≤ 6) (hinr : cellsIn r) : ∀ (s : Nat) (v1 v2 : Value) (l : List Int) (w : World), Ints w v1 r → Ints w v2 l → l.length = r.length → cellsIn l → s ≤ 100 →
    Calls Try.prog 204 #[v1, v2, .int .i64 s] w fun e w' => e = .returned (.bool (covI r s l)) ∧ Below w.heap.size w w' := by
  have HIR := hid hinr
  clear hinr
  intro s
  induction s with
  | zero =>
    intro v1 v2 l w h1 h2 hl hin _
    have HV := hid h2
    have HC : Hid (covI r 0 l = !l.any nzQ) := hid rfl
    have HN := hid (idxQ_none_lt (xs := l) (q := nzQ))
    have HY := hid (idxQ_yes (xs := l) (q := nzQ))
    have HCLO : Hid (∀ w', Below w.heap.size w w' → ∀ i, i < l.length → Calls Try.prog 240 (#[.int .i64 (l.getD i 0)] ++ #[]) w' fun e w'' => e = .returned (.bool (nzQ (l.getD i 0))) ∧ Below w'.heap.size w' w'') :=
      hid fun w' _ i _ => (coversClosure_any _ w').mono fun e w'' ⟨he, hw⟩ => ⟨he, hw ▸ Below.refl _ _⟩
    clear h1 h2 hl hin
    cases hany : l.any nzQ with
    | false =>
      have HX := hid (HN.out hany)
      have HR := hid (show covI r 0 l = true by rw [HC.out, hany]; rfl)
      clear hany HN HY HC
      go_enter Try.func204, Try.ntmps204
      go_wp2_with fail
      refine (IndexFuncI_any _ l 240 #[] nzQ _ HV.out enterCovers1 HCLO.out).mono ?_
      rintro e w1 ⟨rfl, hb⟩
      have hx := HX.out
      go_wp2
      go_ret
      exact ⟨ret_bool HR.out.symm, hb⟩
    | true =>
      have HX := hid (HY.out hany)
      have HR := hid (show covI r 0 l = false by rw [HC.out, hany]; rfl)
      clear hany HN HY HC
      go_enter Try.func204, Try.ntmps204
      go_wp2_with fail
      refine (IndexFuncI_any _ l 240 #[] nzQ _ HV.out enterCovers1 HCLO.out).mono ?_
      rintro e w1 ⟨rfl, hb⟩
      rw [HX.out]
      go_wp2
      go_ret
      exact ⟨ret_bool HR.out.symm, hb⟩
  | succ s ih =>
    intro v1 v2 l w h1 h2 hl hin hs
    have IH := hid ih
    clear ih
    have HV := hid h2
    have HV1 := hid h1
    have HN := hid (idxQ_none_lt (xs := l) (q := nzQ))
    have HY := hid (idxQ_yes (xs := l) (q := nzQ))
    have HCLO : Hid (∀ w', Below w.heap.size w w' → ∀ i, i < l.length → Calls Try.prog 240 (#[.int .i64 (l.getD i 0)] ++ #[]) w' fun e w'' => e = .returned (.bool (nzQ (l.getD i 0))) ∧ Below w'.heap.size w' w'') :=
      hid fun w' _ i _ => (coversClosure_any _ w').mono fun e w'' ⟨he, hw⟩ => ⟨he, hw ▸ Below.refl _ _⟩
    cases hany : l.any nzQ with
    | false =>
      have HX := hid (HN.out hany)
      have HR := hid (show covI r (s+1) l = true by simp only [covI, covG, hany]; rfl)
      clear hany HN HY h1 h2 hl hin
      go_enter Try.func204, Try.ntmps204
      go_wp2_with fail
      refine (IndexFuncI_any _ l 240 #[] nzQ _ HV.out enterCovers1 HCLO.out).mono ?_
      rintro e w1 ⟨rfl, hb⟩
      have hx := HX.out
      go_wp2
      go_ret
      exact ⟨ret_bool HR.out.symm, hb⟩
    | true =>
      have HX := hid (HY.out hany)
      have hf : l.findIdx nzQ < l.length := List.findIdx_lt_length_of_exists (List.any_eq_true.1 hany)
      obtain ⟨f, hfe⟩ : ∃ f, l.findIdx nzQ = f := ⟨_, rfl⟩
      have HR := hid (show covI r (s+1) l = _ from covG_step (cond := condI r) (r := r) (s := s) hany hfe)
      rw [hfe] at hf HX
      have hp := pow_two_le hr
      have HPC := hid (pow_cast r.length)
      have HIN := hid hin
      have HLL := hid hl
      clear hany HN HY hfe hin
      obtain ⟨n, ao1, cap1, b1, o1, HN1, rfl, ha1, hc1, hn1, hm1, HX1⟩ := h1.open_
      obtain ⟨n2, ao2, cap2, b2, o2, HN2, rfl, ha2, hc2, hn2, hm2, HX2⟩ := h2.open_
      have hnn : n2 = n := HN2.out.symm.trans (hl.trans HN1.out)
      subst hnn
      rw [HN2.out] at hf
      obtain ⟨rfl, hb2⟩ := ha2 (by omega)
      rw [HN1.out] at hr hp HPC
      obtain ⟨p, hpe⟩ : ∃ p, 2 ^ n2 = p := ⟨_, rfl⟩
      rw [hpe] at hp HPC
      have HP := hid hpe
      clear h1 h2 hl ha1 ha2 hpe HV HV1 hc1
      rw [show r.length = n2 from HN1.out, HP.out] at HR
      have e0 : w.cell? ⟨b2, o2 + f, none⟩ = some (.int .i64 (l.getD f 0)) := hc2 f hf
      have hx := HIN.out f (by rw [HN2.out]; exact hf)
      have HTR : Hid (∀ c : Nat, tryG (condI r) r s l f c = (decide (1 ≤ c) && (!(bitI (c : Int) f == 0) && !(bits .and .i64 (fullF r (c : Int)) (lowI (l.getD f 0)) == 0)) && covI r s (restF l (c : Int) (fullF r (c : Int))))) := hid fun c => rfl
      obtain ⟨x, hxe⟩ : ∃ x, l.getD f 0 = x := ⟨_, rfl⟩
      rw [hxe] at e0 hx HTR
      have HXX := hid hxe
      clear hxe hc2
      have hneg := neg_cell hx.1 hx.2
      have hneg0 : -127 ≤ -x := by omega
      have hf0 : (0 : Int) ≤ f := by omega
      have hf1 : (f : Int) < n2 := by omega
      have HLOW := hid (show bits .and .i64 x (-x) = lowI x from rfl)
      have hs0 : ((s : Int) + 1 == 0) = false := by simp; omega
      go_enter Try.func204, Try.ntmps204
      go_wp2_with fail
      refine (IndexFuncI_any _ l 240 #[] nzQ _ HX2.out enterCovers1 HCLO.out).mono ?_
      rintro e w1 ⟨rfl, hb⟩
      rw [HX.out]
      have e1 := (hb.cell (p := ⟨b2, o2 + f, none⟩) (by exact hb2)).trans e0
      clear e0
      go_wp2
      go_quiet (fail)
      generalize bits .and .i64 x (-x) = y at *
      have HTR2 : Hid (∀ c : Nat, tryG (condI r) r s l f c = (decide (1 ≤ c) && (!(bits .and .i64 ((c : Int) / 2 ^ f) 1 == 0) && !(bits .and .i64 (fullF r (c : Int)) y == 0)) && covI r s (restF l (c : Int) (fullF r (c : Int))))) := hid fun c => by rw [HTR.out c, HLOW.out]; rfl
      have HSTART := hid (any_range_one (p := tryG (condI r) r s l f) (by rw [HTR.out]; rfl))
      clear HTR HLOW hneg hneg0 e1
      have HB1 := hid (below_drewN hb nq)
      clear hb
      have hp0 : 1 ≤ p := by
        have := HP.out
        have := Nat.two_pow_pos n2
        omega
      go_wp2
      go_loopw [9, 10, 11, 12] (fun cc _ _ _ wr => ∃ c : Nat, 1 ≤ c ∧ c ≤ p ∧ cc = .int .i64 c ∧ Hid ((List.range c).any (tryG (condI r) r s l f) = false) ∧ Below w.heap.size w wr) (fun cc _ _ _ _ => p - (intOf cc).toNat)
      case atStart => exact ⟨1, by omega, by omega, rfl, HSTART, HB1.out⟩
      case round =>
        obtain ⟨c, hc1, hcp, rfl, HT, hbel⟩ := hrel
        clear HSTART HB1
        have h2 := pow6 hr
        by_cases hlt : c < p
        · have hcI : (c : Int) < 2 ^ n2 := by rw [← HPC.out]; omega
          have c0 : (0 : Int) ≤ c := by omega
          have c1 : (c : Int) ≤ 127 := by omega
          have HC := hid (HTR2.out c)
          rw [show decide (1 ≤ c) = true by simpa using hc1] at HC
          have HNEXT := hid (any_range_succ (p := tryG (condI r) r s l f) (c := c) HT.out)
          have HAT := hid (any_range_at (p := tryG (condI r) r s l f) (c := c) (n := p) hlt)
          have HRI := hid (HX1.out.later hbel)
          have HRL := hid (HX2.out.later hbel)
          have hfr := fullF_has HIR.out c0 c1 (by rw [HN1.out]; exact hr)
          have HF := hid (show 0 ≤ fullF r (c : Int) ∧ fullF r (c : Int) ≤ 127 from ⟨hfr.1, hfr.2.1⟩)
          have HRINR := hid (restF_in HIN.out (c := (c : Int)) HF.out.1 HF.out.2)
          have HRLEN := hid (length_restF l (c : Int) (fullF r (c : Int)))
          clear hfr
          cases hq1 : (bits .and .i64 ((c : Int) / 2 ^ f) 1 == 0) with
          | true =>
            have HE := hid (HNEXT.out (by rw [HC.out, hq1]; rfl))
            clear HNEXT HAT HC
            go_wp2_with (go_at_call 206; refine (full_any _ r _ _ HRI.out (by rw [HN1.out]; exact hr)).mono ?_; rintro e w2 ⟨rfl, rfl⟩)
            go_roundw
            case rel => exact ⟨c+1, by omega, by omega, by go_num, HE, hbel⟩
            case measure => simp [intOf]; omega
          | false =>
            cases hq2 : (bits .and .i64 (fullF r (c : Int)) y == 0) with
            | true =>
              have HE := hid (HNEXT.out (by rw [HC.out, hq1, hq2]; rfl))
              clear HNEXT HAT HC
              go_wp2_with (go_at_call 206; refine (full_any _ r _ _ HRI.out (by rw [HN1.out]; exact hr)).mono ?_; rintro e w2 ⟨rfl, rfl⟩)
              go_roundw
              case rel => exact ⟨c+1, by omega, by omega, by go_num, HE, hbel⟩
              case measure => simp [intOf]; omega
            | false =>
              have HCV := hid (show tryG (condI r) r s l f c = covI r s (restF l (c : Int) (fullF r (c : Int))) by rw [HC.out, hq1, hq2]; rfl)
              have HGET : Hid (∀ k, k < n2 → (restF l (c : Int) (fullF r (c : Int))).getD k 0 = if bits .and .i64 ((c : Int) / 2 ^ k) 1 == 1 then bits .andNot .i64 (l.getD k 0) (fullF r (c : Int)) else l.getD k 0) := hid fun k hk => getD_restF (by rw [HN2.out]; exact hk)
              clear HC
              go_wp2_with (first | (go_at_call 206; refine (full_any _ r _ _ HRI.out (by rw [HN1.out]; exact hr)).mono ?_; rintro e w2 ⟨rfl, rfl⟩))
              refine (CloneI_any _ l _ HRL.out (by rw [HN2.out]; omega)).mono ?_
              rintro e w2 ⟨v, rfl, ho, hb⟩
              obtain ⟨g, cap, rfl, hg1, hg2⟩ := ho.shape HN2.out (by omega)
              have hgB : w.heap.size ≤ g := Nat.le_trans hbel.size hg1
              have HO := hid (ho.mono hbel.size)
              have hbel2 := hbel.trans (hb.mono hbel.size)
              clear ho hb hbel hg1 hg2
              generalize fullF r (c : Int) = bars at *
              generalize restF l (c : Int) bars = rest at *
              go_wp2
              go_loopw [12, 54] (fun _ ii wr => ∃ k : Nat, k ≤ n2 ∧ ii = .int .i64 k ∧ Hid (OwnI wr w.heap.size (.slice (some ⟨g, 0, none⟩) n2 cap) (rest.take k ++ l.drop k)) ∧ Below w.heap.size w wr) (fun _ ii _ => n2 - (intOf ii).toNat)
              case atStart => exact ⟨0, by omega, rfl, hid (by simpa using HO.out), hbel2⟩
              case round =>
                obtain ⟨k, hk, rfl, HO3, hbel3⟩ := hrel
                clear HO hbel2
                by_cases hkn : k < n2
                · have HG := hid (HGET.out k hkn)
                  have HM := hid (mix_get (xs := l) (ys := rest) (k := k) HRLEN.out (by rw [HN2.out]; exact hkn))
                  have HLM := hid ((length_mix (xs := l) (ys := rest) (k := k) HRLEN.out (by rw [HN2.out]; omega)).trans HN2.out)
                  have HST := hid (fun z => mix_set (xs := l) (ys := rest) (k := k) (x := z) HRLEN.out (by rw [HN2.out]; exact hkn))
                  have HSM := hid (mix_same (xs := l) (ys := rest) (k := k) HRLEN.out (by rw [HN2.out]; exact hkn))
                  have hcA := HO3.out.cell HLM.out hkn
                  rw [HM.out] at hcA
                  have hfA := HO3.out.free HLM.out k
                  have hk0 : (0 : Int) ≤ k := by omega
                  have hk1 : (k : Int) < n2 := by omega
                  cases hbit : (bits .and .i64 ((c : Int) / 2 ^ k) 1 == 1) with
                  | true =>
                    rw [hbit] at HG
                    have HG2 := hid (HST.out _ HG.out)
                    clear HST HSM HG HGET
                    generalize l.getD k 0 = z at *
                    obtain ⟨hs1, hs2⟩ := HO3.out.set HLM.out k _ HG2.out
                    have HS := hid hs1
                    have HB := hid (hbel3.setCell (p := ⟨g, k, none⟩) hgB (.int .i64 (bits .andNot .i64 z bars)))
                    clear hs1 hs2 HO3 hbel3
                    go_wp2
                    go_roundw
                    case rel => exact ⟨k+1, by omega, by go_num, HS, HB.out⟩
                    case measure => simp [intOf]; omega
                  | false =>
                    rw [hbit] at HG
                    have HG2 := hid (HSM.out HG.out)
                    clear HST HSM HG HGET
                    go_wp2
                    go_roundw
                    case rel => exact ⟨k+1, by omega, by go_num, by rw [← HG2.out]; exact HO3, hbel3⟩
                    case measure => simp [intOf]; omega
                · have ho := HO3.out
                  have hkn2 : k = n2 := by omega
                  rw [List.take_of_length_le (by rw [HRLEN.out, HN2.out]; omega), List.drop_of_length_le (by rw [HN2.out]; omega), List.append_nil] at ho
                  have HO4 := hid ho.ints
                  have HR4 := hid (HX1.out.later hbel3)
                  clear ho HO3 hkn2
                  cases hcv : covI r s rest with
                  | true =>
                    have HE := hid (HAT.out (by rw [HCV.out, hcv]))
                    go_wp2_with fail
                    refine (IH.out _ _ rest _ HR4.out HO4.out (by rw [HRLEN.out]; exact HLL.out) HRINR.out (by omega)).mono ?_
                    rintro e w3 ⟨rfl, hb3⟩
                    rw [hcv]
                    go_wp2
                    go_ret
                    exact ⟨ret_bool (by rw [HR.out, HE.out]), hbel3.trans (hb3.mono hbel3.size)⟩
                  | false =>
                    have HE := hid (HNEXT.out (by rw [HCV.out, hcv]))
                    go_wp2_with fail
                    refine (IH.out _ _ rest _ HR4.out HO4.out (by rw [HRLEN.out]; exact HLL.out) HRINR.out (by omega)).mono ?_
                    rintro e w3 ⟨rfl, hb3⟩
                    rw [hcv]
                    go_wp2
                    go_roundw
                    case rel => exact ⟨c+1, by omega, by omega, by go_num, HE, hbel3.trans (hb3.mono hbel3.size)⟩
                    case measure => simp [intOf]; omega
        · have hcI : ¬ ((c : Int) < 2 ^ n2) := by rw [← HPC.out]; omega
          have hcp2 : c = p := by omega
          rw [hcp2] at HT
          go_wp2
          go_ret
          exact ⟨ret_bool (by rw [HR.out, HT.out]), hbel⟩

end Go.Proofs.Ytfgjaefcfmjleaa
