import Derived.Test.YtfgjaefcfmjleaaTimes
import Derived.Deep.RegionWith
namespace Go.Proofs.Ytfgjaefcfmjleaa
open Go.RowKit

/-! ## TimesLike -/
def likeB (c : Int) : Bool := (c == -1) || cellB c
def likeTo (xs ys : List Int) : Nat → Bool
  | 0 => true
  | k+1 => likeTo xs ys k && ((xs.getD k 0 == -1) || (xs.getD k 0 == ys.getD k 0))
def likeT (xs : List Int) (t : Int) : Bool := likeTo xs (rowT t) 4
theorem likeTo_false {xs ys : List Int} {k : Nat} (h : likeTo xs ys k = false) (m : Nat) : likeTo xs ys (k+m) = false := by
  induction m with
  | zero => exact h
  | succ m ih => rw [← Nat.add_assoc]; simp [likeTo, ih]
theorem likeTo_four {xs ys : List Int} {k : Nat} (hk : k < 4) (h1 : (xs.getD k 0 == -1) = false) (h2 : (xs.getD k 0 == ys.getD k 0) = false) : likeTo xs ys 4 = false := by
  have := likeTo_false (xs := xs) (ys := ys) (k := k+1) (by simp only [likeTo, h1, h2, Bool.or_false, Bool.and_false]) (4 - (k+1))
  rwa [show k + 1 + (4 - (k+1)) = 4 by omega] at this
theorem all_badI {xs : List Int} {q : Int → Bool} {i : Nat} (hi : i < xs.length) (h : q (xs.getD i 0) = false) : xs.all q = false := by
  rw [List.all_eq_false]
  refine ⟨xs[i], List.getElem_mem hi, ?_⟩
  have e : xs.getD i 0 = xs[i] := by simp [List.getD, hi]
  rw [e] at h
  simp [h]
theorem all_goodI {xs : List Int} {q : Int → Bool} (h : ∀ i, i < xs.length → q (xs.getD i 0) = true) : xs.all q = true := by
  rw [List.all_eq_true]
  intro x hx
  obtain ⟨i, hi, rfl⟩ := List.mem_iff_getElem.1 hx
  have := h i hi
  have e : xs.getD i 0 = xs[i] := by simp [List.getD, hi]
  rwa [e] at this
def likeR (xs : List Int) : List Int × Bool := if decide (xs.length = 4) && xs.all likeB then (timesTo (likeT xs) 1440, true) else ([], false)
theorem likeR_len4 {xs : List Int} (h : xs.length ≠ 4) : likeR xs = ([], false) := by simp [likeR, h]
theorem likeR_all {xs : List Int} (h : xs.all likeB = false) : likeR xs = ([], false) := by simp [likeR, h]
theorem likeR_yes {xs : List Int} (h : xs.length = 4) (h' : xs.all likeB = true) : likeR xs = (timesTo (likeT xs) 1440, true) := by simp only [likeR, h, h', decide_true, Bool.and_self, if_true]
theorem likeR_len (xs : List Int) : (likeR xs).1.length ≤ 1048576 := by
  unfold likeR
  split
  · have := timesTo_len (likeT xs) 1440
    simp only
    omega
  · simp

set_option maxHeartbeats 2000000 in
theorem likeClosure1_any (c : Int) (w : World) :
    Calls Try.prog 173 #[.int .i64 c] w fun e w' => e = .returned (.bool (likeB c)) ∧ w = w' := by
  have HL := hid (show likeB c = ((c == -1) || cellB c) from rfl)
  cases hc : (c == -1) with
  | true =>
    go_enter Try.func173, Try.ntmps173
    go_wp2_with (go_at_call 139; refine (IsCell_any _ _).mono ?_; rintro e w1 ⟨rfl, rfl⟩)
    go_ret
    exact ⟨ret_bool (by rw [HL.out, hc]; rfl), rfl⟩
  | false =>
    go_enter Try.func173, Try.ntmps173
    go_wp2_with (go_at_call 139; refine (IsCell_any _ _).mono ?_; rintro e w1 ⟨rfl, rfl⟩)
    go_ret
    exact ⟨ret_bool (by rw [HL.out, hc]; rfl), rfl⟩
theorem enterLike1 (args : Array Value) (w : World) : (callFunc 173 args).run Try.prog w = .ok (.enter 173 args) w := by kernel_rfl
theorem enterLike2 (args : Array Value) (w : World) : (callFunc 175 args).run Try.prog w = .ok (.enter 175 args) w := by kernel_rfl

set_option maxHeartbeats 4000000 in
theorem likeClosure2_any (t : Int) (v1 : Value) (xs : List Int) (ad : Addr) (w : World) (h0 : 0 ≤ t) (h1 : t ≤ 1439) (had : w.cell? ad = some v1) (hlt : ad.block < w.heap.size) (hx : Ints w v1 xs) (hl : xs.length = 4) :
    Calls Try.prog 175 #[.int .i64 t, .pointer (some ad)] w fun e w' => e = .returned (.bool (likeT xs t)) ∧ Below w.heap.size w w' := by
  obtain ⟨b, o, sp⟩ := ad
  have HX := hid hx
  have HL := hid hl
  clear hx hl
  have HT := hid (show likeT xs t = likeTo xs (rowT t) 4 from rfl)
  go_enter Try.func175, Try.ntmps175
  go_wp2_with fail
  refine (clockRow_any _ _ h0 h1).mono ?_
  rintro e w1 ⟨v, rfl, ho, hb⟩
  have HI := hid ho.ints
  clear ho
  have had1 := (hb.cell (by exact hlt)).trans had
  have HX1 := hid (HX.out.later hb)
  clear had HX
  obtain ⟨n, ao1, cap1, b1, o1, HN, rfl, ha1, hc1, hn1, hm1, HX2⟩ := HX1.out.open_
  have hn4 : n = 4 := HN.out.symm.trans HL.out
  subst hn4
  obtain ⟨m, ao2, cap2, b2, o2, HM, rfl, ha2, hc2, hn2, hm2, HX3⟩ := HI.out.open_
  have hm4 : m = 4 := HM.out.symm.trans (length_rowT t)
  subst hm4
  obtain ⟨rfl, hb1⟩ := ha1 (by omega)
  obtain ⟨rfl, hb2⟩ := ha2 (by omega)
  clear ha1 ha2
  generalize rowT t = ys at *
  go_wp2
  go_loop [4, 5, 9] (fun _ _ ii => ∃ k : Nat, k ≤ 4 ∧ ii = .int .i64 k ∧ Hid (likeTo xs ys k = true)) (fun _ _ ii => 4 - (intOf ii).toNat)
  case atStart => exact ⟨0, by omega, rfl, hid rfl⟩
  case round =>
    obtain ⟨k, hk, rfl, HK⟩ := hrel
    by_cases hlt2 : k < 4
    · have e1 : w1.cell? ⟨b1, o1+k, none⟩ = some (.int .i64 (xs.getD k 0)) := hc1 k hlt2
      have e2 : w1.cell? ⟨b2, o2+k, none⟩ = some (.int .i64 (ys.getD k 0)) := hc2 k hlt2
      have HS := hid (show likeTo xs ys (k+1) = (likeTo xs ys k && ((xs.getD k 0 == -1) || (xs.getD k 0 == ys.getD k 0))) from rfl)
      have HF := hid (likeTo_four (xs := xs) (ys := ys) hlt2)
      clear hc1 hc2
      generalize xs.getD k 0 = x at e1 HS HF
      generalize ys.getD k 0 = y at e2 HS HF
      cases hxm : (x == -1) with
      | true =>
        have hxn : (x != -1) = false := by simp [bne, hxm]
        have HR := hid (show likeTo xs ys (k+1) = true by rw [HS.out, HK.out, hxm]; rfl)
        clear HS HF
        go_wp2
        go_round
        case rel => exact ⟨k+1, by omega, by go_num, HR⟩
        case measure => simp [intOf]; omega
      | false =>
        have hxn : (x != -1) = true := by simp [bne, hxm]
        cases hxy : (x == y) with
        | true =>
          have hyn : (x != y) = false := by simp [bne, hxy]
          have HR := hid (show likeTo xs ys (k+1) = true by rw [HS.out, HK.out, hxm, hxy]; rfl)
          clear HS HF
          go_wp2
          go_round
          case rel => exact ⟨k+1, by omega, by go_num, HR⟩
          case measure => simp [intOf]; omega
        | false =>
          have hyn : (x != y) = true := by simp [bne, hxy]
          have HR := hid (HF.out hxm hxy)
          clear HS HF
          go_wp2
          go_ret
          exact ⟨ret_bool (by rw [HT.out, HR.out]), hb⟩
    · have hk4 : k = 4 := by omega
      subst hk4
      go_wp2
      go_ret
      exact ⟨ret_bool (by rw [HT.out, HK.out]), hb⟩

set_option maxRecDepth 100000 in
set_option maxHeartbeats 2000000 in
theorem implTimesLike_any (v1 : Value) (xs : List Int) (w : World) (h1 : Ints w v1 xs) :
    Calls Try.prog 62 #[v1] w fun e w' => ∃ v, e = .returned (.tuple #[v, .bool (likeR xs).2]) ∧ OwnI w' w.heap.size v (likeR xs).1 ∧ Below w.heap.size w w' := by
  obtain ⟨n, ao1, cap1, b1, o1, HN, rfl, ha1, hc1, hn1, hm1, HX⟩ := h1.open_
  clear ha1 hc1 h1
  obtain ⟨v1, hv1⟩ : ∃ v, v = Value.slice ao1 n cap1 := ⟨_, rfl⟩
  have HB := hid ((Below.refl w.heap.size w).alloc (Nat.le_refl _) (.cells #[.slice ao1 n cap1] 24))
  have HP : Hid ((w.alloc (.cells #[.slice ao1 n cap1] 24)).cell? ⟨w.heap.size, 0, none⟩ = some (.slice ao1 n cap1)) := hid (by simp [go_sem])
  have HI := hid (HX.out.later HB.out)
  clear hv1
  by_cases h4 : n = 4
  · have hb4 : ((n : Int) != 4) = false := by simp; omega
    have HL := hid (HN.out.trans h4)
    clear h4
    cases hall : xs.all likeB with
    | false =>
      rw [likeR_all hall]
      go_enter Try.func62, Try.ntmps62
      go_wp2_with fail
      refine (areAllI_any _ xs _ #[] likeB _ HI.out enterLike1 ?_).mono ?_
      · intro w' _ i _
        exact (likeClosure1_any _ w').mono fun e w'' ⟨he, hw⟩ => ⟨he, hw ▸ Below.refl _ _⟩
      rintro e w1 ⟨rfl, hb⟩
      rw [hall]
      go_wp2
      go_ret2
      exact ⟨_, rfl, OwnI.nil _ _, HB.out.trans (hb.mono HB.out.size)⟩
    | true =>
      rw [likeR_yes HL.out hall]
      go_enter Try.func62, Try.ntmps62
      go_wp2_with fail
      refine (areAllI_any _ xs _ #[] likeB _ HI.out enterLike1 ?_).mono ?_
      · intro w' _ i _
        exact (likeClosure1_any _ w').mono fun e w'' ⟨he, hw⟩ => ⟨he, hw ▸ Below.refl _ _⟩
      rintro e w1 ⟨rfl, hb⟩
      rw [hall]
      have HB1 := hid (HB.out.trans (hb.mono HB.out.size))
      have HP1 := hid ((hb.cell (by simp)).trans HP.out)
      have HI1 := hid (HI.out.later hb)
      have HZ := hid (Nat.lt_of_lt_of_le (show w.heap.size < (w.alloc (.cells #[.slice ao1 n cap1] 24)).heap.size by simp) hb.size)
      clear hb
      go_wp2_with fail
      refine (times_any 175 #[.pointer (some ⟨w.heap.size, 0, none⟩)] (likeT xs) _ enterLike2 ?_).mono ?_
      · intro t ht w' hb
        exact likeClosure2_any (t : Int) _ xs ⟨w.heap.size, 0, none⟩ w' (by omega) (by omega) ((hb.cell (by exact HZ.out)).trans HP1.out) (Nat.lt_of_lt_of_le HZ.out hb.size) (HI1.out.later hb) HL.out
      · rintro e w2 ⟨v, rfl, ho, hb⟩
        have HO := hid (ho.mono HB1.out.size)
        clear ho
        go_wp2
        go_ret2
        exact ⟨_, rfl, HO.out, HB1.out.trans (hb.mono HB1.out.size)⟩
  · have hb4 : ((n : Int) != 4) = true := by simp; omega
    rw [likeR_len4 (by rw [HN.out]; exact h4)]
    go_enter Try.func62, Try.ntmps62
    go_wp2_with fail
    go_ret2
    exact ⟨_, rfl, OwnI.nil _ _, HB.out⟩

set_option maxRecDepth 100000 in
set_option maxHeartbeats 4000000 in
theorem specTimesLike_any (v1 : Value) (xs : List Int) (w : World) (h1 : Ints w v1 xs) :
    Calls Try.prog 63 #[v1] w fun e w' => ∃ v, e = .returned (.tuple #[v, .bool (likeR xs).2]) ∧ OwnI w' w.heap.size v (likeR xs).1 ∧ Below w.heap.size w w' := by
  obtain ⟨n, ao1, cap1, b1, o1, HN, rfl, ha1, hc1, hn1, hm1, HX⟩ := h1.open_
  clear h1
  have HB := hid ((Below.refl w.heap.size w).alloc (Nat.le_refl _) (.cells #[] 3))
  have HO0 := hid (OwnI.lit0 w w.heap.size (Nat.le_refl _))
  by_cases h4 : n = 4
  · subst h4
    obtain ⟨rfl, hb1⟩ := ha1 (by omega)
    have HC1 : Hid (∀ w', Below w.heap.size w w' → ∀ k, k < 4 → w'.cell? ⟨b1, o1+k, none⟩ = some (.int .i64 (xs.getD k 0))) := hid fun w' hb k hk => (hb.cell (by exact hb1)).trans (hc1 k hk)
    clear hc1 ha1
    go_enter Try.func63, Try.ntmps63
    go_wp2
    go_loop [5] (fun ii => ∃ k : Nat, k ≤ 4 ∧ ii = .int .i64 k ∧ Hid (∀ i, i < k → likeB (xs.getD i 0) = true)) (fun ii => 4 - (intOf ii).toNat)
    case atStart => exact ⟨0, by omega, rfl, hid (fun i h => absurd h (Nat.not_lt_zero i))⟩
    case round =>
      obtain ⟨k, hk, rfl, HK⟩ := hrel
      by_cases hlt : k < 4
      · have e1 := HC1.out _ HB.out k hlt
        have HBAD := hid (all_badI (xs := xs) (q := likeB) (i := k) (by rw [HN.out]; exact hlt))
        obtain ⟨x, hx⟩ : ∃ x, xs.getD k 0 = x := ⟨_, rfl⟩
        rw [hx] at e1 HBAD
        have HXX := hid hx
        clear hx
        have hgood : likeB x = true → Hid (∀ i, i < k + 1 → likeB (xs.getD i 0) = true) := fun hq => hid (fun i hi => by
          by_cases e : i = k
          · subst e; rw [HXX.out]; exact hq
          · exact HK.out i (by omega))
        have HG := hid hgood
        clear hgood
        cases hxm : (x == -1) with
        | true =>
          have hxn : (x != -1) = false := by simp [bne, hxm]
          have HR := HG.out (by simp only [likeB, hxm, Bool.true_or])
          clear HG HBAD
          go_wp2_with (go_at_call 140; refine (l2Cell_any _ _).mono ?_; rintro e w1 ⟨rfl, rfl⟩)
          go_round
          case rel => exact ⟨k+1, by omega, by go_num, HR⟩
          case measure => simp [intOf]; omega
        | false =>
          have hxn : (x != -1) = true := by simp [bne, hxm]
          cases hcell : cellB x with
          | true =>
            have HR := HG.out (by simp only [likeB, hxm, hcell, Bool.false_or])
            clear HG HBAD
            go_wp2_with (go_at_call 140; refine (l2Cell_any _ _).mono ?_; rintro e w1 ⟨rfl, rfl⟩)
            go_round
            case rel => exact ⟨k+1, by omega, by go_num, HR⟩
            case measure => simp [intOf]; omega
          | false =>
            have HR := hid (likeR_all (HBAD.out (by simp only [likeB, hxm, hcell, Bool.false_or])))
            clear HG HBAD
            go_wp2_with (go_at_call 140; refine (l2Cell_any _ _).mono ?_; rintro e w1 ⟨rfl, rfl⟩)
            go_ret2
            rw [HR.out]
            exact ⟨_, rfl, HO0.out, HB.out⟩
      · have hk4 : k = 4 := by omega
        rw [hk4] at HK
        have HR := hid (likeR_yes HN.out (all_goodI (by rw [HN.out]; exact HK.out)))
        clear HK
        obtain ⟨q, hq⟩ : ∃ q : Int → Bool, likeT xs = q := ⟨_, rfl⟩
        rw [hq] at HR
        have HQ : Hid (∀ t, q t = likeTo xs (rowT t) 4) := hid (fun t => by rw [← hq]; rfl)
        clear hq
        go_wp2
        go_loopw [4, 6, 7, 8, 9] (fun oo tt _ _ _ wr => ∃ t : Nat, t ≤ 1440 ∧ tt = .int .i64 t ∧ Hid (OwnI wr w.heap.size oo (timesTo q t)) ∧ Below w.heap.size w wr) (fun _ tt _ _ _ _ => 1440 - (intOf tt).toNat)
        case atStart => exact ⟨0, by omega, rfl, HO0, HB.out⟩
        case round =>
          obtain ⟨t, ht, rfl, HO, hbel⟩ := hrel
          by_cases hlt : t < 1440
          · have HYES := hid (timesTo_yes (q := q) (k := t))
            have HNO := hid (timesTo_no (q := q) (k := t))
            have hl := timesTo_len q t
            have HQT := hid (HQ.out (t : Int))
            have ht0 : (0 : Int) ≤ t := by omega
            have ht1 : (t : Int) ≤ 1439 := by omega
            have ht2 : (t : Int) < 1440 := by omega
            go_wp2_with fail
            refine (l6Row_any _ _ ht0 ht1).mono ?_
            rintro e w2 ⟨v, rfl, ho, hb⟩
            have HI := hid ho.ints
            have HO1 := hid (HO.out.later hb)
            have hbel1 := hbel.trans (hb.mono hbel.size)
            have HC2 := hid (HC1.out _ hbel1)
            clear ho hb hbel HO
            obtain ⟨m, ao2, cap2, b2, o2, HM, rfl, ha2, hc2, hn2, hm2, HX3⟩ := HI.out.open_
            have hm4 : m = 4 := HM.out.symm.trans (length_rowT t)
            subst hm4
            obtain ⟨rfl, hb2⟩ := ha2 (by omega)
            have HC3 := hid hc2
            clear ha2 hc2
            generalize rowT t = ys at *
            go_wp2
            go_loopw [8, 9] (fun ss ii wr => ∃ k m : Nat, k ≤ 4 ∧ ii = .int .i64 k ∧ ss = .bool (likeTo xs ys k) ∧ wr = w2.drewN m) (fun _ ii _ => 4 - (intOf ii).toNat)
            case atStart => exact ⟨0, 0, by omega, rfl, rfl, rfl⟩
            case round =>
              obtain ⟨k, m, hk, rfl, rfl, rfl⟩ := hrel
              by_cases hlt2 : k < 4
              · have e1 := HC2.out k hlt2
                have e2 := HC3.out k hlt2
                have HS := hid (show likeTo xs ys (k+1) = (likeTo xs ys k && ((xs.getD k 0 == -1) || (xs.getD k 0 == ys.getD k 0))) from rfl)
                generalize xs.getD k 0 = x at e1 HS
                generalize ys.getD k 0 = y at e2 HS
                generalize likeTo xs ys k = s at HS
                have hk0 : (0 : Int) ≤ k := by omega
                have hk1 : (k : Int) < 4 := by omega
                cases s
                · have HR := hid (show likeTo xs ys (k+1) = false from HS.out)
                  clear HS
                  go_wp2
                  go_quiet (fail)
                  go_wp2
                  go_roundw
                  case rel => exact ⟨k+1, m + nq, by omega, by go_num, by rw [HR.out], by simp⟩
                  case measure => simp [intOf]; omega
                · cases hxm : (x == -1) with
                  | true =>
                    have HR := hid (show likeTo xs ys (k+1) = true by rw [HS.out, hxm]; rfl)
                    clear HS
                    go_wp2
                    go_quiet (fail)
                    go_wp2
                    go_roundw
                    case rel => exact ⟨k+1, m + nq, by omega, by go_num, by rw [HR.out], by simp⟩
                    case measure => simp [intOf]; omega
                  | false =>
                    have HR := hid (show likeTo xs ys (k+1) = (x == y) by rw [HS.out, hxm]; rfl)
                    clear HS
                    go_wp2
                    go_quiet (fail)
                    go_wp2
                    go_roundw
                    case rel => exact ⟨k+1, m + nq, by omega, by go_num, by rw [HR.out], by simp⟩
                    case measure => simp [intOf]; omega
              · have hk4 : k = 4 := by omega
                rw [hk4]
                rw [← HQT.out]
                have HO2 := hid (HO1.out.drawn m)
                have hbel2 := below_drewN hbel1 m
                clear HO1 hbel1 HC2 HC3
                obtain ⟨w3, hw3⟩ : ∃ w3, w3 = w2.drewN m := ⟨_, rfl⟩
                rw [← hw3] at HO2 hbel2 ⊢
                clear hw3
                cases hqt : q (t : Int) with
                | true =>
                  have HE := hid (HYES.out hqt)
                  clear HYES HNO HQT hqt
                  go_wp2_with (at_builtin; refine wpList_appendI w3 rfl _ _ rfl w.heap.size _ _ HO2.out rfl (t : Int) rfl (by omega) hbel2.size ?_; intro v' w4 ho' _ hb' _)
                  rw [← HE.out] at ho'
                  have HO' := hid ho'
                  have hbel' := hbel2.trans hb'
                  clear ho' HO2 hb' hbel2
                  go_wp2
                  go_roundw
                  case rel => exact ⟨t+1, by omega, by go_num, HO', hbel'⟩
                  case measure => simp [intOf]; omega
                | false =>
                  have HE := hid (HNO.out hqt)
                  clear HYES HNO HQT hqt
                  go_wp2
                  go_roundw
                  case rel => exact ⟨t+1, by omega, by go_num, by rw [HE.out]; exact HO2, hbel2⟩
                  case measure => simp [intOf]; omega
          · obtain rfl : t = 1440 := by omega
            go_wp2
            go_ret2
            rw [HR.out]
            exact ⟨_, rfl, HO.out, hbel⟩
  · have hb4 : ((n : Int) != 4) = true := by simp; omega
    rw [likeR_len4 (by rw [HN.out]; exact h4)]
    go_enter Try.func63, Try.ntmps63
    go_wp2_with fail
    go_ret2
    exact ⟨_, rfl, HO0.out, HB.out⟩

end Go.Proofs.Ytfgjaefcfmjleaa
