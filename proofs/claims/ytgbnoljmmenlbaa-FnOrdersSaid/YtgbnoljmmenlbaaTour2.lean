import Derived.Test.YtgbnoljmmenlbaaTour
namespace Go.Proofs.Ytgbnoljmmenlbaa
open Go.RowKit Go.Maps

/-! ## (*tour).rest -/
def cntW : Nat → Nat
  | 0 => 0
  | m+1 => 1 + 10 * cntW m
def baseB (back : Int) (a : Int) : Int := if back < 0 then 0 else dd a back
theorem baseB_range (back a : Int) : 0 ≤ baseB back a ∧ baseB back a ≤ 7 := by
  unfold baseB
  have := dd_range a back
  split <;> omega
def tourF (own : List Int) (back : Int) (s l : Nat) : Int := restI dd own (baseB back) s l
theorem tourF_range (own : List Int) (hn : own.length ≤ 10) (back : Int) (s l : Nat) : 0 ≤ tourF own back s l ∧ tourF own back s l ≤ 77 := by
  have h1 := rest_nonneg dd (fun a b => (dd_range a b).1) (baseB back) (fun a => (baseB_range back a).1) (remO own s).length (remO own s) (own.getD l 0) rfl
  have h2 := rest_bound dd (fun a b => (dd_range a b).1) (fun a b => (dd_range a b).2) (baseB back) (fun a => (baseB_range back a).1) (fun a => (baseB_range back a).2) (remO own s).length (remO own s) (own.getD l 0) rfl
  have h3 := remO_len own s
  unfold tourF restI
  omega
theorem full_wrap {n : Nat} (hn : n ≤ 10) : wrap64 (wrap64 ((2 : Int) ^ n) - 1) = ((2 ^ n - 1 : Nat) : Int) := by
  rw [← IntWalk.i64_left ((2 : Int) ^ n), shl_nat (by omega), ← IntWalk.i64_left]
  have h : (2 : Nat) ^ n ≤ 2 ^ 10 := Nat.pow_le_pow_right (by omega) hn
  have h0 : 0 < (2 : Nat) ^ n := Nat.pos_of_ne_zero (by simp)
  generalize (2 : Nat) ^ n = q at h h0
  rw [show ((q : Int) - 1) = ((q - 1 : Nat) : Int) by omega]
  exact IntWalk.i64_in _ (by omega)

theorem bit_zero {s k : Nat} (h : s < 4611686018427387904) : (bits .and .i64 ((s : Int) / 2 ^ k) 1 == 0) = !s.testBit k := by
  have hd : (s : Int) / 2 ^ k = ((s / 2 ^ k : Nat) : Int) := by simp
  have hlt : s / 2 ^ k < 4611686018427387904 := Nat.lt_of_le_of_lt (Nat.div_le_self _ _) h
  rw [hd, Nat.testBit_eq_decide_div_mod_eq]
  generalize s / 2 ^ k = a at hlt
  have e1 : (BitVec.ofInt 64 (a : Int)) = BitVec.ofNat 64 a := by simp
  have e : bits .and .i64 (a : Int) 1 = ((a % 2 : Nat) : Int) := by
    show IntKind.i64.wrap (((BitVec.ofInt 64 (a : Int)) &&& (BitVec.ofInt 64 1)).toNat : Int) = _
    rw [e1, BitVec.toNat_and, BitVec.toNat_ofNat, Nat.mod_eq_of_lt (by omega)]
    rw [show (BitVec.ofInt 64 1).toNat = 1 from rfl, Nat.and_one_is_mod]
    exact IntWalk.i64_in _ (by omega)
  rw [e, Bool.eq_iff_iff]
  simp
  omega
theorem cnt_le {n i m : Nat} (hn : n ≤ 10) (hi : i ≤ n) : i * cntW m + 1 ≤ cntW (m+1) := by
  have : i * cntW m ≤ 10 * cntW m := Nat.mul_le_mul_right _ (by omega)
  simp only [cntW]
  omega
theorem wpList_mapUpdate_run {P : Program} (w w2 : World) {ops : Array Oper} {rest : List Oper} {o : Oper} {a : Act} {Q : Exit → Act → World → Prop}
    (hg : o.guard = none) (m x v : Operand) (t : TypeId) (hop : o.op = Op.mapUpdate t m x v) (mv key val : Value) (hm : a.eval m = mv) (hx : a.eval x = key) (hv : a.eval v = val)
    (hrun : (Instr.mapUpdate t mv key val).run P w = .ok () w2) (hK : wpList P ops Q rest (a.put o.dst undef) w2) : wpList P ops Q (o :: rest) a w := by
  refine wpList_plain hg fun K' hK' => ?_
  unfold Oper.wp
  simp [execOp, hop, hm, hx, hv, hrun, Result.andThen]
  exact hK' _ _ hK
theorem bestI_range (own : List Int) (hn : own.length ≤ 10) (back : Int) (s l k : Nat) : -1 ≤ bestI dd own (baseB back) s l k ∧ bestI dd own (baseB back) s l k ≤ 1000 := by
  induction k with
  | zero => simp [bestI]
  | succ k ih =>
    cases h : s.testBit k with
    | true => rw [bestI_no dd h]; exact ih
    | false =>
      rw [bestI_yes dd h]
      have h1 := dd_range (own.getD l 0) (own.getD k 0)
      have h2 := tourF_range own hn back (s ||| 2 ^ k) k
      unfold tourF at h2
      unfold lesser
      split <;> omega

set_option maxRecDepth 100000 in
set_option maxHeartbeats 4000000 in
theorem rest_any (tb bm n cap : Nat) (ao : Option Addr) (own : List Int) (back : Int) (hn : n ≤ 10) (hnd : own.Nodup) (hd : ∀ i, i < own.length → dig9 (own.getD i 0) = true) (hback : back = -1 ∨ dig9 back = true) :
    ∀ (m s l k : Nat) (w : World), (remO own s).length = m → s < 2 ^ n → l < n → TourS w tb bm n cap ao own back → Memo w bm k (tourF own back) → k + cntW m < 1099511627776 →
    Calls Try.prog 58 #[.pointer (some ⟨tb, 0, none⟩), .int .i64 s, .int .i64 l] w fun e w' => e = .returned (.int .i64 (tourF own back s l)) ∧ w.grownBy w' (some bm) ∧ Memo w' bm (k + cntW m) (tourF own back) := by
  intro m
  induction m with
  | zero =>
    intro s l k w hm hs hl hT hM _
    have hnil : remO own s = [] := List.length_eq_zero_iff.1 hm
    obtain ⟨n', ao1, cap1, b1, o1, HN, he, ha1, hc1, hn1, hm1, HX⟩ := hT.ints.open_
    simp only [Value.slice.injEq] at he
    obtain ⟨rfl, rfl, rfl⟩ := he
    have hfull : s = 2 ^ n - 1 := by
      have := remO_nil (own := own) (s := s) (by rw [HN.out]; exact hs) hnil
      rw [HN.out] at this
      exact this
    have HF := hid (show tourF own back s l = baseB back (own.getD l 0) by unfold tourF restI; rw [hm, hnil]; rfl)
    have hs10 : s < 2 ^ 10 := Nat.lt_of_lt_of_le hs (Nat.pow_le_pow_right (by omega) hn)
    have hfw := full_wrap hn
    rw [← hfull] at hfw
    have hee : ((s : Int) == s) = true := by simp
    obtain ⟨rfl, hb1⟩ := ha1 (by omega)
    have c0 := hT.c0
    have cb := hT.cb
    have e1 := hc1 l hl
    obtain ⟨p, hp, hp10⟩ := nat_digit (hd l (by rw [HN.out]; exact hl))
    rw [hp] at e1 HF
    have HM := hid hM
    have hl0 : (0 : Int) ≤ l := by omega
    have hlI : (l : Int) < n := by omega
    have hp0 : (0 : Int) ≤ p := by omega
    have hpI : (p : Int) < 10 := by omega
    clear hc1 ha1 hm hnil hfull
    rcases hback with hbk | hbk
    · subst hbk
      clear hT HX
      go_enter Try.func58, Try.ntmps58
      go_wp2
      go_ret
      exact ⟨ret_int (by rw [HF.out]; rfl), World.grownBy.refl _ _, HM.out.mono (by omega)⟩
    · obtain ⟨q, rfl, hq10⟩ := nat_digit hbk
      have ct := hT.ct p q hp10 hq10
      have HB := hid (show baseB (q : Int) (p : Int) = dd p q by unfold baseB; rw [if_neg (by omega)])
      generalize dd (p : Int) (q : Int) = f0 at *
      have hq0 : (0 : Int) ≤ q := by omega
      have hqn : ¬ ((q : Int) < 0) := by omega
      have hqI : (q : Int) < 10 := by omega
      clear hT HX hbk
      go_enter Try.func58, Try.ntmps58
      go_wp2
      go_quiet (fail)
      go_wp2
      go_ret
      exact ⟨ret_int (by rw [HF.out, HB.out]), grown_of_below (below_drewN (Below.refl _ _) _) _, (HM.out.kept (grown_of_below (below_drewN (Below.refl _ _) _) none) (by simp)).mono (by omega)⟩
  | succ m ih =>
    intro s l k w hm hs hl hT hM hk
    have IH := hid ih
    have HK := hid hk
    clear hk ih
    obtain ⟨n', ao1, cap1, b1, o1, HN, he, ha1, hc1, hn1, hm1, HX⟩ := hT.ints.open_
    simp only [Value.slice.injEq] at he
    obtain ⟨rfl, rfl, rfl⟩ := he
    have hfull : s ≠ 2 ^ n - 1 := by
      intro e
      rw [e, ← HN.out, remO_full] at hm
      simp at hm
    obtain ⟨full, hfu⟩ : ∃ full, 2 ^ n - 1 = full := ⟨_, rfl⟩
    have hfw := full_wrap hn
    rw [hfu] at hfw hfull
    have hee : ((s : Int) == full) = false := beq_eq_false_iff_ne.2 (fun e => hfull (Int.ofNat.inj e))
    have hs10 : s < 2 ^ 10 := Nat.lt_of_lt_of_le hs (Nat.pow_le_pow_right (by omega) hn)
    have c0 := hT.c0
    have cm := hT.cm
    have HT := hid hT
    have HM := hid hM
    have HMS := hid hm
    clear hc1 ha1 hm hfu hM hT HX
    go_enter Try.func58, Try.ntmps58
    go_wp2
    have C0 : Hid ((w.alloc (.cells #[.int .i64 s, .int .i64 l] 80)).cell? ⟨w.heap.size, 0, none⟩ = some (.int .i64 s)) := hid (by simp [go_sem])
    have C1 : Hid ((w.alloc (.cells #[.int .i64 s, .int .i64 l] 80)).cell? ⟨w.heap.size, 1, none⟩ = some (.int .i64 l)) := hid (by simp [go_sem])
    have HG1 : Hid (w.grownBy (w.alloc (.cells #[.int .i64 s, .int .i64 l] 80)) (some bm)) := hid (grown_of_below ((Below.refl _ _).alloc (Nat.le_refl _) _) _)
    have HM1 : Hid (Memo (w.alloc (.cells #[.int .i64 s, .int .i64 l] 80)) bm k (tourF own back)) := hid (HM.out.kept (row := none) (grown_of_below ((Below.refl _ _).alloc (Nat.le_refl _) _) _) (by simp))
    have HZ : Hid (w.heap.size < (w.alloc (.cells #[.int .i64 s, .int .i64 l] 80)).heap.size) := hid (by simp)
    have HT1 := hid (HT.out.kept HG1.out)
    have HZB : Hid (bm ≠ w.heap.size) := hid (fun e => by have := HM.out.lt; omega)
    generalize w.alloc (.cells #[.int .i64 s, .int .i64 l] 80) = w1 at *
    generalize w.heap.size = z at *
    obtain ⟨nn, ok, HL, hok⟩ := HM1.out.look (s := s) (l := l) (by omega) (by omega)
    have hlook := HL w1.drew (grown_of_below ((Below.refl _ _).drew) _)
    have cm1 := HT1.out.cm
    have z0 := C0.out
    have z1 := C1.out
    have HOK := hid hok
    clear c0 cm hok HL
    go_region_held3 (fun W => W.cell? ⟨tb, 101, none⟩ = some (.map (some bm)) ∧ W.cell? ⟨z, 0, none⟩ = some (.int .i64 s) ∧ W.cell? ⟨z, 1, none⟩ = some (.int .i64 l)) (exact ⟨cm1, z0, z1⟩) (fail)
    have HG2 : Hid (∀ row, w1.grownBy w1.drew row) := hid (fun row => grown_of_below ((Below.refl _ _).drew) row)
    have HM2 := hid (HM1.out.kept (HG2.out none) (by simp))
    have HG3 := hid (grown_trans HG1.out (HG2.out _))
    have HT2 := hid (HT1.out.kept (HG2.out _))
    have C2 := hid ((HG2.out none).cell z0 (by simp))
    have C3 := hid ((HG2.out none).cell z1 (by simp))
    clear hlook cm1 z0 z1 HM HG1 HM1 HT HT1 HG2 C0 C1
    cases ok with
    | true =>
      have hnn := HOK.out rfl
      clear HOK
      go_wp2
      go_ret
      exact ⟨ret_int hnn, HG3.out, HM2.out.mono (by omega)⟩
    | false =>
      clear HOK
      have HNI := hid (show bestI dd own (baseB back) s l n = tourF own back s l by have := bestI_all dd hnd (baseB back) s l m HMS.out; rw [HN.out] at this; exact this)
      have cc0 := HT2.out.c0
      generalize w1.drew = w2 at *
      go_wp2
      clear cc0
      go_loopw [10, 11, 12, 63] (fun bb _ _ ii wr => ∃ i : Nat, i ≤ n ∧ ii = .int .i64 i ∧ bb = .int .i64 (bestI dd own (baseB back) s l i) ∧ Hid (Memo wr bm (k + i * cntW m) (tourF own back)) ∧ Hid (w2.grownBy wr (some bm))) (fun _ _ _ ii _ => n - (intOf ii).toNat)
      case atStart => exact ⟨0, by omega, rfl, rfl, hid (HM2.out.mono (by omega)), hid (World.grownBy.refl _ _)⟩
      case round =>
        obtain ⟨i, hi, rfl, rfl, HMR, HGR⟩ := hrel
        have HTR := hid (HT2.out.kept HGR.out)
        by_cases hlt : i < n
        · have hiI : (i : Int) < n := by omega
          have hi0 : (0 : Int) ≤ i := by omega
          have hi64 : (i : Int) < 64 := by omega
          have HBIT := hid (bit_zero (s := s) (k := i) (by omega))
          have HYES := hid (bestI_yes dd (own := own) (base := baseB back) (s := s) (a := l) (k := i))
          have HNO := hid (bestI_no dd (own := own) (base := baseB back) (s := s) (a := l) (k := i))
          have hbr := bestI_range own (by rw [HN.out]; exact hn) back s l i
          have HS1 : Hid (s.testBit i = false → (remO own (s ||| 2 ^ i)).length = m) := hid fun hb => by
            have hx : i < own.length := by rw [HN.out]; exact hlt
            rw [remO_erase hnd hx]
            exact erase_len HMS.out ((remO_mem hnd hx).2 hb)
          generalize bestI dd own (baseB back) s l i = bb at *
          cases hb : (bits .and .i64 ((s : Int) / 2 ^ i) 1 == 0) with
          | false =>
            have hbt : s.testBit i = true := by have := HBIT.out; rw [hb] at this; simpa using this.symm
            have HE := hid (HNO.out hbt)
            clear HYES HNO HBIT HS1 hbt
            go_wp2
            go_roundw
            case rel => exact ⟨i+1, by omega, by go_num, int_eq HE.out.symm, hid (HMR.out.mono (by rw [Nat.succ_mul]; omega)), HGR⟩
            case measure => simp [intOf]; omega
          | true =>
            have hbt : s.testBit i = false := by have := HBIT.out; rw [hb] at this; simpa using this.symm
            have HE := hid (HYES.out hbt)
            have HL := hid (HS1.out hbt)
            clear HYES HNO HBIT HS1 hbt
            have HKB := hid (show k + i * cntW m + cntW m < 1099511627776 by
              have h1 := cnt_le (m := m) hn hlt
              rw [Nat.succ_mul] at h1
              have := HK.out
              omega)
            have hor10 : s ||| 2 ^ i < 2 ^ n := or_lt hs hlt
            have HCALL := hid (through_any tb bm n cap ao own back (tourF own back) hn hd s l i (k + i * cntW m) (k + i * cntW m + cntW m) (tourF own back (s ||| 2 ^ i) i) (tourF_range own (by rw [HN.out]; exact hn) back _ _).1 (Int.le_trans (tourF_range own (by rw [HN.out]; exact hn) back _ _).2 (by omega)) wr HTR.out HMR.out hs10 hl hlt
              (fun w' hT' hM' => IH.out _ _ _ w' HL.out hor10 hlt hT' hM' HKB.out))
            have hr := dd_range (own.getD l 0) (own.getD i 0)
            have hr2 := tourF_range own (by rw [HN.out]; exact hn) back (s ||| 2 ^ i) i
            have HEE := hid (show bestI dd own (baseB back) s l (i+1) = lesser bb (dd (own.getD l 0) (own.getD i 0) + tourF own back (s ||| 2 ^ i) i) from HE.out)
            generalize tourF own back (s ||| 2 ^ i) i = r at *
            generalize dd (own.getD l 0) (own.getD i 0) = f0 at *
            obtain ⟨c, hc⟩ : ∃ c, f0 + r = c := ⟨_, rfl⟩
            rw [hc] at HCALL HEE
            clear HE HL HKB hor10 hc
            go_wp2_with (go_at_call 59; refine HCALL.out.mono ?_; rintro e w3 ⟨rfl, hg3, hm3⟩)
            all_goals
              have HGN := hid (grown_trans HGR.out hg3)
              have HMN := hid (show Memo w3 bm (k + (i+1) * cntW m) (tourF own back) by rw [Nat.succ_mul, ← Nat.add_assoc]; exact hm3)
              refine ⟨⟨i+1, by omega, by go_num, int_eq (by rw [HEE.out]; unfold lesser; split <;> omega), HMN, HGN⟩, ?_⟩
              simp [intOf]; omega
        · obtain rfl : i = n := by omega
          have cm2 := HTR.out.cm
          have HZ2 : Hid (z ≠ bm) := hid (fun e => HZB.out e.symm)
          have z0 := HGR.out.cell C2.out (by simpa using HZ2.out)
          have z1 := HGR.out.cell C3.out (by simpa using HZ2.out)
          have HKB := hid (show k + i * cntW m < 1099511627776 by
            have h1 := cnt_le (m := m) hn (Nat.le_refl i)
            have := HK.out
            omega)
          rw [HNI.out]
          have hf := tourF_range own (by rw [HN.out]; exact hn) back s l
          obtain ⟨wp, hput, hmp, hgp⟩ := (HMR.out.kept (row := none) (grown_of_below ((Below.refl _ _).drew) _) (by simp)).put (s := s) (l := l) (by omega) (by omega) HKB.out (WalkArith.wf_i64 (by omega))
          have HP := hid hput
          have HMP := hid (hmp.mono (k' := k + cntW (m+1)) (by
            have h1 := cnt_le (m := m) hn (Nat.le_refl i)
            omega))
          have HGP := hid (grown_trans HG3.out (grown_trans HGR.out (grown_trans (grown_of_below ((Below.refl _ _).drew) _) hgp)))
          clear hput hmp hgp HMR HKB HGR HTR
          go_wp2
          go_still_tail 6, (by kernel_rfl)
          show wpList _ _ _ _ _ wr.drew
          go_wp2_with (at_mapUpdate; refine wpList_mapUpdate_run _ wp rfl _ _ _ _ rfl _ _ _ rfl rfl rfl HP.out ?_)
          go_ret
          exact ⟨rfl, HGP.out, HMP.out⟩
end Go.Proofs.Ytgbnoljmmenlbaa
