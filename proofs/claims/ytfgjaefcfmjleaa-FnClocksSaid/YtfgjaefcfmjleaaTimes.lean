import Derived.Test.YtfgjaefcfmjleaaLit
namespace Go.Proofs.Ytfgjaefcfmjleaa
open Go.RowKit

/-! ## times, TimesOfBars -/
def timesTo (q : Int → Bool) (k : Nat) : List Int := ((List.range k).filter fun t : Nat => q (t : Int)).map fun t : Nat => (t : Int)
theorem timesTo_yes {q : Int → Bool} {k : Nat} (h : q (k : Int) = true) : timesTo q (k+1) = timesTo q k ++ [(k : Int)] := by
  unfold timesTo
  rw [List.range_succ, List.filter_append, List.map_append]
  simp [h]
theorem timesTo_no {q : Int → Bool} {k : Nat} (h : q (k : Int) = false) : timesTo q (k+1) = timesTo q k := by
  unfold timesTo
  rw [List.range_succ, List.filter_append, List.map_append]
  simp [h]
theorem timesTo_len (q : Int → Bool) (k : Nat) : (timesTo q k).length ≤ k := by
  unfold timesTo
  rw [List.length_map]
  exact Nat.le_trans (List.length_filter_le _ _) (by simp)

set_option maxRecDepth 100000 in
set_option maxHeartbeats 2000000 in
theorem times_any (f : FuncId) (caps : Array Value) (q : Int → Bool) (w : World)
    (hcf : ∀ (args : Array Value) (w : World), (callFunc f args).run Try.prog w = .ok (.enter f args) w)
    (hf : ∀ t : Nat, t < 1440 → ∀ w', Below w.heap.size w w' → Calls Try.prog f (#[.int .i64 (t : Int)] ++ caps) w' fun e w'' => e = .returned (.bool (q (t : Int))) ∧ Below w'.heap.size w' w'') :
    Calls Try.prog 174 #[.func (.func f) #[] caps] w fun e w' => ∃ v, e = .returned v ∧ OwnI w' w.heap.size v (timesTo q 1440) ∧ Below w.heap.size w w' := by
  have HF := hid hf
  clear hf
  go_enter Try.func174, Try.ntmps174
  go_wp2
  go_loopw [3, 4, 5] (fun oo _ tt wr => ∃ t : Nat, t ≤ 1440 ∧ tt = .int .i64 t ∧ Hid (OwnI wr w.heap.size oo (timesTo q t)) ∧ Below w.heap.size w wr) (fun _ _ tt _ => 1440 - (intOf tt).toNat)
  case atStart => exact ⟨0, by omega, rfl, hid (OwnI.nil _ _), Below.refl _ _⟩
  case round =>
    obtain ⟨t, ht, rfl, HO, hbel⟩ := hrel
    by_cases hlt : t < 1440
    · have HYES := hid (timesTo_yes (q := q) (k := t))
      have HNO := hid (timesTo_no (q := q) (k := t))
      have hl := timesTo_len q t
      have HC := hid (HF.out t hlt wr hbel)
      have ht0 : (0 : Int) ≤ t := by omega
      have ht1 : (t : Int) ≤ 1439 := by omega
      have ht2 : (t : Int) < 1440 := by omega
      cases hq : q (t : Int) with
      | true =>
        rw [hq] at HC
        have HE := hid (HYES.out hq)
        go_wp2_with fail
        refine HC.out.mono ?_
        rintro e w1 ⟨rfl, hb⟩
        have HO1 := hid (HO.out.later hb)
        have hbel1 := hbel.trans (hb.mono hbel.size)
        clear hb hbel HO hq
        go_wp2_with (at_builtin; refine wpList_appendI w1 rfl _ _ rfl w.heap.size _ _ HO1.out rfl (t : Int) rfl (by omega) hbel1.size ?_; intro v' w2 ho' _ hb' _)
        rw [← HE.out] at ho'
        have HO' := hid ho'
        have hbel' := hbel1.trans hb'
        clear ho' HO1 hb' hbel1
        go_wp2
        go_roundw
        case rel => exact ⟨t+1, by omega, by go_num, HO', hbel'⟩
        case measure => simp [intOf]; omega
      | false =>
        rw [hq] at HC
        have HE := hid (HNO.out hq)
        go_wp2_with fail
        refine HC.out.mono ?_
        rintro e w1 ⟨rfl, hb⟩
        have HO1 := hid (HO.out.later hb)
        have hbel1 := hbel.trans (hb.mono hbel.size)
        clear hb hbel HO hq
        go_wp2
        go_roundw
        case rel => exact ⟨t+1, by omega, by go_num, by rw [HE.out]; exact HO1, hbel1⟩
        case measure => simp [intOf]; omega
    · obtain rfl : t = 1440 := by omega
      go_wp2
      go_ret
      exact ⟨_, rfl, HO.out, hbel⟩

end Go.Proofs.Ytfgjaefcfmjleaa
