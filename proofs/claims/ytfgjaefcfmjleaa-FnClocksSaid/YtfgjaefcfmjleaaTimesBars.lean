import Derived.Test.YtfgjaefcfmjleaaTimes
import Derived.Deep.RegionWith
namespace Go.Proofs.Ytfgjaefcfmjleaa
open Go.RowKit

/-! ## TimesOfBars -/
theorem enterTimesBars (args : Array Value) (w : World) : (callFunc 176 args).run Try.prog w = .ok (.enter 176 args) w := by kernel_rfl

set_option maxHeartbeats 2000000 in
theorem timesBarsClosure_any (t bars : Int) (ad : Addr) (w : World) (h0 : 0 ≤ t) (h1 : t ≤ 1439) (had : w.cell? ad = some (.int .i64 bars)) (hlt : ad.block < w.heap.size) :
    Calls Try.prog 176 #[.int .i64 t, .pointer (some ad)] w fun e w' => e = .returned (.bool (litT t == bars)) ∧ Below w.heap.size w w' := by
  obtain ⟨b, o, sp⟩ := ad
  go_enter Try.func176, Try.ntmps176
  go_wp2
  go_region_with (go_at_call 166; refine (litAt_any t _ h0 h1).mono ?_; rintro e w1 ⟨rfl, hb⟩; have had' := (hb.cell (by exact hlt)).trans had)
  all_goals
    go_wp2
    go_ret
    exact ⟨rfl, ((Below.refl w.heap.size w).drew).trans hb⟩

def barsR (b : Int) : List Int × Bool := if inB b 0 28 then (timesTo (fun t => litT t == b) 1440, true) else ([], false)
theorem barsR_no {b : Int} (h : inB b 0 28 = false) : barsR b = ([], false) := by simp [barsR, h]
theorem barsR_yes {b : Int} (h : inB b 0 28 = true) : barsR b = (timesTo (fun t => litT t == b) 1440, true) := by simp [barsR, h]
theorem barsR_len (b : Int) : (barsR b).1.length ≤ 1048576 := by
  unfold barsR
  split
  · have := timesTo_len (fun t => litT t == b) 1440
    simp only
    omega
  · simp

set_option maxRecDepth 100000 in
set_option maxHeartbeats 2000000 in
theorem implTimesOfBars_any (b : Int) (w : World) :
    Calls Try.prog 66 #[.int .i64 b] w fun e w' => ∃ v, e = .returned (.tuple #[v, .bool (barsR b).2]) ∧ OwnI w' w.heap.size v (barsR b).1 ∧ Below w.heap.size w w' := by
  have HB := hid ((Below.refl w.heap.size w).alloc (Nat.le_refl _) (.cells #[.int .i64 b] 3))
  have hp : (w.alloc (.cells #[.int .i64 b] 3)).cell? ⟨w.heap.size, 0, none⟩ = some (.int .i64 b) := by simp [go_sem]
  cases hs : inB b 0 28 with
  | false =>
    rw [barsR_no hs]
    go_enter Try.func66, Try.ntmps66
    go_wp2_with (go_at_call 151; refine (within_any _ _ _ _).mono ?_; rintro e w' ⟨rfl, rfl⟩)
    go_ret2
    exact ⟨_, rfl, OwnI.nil _ _, HB.out⟩
  | true =>
    rw [barsR_yes hs]
    have HP := hid hp
    go_enter Try.func66, Try.ntmps66
    go_wp2_with (go_at_call 151; refine (within_any _ _ _ _).mono ?_; rintro e w' ⟨rfl, rfl⟩)
    refine (times_any 176 #[.pointer (some ⟨w.heap.size, 0, none⟩)] (fun t => litT t == b) _ enterTimesBars ?_).mono ?_
    · intro t ht w' hb
      exact timesBarsClosure_any (t : Int) b ⟨w.heap.size, 0, none⟩ w' (by omega) (by omega) ((hb.cell (by simp)).trans HP.out) (Nat.lt_of_lt_of_le (by simp) hb.size)
    · rintro e w1 ⟨v, rfl, ho, hb⟩
      have HO := hid (ho.mono HB.out.size)
      clear ho
      go_wp2
      go_ret2
      exact ⟨_, rfl, HO.out, HB.out.trans (hb.mono HB.out.size)⟩

set_option maxRecDepth 100000 in
set_option maxHeartbeats 2000000 in
theorem specTimesOfBars_any (b : Int) (w : World) :
    Calls Try.prog 67 #[.int .i64 b] w fun e w' => ∃ v, e = .returned (.tuple #[v, .bool (barsR b).2]) ∧ OwnI w' w.heap.size v (barsR b).1 ∧ Below w.heap.size w w' := by
  have HB := hid ((Below.refl w.heap.size w).alloc (Nat.le_refl _) (.cells #[] 3))
  have HO0 := hid (OwnI.lit0 w w.heap.size (Nat.le_refl _))
  cases hs : inB b 0 28 with
  | false =>
    rw [barsR_no hs]
    go_enter Try.func67, Try.ntmps67
    go_wp2_with (go_at_call 143; refine (l1In_any _ _ _ _).mono ?_; rintro e w' ⟨rfl, rfl⟩)
    go_ret2
    exact ⟨_, rfl, HO0.out, HB.out⟩
  | true =>
    rw [barsR_yes hs]
    obtain ⟨q, hq⟩ : ∃ q : Int → Bool, (fun t => litT t == b) = q := ⟨_, rfl⟩
    rw [hq]
    have HQ := hid (fun t => (congrFun hq t))
    clear hq
    go_enter Try.func67, Try.ntmps67
    go_wp2_with (go_at_call 143; refine (l1In_any _ _ _ _).mono ?_; rintro e w' ⟨rfl, rfl⟩)
    go_loopw [4, 5] (fun oo tt wr => ∃ t : Nat, t ≤ 1440 ∧ tt = .int .i64 t ∧ Hid (OwnI wr w.heap.size oo (timesTo q t)) ∧ Below w.heap.size w wr) (fun _ tt _ => 1440 - (intOf tt).toNat)
    case atStart => exact ⟨0, by omega, rfl, HO0, HB.out⟩
    case round =>
      obtain ⟨t, ht, rfl, HO, hbel⟩ := hrel
      by_cases hlt : t < 1440
      · have HYES := hid (timesTo_yes (q := q) (k := t))
        have HNO := hid (timesTo_no (q := q) (k := t))
        have hl := timesTo_len q t
        have HQT := hid (HQ.out (t : Int))
        have ht0 : (0 : Int) ≤ t := by omega
        have ht1 : (t : Int) ≤ 1439 := by omega
        have ht2 : (t : Int) < 1440 := by omega
        cases hqt : (litT (t : Int) == b) with
        | true =>
          have HE := hid (HYES.out (HQT.out.symm.trans hqt))
          go_wp2_with (first | (go_at_call 168; refine (l6Lit_any _ _ ht0 ht1).mono ?_; rintro e w1 ⟨rfl, hb⟩; have HO1 := hid (HO.out.later hb); have hbel1 := hbel.trans (hb.mono hbel.size)) | (at_builtin; refine wpList_appendI w1 rfl _ _ rfl w.heap.size _ _ HO1.out rfl (t : Int) rfl (by omega) hbel1.size ?_; intro v' w2 ho' _ hb' _))
          rw [← HE.out] at ho'
          have HO' := hid ho'
          have hbel' := hbel1.trans hb'
          clear ho' HO1 hb' hbel1 hb HO hbel
          go_wp2
          go_roundw
          case rel => exact ⟨t+1, by omega, by go_num, HO', hbel'⟩
          case measure => simp [intOf]; omega
        | false =>
          have HE := hid (HNO.out (HQT.out.symm.trans hqt))
          go_wp2_with (go_at_call 168; refine (l6Lit_any _ _ ht0 ht1).mono ?_; rintro e w1 ⟨rfl, hb⟩; have HO1 := hid (HO.out.later hb); have hbel1 := hbel.trans (hb.mono hbel.size))
          go_roundw
          case rel => exact ⟨t+1, by omega, by go_num, by rw [HE.out]; exact HO1, hbel1⟩
          case measure => simp [intOf]; omega
      · obtain rfl : t = 1440 := by omega
        go_wp2
        go_ret2
        exact ⟨_, rfl, HO.out, hbel⟩

end Go.Proofs.Ytfgjaefcfmjleaa
