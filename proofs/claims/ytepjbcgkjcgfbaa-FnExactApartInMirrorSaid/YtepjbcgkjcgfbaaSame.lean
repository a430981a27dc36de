import Derived.Test.YtepjbcgkjcgfbaaMirTime
import Derived.Test.YtepjbcgkjcgfbaaTimes
import Derived.Deep.RegionWith
namespace Go.Proofs.Ytepjbcgkjcgfbaa
open Go.RowKit

/-! ## leadsTo; SameInMirror, SameTurned; WaitForMirror -/
set_option maxHeartbeats 2000000 in
theorem leadsTo_any (f : FuncId) (caps : Array Value) (r : Int × Bool) (t to : Int) (w : World)
    (hcf : ∀ (args : Array Value) (w : World), (callFunc f args).run Try.prog w = .ok (.enter f args) w)
    (hcl : Calls Try.prog f (#[.int .i64 t] ++ caps) w fun e w'' => e = .returned (.tuple #[.int .i64 r.1, .bool r.2]) ∧ Below w.heap.size w w'') :
    Calls Try.prog 42 #[.func (.func f) #[] caps, .int .i64 t, .int .i64 to] w fun e w' => e = .returned (.bool (r.2 && (r.1 == to))) ∧ Below w.heap.size w w' := by
  have HC := hid hcl
  clear hcl
  obtain ⟨a, ok⟩ := r
  cases ok with
  | false =>
    go_enter Try.func42, Try.ntmps42
    go_wp2_with fail
    refine HC.out.mono ?_
    rintro e w1 ⟨rfl, hb⟩
    go_wp2
    go_ret
    exact ⟨rfl, hb⟩
  | true =>
    go_enter Try.func42, Try.ntmps42
    go_wp2_with fail
    refine HC.out.mono ?_
    rintro e w1 ⟨rfl, hb⟩
    go_wp2
    go_ret
    exact ⟨rfl, hb⟩


def sameM (t : Int) : Bool := (mirTime t).2 && ((mirTime t).1 == t)
def sameMR : List Int := timesTo sameM 1440
theorem sameMR_len : sameMR.length ≤ 1048576 := by
  have := timesTo_len sameM 1440
  unfold sameMR
  omega



def sameT (t : Int) : Bool := (turTime t).2 && ((turTime t).1 == t)
def sameTR : List Int := timesTo sameT 1440
theorem sameTR_len : sameTR.length ≤ 1048576 := by
  have := timesTo_len sameT 1440
  unfold sameTR
  omega
theorem enterSameTurned (args : Array Value) (w : World) : (callFunc 41 args).run Try.prog w = .ok (.enter 41 args) w := by kernel_rfl
set_option maxHeartbeats 2000000 in
theorem closureSameTurned_any (t : Int) (w : World) (h0 : 0 ≤ t) (h1 : t ≤ 1439) :
    Calls Try.prog 41 #[.int .i64 t] w fun e w' => e = .returned (.bool (sameT t)) ∧ Below w.heap.size w w' := by
  have HQ := hid (show sameT t = ((turR t).2 && ((turR t).1 == t)) by rw [turR_yes (inB_mk h0 h1)]; rfl)
  go_enter Try.func41, Try.ntmps41
  go_wp2_with fail
  refine (leadsTo_any 43 #[] (turR t) t t _ enter_TurnTime (implTurnTime_any t _)).mono ?_
  rintro e w1 ⟨rfl, hb⟩
  rw [← HQ.out]
  go_wp2
  go_ret
  exact ⟨rfl, hb⟩
set_option maxHeartbeats 2000000 in
theorem implSameTurned_any (w : World) :
    Calls Try.prog 12 #[] w fun e w' => ∃ v, e = .returned v ∧ OwnI w' w.heap.size v sameTR ∧ Below w.heap.size w w' := by
  rw [show sameTR = timesTo sameT 1440 from rfl]
  go_enter Try.func12, Try.ntmps12
  go_wp2_with fail
  refine (times_any 41 #[] sameT _ enterSameTurned ?_).mono ?_
  · intro t ht w' hb
    exact closureSameTurned_any (t : Int) w' (by omega) (by omega)
  rintro e w1 ⟨v, rfl, ho, hb⟩
  have HO := hid ho
  clear ho
  go_wp2
  go_ret
  exact ⟨_, rfl, HO.out, hb⟩

set_option maxHeartbeats 4000000 in
theorem specSameTurned_any (w : World) :
    Calls Try.prog 11 #[] w fun e w' => ∃ v, e = .returned v ∧ OwnI w' w.heap.size v sameTR ∧ Below w.heap.size w w' := by
  rw [show sameTR = timesTo sameT 1440 from rfl]
  have HB := hid ((Below.refl w.heap.size w).alloc (Nat.le_refl _) (.cells #[] 3))
  have HO0 := hid (OwnI.lit0 w w.heap.size (Nat.le_refl _))
  obtain ⟨q, hq⟩ : ∃ q : Int → Bool, sameT = q := ⟨_, rfl⟩
  rw [hq]
  have HQ : Hid (∀ t, q t = ((turTime t).2 && ((turTime t).1 == t))) := hid (fun t => by rw [← hq]; rfl)
  clear hq
  go_enter Try.func11, Try.ntmps11
  go_wp2
  go_loopw [1, 2, 3, 4] (fun oo tt _ _ wr => ∃ t : Nat, t ≤ 1440 ∧ tt = .int .i64 t ∧ Hid (OwnI wr w.heap.size oo (timesTo q t)) ∧ Below w.heap.size w wr) (fun _ tt _ _ _ => 1440 - (intOf tt).toNat)
  case atStart => exact ⟨0, by omega, rfl, HO0, HB.out⟩
  case round =>
    obtain ⟨t, ht, rfl, HO, hbel⟩ := hrel
    by_cases hlt : t < 1440
    · have HYES := hid (timesTo_yes (q := q) (k := t))
      have HNO := hid (timesTo_no (q := q) (k := t))
      have hl := timesTo_len q t
      have HQT := hid (HQ.out (t : Int))
      have ht0 : (0 : Int) ≤ t := by omega
      have ht1 : (t : Int) ≤ 1439 := by omega
      have ht2 : (t : Int) < 1440 := by omega
      have HC := hid (fun w => l6Turn_any (t : Int) w ht0 ht1)
      obtain ⟨⟨u, ok⟩, hr⟩ : ∃ r, turTime (t : Int) = r := ⟨_, rfl⟩
      rw [hr] at HQT HC
      clear hr
      cases ok with
      | false =>
        have HE := hid (HNO.out (by rw [HQT.out]; rfl))
        clear HYES HNO HQT
        go_wp2_with (go_at_call 39; refine (HC.out _).mono ?_; rintro e w1 ⟨rfl, hb⟩; have HO1 := hid (HO.out.later hb); have hbel1 := hbel.trans (hb.mono hbel.size))
        go_roundw
        case rel => exact ⟨t+1, by omega, by go_num, by rw [HE.out]; exact HO1, hbel1⟩
        case measure => simp [intOf]; omega
      | true =>
        cases hut : (u == (t : Int)) with
        | false =>
          have HE := hid (HNO.out (by rw [HQT.out, hut]; rfl))
          clear HYES HNO HQT
          go_wp2_with (go_at_call 39; refine (HC.out _).mono ?_; rintro e w1 ⟨rfl, hb⟩; have HO1 := hid (HO.out.later hb); have hbel1 := hbel.trans (hb.mono hbel.size))
          go_roundw
          case rel => exact ⟨t+1, by omega, by go_num, by rw [HE.out]; exact HO1, hbel1⟩
          case measure => simp [intOf]; omega
        | true =>
          have HE := hid (HYES.out (by rw [HQT.out, hut]; rfl))
          clear HYES HNO HQT
          go_wp2_with fail
          refine (HC.out _).mono ?_
          rintro e w1 ⟨rfl, hb⟩
          have HO1 := hid (HO.out.later hb)
          have hbel1 := hbel.trans (hb.mono hbel.size)
          clear hb hbel HO
          go_wp2_with (at_builtin; refine wpList_appendI w1 rfl _ _ rfl w.heap.size _ _ HO1.out rfl (t : Int) rfl (by omega) hbel1.size ?_; intro v' w2 ho' _ hb' _)
          rw [← HE.out] at ho'
          have HO' := hid ho'
          have hbel' := hbel1.trans hb'
          clear ho' HO1 hb' hbel1
          go_wp2
          go_roundw
          case rel => exact ⟨t+1, by omega, by go_num, HO', hbel'⟩
          case measure => simp [intOf]; omega
    · obtain rfl : t = 1440 := by omega
      go_wp2
      go_ret
      exact ⟨_, rfl, HO.out, hbel⟩


def mirAt (t : Int) (i : Nat) : Bool := (mirTime ((t + (i : Int)) % 1440)).2
def waitT (t : Int) : Nat := (List.range 1440).findIdx (mirAt t)
theorem waitT_at {t : Int} {k : Nat} (hk : k < 1440) (h : mirAt t k = true) (hn : ∀ j, j < k → mirAt t j = false) : waitT t = k := by
  unfold waitT
  rw [List.findIdx_eq (by simpa using hk)]
  refine ⟨by simpa using h, fun j hj => ?_⟩
  simpa using hn j hj
theorem mir_midnight : (mirTime 0).2 = true := by decide +kernel
theorem mir_some {t : Int} (h0 : 0 ≤ t) (h1 : t ≤ 1439) : ∃ i, i < 1440 ∧ mirAt t i = true := by
  by_cases e : t = 0
  · subst e
    exact ⟨0, by omega, mir_midnight⟩
  · refine ⟨(1440 - t).toNat, by omega, ?_⟩
    unfold mirAt
    rw [show (t + (((1440 - t).toNat : Nat) : Int)) % 1440 = 0 by omega]
    exact mir_midnight
def waitR (t : Int) : Int × Bool := if timeB t then ((waitT t : Int), true) else (0, false)
theorem waitR_no {t : Int} (h : timeB t = false) : waitR t = (0, false) := by simp [waitR, h]
theorem waitR_yes {t : Int} (h : timeB t = true) : waitR t = ((waitT t : Int), true) := by simp [waitR, h]



end Go.Proofs.Ytepjbcgkjcgfbaa
