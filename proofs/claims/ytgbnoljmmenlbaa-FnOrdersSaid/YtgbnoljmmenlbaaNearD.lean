/-
  NearD: NearestDigits of both sides.
-/
import Derived.Test.YtgbnoljmmenlbaaRest4
import Derived.Test.YtgbnoljmmenlbaaTour
namespace Go.Proofs.Ytgbnoljmmenlbaa
open Go.RowKit

def ndStep (d : Int) (st : List Int × Int) (k : Nat) : List Int × Int := if (k : Int) = d ∨ st.2 < dd d k then st else if dd d k < st.2 then ([(k : Int)], dd d k) else (st.1 ++ [(k : Int)], st.2)
def ndTo (d : Int) : Nat → List Int × Int
  | 0 => ([], 8)
  | k+1 => ndStep d (ndTo d k) k
def ndR (d : Int) : List Int × Int × Bool := if inB d 0 9 = true then ((ndTo d 10).1, (ndTo d 10).2, true) else ([], 0, false)
theorem ndR_no {d : Int} (h : inB d 0 9 = false) : ndR d = ([], 0, false) := by simp [ndR, h]
theorem ndR_yes {d : Int} (h : inB d 0 9 = true) : ndR d = ((ndTo d 10).1, (ndTo d 10).2, true) := by simp [ndR, h]
theorem ndTo_facts (d : Int) : ∀ k, (ndTo d k).1.length ≤ k ∧ 0 ≤ (ndTo d k).2 ∧ (ndTo d k).2 ≤ 8 := by
  intro k
  induction k with
  | zero => simp [ndTo]
  | succ k ih =>
    have h := dd_range d k
    simp only [ndTo, ndStep]
    split
    · omega
    · split
      · simp; omega
      · simp; omega
theorem ndTo_skip {d : Int} {k : Nat} (h : (k : Int) = d ∨ (ndTo d k).2 < dd d k) : ndTo d (k+1) = ndTo d k := by
  show ndStep d (ndTo d k) k = _
  unfold ndStep
  rw [if_pos h]
theorem ndTo_new {d : Int} {k : Nat} (h : ¬ (k : Int) = d) (h2 : dd d k < (ndTo d k).2) : ndTo d (k+1) = ([(k : Int)], dd d k) := by
  show ndStep d (ndTo d k) k = _
  unfold ndStep
  rw [if_neg (by rintro (e | e); exact h e; omega), if_pos h2]
theorem ndTo_more {d : Int} {k : Nat} (h : ¬ (k : Int) = d) (h1 : ¬ (ndTo d k).2 < dd d k) (h2 : ¬ dd d k < (ndTo d k).2) : ndTo d (k+1) = ((ndTo d k).1 ++ [(k : Int)], (ndTo d k).2) := by
  show ndStep d (ndTo d k) k = _
  unfold ndStep
  rw [if_neg (by rintro (e | e); exact h e; exact h1 e), if_neg h2]

def rowAgg (d : Int) : Value := .agg #[.int .i64 (dd d 0), .int .i64 (dd d 1), .int .i64 (dd d 2), .int .i64 (dd d 3), .int .i64 (dd d 4), .int .i64 (dd d 5), .int .i64 (dd d 6), .int .i64 (dd d 7), .int .i64 (dd d 8), .int .i64 (dd d 9)]
theorem run_tab_index {d : Int} (h : inB d 0 9 = true) (w : World) : (Instr.index 33 tabAgg (.int .i64 d)).run Try.prog w = .ok (rowAgg d) w := by
  rcases ten h with rfl | rfl | rfl | rfl | rfl | rfl | rfl | rfl | rfl | rfl
  all_goals kernel_rfl
theorem run_row_index (d : Int) {k : Int} (h : inB k 0 9 = true) (w : World) : (Instr.index 32 (rowAgg d) (.int .i64 k)).run Try.prog w = .ok (.int .i64 (dd d k)) w := by
  rcases ten h with rfl | rfl | rfl | rfl | rfl | rfl | rfl | rfl | rfl | rfl
  all_goals kernel_rfl

set_option maxRecDepth 100000 in
set_option maxHeartbeats 4000000 in
theorem implNearestDigits_any (d : Int) (w : World) : Calls Try.prog 18 #[.int .i64 d] w fun e w' =>
    ∃ v, e = .returned (.tuple #[v, .int .i64 (ndR d).2.1, .bool (ndR d).2.2]) ∧ OwnI w' w.heap.size v (ndR d).1 ∧ Below w.heap.size w w' := by
  cases hd : inB d 0 9 with
  | false =>
    rw [ndR_no hd]
    go_enter Try.func18, Try.ntmps18
    go_wp2_with (go_at_call 40; refine (isDigit_any _ _).mono ?_; rintro e w' ⟨rfl, rfl⟩)
    go_ret3
    exact ⟨_, rfl, OwnI.nil _ _, Below.refl _ _⟩
  | true =>
    rw [ndR_yes hd]
    have hrow := fun w' => run_tab_index hd w'
    have HCOL : Hid (∀ (k : Nat) w', k < 10 → (Instr.index 32 (rowAgg d) (.int .i64 k)).run Try.prog w' = .ok (.int .i64 (dd d k)) w') := hid fun k w' hk => run_row_index d (inB_mk (by omega) (by omega)) w'
    have HCT : Hid (∀ w, Calls Try.prog 13 #[] w fun e w' => e = .returned tabAgg ∧ Below w.heap.size w w') := hid ChangeTable_any
    generalize tabAgg = TA at *
    generalize rowAgg d = RA at *
    have hdd := inB_true hd
    go_enter Try.func18, Try.ntmps18
    go_wp2_with fail
    refine (isDigit_any _ _).mono ?_
    rintro e w0 ⟨rfl, rfl⟩
    rw [hd]
    go_wp2_with fail
    refine (HCT.out _).mono ?_
    rintro e w1 ⟨rfl, hb⟩
    have HB1 := hid hb
    clear hb
    go_wp2
    clear hrow HCT
    go_loopw [5, 6, 7, 8, 15] (fun ll oo _ _ ii wr => ∃ k : Nat, k ≤ 10 ∧ ii = .int .i64 k ∧ ll = .int .i64 (ndTo d k).2 ∧ Hid (OwnI wr w.heap.size oo (ndTo d k).1) ∧ Hid (Below w.heap.size w wr)) (fun _ _ _ _ ii _ => 10 - (intOf ii).toNat)
    case atStart => exact ⟨0, by omega, rfl, rfl, hid (OwnI.nil _ _), HB1⟩
    case round =>
      clear HB1
      obtain ⟨k, hk, rfl, rfl, HO, HB⟩ := hrel
      by_cases hlt : k < 10
      · have hk0 : (0 : Int) ≤ k := by omega
        have hkI : (k : Int) < 10 := by omega
        have hcol := fun w' => HCOL.out k w' hlt
        have hf := ndTo_facts d k
        have hr := dd_range d k
        have HSK := hid (ndTo_skip (d := d) (k := k))
        have HNW := hid (ndTo_new (d := d) (k := k))
        have HMO := hid (ndTo_more (d := d) (k := k))
        generalize ndTo d k = st at *
        generalize dd d (k : Int) = f at *
        by_cases he : (k : Int) = d
        · have hE := hid (HSK.out (.inl he))
          have hb : ((k : Int) == d) = true := by simpa using he
          clear HSK HNW HMO he
          go_wp2
          clear hcol
          go_roundw
          case rel => exact ⟨k+1, by omega, by go_num, int_eq (by rw [hE.out]), hid (by rw [hE.out]; exact HO.out), HB⟩
          case measure => simp [intOf]; omega
        · have hb : ((k : Int) == d) = false := by simpa using he
          by_cases h1 : st.2 < f
          · have hE := hid (HSK.out (.inr h1))
            clear HSK HNW HMO
            go_wp2
            clear hcol
            go_roundw
            case rel => exact ⟨k+1, by omega, by go_num, int_eq (by rw [hE.out]), hid (by rw [hE.out]; exact HO.out), HB⟩
            case measure => simp [intOf]; omega
          · by_cases h2 : f < st.2
            · have hE := hid (HNW.out he h2)
              have HON := hid (OwnI.nil wr w.heap.size)
              clear HSK HNW HMO HO
              go_wp2_with (at_builtin; refine wpList_appendI wr rfl _ _ rfl w.heap.size _ _ HON.out rfl (k : Int) rfl (by simp) HB.out.size ?_; intro v' w5 ho' hg5 hb5 _)
              clear hcol
              go_roundw
              case rel => exact ⟨k+1, by omega, by go_num, int_eq (by rw [hE.out]), hid (by rw [hE.out]; exact ho'), hid (HB.out.trans hb5)⟩
              case measure => simp [intOf]; omega
            · have hE := hid (HMO.out he h1 h2)
              clear HSK HNW HMO
              go_wp2_with (at_builtin; refine wpList_appendI wr rfl _ _ rfl w.heap.size _ _ HO.out rfl (k : Int) rfl (by omega) HB.out.size ?_; intro v' w5 ho' hg5 hb5 _)
              clear hcol
              go_roundw
              case rel => exact ⟨k+1, by omega, by go_num, int_eq (by rw [hE.out]), hid (by rw [hE.out]; exact ho'), hid (HB.out.trans hb5)⟩
              case measure => simp [intOf]; omega
      · obtain rfl : k = 10 := by omega
        go_wp2
        go_ret3
        exact ⟨_, rfl, HO.out, HB.out⟩
set_option maxRecDepth 100000 in
set_option maxHeartbeats 4000000 in
theorem specNearestDigits_any (d : Int) (w : World) : Calls Try.prog 19 #[.int .i64 d] w fun e w' =>
    ∃ v, e = .returned (.tuple #[v, .int .i64 (ndR d).2.1, .bool (ndR d).2.2]) ∧ OwnI w' w.heap.size v (ndR d).1 ∧ Below w.heap.size w w' := by
  have HO0 := hid (OwnI.lit0 w w.heap.size (Nat.le_refl _))
  have HB0 := hid ((Below.refl w.heap.size w).alloc (Nat.le_refl _) (.cells #[] 3))
  cases hd : inB d 0 9 with
  | false =>
    rw [ndR_no hd]
    go_enter Try.func19, Try.ntmps19
    go_wp2_with (go_at_call 41; refine (l1In_any _ _ _ _).mono ?_; rintro e w' ⟨rfl, rfl⟩)
    go_ret3
    exact ⟨_, rfl, HO0.out, HB0.out⟩
  | true =>
    rw [ndR_yes hd]
    have HDD := hid (fun (k : Nat) (hk : k < 10) w' => l4Digits_any d (k : Int) w' hd (inB_mk (by omega) (by omega)))
    have HDF := hid (show ∀ k : Int, farI (digitC d) (digitC k) = dd d k from fun _ => rfl)
    go_enter Try.func19, Try.ntmps19
    go_wp2_with fail
    refine (l1In_any _ _ _ _).mono ?_
    rintro e w0 ⟨rfl, rfl⟩
    rw [hd]
    go_wp2
    generalize w.alloc (.cells #[] 3) = w1 at *
    go_loopw [5, 6, 7] (fun oo ll ii wr => ∃ k : Nat, k ≤ 10 ∧ ii = .int .i64 k ∧ ll = .int .i64 (ndTo d k).2 ∧ Hid (OwnI wr w.heap.size oo (ndTo d k).1) ∧ Hid (Below w.heap.size w wr)) (fun _ _ ii _ => 10 - (intOf ii).toNat)
    case atStart => exact ⟨0, by omega, rfl, rfl, HO0, HB0⟩
    case round =>
      clear HB0 HO0
      obtain ⟨k, hk, rfl, rfl, HO, HB⟩ := hrel
      by_cases hlt : k < 10
      · have hk0 : (0 : Int) ≤ k := by omega
        have hkI : (k : Int) < 10 := by omega
        have HCD := hid (HDD.out k hlt)
        rw [HDF.out] at HCD
        have hf := ndTo_facts d k
        have hr := dd_range d k
        have HSK := hid (ndTo_skip (d := d) (k := k))
        have HNW := hid (ndTo_new (d := d) (k := k))
        have HMO := hid (ndTo_more (d := d) (k := k))
        generalize ndTo d k = st at *
        generalize dd d (k : Int) = f at *
        by_cases he : (k : Int) = d
        · have hE := hid (HSK.out (.inl he))
          have hb : ((k : Int) == d) = true := by simpa using he
          clear HSK HNW HMO he
          go_wp2
          go_roundw
          case rel => exact ⟨k+1, by omega, by go_num, int_eq (by rw [hE.out]), hid (by rw [hE.out]; exact HO.out), HB⟩
          case measure => simp [intOf]; omega
        · have hb : ((k : Int) == d) = false := by simpa using he
          by_cases h1 : st.2 < f
          · have hE := hid (HSK.out (.inr h1))
            clear HSK HNW HMO
            go_wp2_with fail
            refine (HCD.out _).mono ?_
            rintro e w2 ⟨rfl, hb2⟩
            have HO2 := hid (HO.out.later hb2)
            have HB2 := hid (HB.out.trans (hb2.mono HB.out.size))
            clear hb2 HO HB HCD
            go_wp2
            go_roundw
            case rel => exact ⟨k+1, by omega, by go_num, int_eq (by rw [hE.out]), hid (by rw [hE.out]; exact HO2.out), HB2⟩
            case measure => simp [intOf]; omega
          · by_cases h2 : f < st.2
            · have hE := hid (HNW.out he h2)
              clear HSK HNW HMO HO
              go_wp2_with fail
              refine (HCD.out _).mono ?_
              rintro e w2 ⟨rfl, hb2⟩
              have HB2 := hid (HB.out.trans (hb2.mono HB.out.size))
              clear hb2 HB
              go_wp2_with fail
              refine (HCD.out _).mono ?_
              rintro e w3 ⟨rfl, hb3⟩
              have HB3 := hid (HB2.out.trans (hb3.mono HB2.out.size))
              have HO3 := hid (OwnI.lit0 w3 w.heap.size HB3.out.size)
              have HB4 := hid (HB3.out.alloc HB3.out.size (.cells #[] 3))
              clear hb3 HB2 HB3
              go_wp2_with fail
              refine (HCD.out _).mono ?_
              rintro e w4 ⟨rfl, hb4⟩
              have HO5 := hid (HO3.out.later hb4)
              have HB5 := hid (HB4.out.trans (hb4.mono HB4.out.size))
              clear hb4 HO3 HB4 HCD
              go_wp2_with (at_builtin; refine wpList_appendI w4 rfl _ _ rfl w.heap.size _ _ HO5.out rfl (k : Int) rfl (by simp) HB5.out.size ?_; intro v' w5 ho' hg5 hb5 _)
              go_roundw
              case rel => exact ⟨k+1, by omega, by go_num, int_eq (by rw [hE.out]), hid (by rw [hE.out]; exact ho'), hid (HB5.out.trans hb5)⟩
              case measure => simp [intOf]; omega
            · have hE := hid (HMO.out he h1 h2)
              clear HSK HNW HMO
              go_wp2_with fail
              refine (HCD.out _).mono ?_
              rintro e w2 ⟨rfl, hb2⟩
              have HO2 := hid (HO.out.later hb2)
              have HB2 := hid (HB.out.trans (hb2.mono HB.out.size))
              clear hb2 HB HO
              go_wp2_with fail
              refine (HCD.out _).mono ?_
              rintro e w3 ⟨rfl, hb3⟩
              have HO3 := hid (HO2.out.later hb3)
              have HB3 := hid (HB2.out.trans (hb3.mono HB2.out.size))
              clear hb3 HB2 HO2 HCD
              go_wp2_with (at_builtin; refine wpList_appendI w3 rfl _ _ rfl w.heap.size _ _ HO3.out rfl (k : Int) rfl (by omega) HB3.out.size ?_; intro v' w5 ho' hg5 hb5 _)
              go_roundw
              case rel => exact ⟨k+1, by omega, by go_num, int_eq (by rw [hE.out]), hid (by rw [hE.out]; exact ho'), hid (HB3.out.trans hb5)⟩
              case measure => simp [intOf]; omega
      · obtain rfl : k = 10 := by omega
        go_wp2
        go_ret3
        exact ⟨_, rfl, HO.out, HB.out⟩
end Go.Proofs.Ytgbnoljmmenlbaa
