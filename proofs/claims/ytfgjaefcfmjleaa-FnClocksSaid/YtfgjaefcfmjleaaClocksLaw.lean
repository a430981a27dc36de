import Derived.Test.YtfgjaefcfmjleaaLightsLaw
import Derived.Test.YtfgjaefcfmjleaaApart
import Derived.Test.YtfgjaefcfmjleaaClocksDec
namespace Go.Proofs.Ytfgjaefcfmjleaa
open Go.RowKit

/-! ## What FnClocks asks beyond equality, in plain Lean -/
theorem back_of {f : Int → Int × Bool} (h : (List.range 1440).all (backB f) = true) {t : Int} (h0 : 0 ≤ t) (h1 : t ≤ 1439) (ht : (f t).2 = true) : 0 ≤ (f t).1 ∧ (f t).1 ≤ 1439 ∧ f (f t).1 = (t, true) := by
  rw [List.all_eq_true] at h
  have hb := h t.toNat (List.mem_range.2 (by omega))
  unfold backB at hb
  rw [show ((t.toNat : Nat) : Int) = t by omega] at hb
  rcases hf : f t with ⟨u, b⟩
  rw [hf] at ht
  simp only at ht
  subst ht
  rw [hf] at hb
  simp only [Bool.and_eq_true, decide_eq_true_eq] at hb
  exact ⟨hb.1.1, hb.1.2, hb.2⟩
theorem row_time {t : Int} (h0 : 0 ≤ t) (h1 : t ≤ 1439) : timeOf (rowT t) = (t, true) := by
  have h := row_back
  rw [List.all_eq_true] at h
  have hb := h t.toNat (List.mem_range.2 (by omega))
  rw [show ((t.toNat : Nat) : Int) = t by omega] at hb
  exact of_decide_eq_true hb
theorem mem_mp {p : Int × Int} : p ∈ mpR ↔ ∃ t : Nat, t < 1440 ∧ mpB (t : Int) = true ∧ p = ((t : Int), (mirTime (t : Int)).1) := by
  unfold mpR mpTo
  simp only [List.mem_map, List.mem_filter, List.mem_range]
  constructor
  · rintro ⟨t, ⟨h1, h2⟩, rfl⟩; exact ⟨t, h1, h2, rfl⟩
  · rintro ⟨t, h1, h2, rfl⟩; exact ⟨t, ⟨h1, h2⟩, rfl⟩
theorem mem_mp_of {t : Int} (h0 : 0 ≤ t) (h1 : t ≤ 1439) (ht : (mirTime t).2 = true) (hlt : t < (mirTime t).1) : (t, (mirTime t).1) ∈ mpR :=
  mem_mp.2 ⟨t.toNat, by omega, by rw [show ((t.toNat : Nat) : Int) = t by omega]; simp [mpB, ht, hlt], by rw [show ((t.toNat : Nat) : Int) = t by omega]⟩
/-- Whether the first i pairs hold t and u, or t is u. -/
def fnd (ps : List (Int × Int)) (t u : Int) : Nat → Bool
  | 0 => u == t
  | i+1 => (fnd ps t u i || ((ps.getD i (0, 0)).1 == t && (ps.getD i (0, 0)).2 == u)) || ((ps.getD i (0, 0)).2 == t && (ps.getD i (0, 0)).1 == u)
theorem fnd_start {ps : List (Int × Int)} {t u : Int} (h : u = t) : ∀ m, fnd ps t u m = true := by
  intro m
  induction m with
  | zero => simp [fnd, h]
  | succ m ih => simp [fnd, ih]
theorem fnd_at {ps : List (Int × Int)} {t u : Int} {i : Nat} (h : ps.getD i (0, 0) = (t, u) ∨ ps.getD i (0, 0) = (u, t)) : ∀ m, i < m → fnd ps t u m = true := by
  intro m
  induction m with
  | zero => intro hm; omega
  | succ m ih =>
    intro hm
    by_cases e : i = m
    · subst e
      rcases h with h | h
      all_goals
        rw [fnd, h]
        simp
    · simp [fnd, ih (by omega)]
theorem fnd_mem {ps : List (Int × Int)} {t u : Int} (h : (t, u) ∈ ps ∨ (u, t) ∈ ps) : fnd ps t u ps.length = true := by
  rcases h with h | h
  all_goals
    obtain ⟨i, hi, he⟩ := List.mem_iff_getElem.1 h
    refine fnd_at (i := i) ?_ _ hi
    rw [List.getD_eq_getElem?_getD, List.getElem?_eq_getElem hi, Option.getD_some, he]
    simp
theorem waitT_zero {t : Int} (h0 : 0 ≤ t) (h1 : t ≤ 1439) (h : (mirTime t).2 = true) : waitT t = 0 :=
  waitT_at (by omega) (by unfold mirAt; rw [show (t + ((0 : Nat) : Int)) % 1440 = t by omega]; exact h) (fun j hj => by omega)

/-! ### what the walk asks, behind names -/
theorem clocks_out (t : Int) : ∃ (tb ok one : Bool) (mi tu wait : Int) (rw : List Int), mirR t = (mi, ok) ∧ turR t = (tu, one) ∧ clockR t = (rw, tb) ∧ waitR t = (wait, tb) ∧
    (ok = true → wait = 0 ∧ mirR mi = (t, true) ∧ decide (t ∈ sameMR) = (mi == t) ∧ fnd mpR t mi mpR.length = true) ∧ (one = true → turR tu = (t, true)) ∧ (tb = true → timeOf rw = (t, true)) := by
  cases h : timeB t with
  | false => exact ⟨false, false, false, 0, 0, 0, [], mirR_no h, turR_no h, clockR_no h, waitR_no h, (fun h => by cases h), (fun h => by cases h), (fun h => by cases h)⟩
  | true =>
    have hr := inB_true h
    refine ⟨true, (mirTime t).2, (turTime t).2, (mirTime t).1, (turTime t).1, _, _, mirR_yes h, turR_yes h, clockR_yes h, waitR_yes h, fun hm => ?_, fun hm => ?_, fun _ => row_time hr.1 hr.2⟩
    · obtain ⟨u0, u1, hb⟩ := back_of mir_back hr.1 hr.2 hm
      refine ⟨by rw [waitT_zero hr.1 hr.2 hm]; rfl, by rw [mirR_yes (inB_mk u0 u1), hb], ?_, ?_⟩
      · rw [Bool.eq_iff_iff, decide_eq_true_eq]
        unfold sameMR
        rw [mem_times]
        constructor
        · rintro ⟨k, hk, hs, rfl⟩
          simp only [sameM, Bool.and_eq_true] at hs
          exact hs.2
        · intro he
          exact ⟨t.toNat, by omega, by rw [show ((t.toNat : Nat) : Int) = t by omega]; simp only [sameM, hm, Bool.true_and]; exact he, by omega⟩
      · rcases Int.lt_trichotomy t (mirTime t).1 with hlt | he | hgt
        · exact fnd_mem (.inl (mem_mp_of hr.1 hr.2 hm hlt))
        · exact fnd_start he.symm _
        · refine fnd_mem (.inr ?_)
          have := mem_mp_of u0 u1 (by rw [hb]) (by rw [hb]; exact hgt)
          rwa [hb] at this
    · obtain ⟨u0, u1, hb⟩ := back_of tur_back hr.1 hr.2 hm
      rw [turR_yes (inB_mk u0 u1), hb]
theorem apart_out (m : Int) : ∃ (pb : Bool) (al : List Int), apartR m = (al, pb) ∧ al.length ≤ 1440 ∧ (∀ i, i < al.length → ∃ a : Nat, al.getD i 0 = (a : Int) ∧ a < 1440 ∧ 0 ≤ m ∧ m ≤ 1439 ∧ mirR (a : Int) = (((a : Int) + m) % 1440, true)) := by
  by_cases h : timeB m = true
  · refine ⟨true, timesTo (apartB m) 1440, by simp [apartR, h], timesTo_len _ _, fun i hi => ?_⟩
    obtain ⟨a, ha, hq, he⟩ := mem_times.1 (getD_memT hi)
    simp only [apartB, Bool.and_eq_true, beq_iff_eq] at hq
    have hr := inB_true h
    refine ⟨a, he, ha, hr.1, hr.2, ?_⟩
    rw [mirR_yes (inB_mk (by omega) (by omega)), ← hq.2, ← hq.1]
  · exact ⟨false, [], by simp [apartR, h], by simp, fun i hi => by simp at hi⟩

end Go.Proofs.Ytfgjaefcfmjleaa
