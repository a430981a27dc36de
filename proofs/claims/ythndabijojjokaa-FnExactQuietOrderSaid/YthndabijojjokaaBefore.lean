import Derived.Test.YthndabijojjokaaHelp
import Derived.Test.YthndabijojjokaaApp
import Derived.Test.YthndabijojjokaaQuietLaw
import Derived.Deep.QuietTactic
import Derived.BigQuiet
namespace Go.Proofs.Ythndabijojjokaa
open Go.RowKit

/-! ## l7Before -/
theorem lt_at : ∀ (k : Nat) (xs ys : List Int), k < xs.length → k < ys.length → xs.take k = ys.take k → xs.getD k 0 ≠ ys.getD k 0 → (xs < ys ↔ xs.getD k 0 < ys.getD k 0) := by
  intro k
  induction k with
  | zero =>
    intro xs ys h1 h2 _ hne
    cases xs with
    | nil => simp at h1
    | cons x xs =>
      cases ys with
      | nil => simp at h2
      | cons y ys =>
        rw [List.cons_lt_cons_iff]
        simp only [List.getD_cons_zero] at hne ⊢
        exact ⟨fun h => h.elim id fun ⟨e, _⟩ => absurd e hne, .inl⟩
  | succ k ih =>
    intro xs ys h1 h2 ht hne
    cases xs with
    | nil => simp at h1
    | cons x xs =>
      cases ys with
      | nil => simp at h2
      | cons y ys =>
        simp only [List.take_succ_cons, List.cons.injEq] at ht
        obtain ⟨rfl, ht⟩ := ht
        simp only [List.getD_cons_succ] at hne ⊢
        rw [List.cons_lt_cons_iff, ← ih xs ys (by simpa using h1) (by simpa using h2) ht hne]
        exact ⟨fun h => h.elim (fun h => absurd h (Int.lt_irrefl _)) And.right, fun h => .inr ⟨rfl, h⟩⟩

set_option maxRecDepth 100000 in
set_option maxHeartbeats 2000000 in
theorem l7Before_any (v1 v2 : Value) (xs ys : List Int) (w : World) (h1 : Ints w v1 xs) (h2 : Ints w v2 ys) (hl : xs.length = ys.length) :
    Calls Try.prog 13 #[v1, v2] w fun e w' => e = .returned (.bool (decide (xs < ys))) ∧ ∃ m, w' = w.drewN m := by
  obtain ⟨n, ao1, cap1, b1, o1, HN, rfl, ha1, hc1, hn1, hm1, HX1⟩ := h1.open_
  obtain ⟨n2, ao2, cap2, b2, o2, HN', rfl, ha2, hc2, hn2, hm2, HX2⟩ := h2.open_
  clear h1 h2
  have hnn : n = n2 := by rw [← HN.out, ← HN'.out, hl]
  subst hnn
  clear hl
  go_enter Try.func13, Try.ntmps13
  go_wp2
  go_loopw [5] (fun i wr => ∃ k m : Nat, k ≤ n ∧ i = .int .i64 k ∧ wr = w.drewN m ∧ Hid (xs.take k = ys.take k)) (fun i _ => n - (intOf i).toNat)
  case atStart => exact ⟨0, 0, by omega, rfl, rfl, rfl⟩
  case round =>
    obtain ⟨k, m, hk, rfl, rfl, HT⟩ := hrel
    by_cases hlt : k < n
    · obtain ⟨rfl, hb1⟩ := ha1 (by omega)
      obtain ⟨rfl, hb2⟩ := ha2 (by omega)
      clear ha1 ha2
      have e1 : w.cell? ⟨b1, o1+k, none⟩ = some (.int .i64 (xs.getD k 0)) := hc1 k (by omega)
      have e2 : w.cell? ⟨b2, o2+k, none⟩ = some (.int .i64 (ys.getD k 0)) := hc2 k (by omega)
      obtain ⟨x, hx⟩ : ∃ x, xs.getD k 0 = x := ⟨_, rfl⟩
      obtain ⟨y, hy⟩ : ∃ y, ys.getD k 0 = y := ⟨_, rfl⟩
      rw [hx] at e1
      rw [hy] at e2
      have HX := hid hx
      have HY := hid hy
      clear hx hy hc1 hc2
      have hlt' : (k : Int) < n := by omega
      have hlt2 : (0 : Int) ≤ k := by omega
      by_cases hxy : x = y
      · subst hxy
        have hb : (x != x) = false := by simp
        go_wp2
        go_quiet (fail)
        go_wp2
        go_roundw
        case rel => exact ⟨k+1, m + nq, by omega, by go_num, by simp, take_ext HT.out (by rw [HN.out]; exact hlt) (by rw [HN'.out]; exact hlt) (HX.out.trans HY.out.symm)⟩
        case measure => simp [intOf]; omega
      · have hb : (x != y) = true := by simpa using hxy
        have HXY := hid hxy
        clear hxy
        go_wp2
        go_quiet (fail)
        go_wp2
        go_quiet (fail)
        go_wp2
        go_ret
        refine ⟨ret_bool ?_, by first | exact ⟨_, rfl⟩ | exact ⟨_, World.drewN_drewN _ _ _⟩ | (simp only [World.drewN_drewN]; exact ⟨_, rfl⟩)⟩
        refine decide_eq_decide.mpr ?_
        have := lt_at k xs ys (by rw [HN.out]; exact hlt) (by rw [HN'.out]; exact hlt) HT.out (by rw [HX.out, HY.out]; exact HXY.out)
        rw [HX.out, HY.out] at this
        exact this.symm
    · have hk' : k = n := by omega
      subst hk'
      have he : xs = ys := by
        have := HT.out
        rw [List.take_of_length_le (by rw [HN.out]; exact Nat.le_refl _), List.take_of_length_le (by rw [HN'.out]; exact Nat.le_refl _)] at this
        exact this
      have HE := hid he
      clear he
      go_wp2
      go_ret
      refine ⟨ret_bool ?_, _, rfl⟩
      symm
      rw [decide_eq_false_iff_not, HE.out]
      exact List.lt_irrefl ys

end Go.Proofs.Ythndabijojjokaa
