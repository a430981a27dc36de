import Derived.Test.YtfgjaefcfmjleaaVHelp
namespace Go.Proofs.Ytfgjaefcfmjleaa
open Go.RowKit
set_option maxHeartbeats 1000000 in
theorem rPairs_any (v1 v2 : Value) (xs : List (Int × Int)) (w : World) (h1 : Two w v1 xs) (h2 : Two w v2 xs) :
    Calls Try.prog 88 #[v1, v2] w fun e w' => e = .returned (.bool true) ∧ ∃ m, w' = w.drewN m := by
  obtain ⟨n1, ao1, cap1, b1, o1, HN, rfl, ha1, hc1, hn1, hm1, HX⟩ := h1.open_
  obtain ⟨n2, ao2, cap2, b2, o2, HN', rfl, ha2, hc2, hn2, hm2, HX'⟩ := h2.open_
  have hl : n2 = n1 := by rw [← HN.out, ← HN'.out]
  subst hl
  have hne : ((n2 : Int) != n2) = false := by simp
  have heq : ∀ (x y : Int) (w : World), (binOp .neq 42 (.agg #[.int .i64 x, .int .i64 y]) (.agg #[.int .i64 x, .int .i64 y])).run Try.prog w = .ok (.bool false) w := fun x y w => neq_ints Try.underlying42 [x, y] rfl w
  go_enter Try.func88, Try.ntmps88
  go_wp2
  go_loopw [5] (fun i wr => ∃ k m : Nat, k ≤ n2 ∧ i = .int .i64 k ∧ wr = w.drewN m) (fun i _ => n2 - (intOf i).toNat)
  case atStart => exact ⟨0, 0, by omega, rfl, rfl⟩
  case round =>
    obtain ⟨k, m, hk, rfl, rfl⟩ := hrel
    by_cases hlt : k < n2
    · obtain ⟨rfl, hb1⟩ := ha1 (by omega)
      obtain ⟨rfl, hb2⟩ := ha2 (by omega)
      clear ha1 ha2
      have e1 : w.cell? ⟨b1, o1+k*2, none⟩ = some (.int .i64 (xs.getD k (0,0)).1) := (hc1 k (by omega)).1
      have e2 : w.cell? ⟨b1, o1+k*2+1, none⟩ = some (.int .i64 (xs.getD k (0,0)).2) := (hc1 k (by omega)).2
      have e3 : w.cell? ⟨b2, o2+k*2, none⟩ = some (.int .i64 (xs.getD k (0,0)).1) := (hc2 k (by omega)).1
      have e4 : w.cell? ⟨b2, o2+k*2+1, none⟩ = some (.int .i64 (xs.getD k (0,0)).2) := (hc2 k (by omega)).2
      generalize (xs.getD k (0,0)).1 = x at e1 e3
      generalize (xs.getD k (0,0)).2 = y at e2 e4
      have heq1 := fun w => heq x y w
      clear hc1 hc2
      have hlt' : (k : Int) < n2 := by omega
      have hlt2 : (0 : Int) ≤ k := by omega
      go_wp2
      go_quiet (fail)
      go_wp2
      go_roundw
      case rel => exact ⟨k+1, m + nq, by omega, by go_num, by simp⟩
      case measure => simp [intOf]; omega
    · go_wp2
      go_ret
      exact ⟨rfl, _, rfl⟩

end Go.Proofs.Ytfgjaefcfmjleaa
