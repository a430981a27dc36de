import Derived.Test.YtfgjaefcfmjleaaVHelp
import Derived.Test.YtfgjaefcfmjleaaSev
namespace Go.Proofs.Ytfgjaefcfmjleaa
open Go.RowKit

theorem neq_slot (x y : Int) (w : World) : (binOp .neq 108 (.agg #[.int .i64 x, .int .i64 y]) (.agg #[.int .i64 x, .int .i64 y])).run Try.prog w = .ok (.bool false) w := by
  have hf : Try.prog.underlying 108 = some (.struct (Try.prog.fieldsOf 108)) := by kernel_rfl
  have he : (Op.equal 108 (.agg #[.int .i64 x, .int .i64 y]) (.agg #[.int .i64 x, .int .i64 y])).run Try.prog w = .ok true w := by
    unfold Op.equal
    rw [show Op.maxDepth = 9999 + 1 from rfl, run_equalIn_struct w 9999 _ _ _ hf (by kernel_rfl)]
    have hm : (Try.prog.fieldsOf 108).toList.map (fun f => (f.name != "_", f.type, f.offset)) = [(true, 3, 0), (true, 3, 1)] := by kernel_rfl
    obtain ⟨f0, f1, hfs⟩ : ∃ f0 f1 : Field, (Try.prog.fieldsOf 108).toList = [f0, f1] := by
      rcases hl : (Try.prog.fieldsOf 108).toList with _ | ⟨f0, _ | ⟨f1, _ | ⟨f2, r⟩⟩⟩
      · rw [hl] at hm; simp at hm
      · rw [hl] at hm; simp at hm
      · exact ⟨f0, f1, rfl⟩
      · rw [hl] at hm; simp at hm
    rw [hfs] at hm
    simp only [List.map_cons, List.map_nil, List.cons.injEq, Prod.mk.injEq, and_true, bne_iff_ne, ne_eq] at hm
    obtain ⟨⟨n0, t0, o0⟩, n1, t1, o1⟩ := hm
    rw [hfs]
    have p0 := run_part_plain (P := Try.prog) w (e := 3) (by kernel_rfl) (xs := #[.int .i64 x, .int .i64 y]) (off := 0) (v := .int .i64 x) rfl
    have p1 := run_part_plain (P := Try.prog) w (e := 3) (by kernel_rfl) (xs := #[.int .i64 x, .int .i64 y]) (off := 1) (v := .int .i64 y) rfl
    have q0 := run_equalIn_int (P := Try.prog) w 9998 3 .i64 .i64 x x Try.underlying3
    have q1 := run_equalIn_int (P := Try.prog) w 9998 3 .i64 .i64 y y Try.underlying3
    simp only [Op.eqFields, n0, n1, t0, t1, o0, o1, ne_eq, not_false_eq_true, if_true, Sem.run_bind, p0, Result.andThen_ok, q0]
    simp [p1, q1]
  simp only [binOp]
  simp [he]

set_option maxHeartbeats 1000000 in
theorem rSlots_any (v1 v2 : Value) (xs : List (Int × Int)) (w : World) (h1 : Two w v1 xs) (h2 : Two w v2 xs) :
    Calls Try.prog 104 #[v1, v2] w fun e w' => e = .returned (.bool true) ∧ ∃ m, w' = w.drewN m := by
  obtain ⟨n1, ao1, cap1, b1, o1, HN, rfl, ha1, hc1, hn1, hm1, HX⟩ := h1.open_
  obtain ⟨n2, ao2, cap2, b2, o2, HN', rfl, ha2, hc2, hn2, hm2, HX'⟩ := h2.open_
  have hl : n2 = n1 := by rw [← HN.out, ← HN'.out]
  subst hl
  have hne : ((n2 : Int) != n2) = false := by simp
  have heq : ∀ (x y : Int) (w : World), (binOp .neq 108 (.agg #[.int .i64 x, .int .i64 y]) (.agg #[.int .i64 x, .int .i64 y])).run Try.prog w = .ok (.bool false) w := neq_slot
  go_enter Try.func104, Try.ntmps104
  go_wp2
  go_loopw [5] (fun i wr => ∃ k m : Nat, k ≤ n2 ∧ i = .int .i64 k ∧ wr = w.drewN m) (fun i _ => n2 - (intOf i).toNat)
  case atStart => exact ⟨0, 0, by omega, rfl, rfl⟩
  case round =>
    obtain ⟨k, m, hk, rfl, rfl⟩ := hrel
    by_cases hlt : k < n2
    · obtain ⟨rfl, hb1⟩ := ha1 (by omega)
      obtain ⟨rfl, hb2⟩ := ha2 (by omega)
      clear ha1 ha2
      have e1 : w.cell? ⟨b1, o1+k*2, none⟩ = some (.int .i64 (xs.getD k (0,0)).1) := (hc1 k (by omega)).1
      have e2 : w.cell? ⟨b1, o1+k*2+1, none⟩ = some (.int .i64 (xs.getD k (0,0)).2) := (hc1 k (by omega)).2
      have e3 : w.cell? ⟨b2, o2+k*2, none⟩ = some (.int .i64 (xs.getD k (0,0)).1) := (hc2 k (by omega)).1
      have e4 : w.cell? ⟨b2, o2+k*2+1, none⟩ = some (.int .i64 (xs.getD k (0,0)).2) := (hc2 k (by omega)).2
      generalize (xs.getD k (0,0)).1 = x at e1 e3
      generalize (xs.getD k (0,0)).2 = y at e2 e4
      have heq1 := fun w => heq x y w
      clear hc1 hc2
      have hlt' : (k : Int) < n2 := by omega
      have hlt2 : (0 : Int) ≤ k := by omega
      go_wp2
      go_quiet (fail)
      go_wp2
      go_roundw
      case rel => exact ⟨k+1, m + nq, by omega, by go_num, by simp⟩
      case measure => simp [intOf]; omega
    · go_wp2
      go_ret
      exact ⟨rfl, _, rfl⟩

set_option maxRecDepth 100000 in
set_option maxHeartbeats 2000000 in
theorem rSevens_any (v1 v2 : Value) (fs : List Int) (w : World) (h1 : Sevens w v1 fs) (h2 : Sevens w v2 fs) :
    Calls Try.prog 99 #[v1, v2] w fun e w' => e = .returned (.bool true) ∧ ∃ m, w' = w.drewN m := by
  obtain ⟨n1, ao1, cap1, b1, o1, HN, rfl, ha1, hc1, hn1, hm1⟩ := h1
  obtain ⟨n2, ao2, cap2, b2, o2, HN', rfl, ha2, hc2, hn2, hm2⟩ := h2
  have hl : n2 = n1 := by omega
  subst hl
  have hne : ((n2 : Int) != n2) = false := by simp
  have heq : ∀ (x0 x1 x2 x3 x4 x5 x6 : Int) (w : World), (binOp .neq 71 (.agg #[.int .i64 x0, .int .i64 x1, .int .i64 x2, .int .i64 x3, .int .i64 x4, .int .i64 x5, .int .i64 x6]) (.agg #[.int .i64 x0, .int .i64 x1, .int .i64 x2, .int .i64 x3, .int .i64 x4, .int .i64 x5, .int .i64 x6])).run Try.prog w = .ok (.bool false) w := fun x0 x1 x2 x3 x4 x5 x6 w => neq_ints Try.underlying71 [x0, x1, x2, x3, x4, x5, x6] rfl w
  go_enter Try.func99, Try.ntmps99
  go_wp2
  go_loopw [5] (fun i wr => ∃ k m : Nat, k ≤ n2 ∧ i = .int .i64 k ∧ wr = w.drewN m) (fun i _ => n2 - (intOf i).toNat)
  case atStart => exact ⟨0, 0, by omega, rfl, rfl⟩
  case round =>
    obtain ⟨k, m, hk, rfl, rfl⟩ := hrel
    by_cases hlt : k < n2
    · obtain ⟨rfl, hb1⟩ := ha1 (by omega)
      obtain ⟨rfl, hb2⟩ := ha2 (by omega)
      clear ha1 ha2
      have e0 : w.cell? ⟨b1, o1+k*7, none⟩ = some (.int .i64 (fs.getD (k*7+0) 0)) := hc1 (k*7+0) (by omega)
      have d0 : w.cell? ⟨b2, o2+k*7, none⟩ = some (.int .i64 (fs.getD (k*7+0) 0)) := hc2 (k*7+0) (by omega)
      have e1 : w.cell? ⟨b1, o1+k*7+1, none⟩ = some (.int .i64 (fs.getD (k*7+1) 0)) := hc1 (k*7+1) (by omega)
      have d1 : w.cell? ⟨b2, o2+k*7+1, none⟩ = some (.int .i64 (fs.getD (k*7+1) 0)) := hc2 (k*7+1) (by omega)
      have e2 : w.cell? ⟨b1, o1+k*7+2, none⟩ = some (.int .i64 (fs.getD (k*7+2) 0)) := hc1 (k*7+2) (by omega)
      have d2 : w.cell? ⟨b2, o2+k*7+2, none⟩ = some (.int .i64 (fs.getD (k*7+2) 0)) := hc2 (k*7+2) (by omega)
      have e3 : w.cell? ⟨b1, o1+k*7+3, none⟩ = some (.int .i64 (fs.getD (k*7+3) 0)) := hc1 (k*7+3) (by omega)
      have d3 : w.cell? ⟨b2, o2+k*7+3, none⟩ = some (.int .i64 (fs.getD (k*7+3) 0)) := hc2 (k*7+3) (by omega)
      have e4 : w.cell? ⟨b1, o1+k*7+4, none⟩ = some (.int .i64 (fs.getD (k*7+4) 0)) := hc1 (k*7+4) (by omega)
      have d4 : w.cell? ⟨b2, o2+k*7+4, none⟩ = some (.int .i64 (fs.getD (k*7+4) 0)) := hc2 (k*7+4) (by omega)
      have e5 : w.cell? ⟨b1, o1+k*7+5, none⟩ = some (.int .i64 (fs.getD (k*7+5) 0)) := hc1 (k*7+5) (by omega)
      have d5 : w.cell? ⟨b2, o2+k*7+5, none⟩ = some (.int .i64 (fs.getD (k*7+5) 0)) := hc2 (k*7+5) (by omega)
      have e6 : w.cell? ⟨b1, o1+k*7+6, none⟩ = some (.int .i64 (fs.getD (k*7+6) 0)) := hc1 (k*7+6) (by omega)
      have d6 : w.cell? ⟨b2, o2+k*7+6, none⟩ = some (.int .i64 (fs.getD (k*7+6) 0)) := hc2 (k*7+6) (by omega)
      generalize fs.getD (k*7+0) 0 = x0 at e0 d0
      generalize fs.getD (k*7+1) 0 = x1 at e1 d1
      generalize fs.getD (k*7+2) 0 = x2 at e2 d2
      generalize fs.getD (k*7+3) 0 = x3 at e3 d3
      generalize fs.getD (k*7+4) 0 = x4 at e4 d4
      generalize fs.getD (k*7+5) 0 = x5 at e5 d5
      generalize fs.getD (k*7+6) 0 = x6 at e6 d6
      have heq1 := fun w => heq x0 x1 x2 x3 x4 x5 x6 w
      clear hc1 hc2
      have hlt' : (k : Int) < n2 := by omega
      have hlt2 : (0 : Int) ≤ k := by omega
      go_wp2
      go_quiet (fail)
      go_wp2
      go_roundw
      case rel => exact ⟨k+1, m + nq, by omega, by go_num, by simp⟩
      case measure => simp [intOf]; omega
    · go_wp2
      go_ret
      exact ⟨rfl, _, rfl⟩

theorem Own7.spell {w : World} {B n : Nat} {v : Value} {fs : List Int} (h : Own7 w B v fs) (hl : fs.length = 7 * n) : ∃ ao cap, v = .slice ao n cap := by
  obtain ⟨m, ao, cap, b, o, hm, rfl, _⟩ := h.sevens
  have : m = n := by omega
  subst this
  exact ⟨ao, cap, rfl⟩

end Go.Proofs.Ytfgjaefcfmjleaa
