import Derived.Test.YthfcbnamapgkoaaSev
import Derived.WalkKit
import Derived.WalkSpells
import Derived.WalkLawsBesides
import Derived.Deep.QuietTactic
import Derived.BigQuiet
import Derived.Deep.RegionWith
import Derived.Handy
namespace Go.Proofs.Ythfcbnamapgkoaa
open Go.RowKit

/-! ## The laws' helpers for [][7]int -/
def eq7 (f g : Nat → Int) : Bool := (List.range 7).all fun j => f j == g j
theorem eq7_true {f g : Nat → Int} (h : ∀ j, j < 7 → f j = g j) : eq7 f g = true := by
  rw [eq7, List.all_eq_true]
  exact fun j hj => by simpa using h j (List.mem_range.1 hj)
theorem eq7_false {f g : Nat → Int} {j : Nat} (hj : j < 7) (h : f j ≠ g j) : eq7 f g = false := by
  rw [eq7, List.all_eq_false]
  exact ⟨j, List.mem_range.2 hj, by simpa using h⟩
theorem of_eq7 {f g : Nat → Int} (h : eq7 f g = true) {j : Nat} (hj : j < 7) : f j = g j := by
  rw [eq7, List.all_eq_true] at h
  simpa using h j (List.mem_range.2 hj)

set_option maxHeartbeats 2000000 in
theorem eqIntA7_any (f g : Nat → Int) (w : World) :
    Calls Try.prog 79 #[agg7 f, agg7 g] w fun e w' => e = .returned (.bool (eq7 f g)) ∧ Below w.heap.size w w' := by
  unfold agg7
  go_enter Try.func79, Try.ntmps79
  go_wp2
  have hf : ∀ j, j < 7 → ((w.alloc (.cells #[.int .i64 (f 0), .int .i64 (f 1), .int .i64 (f 2), .int .i64 (f 3), .int .i64 (f 4), .int .i64 (f 5), .int .i64 (f 6)] 74)).alloc (.cells #[.int .i64 (g 0), .int .i64 (g 1), .int .i64 (g 2), .int .i64 (g 3), .int .i64 (g 4), .int .i64 (g 5), .int .i64 (g 6)] 74)).cell? ⟨w.heap.size, j, none⟩ = some (.int .i64 (f j)) := by
    intro j hj
    match j, hj with
    | 0, _ => simp [go_sem]
    | 1, _ => simp [go_sem]
    | 2, _ => simp [go_sem]
    | 3, _ => simp [go_sem]
    | 4, _ => simp [go_sem]
    | 5, _ => simp [go_sem]
    | 6, _ => simp [go_sem]
  have hg : ∀ j, j < 7 → ((w.alloc (.cells #[.int .i64 (f 0), .int .i64 (f 1), .int .i64 (f 2), .int .i64 (f 3), .int .i64 (f 4), .int .i64 (f 5), .int .i64 (f 6)] 74)).alloc (.cells #[.int .i64 (g 0), .int .i64 (g 1), .int .i64 (g 2), .int .i64 (g 3), .int .i64 (g 4), .int .i64 (g 5), .int .i64 (g 6)] 74)).cell? ⟨w.heap.size+1, j, none⟩ = some (.int .i64 (g j)) := by
    intro j hj
    match j, hj with
    | 0, _ => simp [go_sem]
    | 1, _ => simp [go_sem]
    | 2, _ => simp [go_sem]
    | 3, _ => simp [go_sem]
    | 4, _ => simp [go_sem]
    | 5, _ => simp [go_sem]
    | 6, _ => simp [go_sem]
  have hb := ((Below.refl w.heap.size w).alloc (Nat.le_refl _) (.cells #[.int .i64 (f 0), .int .i64 (f 1), .int .i64 (f 2), .int .i64 (f 3), .int .i64 (f 4), .int .i64 (f 5), .int .i64 (f 6)] 74)).alloc (by simp) (.cells #[.int .i64 (g 0), .int .i64 (g 1), .int .i64 (g 2), .int .i64 (g 3), .int .i64 (g 4), .int .i64 (g 5), .int .i64 (g 6)] 74)
  have HF := hid hf
  have HG := hid hg
  clear hf hg
  generalize (w.alloc (.cells #[.int .i64 (f 0), .int .i64 (f 1), .int .i64 (f 2), .int .i64 (f 3), .int .i64 (f 4), .int .i64 (f 5), .int .i64 (f 6)] 74)).alloc (.cells #[.int .i64 (g 0), .int .i64 (g 1), .int .i64 (g 2), .int .i64 (g 3), .int .i64 (g 4), .int .i64 (g 5), .int .i64 (g 6)] 74) = wi at *
  go_loopw [5] (fun i wr => ∃ k m : Nat, k ≤ 7 ∧ i = .int .i64 k ∧ wr = wi.drewN m ∧ Hid (∀ j, j < k → f j = g j)) (fun i _ => 7 - (intOf i).toNat)
  case atStart => exact ⟨0, 0, by omega, rfl, rfl, hid (fun j h => absurd h (Nat.not_lt_zero j))⟩
  case round =>
    obtain ⟨k, m, hk, rfl, rfl, HT⟩ := hrel
    by_cases hlt : k < 7
    · have e1 : (wi.drewN m).cell? ⟨w.heap.size, k, none⟩ = some (.int .i64 (f k)) := HF.out k hlt
      have e2 : (wi.drewN m).cell? ⟨w.heap.size+1, k, none⟩ = some (.int .i64 (g k)) := HG.out k hlt
      have hk0 : (0 : Int) ≤ k := by omega
      have hk7 : (k : Int) < 7 := by omega
      have hbd := below_drewN hb m
      have HN := hid (fun n => wi.drewN_drewN m n)
      generalize hwr : wi.drewN m = wr at e1 e2 hbd HN
      cases hx : (f k != g k) with
      | true =>
        go_wp2
        go_quiet (fail)
        go_wp2
        go_ret
        refine ⟨ret_bool ?_, below_drewN hbd _⟩
        symm
        exact eq7_false hlt (by simpa using hx)
      | false =>
        have HE := hid (show f k = g k by simpa using hx)
        go_wp2
        go_quiet (fail)
        go_wp2
        go_roundw
        case rel => exact ⟨k+1, _, by omega, by go_num, HN.out _, hid (fun j hj => by
          rcases (show j < k ∨ j = k by omega) with h | rfl
          · exact HT.out j h
          · exact HE.out)⟩
        case measure => simp [intOf]; omega
    · have hbd := below_drewN hb m
      go_wp2
      go_ret
      refine ⟨ret_bool ?_, hbd⟩
      symm
      exact eq7_true fun j hj => HT.out j (by omega)

set_option maxHeartbeats 2000000 in
theorem eqIntA7S_any (v1 v2 : Value) (fs gs : List Int) (w : World) (h1 : Sevens w v1 fs) (h2 : Sevens w v2 gs) :
    Calls Try.prog 42 #[v1, v2] w fun e w' => e = .returned (.bool (decide (fs = gs))) ∧ Below w.heap.size w w' := by
  obtain ⟨n1, ao1, cap1, b1, o1, hl1, rfl, ha1, hc1, hn1, hm1⟩ := h1
  obtain ⟨n2, ao2, cap2, b2, o2, hl2, rfl, ha2, hc2, hn2, hm2⟩ := h2
  have HL1 := hid hl1
  have HL2 := hid hl2
  clear hl1 hl2
  by_cases hl : n1 = n2
  · subst hl
    have hne : ((n1 : Int) != n1) = false := by simp
    go_enter Try.func42, Try.ntmps42
    go_wp2
    go_loopw [5] (fun i wr => ∃ k : Nat, k ≤ n1 ∧ i = .int .i64 k ∧ Below w.heap.size w wr ∧ Hid (∀ p, p < 7 * k → fs.getD p 0 = gs.getD p 0)) (fun i _ => n1 - (intOf i).toNat)
    case atStart => exact ⟨0, by omega, rfl, Below.refl _ _, hid (fun p h => absurd h (by omega))⟩
    case round =>
      obtain ⟨k, hk, rfl, hbel, HT⟩ := hrel
      by_cases hlt : k < n1
      · obtain ⟨rfl, hb1⟩ := ha1 (by omega)
        obtain ⟨rfl, hb2⟩ := ha2 (by omega)
        clear ha1 ha2
        have HF : ∀ j, j < 7 → w.cell? ⟨b1, o1+k*7+j, none⟩ = some (.int .i64 (fs.getD (k*7+j) 0)) := fun j hj => by rw [Nat.add_assoc]; exact hc1 (k*7+j) (by omega)
        have HG : ∀ j, j < 7 → w.cell? ⟨b2, o2+k*7+j, none⟩ = some (.int .i64 (gs.getD (k*7+j) 0)) := fun j hj => by rw [Nat.add_assoc]; exact hc2 (k*7+j) (by omega)
        obtain ⟨F, hF⟩ : ∃ F : Nat → Int, F = fun j => fs.getD (k*7+j) 0 := ⟨_, rfl⟩
        obtain ⟨G, hG⟩ : ∃ G : Nat → Int, G = fun j => gs.getD (k*7+j) 0 := ⟨_, rfl⟩
        have HF2 : ∀ j, j < 7 → w.cell? ⟨b1, o1+k*7+j, none⟩ = some (.int .i64 (F j)) := by rw [hF]; exact HF
        have HG2 : ∀ j, j < 7 → w.cell? ⟨b2, o2+k*7+j, none⟩ = some (.int .i64 (G j)) := by rw [hG]; exact HG
        have e0 : wr.cell? ⟨b1, o1+k*7, none⟩ = some (.int .i64 (F 0)) := (hbel.cell (by exact hb1)).trans (HF2 0 (by omega))
        have e1 : wr.cell? ⟨b1, o1+k*7+1, none⟩ = some (.int .i64 (F 1)) := (hbel.cell (by exact hb1)).trans (HF2 1 (by omega))
        have e2 : wr.cell? ⟨b1, o1+k*7+2, none⟩ = some (.int .i64 (F 2)) := (hbel.cell (by exact hb1)).trans (HF2 2 (by omega))
        have e3 : wr.cell? ⟨b1, o1+k*7+3, none⟩ = some (.int .i64 (F 3)) := (hbel.cell (by exact hb1)).trans (HF2 3 (by omega))
        have e4 : wr.cell? ⟨b1, o1+k*7+4, none⟩ = some (.int .i64 (F 4)) := (hbel.cell (by exact hb1)).trans (HF2 4 (by omega))
        have e5 : wr.cell? ⟨b1, o1+k*7+5, none⟩ = some (.int .i64 (F 5)) := (hbel.cell (by exact hb1)).trans (HF2 5 (by omega))
        have e6 : wr.cell? ⟨b1, o1+k*7+6, none⟩ = some (.int .i64 (F 6)) := (hbel.cell (by exact hb1)).trans (HF2 6 (by omega))
        have f0 : wr.cell? ⟨b2, o2+k*7, none⟩ = some (.int .i64 (G 0)) := (hbel.cell (by exact hb2)).trans (HG2 0 (by omega))
        have f1 : wr.cell? ⟨b2, o2+k*7+1, none⟩ = some (.int .i64 (G 1)) := (hbel.cell (by exact hb2)).trans (HG2 1 (by omega))
        have f2 : wr.cell? ⟨b2, o2+k*7+2, none⟩ = some (.int .i64 (G 2)) := (hbel.cell (by exact hb2)).trans (HG2 2 (by omega))
        have f3 : wr.cell? ⟨b2, o2+k*7+3, none⟩ = some (.int .i64 (G 3)) := (hbel.cell (by exact hb2)).trans (HG2 3 (by omega))
        have f4 : wr.cell? ⟨b2, o2+k*7+4, none⟩ = some (.int .i64 (G 4)) := (hbel.cell (by exact hb2)).trans (HG2 4 (by omega))
        have f5 : wr.cell? ⟨b2, o2+k*7+5, none⟩ = some (.int .i64 (G 5)) := (hbel.cell (by exact hb2)).trans (HG2 5 (by omega))
        have f6 : wr.cell? ⟨b2, o2+k*7+6, none⟩ = some (.int .i64 (G 6)) := (hbel.cell (by exact hb2)).trans (HG2 6 (by omega))
        clear hc1 hc2 HF HG HF2 HG2
        have HFE := hid hF
        have HGE := hid hG
        clear hF hG
        have hlt' : (k : Int) < n1 := by omega
        have hlt2 : (0 : Int) ≤ k := by omega
        cases hx : eq7 F G with
        | true =>
          go_wp2
          go_region_with (go_at_call 79; refine (eqIntA7_any F G _).mono ?_; rintro e w' ⟨rfl, hb⟩)
          all_goals
            have hbel' := (hbel.drew).trans (hb.mono hbel.size)
            clear hb hbel e0 e1 e2 e3 e4 e5 e6 f0 f1 f2 f3 f4 f5 f6
            go_wp2
            go_roundw
            case rel => exact ⟨k+1, by omega, by go_num, hbel', hid (fun p hp => by
              by_cases h : p < 7 * k
              · exact HT.out p h
              · have := of_eq7 hx (j := p - k*7) (by omega)
                rw [HFE.out, HGE.out] at this
                simpa [show k*7 + (p - k*7) = p by omega] using this)⟩
            case measure => simp [intOf]; omega
        | false =>
          go_wp2
          go_region_with (go_at_call 79; refine (eqIntA7_any F G _).mono ?_; rintro e w' ⟨rfl, hb⟩)
          all_goals
            have hbel' := (hbel.drew).trans (hb.mono hbel.size)
            clear hb hbel e0 e1 e2 e3 e4 e5 e6 f0 f1 f2 f3 f4 f5 f6
            go_wp2
            go_ret
            refine ⟨ret_bool ?_, hbel'⟩
            symm
            rw [decide_eq_false_iff_not]
            rintro rfl
            have : eq7 F G = true := eq7_true fun j _ => by rw [HFE.out, HGE.out]
            rw [this] at hx
            exact Bool.noConfusion hx
      · go_wp2
        go_ret
        refine ⟨ret_bool ?_, hbel⟩
        symm
        rw [decide_eq_true_iff]
        apply List.ext_getElem (by rw [HL1.out, HL2.out])
        intro p h1 h2
        have := HT.out p (by have := HL1.out; omega)
        simpa [List.getD, h1, h2] using this
  · have hb : ((n1 : Int) != n2) = true := by simp; omega
    go_enter Try.func42, Try.ntmps42
    go_wp2
    go_ret
    refine ⟨ret_bool ?_, Below.refl _ _⟩
    symm
    rw [decide_eq_false_iff_not]
    intro h
    have := congrArg List.length h
    rw [HL1.out, HL2.out] at this
    omega

set_option maxHeartbeats 2000000 in
theorem heldIntA7S_any (v1 : Value) (q : Int) (n : Nat) (w : World) (h1 : Sevens w v1 (marks q n)) (hq : 0 ≤ q) (hqn : q + n ≤ 1099511627776) :
    Calls Try.prog 44 #[v1, .int .i64 q] w fun e w' => e = .returned (.int .i64 (q + n)) ∧ ∃ m, w' = w.drewN m := by
  obtain ⟨n1, ao1, cap1, b1, o1, hl1, rfl, ha1, hc1, hn1, hm1⟩ := h1
  rw [length_marks] at hl1
  subst hl1
  have HC : ∀ k j, k < n1 → j < 7 → w.cell? ⟨b1, o1+k*7+j, none⟩ = some (.int .i64 (q + ((k*7+j : Nat) : Int))) := fun k j hk hj => by
    rw [Nat.add_assoc, hc1 (k*7+j) (by omega), getD_marks _ _ _ (by omega)]
  have HC' := hid HC
  clear HC hc1
  go_enter Try.func44, Try.ntmps44
  go_wp2
  go_loopw [1, 5, 6] (fun kk i _ wr => ∃ k m : Nat, k ≤ n1 ∧ i = .int .i64 k ∧ kk = .int .i64 (q + ((k*7 : Nat) : Int)) ∧ wr = w.drewN m) (fun _ i _ _ => n1 - (intOf i).toNat)
  case atStart => exact ⟨0, 0, by omega, rfl, int_eq (by simp), rfl⟩
  case round =>
    obtain ⟨k, m, hk, rfl, rfl, rfl⟩ := hrel
    by_cases hlt : k < n1
    · obtain ⟨rfl, hb1⟩ := ha1 (by omega)
      have HC2 := hid (fun j hj => HC'.out k j hlt hj)
      clear ha1
      go_wp2
      go_loopw [1, 6] (fun kk y wr => ∃ j m : Nat, j ≤ 7 ∧ y = .int .i64 j ∧ kk = .int .i64 (q + ((k*7+j : Nat) : Int)) ∧ wr = w.drewN m) (fun _ y _ => 7 - (intOf y).toNat)
      case atStart => exact ⟨0, m, by omega, rfl, rfl, rfl⟩
      case round =>
        obtain ⟨j, m, hj, rfl, rfl, rfl⟩ := hrel
        by_cases hj7 : j < 7
        · have e1 : w.cell? ⟨b1, o1+k*7+j, none⟩ = some (.int .i64 (q + ((k*7+j : Nat) : Int))) := HC2.out j hj7
          have hx : (q + ((k*7+j : Nat) : Int) != q + ((k*7+j : Nat) : Int)) = false := by simp
          have hk0 : (0 : Int) ≤ k := by omega
          have hkn : (k : Int) < n1 := by omega
          have hj0 : (0 : Int) ≤ j := by omega
          have hj7' : (j : Int) < 7 := by omega
          have hr : 0 ≤ q + ((k*7+j : Nat) : Int) ∧ q + ((k*7+j : Nat) : Int) < 1099511627776 := by omega
          have HN := hid (show q + ((k*7+(j+1) : Nat) : Int) = q + ((k*7+j : Nat) : Int) + 1 by omega)
          generalize q + ((k*7+j : Nat) : Int) = z at e1 hx hr HN
          go_wp2
          go_roundw
          case rel => exact ⟨j+1, _, by omega, by go_num, int_eq HN.out.symm, rfl⟩
          case measure => simp [intOf]; omega
        · have HN := hid (show q + ((k*7+j : Nat) : Int) = q + (((k+1)*7 : Nat) : Int) by omega)
          go_wp2
          go_roundw
          case rel => exact ⟨k+1, _, by omega, by go_num, int_eq HN.out, rfl⟩
          case measure => simp [intOf]; omega
    · go_wp2
      go_ret
      exact ⟨ret_int (by omega), _, rfl⟩

set_option maxHeartbeats 2000000 in
theorem markIntA7S_any (v1 : Value) (B : Nat) (fs : List Int) (q : Int) (w : World) (h1 : Own7 w B v1 fs) (hq : 0 ≤ q) (hqn : q + fs.length ≤ 1099511627776) :
    Calls Try.prog 43 #[v1, .int .i64 q] w fun e w' => e = .returned (.int .i64 (q + fs.length)) ∧ Own7 w' B v1 (marks q fs.length) ∧ w.grownBy w' v1.ownBlock := by
  rcases h1.rw.2 with ⟨rfl, hn0⟩ | ⟨g, cap, cur, rfl, hB, hg, hnc, hcm, hcs, htk⟩
  · have hn1 : fs.length = 0 := by have := h1.len; omega
    go_enter Try.func43, Try.ntmps43
    go_wp2
    refine wp_loop_rounds 1 ?_
    rw [rounds_succ]
    go_wp2
    go_ret
    refine ⟨ret_int (by omega), ?_, World.grownBy.refl _ _⟩
    rw [hn1]
    exact Own7.nil _ _
  · have hcap : cap ≤ 9223372036854775807 := by simpa [maxLen] using hcm
    clear hg hcs htk hcm
    obtain ⟨n, hn⟩ : ∃ n, fs.length / 7 = n := ⟨_, rfl⟩
    rw [hn] at h1 hnc ⊢
    have hl := h1.len
    have H1 := hid h1
    have HN := hid hl
    rw [hl] at hqn ⊢
    clear h1 hn hl
    go_enter Try.func43, Try.ntmps43
    go_wp2
    go_loopw [1, 5, 6] (fun kk i _ wr => ∃ k : Nat, k ≤ n ∧ i = .int .i64 k ∧ kk = .int .i64 (q + ((k*7 : Nat) : Int)) ∧ Hid (Own7 wr B (.slice (some ⟨g, 0, none⟩) n cap) (marks q (k*7) ++ fs.drop (k*7))) ∧ w.grownBy wr (some g)) (fun _ i _ _ => n - (intOf i).toNat)
    case atStart => exact ⟨0, by omega, rfl, int_eq (by simp), hid (by simpa [marks] using H1.out), World.grownBy.refl _ _⟩
    case round =>
      obtain ⟨k, hk, rfl, rfl, HO, hgr⟩ := hrel
      by_cases hlt : k < n
      · go_wp2
        go_loopw [1, 6] (fun kk y wr => ∃ j : Nat, j ≤ 7 ∧ y = .int .i64 j ∧ kk = .int .i64 (q + ((k*7+j : Nat) : Int)) ∧ Hid (Own7 wr B (.slice (some ⟨g, 0, none⟩) n cap) (marks q (k*7+j) ++ fs.drop (k*7+j))) ∧ w.grownBy wr (some g)) (fun _ y _ => 7 - (intOf y).toNat)
        case atStart => exact ⟨0, by omega, rfl, rfl, HO, hgr⟩
        case round =>
          clear HO hgr
          obtain ⟨j, hj, rfl, rfl, HO, hgr⟩ := hrel
          by_cases hj7 : j < 7
          · have hc := HO.out.cell (p := k*7+j) (by omega)
            have hfz := HO.out.free (k*7+j)
            obtain ⟨hs1, hs2⟩ := HO.out.set (k*7+j) (q + ((k*7+j : Nat) : Int)) (set_marks (by have := HN.out; omega))
            have HS := hid hs1
            have HG := hid (grown_trans hgr hs2)
            generalize (marks q (k*7+j) ++ fs.drop (k*7+j)).getD (k*7+j) 0 = z1 at hc
            have hk0 : (0 : Int) ≤ k := by omega
            have hkn : (k : Int) < n := by omega
            have hj0 : (0 : Int) ≤ j := by omega
            have hj7' : (j : Int) < 7 := by omega
            have hr : 0 ≤ q + ((k*7+j : Nat) : Int) ∧ q + ((k*7+j : Nat) : Int) < 1099511627776 := by omega
            have HNX := hid (show q + ((k*7+(j+1) : Nat) : Int) = q + ((k*7+j : Nat) : Int) + 1 by omega)
            clear hs1 hs2 HO hgr
            generalize q + ((k*7+j : Nat) : Int) = z at hr HNX HS HG
            go_wp2
            go_roundw
            case rel => exact ⟨j+1, by omega, by go_num, int_eq HNX.out.symm, HS, HG.out⟩
            case measure => simp [intOf]; omega
          · have ho := HO.out
            rw [show k*7+j = (k+1)*7 by omega] at ho
            have HO2 := hid ho
            have HNX := hid (show q + ((k*7+j : Nat) : Int) = q + (((k+1)*7 : Nat) : Int) by omega)
            clear ho HO
            go_wp2
            go_roundw
            case rel => exact ⟨k+1, by omega, by go_num, int_eq HNX.out, HO2, hgr⟩
            case measure => simp [intOf]; omega
      · have ho := HO.out
        rw [List.drop_of_length_le (by rw [HN.out]; omega), List.append_nil, show k*7 = 7*n by omega] at ho
        have HO2 := hid ho
        clear ho HO
        go_wp2
        go_ret
        exact ⟨ret_int (by omega), HO2.out, hgr⟩

end Go.Proofs.Ythfcbnamapgkoaa
