import Derived.Test.YtfgjaefcfmjleaaCode
import Derived.Test.YtfgjaefcfmjleaaAppP
import Derived.Test.YtfgjaefcfmjleaaTwo
namespace Go.Proofs.Ytfgjaefcfmjleaa
open Go.RowKit

/-! ## pairs of places -/
def innerP (xs : List Int) (p : Int → Bool) (i k : Nat) : List (Int × Int) :=
  ((List.range k).filter fun j => decide (i < j) && p (farI (xs.getD i 0) (xs.getD j 0))).map fun j : Nat => ((i : Int), (j : Int))
def pairsTo (xs : List Int) (p : Int → Bool) (i : Nat) : List (Int × Int) := (List.range i).flatMap fun a => innerP xs p a xs.length
def pairsL (xs : List Int) (p : Int → Bool) : List (Int × Int) := pairsTo xs p xs.length

theorem innerP_start (xs : List Int) (p : Int → Bool) (i : Nat) : innerP xs p i (i+1) = [] := by
  unfold innerP
  rw [List.map_eq_nil_iff, List.filter_eq_nil_iff]
  intro j hj
  have : ¬ i < j := by have := List.mem_range.1 hj; omega
  simp [this]
theorem innerP_yes {xs : List Int} {p : Int → Bool} {i k : Nat} (h : i < k) (hp : p (farI (xs.getD i 0) (xs.getD k 0)) = true) : innerP xs p i (k+1) = innerP xs p i k ++ [((i : Int), (k : Int))] := by
  unfold innerP
  rw [List.range_succ, List.filter_append, List.map_append]
  simp only [List.filter_cons, h, hp, decide_true, Bool.and_self, if_true, List.filter_nil, List.map_cons, List.map_nil]
theorem innerP_no {xs : List Int} {p : Int → Bool} {i k : Nat} (hp : p (farI (xs.getD i 0) (xs.getD k 0)) = false) : innerP xs p i (k+1) = innerP xs p i k := by
  unfold innerP
  rw [List.range_succ, List.filter_append, List.map_append]
  simp only [List.filter_cons, hp, Bool.and_false, Bool.false_eq_true, if_false, List.filter_nil, List.map_nil, List.append_nil]
theorem pairsTo_succ (xs : List Int) (p : Int → Bool) (i : Nat) : pairsTo xs p (i+1) = pairsTo xs p i ++ innerP xs p i xs.length := by
  simp [pairsTo, List.range_succ, List.flatMap_append]
theorem innerP_len (xs : List Int) (p : Int → Bool) (i k : Nat) : (innerP xs p i k).length ≤ k := by
  unfold innerP
  rw [List.length_map]
  exact Nat.le_trans (List.length_filter_le _ _) (by simp)
theorem pairsTo_len (xs : List Int) (p : Int → Bool) (i : Nat) : (pairsTo xs p i).length ≤ i * xs.length := by
  induction i with
  | zero => simp [pairsTo]
  | succ i ih =>
    rw [pairsTo_succ, List.length_append, Nat.succ_mul]
    have := innerP_len xs p i xs.length
    omega
theorem pairsL_len {xs : List Int} (p : Int → Bool) (h : xs.length ≤ 12) : (pairsL xs p).length ≤ 144 := by
  have := pairsTo_len xs p xs.length
  have h2 : xs.length * xs.length ≤ 12 * 12 := Nat.mul_le_mul h h
  unfold pairsL
  omega

set_option maxHeartbeats 2000000 in
theorem pairs_any (v1 : Value) (xs : List Int) (f : FuncId) (ad : Addr) (p : Int → Bool) (w : World) (h1 : Ints w v1 xs) (hl12 : xs.length ≤ 12) (hcells : ∀ i, i < xs.length → 0 ≤ xs.getD i 0 ∧ xs.getD i 0 ≤ 127)
    (hcf : ∀ (args : Array Value) (w : World), (callFunc f args).run Try.prog w = .ok (.enter f args) w)
    (hcl : ∀ w', Below w.heap.size w w' → ∀ x, 0 ≤ x → x ≤ 7 → Calls Try.prog f #[.int .i64 x, .pointer (some ad)] w' fun e w'' => e = .returned (.bool (p x)) ∧ w' = w'') :
    Calls Try.prog 134 #[v1, .func (.func f) #[] #[.pointer (some ad)]] w fun e w' => ∃ v, e = .returned v ∧ Own2 42 w' w.heap.size v (pairsL xs p) ∧ Below w.heap.size w w' := by
  obtain ⟨n, ao1, cap1, b1, o1, HN, rfl, ha1, hc1, hn1, hm1, HX⟩ := h1.open_
  rw [HN.out] at hl12
  have HC := hid hcells
  have HCL := hid hcl
  clear hcells hcl h1
  go_enter Try.func134, Try.ntmps134
  go_wp2
  go_loopw [5, 6, 7, 8, 11] (fun v _ _ _ ii wr => ∃ i : Nat, i ≤ n ∧ ii = .int .i64 i ∧ Hid (Own2 42 wr w.heap.size v (pairsTo xs p i)) ∧ Below w.heap.size w wr) (fun _ _ _ _ ii _ => n - (intOf ii).toNat)
  case atStart => exact ⟨0, by omega, rfl, hid (Own2.nil _ _ _), Below.refl _ _⟩
  case round =>
    obtain ⟨i, hi, rfl, HO, hbel⟩ := hrel
    by_cases hlt : i < n
    · obtain ⟨rfl, hb1⟩ := ha1 (by omega)
      have e1 : wr.cell? ⟨b1, o1+i, none⟩ = some (.int .i64 (xs.getD i 0)) := (hbel.cell (by exact hb1)).trans (hc1 i (by omega))
      have hx := HC.out i (by rw [HN.out]; exact hlt)
      generalize hxe : xs.getD i 0 = x at e1 hx
      have HXX := hid hxe
      have HC1 := hid hc1
      clear hxe hc1 ha1
      obtain ⟨wo, rfl⟩ : ∃ wo : World, wo = wr := ⟨_, rfl⟩
      go_wp2
      go_loopw [5, 8] (fun v kk wr => ∃ k : Nat, i < k ∧ k ≤ n ∧ kk = .int .i64 k ∧ Hid (Own2 42 wr w.heap.size v (pairsTo xs p i ++ innerP xs p i k)) ∧ Below w.heap.size w wr) (fun _ kk _ => n - (intOf kk).toNat)
      case atStart => exact ⟨i+1, by omega, by omega, by go_num, hid (by rw [innerP_start, List.append_nil]; exact HO.out), hbel⟩
      case round =>
        obtain ⟨k, hik, hk, rfl, HO2, hbel2⟩ := hrel
        clear hbel HO e1
        by_cases hkt : k < n
        · have e2 : wr.cell? ⟨b1, o1+k, none⟩ = some (.int .i64 (xs.getD k 0)) := (hbel2.cell (by exact hb1)).trans (HC1.out k (by omega))
          have hy := HC.out k (by rw [HN.out]; exact hkt)
          generalize hye : xs.getD k 0 = y at e2 hy
          have HYY := hid hye
          clear hye
          have hr := xorI_range hx.1 hx.2 hy.1 hy.2
          have hf := farI_range x y
          have hlen : (pairsTo xs p i ++ innerP xs p i k).length ≤ 1099511627776 := by
            have h1 := pairsTo_len xs p i
            have h2 := innerP_len xs p i k
            have h3 : i * xs.length ≤ 12 * 12 := Nat.mul_le_mul (by omega) (by rw [HN.out]; exact hl12)
            rw [List.length_append]
            omega
          cases hp : p (farI x y) with
          | true =>
            have HS := hid (innerP_yes (p := p) hik (by rw [HXX.out, HYY.out]; exact hp))
            go_wp2_with fail
            refine (count_any (xorI x y) _ hr.1 hr.2).mono ?_
            rintro e w1 ⟨rfl, rfl⟩
            go_wp2_with fail
            refine (HCL.out _ hbel2 (farI x y) hf.1 hf.2).mono ?_
            rintro e w1 ⟨rfl, rfl⟩
            rw [hp]
            clear hp
            go_wp2_with (at_builtin; refine wpList_appendP wr rfl _ _ rfl w.heap.size _ _ HO2.out rfl i k rfl hlen hbel2.size ?_; intro v' w2 ho' _ hb')
            rw [List.append_assoc, ← HS.out] at ho'
            have HO3 := hid ho'
            have hbel3 := hbel2.trans hb'
            clear ho' HO2 hb' hbel2 e2 HS hlen
            go_wp2
            go_roundw
            case rel => exact ⟨k+1, by omega, by omega, by go_num, HO3, hbel3⟩
            case measure => simp [intOf]; omega
          | false =>
            have HS := hid (innerP_no (p := p) (i := i) (k := k) (by rw [HXX.out, HYY.out]; exact hp))
            go_wp2_with fail
            refine (count_any (xorI x y) _ hr.1 hr.2).mono ?_
            rintro e w1 ⟨rfl, rfl⟩
            go_wp2_with fail
            refine (HCL.out _ hbel2 (farI x y) hf.1 hf.2).mono ?_
            rintro e w1 ⟨rfl, rfl⟩
            rw [hp]
            clear hp hlen
            go_wp2
            go_roundw
            case rel => exact ⟨k+1, by omega, by omega, by go_num, by rw [HS.out]; exact HO2, hbel2⟩
            case measure => simp [intOf]; omega
        · have hk' : k = n := by omega
          have ho := HO2.out
          have HS := hid (pairsTo_succ xs p i)
          rw [hk', ← HN.out, ← HS.out] at ho
          have HO3 := hid ho
          clear ho HO2
          go_wp2
          go_roundw
          case rel => exact ⟨i+1, by omega, by go_num, HO3, hbel2⟩
          case measure => simp [intOf]; omega
    · have ho := HO.out
      rw [show i = xs.length by rw [HN.out]; omega] at ho
      have HO3 := hid ho
      clear ho HO
      go_wp2
      go_ret
      exact ⟨_, rfl, HO3.out, hbel⟩

end Go.Proofs.Ytfgjaefcfmjleaa
