import Derived.Test.YtfgjaefcfmjleaaCode
import Derived.Test.YtfgjaefcfmjleaaApp
namespace Go.Proofs.Ytfgjaefcfmjleaa
open Go.RowKit

theorem wpList_appendG {ops : Array Oper} {rest : List Oper} {o : Oper} {a : Act} {Q : Exit → Act → World → Prop} (w : World) (hgd : o.guard = none) (s x : Operand)
    (ho : o.op = .call { callee := .builtin .append, args := #[s, x], argTypes := #[24, 24] })
    (B : Nat) (v : Value) (xs : List Int) (hown : OwnI w B v xs) (hs : a.eval s = v) (y : Int) (g : Nat) (hg : g = w.heap.size) (hx : a.eval x = .slice (some ⟨g, 0, none⟩) 1 1) (hlen : xs.length ≤ 1099511627776) (hB : B ≤ w.heap.size)
    (h : ∀ v' w', OwnI w' B v' (xs ++ [y]) → w.grownBy w' v.ownBlock → Below B w w' → (v' = .slice none 0 0 → False) → wpList Try.prog ops Q rest (a.put o.dst v') w') :
    wpList Try.prog ops Q (o :: rest) a (w.alloc (.cells #[.int .i64 y] 3)) := by
  subst hg
  exact wpList_appendI w hgd s x ho B v xs hown hs y hx hlen hB h

/-! ## The nearest cells of a list of cells -/
def nearTo (xs : List Int) (c : Int) : Nat → Int
  | 0 => 8
  | k+1 => min (nearTo xs c k) (farI (xs.getD k 0) c)
def nearF (xs : List Int) (c : Int) : Int := nearTo xs c xs.length
def placesTo (xs : List Int) (c g : Int) (k : Nat) : List Int := ((List.range k).filter fun i => farI (xs.getD i 0) c == g).map fun i : Nat => (i : Int)
theorem nearTo_range (xs : List Int) (c : Int) (k : Nat) : 0 ≤ nearTo xs c k ∧ nearTo xs c k ≤ 8 := by
  induction k with
  | zero => simp [nearTo]
  | succ k ih => have := farI_range (xs.getD k 0) c; simp only [nearTo]; omega
theorem nearF_range (xs : List Int) (c : Int) : 0 ≤ nearF xs c ∧ nearF xs c ≤ 8 := nearTo_range _ _ _
theorem nearTo_le (xs : List Int) (c : Int) {k i : Nat} (h : i < k) : nearTo xs c k ≤ farI (xs.getD i 0) c := by
  induction k with
  | zero => omega
  | succ k ih =>
    simp only [nearTo]
    by_cases e : i = k
    · subst e; omega
    · have := ih (by omega); omega
theorem placesTo_yes {xs : List Int} {c g : Int} {k : Nat} (h : (farI (xs.getD k 0) c == g) = true) : placesTo xs c g (k+1) = placesTo xs c g k ++ [(k : Int)] := by
  unfold placesTo
  rw [List.range_succ, List.filter_append, List.map_append]
  simp only [List.filter_cons, h, if_true, List.filter_nil, List.map_cons, List.map_nil]
theorem placesTo_no {xs : List Int} {c g : Int} {k : Nat} (h : (farI (xs.getD k 0) c == g) = false) : placesTo xs c g (k+1) = placesTo xs c g k := by
  unfold placesTo
  rw [List.range_succ, List.filter_append, List.map_append]
  simp only [List.filter_cons, h, Bool.false_eq_true, if_false, List.filter_nil, List.map_nil, List.append_nil]
theorem placesTo_none {xs : List Int} {c g : Int} {k : Nat} (h : g < nearTo xs c k) : placesTo xs c g k = [] := by
  unfold placesTo
  rw [List.map_eq_nil_iff, List.filter_eq_nil_iff]
  intro i hi
  have := nearTo_le xs c (List.mem_range.1 hi)
  rw [beq_iff_eq]
  omega
theorem placesTo_len (xs : List Int) (c g : Int) (k : Nat) : (placesTo xs c g k).length ≤ k := by
  unfold placesTo
  rw [List.length_map]
  exact Nat.le_trans (List.length_filter_le _ _) (by simp)

set_option maxHeartbeats 1000000 in
theorem nearest_any (v1 : Value) (xs : List Int) (c : Int) (w : World) (h1 : Ints w v1 xs) (hcc : ∀ i, i < xs.length → 0 ≤ xs.getD i 0 ∧ xs.getD i 0 ≤ 127) (hc : 0 ≤ c ∧ c ≤ 127) :
    Calls Try.prog 154 #[v1, .int .i64 c] w fun e w' => e = .returned (.int .i64 (nearF xs c)) ∧ w = w' := by
  obtain ⟨n, ao1, cap1, b1, o1, HN, rfl, ha1, hc1, hn1, hm1, HX⟩ := h1.open_
  have HC := hid hcc
  clear h1 hcc
  go_enter Try.func154, Try.ntmps154
  go_wp2
  go_loop [5, 7, 10] (fun mm _ i => ∃ k : Nat, k ≤ n ∧ i = .int .i64 k ∧ mm = .int .i64 (nearTo xs c k)) (fun _ _ i => n - (intOf i).toNat)
  case atStart => exact ⟨0, by omega, rfl, rfl⟩
  case round =>
    obtain ⟨k, hk, rfl, rfl⟩ := hrel
    by_cases hlt : k < n
    · obtain ⟨rfl, hb1⟩ := ha1 (by omega)
      have e1 : w.cell? ⟨b1, o1+k, none⟩ = some (.int .i64 (xs.getD k 0)) := hc1 k (by omega)
      have hx := HC.out k (by rw [HN.out]; exact hlt)
      have HS := hid (show nearTo xs c (k+1) = min (nearTo xs c k) (farI (xs.getD k 0) c) from rfl)
      generalize xs.getD k 0 = x at e1 hx HS
      have hr := xorI_range hx.1 hx.2 hc.1 hc.2
      clear hc1 ha1
      go_wp2_with fail
      refine (count_any (xorI x c) _ hr.1 hr.2).mono ?_
      rintro e w1 ⟨rfl, rfl⟩
      go_wp2
      go_round
      case rel => exact ⟨k+1, by omega, by go_num, int_eq (by rw [HS.out]; show (if farI x c < nearTo xs c k then farI x c else nearTo xs c k) = _; split <;> omega)⟩
      case measure => simp [intOf]; omega
    · go_wp2
      go_ret
      exact ⟨ret_int (by unfold nearF; rw [HN.out, show k = n by omega]), rfl⟩

set_option maxHeartbeats 2000000 in
theorem l5Nearest_any (v1 : Value) (xs : List Int) (c : Int) (w : World) (h1 : Ints w v1 xs) (hl12 : xs.length ≤ 1048576) (hcc : ∀ i, i < xs.length → 0 ≤ xs.getD i 0 ∧ xs.getD i 0 ≤ 127) (hc : 0 ≤ c ∧ c ≤ 127) :
    Calls Try.prog 155 #[v1, .int .i64 c] w fun e w' => ∃ v, e = .returned (.tuple #[v, .int .i64 (nearF xs c)]) ∧ OwnI w' w.heap.size v (placesTo xs c (nearF xs c) xs.length) ∧ Below w.heap.size w w' := by
  obtain ⟨n, ao1, cap1, b1, o1, HN, rfl, ha1, hc1, hn1, hm1, HX⟩ := h1.open_
  rw [HN.out] at hl12
  have HC := hid hcc
  clear h1 hcc
  go_enter Try.func155, Try.ntmps155
  go_wp2
  go_loopw [6, 7, 8, 9] (fun oo mm i _ wr => ∃ k : Nat, k ≤ n ∧ i = .int .i64 k ∧ mm = .int .i64 (nearTo xs c k) ∧ Hid (OwnI wr w.heap.size oo (placesTo xs c (nearTo xs c k) k)) ∧ Below w.heap.size w wr) (fun _ _ i _ _ => n - (intOf i).toNat)
  case atStart => exact ⟨0, by omega, rfl, rfl, hid (OwnI.lit0 _ _ (Nat.le_refl _)), (Below.refl _ _).alloc (Nat.le_refl _) _⟩
  case round =>
    obtain ⟨k, hk, rfl, rfl, HO, hbel⟩ := hrel
    by_cases hlt : k < n
    · obtain ⟨rfl, hb1⟩ := ha1 (by omega)
      have e1 : wr.cell? ⟨b1, o1+k, none⟩ = some (.int .i64 (xs.getD k 0)) := (hbel.cell (by exact hb1)).trans (hc1 k (by omega))
      have hx := HC.out k (by rw [HN.out]; exact hlt)
      have HS := hid (show nearTo xs c (k+1) = min (nearTo xs c k) (farI (xs.getD k 0) c) from rfl)
      have HYES := hid (fun g => placesTo_yes (xs := xs) (c := c) (g := g) (k := k))
      have HNO := hid (fun g => placesTo_no (xs := xs) (c := c) (g := g) (k := k))
      have HNONE := hid (fun g => placesTo_none (xs := xs) (c := c) (g := g) (k := k))
      have hl := placesTo_len xs c (nearTo xs c k) k
      generalize xs.getD k 0 = x at e1 hx HS HYES HNO
      generalize hm : nearTo xs c k = m at HO HS HNONE hl
      have HM := hid hm
      clear hm hc1 ha1
      by_cases h1 : farI x c < m
      · have hb : (farI x c == farI x c) = true := by simp
        have HE : Hid (placesTo xs c (nearTo xs c (k+1)) (k+1) = [] ++ [(k : Int)] ∧ nearTo xs c (k+1) = farI x c) := hid (by
          have e2 : nearTo xs c (k+1) = farI x c := by rw [HS.out]; omega
          rw [e2]
          refine ⟨?_, rfl⟩
          rw [HYES.out _ (by simp), HNONE.out _ h1])
        go_wp2_with (first | (go_at_call 136; refine (l2Far_any _ _ _ hx hc).mono ?_; rintro e w1 ⟨rfl, rfl⟩) | (at_builtin; refine wpList_appendG (wr.alloc (.cells #[] 3)) rfl _ _ rfl w.heap.size _ [] (OwnI.lit0 _ _ hbel.size) rfl k (wr.heap.size + 1) (by simp) rfl (by simp) (by have := hbel.size; simp; omega) ?_; intro v' w2 ho' _ hb' _))
        rw [← HE.out.1] at ho'
        have HO' := hid ho'
        have hbel' := (hbel.alloc hbel.size (.cells #[] 3)).trans hb'
        clear ho' HO hb' hbel e1
        go_wp2
        go_roundw
        case rel => exact ⟨k+1, by omega, by go_num, by rw [HE.out.2], HO', hbel'⟩
        case measure => simp [intOf]; omega
      · by_cases h2 : farI x c = m
        · have hb : (farI x c == m) = true := by simpa using h2
          have HE : Hid (placesTo xs c (nearTo xs c (k+1)) (k+1) = placesTo xs c m k ++ [(k : Int)] ∧ nearTo xs c (k+1) = m) := hid (by
            have e2 : nearTo xs c (k+1) = m := by rw [HS.out]; omega
            rw [e2]
            exact ⟨HYES.out _ hb, rfl⟩)
          clear h2
          go_wp2_with (first | (go_at_call 136; refine (l2Far_any _ _ _ hx hc).mono ?_; rintro e w1 ⟨rfl, rfl⟩) | (at_builtin; refine wpList_appendI wr rfl _ _ rfl w.heap.size _ _ HO.out rfl k rfl (by omega) hbel.size ?_; intro v' w2 ho' _ hb' _))
          rw [← HE.out.1] at ho'
          have HO' := hid ho'
          have hbel' := hbel.trans hb'
          clear ho' HO hb' hbel e1
          go_wp2
          go_roundw
          case rel => exact ⟨k+1, by omega, by go_num, by rw [HE.out.2], HO', hbel'⟩
          case measure => simp [intOf]; omega
        · have hb : (farI x c == m) = false := by simpa using h2
          have HE : Hid (placesTo xs c (nearTo xs c (k+1)) (k+1) = placesTo xs c m k ∧ nearTo xs c (k+1) = m) := hid (by
            have e2 : nearTo xs c (k+1) = m := by rw [HS.out]; omega
            rw [e2]
            exact ⟨HNO.out _ hb, rfl⟩)
          clear h2
          go_wp2_with (go_at_call 136; refine (l2Far_any _ _ _ hx hc).mono ?_; rintro e w1 ⟨rfl, rfl⟩)
          go_roundw
          case rel => exact ⟨k+1, by omega, by go_num, by rw [HE.out.2], by rw [HE.out.1]; exact HO, hbel⟩
          case measure => simp [intOf]; omega
    · have ho := HO.out
      rw [show k = xs.length by rw [HN.out]; omega] at ho
      have HO' := hid ho
      clear ho HO
      go_wp2
      go_ret2
      exact ⟨_, by unfold nearF; rw [HN.out, show k = n by omega]; rfl, HO'.out, hbel⟩

end Go.Proofs.Ytfgjaefcfmjleaa
