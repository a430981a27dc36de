import Derived.Test.YtfgjaefcfmjleaaRows1
import Derived.Deep.RegionHeld3
namespace Go.Proofs.Ytfgjaefcfmjleaa
open Go.RowKit

/-! ## PlainFrame -/
theorem wpList_appendS {ops : Array Oper} {rest : List Oper} {o : Oper} {a : Act} {Q : Exit → Act → World → Prop} (w : World) (hgd : o.guard = none) (s x : Operand)
    (ho : o.op = .call { callee := .builtin .append, args := #[s, x], argTypes := #[57, 57] })
    (B : Nat) (v : Value) (xs : List (Int × Int)) (hown : Own2 108 w B v xs) (hs : a.eval s = v) (y z : Int) (hx : a.eval x = .slice (some ⟨w.heap.size, 0, none⟩) 1 1) (hlen : xs.length ≤ 1099511627776) (hB : B ≤ w.heap.size)
    (h : ∀ v' w', Own2 108 w' B v' (xs ++ [(y, z)]) → w.grownBy w' v.ownBlock → Below B w w' → wpList Try.prog ops Q rest (a.put o.dst v') w') :
    wpList Try.prog ops Q (o :: rest) a (w.alloc (.cells #[.int .i64 y, .int .i64 z] 108)) := by
  obtain ⟨i0, hi, hz0, hz1, hz2⟩ := info_parts infoSlot
  refine wpList_append_own _ hgd s x 57 ho B 108 i0 (.agg #[.int .i64 0, .int .i64 0]) 2 16 Try.underlying57 hi hz0 hz1 hz2 rfl (by decide) v xs.length (flat2 xs) hs (World.ownsRow.alloc hown _)
    ⟨w.heap.size, 0, none⟩ 1 1 [.int .i64 y, .int .i64 z] hx rfl ?_ ?_ ?_ ?_ ?_ ?_
  · intro j u hj
    match j, hj with
    | 0, hj => simp at hj; subst hj; simp [Addr.add, go_sem]
    | 1, hj => simp at hj; subst hj; simp [Addr.add, go_sem]
  · intro u hu; simp at hu; rcases hu with rfl | rfl <;> rfl
  · unfold maxLen; omega
  · omega
  · simp; omega
  · intro v' w' h1 h2 h3
    have hg : w.grownBy w' v.ownBlock := grown_trans (World.grownBy_alloc w _ _) h2
    refine h v' w' ?_ hg ((Below.refl _ _).grown hg hB (fun k hk => (World.ownsRow.lt hown k hk).1))
    unfold Own2
    rw [List.length_append, flat2_append]
    exact h1

theorem step_appendS {ops : Array Oper} {o : Oper} {a : Act} {K : Act → World → Prop} {Q : Exit → Act → World → Prop} {E : Prop} (w : World) (hgd : o.guard = none) (s x : Operand)
    (ho : o.op = .call { callee := .builtin .append, args := #[s, x], argTypes := #[57, 57] })
    (B : Nat) (v : Value) (xs : List (Int × Int)) (hown : Own2 108 w B v xs) (hs : a.eval s = v) (y z : Int) (hx : a.eval x = .slice (some ⟨w.heap.size, 0, none⟩) 1 1) (hlen : xs.length ≤ 1099511627776) (hB : B ≤ w.heap.size)
    (h : ∀ v' w', Own2 108 w' B v' (xs ++ [(y, z)]) → Below B w w' → K (a.put o.dst v') w') :
    if Region.wanted o (yielded ops a.tmps) = true then Oper.wp Try.prog o a (w.alloc (.cells #[.int .i64 y, .int .i64 z] 108)) K Q else E := by
  have hw : Region.wanted o (yielded ops a.tmps) = true := by simp [Region.wanted, hgd]
  rw [if_pos hw]
  obtain ⟨i0, hi, hz0, hz1, hz2⟩ := info_parts infoSlot
  refine wp_append_own _ s x 57 ho B 108 i0 (.agg #[.int .i64 0, .int .i64 0]) 2 16 Try.underlying57 hi hz0 hz1 hz2 rfl (by decide) v xs.length (flat2 xs) hs (World.ownsRow.alloc hown _)
    ⟨w.heap.size, 0, none⟩ 1 1 [.int .i64 y, .int .i64 z] hx rfl ?_ ?_ ?_ ?_ ?_ ?_
  · intro j u hj
    match j, hj with
    | 0, hj => simp at hj; subst hj; simp [Addr.add, go_sem]
    | 1, hj => simp at hj; subst hj; simp [Addr.add, go_sem]
  · intro u hu; simp at hu; rcases hu with rfl | rfl <;> rfl
  · unfold maxLen; omega
  · omega
  · simp; omega
  · intro v' w' h1 h2 h3
    have hg : w.grownBy w' v.ownBlock := grown_trans (World.grownBy_alloc w _ _) h2
    refine h v' w' ?_ ((Below.refl _ _).grown hg hB (fun k hk => (World.ownsRow.lt hown k hk).1))
    unfold Own2
    rw [List.length_append, flat2_append]
    exact h1

def plainTo (xs : List Int) (i : Nat) : List (Int × Int) := ((List.range i).filter fun j => xs.getD j 0 != 0).map fun j : Nat => ((2 : Int) ^ j, xs.getD j 0)
theorem plainTo_yes {xs : List Int} {k : Nat} (h : (xs.getD k 0 != 0) = true) : plainTo xs (k+1) = plainTo xs k ++ [((2 : Int) ^ k, xs.getD k 0)] := by
  unfold plainTo
  rw [List.range_succ, List.filter_append, List.map_append]
  simp only [List.filter_cons, h, if_true, List.filter_nil, List.map_cons, List.map_nil]
theorem plainTo_no {xs : List Int} {k : Nat} (h : (xs.getD k 0 != 0) = false) : plainTo xs (k+1) = plainTo xs k := by
  unfold plainTo
  rw [List.range_succ, List.filter_append, List.map_append]
  simp only [List.filter_cons, h, Bool.false_eq_true, if_false, List.filter_nil, List.map_nil, List.append_nil]
theorem plainTo_len (xs : List Int) (k : Nat) : (plainTo xs k).length ≤ k := by
  unfold plainTo
  rw [List.length_map]
  exact Nat.le_trans (List.length_filter_le _ _) (by simp)
def plainR (xs : List Int) : List (Int × Int) × Bool := if someB xs then (plainTo xs xs.length, true) else ([], false)
theorem plainR_no {xs : List Int} (h : someB xs = false) : plainR xs = ([], false) := by simp [plainR, h]
theorem plainR_yes {xs : List Int} (h : someB xs = true) : plainR xs = (plainTo xs xs.length, true) := by simp [plainR, h]
theorem plainR_len (xs : List Int) : (plainR xs).1.length ≤ 1048576 := by
  unfold plainR
  split
  · rename_i h
    have := (rowB_true (someB_true h).1).1
    have := plainTo_len xs xs.length
    simp only
    omega
  · simp

set_option maxHeartbeats 1000000 in
theorem implPlainFrame_any (v1 : Value) (xs : List Int) (w : World) (h1 : Ints w v1 xs) :
    Calls Try.prog 106 #[v1] w fun e w' => ∃ v, e = .returned (.tuple #[v, .bool (plainR xs).2]) ∧ Own2 108 w' w.heap.size v (plainR xs).1 ∧ Below w.heap.size w w' := by
  obtain ⟨n, ao1, cap1, b1, o1, HN, rfl, ha1, hc1, hn1, hm1, HX⟩ := h1.open_
  clear h1
  cases hs : someB xs with
  | false =>
    rw [plainR_no hs]
    go_enter Try.func106, Try.ntmps106
    go_wp2_with (go_at_call 203; refine (isSome_any _ xs _ HX.out).mono ?_; rintro e w1 ⟨rfl, hb⟩)
    go_ret2
    exact ⟨_, rfl, Own2.nil _ _ _, hb⟩
  | true =>
  rw [plainR_yes hs]
  have hl6 := (rowB_true (someB_true hs).1).1
  rw [HN.out] at hl6
  go_enter Try.func106, Try.ntmps106
  go_wp2_with (go_at_call 203; refine (isSome_any _ xs _ HX.out).mono ?_; rintro e w1 ⟨rfl, hb⟩)
  go_loopw [4, 5, 6, 12] (fun oo _ _ i wr => ∃ k : Nat, k ≤ n ∧ i = .int .i64 k ∧ Hid (Own2 108 wr w.heap.size oo (plainTo xs k)) ∧ Below w.heap.size w wr) (fun _ _ _ i _ => n - (intOf i).toNat)
  case atStart => exact ⟨0, by omega, rfl, hid (Own2.nil _ _ _), hb⟩
  case round =>
    obtain ⟨k, hk, rfl, HO, hbel⟩ := hrel
    by_cases hlt : k < n
    · obtain ⟨rfl, hb1⟩ := ha1 (by omega)
      have e1 : wr.cell? ⟨b1, o1+k, none⟩ = some (.int .i64 (xs.getD k 0)) := (hbel.cell (by exact hb1)).trans (hc1 k (by omega))
      have HYES := hid (plainTo_yes (xs := xs) (k := k))
      have HNO := hid (plainTo_no (xs := xs) (k := k))
      have hl := plainTo_len xs k
      have hp := pow6 (show k ≤ 6 by omega)
      generalize xs.getD k 0 = x at e1 HYES HNO
      clear hc1 ha1 hb
      cases hx : (x != 0) with
      | true =>
        have HE := hid (HYES.out hx)
        go_wp2_with (at_builtin; refine wpList_appendS wr rfl _ _ rfl w.heap.size _ _ HO.out rfl ((2 : Int) ^ k) x rfl (by omega) hbel.size ?_; intro v' w2 ho' _ hb')
        rw [← HE.out] at ho'
        have HO' := hid ho'
        have hbel' := hbel.trans hb'
        clear ho' HO hb' hbel e1
        go_wp2
        go_roundw
        case rel => exact ⟨k+1, by omega, by go_num, HO', hbel'⟩
        case measure => simp [intOf]; omega
      | false =>
        have HE := hid (HNO.out hx)
        go_wp2
        go_roundw
        case rel => exact ⟨k+1, by omega, by go_num, by rw [HE.out]; exact HO, hbel⟩
        case measure => simp [intOf]; omega
    · have ho := HO.out
      rw [show k = xs.length by rw [HN.out]; omega] at ho
      have HO' := hid ho
      clear ho HO
      go_wp2
      go_ret2
      exact ⟨_, rfl, HO'.out, hbel⟩

set_option maxHeartbeats 1000000 in
theorem specPlainFrame_any (v1 : Value) (xs : List Int) (w : World) (h1 : Ints w v1 xs) :
    Calls Try.prog 107 #[v1] w fun e w' => ∃ v, e = .returned (.tuple #[v, .bool (plainR xs).2]) ∧ Own2 108 w' w.heap.size v (plainR xs).1 ∧ Below w.heap.size w w' := by
  obtain ⟨n, ao1, cap1, b1, o1, HN, rfl, ha1, hc1, hn1, hm1, HX⟩ := h1.open_
  have HB0 := hid ((Below.refl w.heap.size w).alloc (Nat.le_refl _) (.cells #[] 108))
  have HX0 := hid (h1.later HB0.out)
  clear h1
  cases hr : rowB xs with
  | false =>
    rw [plainR_no (by simp [someB, hr])]
    go_enter Try.func107, Try.ntmps107
    go_wp2_with (go_at_call 186; refine (l2Row_any _ xs _ HX0.out).mono ?_; rintro e w1 ⟨rfl, rfl⟩)
    go_ret2
    exact ⟨_, rfl, Own2.lit0 _ _ _ (Nat.le_refl _), HB0.out⟩
  | true =>
  by_cases hn0 : n = 0
  · subst hn0
    rw [plainR_no (by simp [someB, HN.out])]
    go_enter Try.func107, Try.ntmps107
    go_wp2_with (go_at_call 186; refine (l2Row_any _ xs _ HX0.out).mono ?_; rintro e w1 ⟨rfl, rfl⟩)
    go_ret2
    exact ⟨_, rfl, Own2.lit0 _ _ _ (Nat.le_refl _), HB0.out⟩
  have hz : ((n : Int) == 0) = false := by simpa using hn0
  have hs : someB xs = true := by simp [someB, hr, HN.out]; omega
  rw [plainR_yes hs]
  have hl6 := (rowB_true hr).1
  rw [HN.out] at hl6
  go_enter Try.func107, Try.ntmps107
  go_wp2_with (go_at_call 186; refine (l2Row_any _ xs _ HX0.out).mono ?_; rintro e w1 ⟨rfl, rfl⟩)
  go_loopw [4, 5] (fun oo i wr => ∃ k : Nat, k ≤ n ∧ i = .int .i64 k ∧ Hid (Own2 108 wr w.heap.size oo (plainTo xs k)) ∧ Below w.heap.size w wr) (fun _ i _ => n - (intOf i).toNat)
  case atStart => exact ⟨0, by omega, rfl, hid (Own2.lit0 _ _ _ (Nat.le_refl _)), HB0.out⟩
  case round =>
    obtain ⟨k, hk, rfl, HO, hbel⟩ := hrel
    by_cases hlt : k < n
    · obtain ⟨rfl, hb1⟩ := ha1 (by omega)
      have e1 : wr.cell? ⟨b1, o1+k, none⟩ = some (.int .i64 (xs.getD k 0)) := (hbel.cell (by exact hb1)).trans (hc1 k (by omega))
      have HYES := hid (plainTo_yes (xs := xs) (k := k))
      have HNO := hid (plainTo_no (xs := xs) (k := k))
      have hl := plainTo_len xs k
      have hp := pow6 (show k ≤ 6 by omega)
      have hw1 := (wrapTop (show k ≤ 6 by omega)).1
      generalize xs.getD k 0 = x at e1 HYES HNO
      have hk0 : (0 : Int) ≤ k := by omega
      have hk1 : (k : Int) < n := by omega
      clear hc1 ha1
      cases hx : (x != 0) with
      | true =>
        have HE := hid (HYES.out hx)
        go_wp2
        have HO1 : Hid (Own2 108 wr.drew w.heap.size u4 (plainTo xs k)) := hid (HO.out.drawn 1)
        have hbel1 := hbel.drew
        clear HO hbel
        go_region_held3 (fun w' => w'.cell? ⟨b1, o1+k, none⟩ = some (.int .i64 x)) (first | go_keep | (rw [hb'.cell (by exact hb1)]; assumption)) ((refine step_appendS wr.drew rfl _ _ rfl w.heap.size _ _ HO1.out (by rfl) ((2 : Int) ^ k) x (by rfl) (by omega) hbel1.size ?_; intro v' w2 ho' hb'))
        rw [← HE.out] at ho'
        have HO' := hid ho'
        have hbel' := hbel1.trans hb'
        clear ho' HO1 hb' hbel1
        go_wp2
        go_roundw
        case rel => exact ⟨k+1, by omega, by go_num, HO', hbel'⟩
        case measure => simp [intOf]; omega
      | false =>
        have HE := hid (HNO.out hx)
        go_wp2
        go_roundw
        case rel => exact ⟨k+1, by omega, by go_num, by rw [HE.out]; exact HO, hbel⟩
        case measure => simp [intOf]; omega
    · have ho := HO.out
      rw [show k = xs.length by rw [HN.out]; omega] at ho
      have HO' := hid ho
      clear ho HO
      go_wp2
      go_ret2
      exact ⟨_, rfl, HO'.out, hbel⟩

end Go.Proofs.Ytfgjaefcfmjleaa
