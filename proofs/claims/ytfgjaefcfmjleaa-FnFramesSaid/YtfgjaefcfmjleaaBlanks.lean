import Derived.Test.YtfgjaefcfmjleaaPlain
import Derived.Test.YtfgjaefcfmjleaaAllS
namespace Go.Proofs.Ytfgjaefcfmjleaa
open Go.RowKit

/-! ## WithBlanks -/
theorem wpList_appendS2 {ops : Array Oper} {rest : List Oper} {o : Oper} {a : Act} {Q : Exit → Act → World → Prop} (w : World) (hgd : o.guard = none) (s x : Operand)
    (ho : o.op = .call { callee := .builtin .append, args := #[s, x], argTypes := #[57, 57] })
    (B : Nat) (v : Value) (xs : List (Int × Int)) (hown : Own2 108 w B v xs) (hs : a.eval s = v) (y z y' z' : Int) (g : Nat) (hgs : g = w.heap.size) (hx : a.eval x = .slice (some ⟨g, 0, none⟩) 2 2) (hlen : xs.length ≤ 1099511627776) (hB : B ≤ w.heap.size)
    (h : ∀ v' w', Own2 108 w' B v' (xs ++ [(y, z), (y', z')]) → w.grownBy w' v.ownBlock → Below B w w' → wpList Try.prog ops Q rest (a.put o.dst v') w') :
    wpList Try.prog ops Q (o :: rest) a (w.alloc (.cells #[.int .i64 y, .int .i64 z, .int .i64 y', .int .i64 z'] 108)) := by
  subst hgs
  obtain ⟨i0, hi, hz0, hz1, hz2⟩ := info_parts infoSlot
  refine wpList_append_own _ hgd s x 57 ho B 108 i0 (.agg #[.int .i64 0, .int .i64 0]) 2 16 Try.underlying57 hi hz0 hz1 hz2 rfl (by decide) v xs.length (flat2 xs) hs (World.ownsRow.alloc hown _)
    ⟨w.heap.size, 0, none⟩ 2 2 [.int .i64 y, .int .i64 z, .int .i64 y', .int .i64 z'] hx rfl ?_ ?_ ?_ ?_ ?_ ?_
  · intro j u hj
    match j, hj with
    | 0, hj => simp at hj; subst hj; simp [Addr.add, go_sem]
    | 1, hj => simp at hj; subst hj; simp [Addr.add, go_sem]
    | 2, hj => simp at hj; subst hj; simp [Addr.add, go_sem]
    | 3, hj => simp at hj; subst hj; simp [Addr.add, go_sem]
  · intro u hu; simp at hu; rcases hu with rfl | rfl | rfl | rfl <;> rfl
  · unfold maxLen; omega
  · omega
  · simp; omega
  · intro v' w' h1 h2 h3
    have hg : w.grownBy w' v.ownBlock := grown_trans (World.grownBy_alloc w _ _) h2
    refine h v' w' ?_ hg ((Below.refl _ _).grown hg hB (fun k hk => (World.ownsRow.lt hown k hk).1))
    unfold Own2
    rw [List.length_append, flat2_append]
    exact h1


def blanksTo (xs : List (Int × Int)) (k : Nat) : List (Int × Int) := (xs.take k).flatMap fun p => [p, (0, 0)]
theorem blanksTo_len (xs : List (Int × Int)) (k : Nat) : (blanksTo xs k).length ≤ 2 * k := by
  unfold blanksTo
  have h : ∀ ys : List (Int × Int), (ys.flatMap fun p => [p, (0, 0)]).length = 2 * ys.length := by
    intro ys
    induction ys with
    | nil => rfl
    | cons y ys ih => rw [List.flatMap_cons, List.length_append, ih]; simp; omega
  rw [h, List.length_take]
  omega
theorem blanksTo_zero (xs : List (Int × Int)) : blanksTo xs 0 = [] := rfl
theorem blanksTo_succ {xs : List (Int × Int)} {k : Nat} (h : k < xs.length) : blanksTo xs (k+1) = blanksTo xs k ++ [((xs.getD k (0,0)).1, (xs.getD k (0,0)).2), (0, 0)] := by
  unfold blanksTo
  have e : xs.take (k+1) = xs.take k ++ [xs.getD k (0,0)] := by
    rw [List.take_succ_eq_append_getElem h]
    simp [List.getD, h]
  rw [e, List.flatMap_append]
  rfl
def blanksR (k : Int) (xs : List (Int × Int)) : List (Int × Int) × Bool := if drivenB k xs && decide (xs.length ≤ 6) then (blanksTo xs xs.length, true) else ([], false)
theorem blanksR_no {k : Int} {xs : List (Int × Int)} (h : drivenB k xs = false) : blanksR k xs = ([], false) := by simp [blanksR, h]
theorem blanksR_big {k : Int} {xs : List (Int × Int)} (h : ¬ xs.length ≤ 6) : blanksR k xs = ([], false) := by simp [blanksR, h]
theorem blanksR_yes {k : Int} {xs : List (Int × Int)} (h : drivenB k xs = true) (h6 : xs.length ≤ 6) : blanksR k xs = (blanksTo xs xs.length, true) := by simp [blanksR, h, h6]
theorem blanksR_len (k : Int) (xs : List (Int × Int)) : (blanksR k xs).1.length ≤ 1048576 := by
  unfold blanksR
  split
  · rename_i h
    simp at h
    have := blanksTo_len xs xs.length
    simp only
    omega
  · simp

set_option maxRecDepth 100000 in
set_option maxHeartbeats 2000000 in
theorem implWithBlanks_any (k : Int) (v1 : Value) (xs : List (Int × Int)) (w : World) (h1 : Two w v1 xs) :
    Calls Try.prog 102 #[.int .i64 k, v1] w fun e w' => ∃ v, e = .returned (.tuple #[v, .bool (blanksR k xs).2]) ∧ Own2 108 w' w.heap.size v (blanksR k xs).1 ∧ Below w.heap.size w w' := by
  obtain ⟨n, ao1, cap1, b1, o1, HN, rfl, ha1, hc1, hn1, hm1, HX⟩ := h1.open_
  clear h1
  cases hs : drivenB k xs with
  | false =>
    rw [blanksR_no hs]
    go_enter Try.func102, Try.ntmps102
    go_wp2_with (go_at_call 193; refine (isDriven_any _ _ xs _ HX.out).mono ?_; rintro e w1 ⟨rfl, hb⟩)
    go_ret2
    exact ⟨_, rfl, Own2.nil _ _ _, hb⟩
  | true =>
  have hl12 : n ≤ 12 := by have := (frameB_true (drivenB_true hs).2).1; rw [HN.out] at this; exact this
  by_cases h6 : n ≤ 6
  · have h6' : ¬ ((12:Int) < 2 * n) := by omega
    rw [blanksR_yes hs (by rw [HN.out]; exact h6)]
    go_enter Try.func102, Try.ntmps102
    go_wp2_with (go_at_call 193; refine (isDriven_any _ _ xs _ HX.out).mono ?_; rintro e w1 ⟨rfl, hb⟩)
    go_loopw [6, 8, 21] (fun oo _ i wr => ∃ k : Nat, k ≤ n ∧ i = .int .i64 k ∧ Hid (Own2 108 wr w.heap.size oo (blanksTo xs k)) ∧ Below w.heap.size w wr) (fun _ _ i _ => n - (intOf i).toNat)
    case atStart => exact ⟨0, by omega, rfl, hid (Own2.nil _ _ _), hb⟩
    case round =>
      obtain ⟨k, hk, rfl, HO, hbel⟩ := hrel
      by_cases hlt : k < n
      · obtain ⟨rfl, hb1⟩ := ha1 (by omega)
        have HC1 := hid (hc1 k hlt)
        have e1 : wr.cell? ⟨b1, o1+k*2, none⟩ = some (.int .i64 (xs.getD k (0,0)).1) := (hbel.cell (by exact hb1)).trans HC1.out.1
        have e2 : wr.cell? ⟨b1, o1+k*2+1, none⟩ = some (.int .i64 (xs.getD k (0,0)).2) := (hbel.cell (by exact hb1)).trans HC1.out.2
        have HYES := hid (blanksTo_succ (xs := xs) (k := k) (by rw [HN.out]; exact hlt))
        have hl := blanksTo_len xs k
        generalize hgc : (xs.getD k (0,0)).1 = c at e1 HYES
        generalize hgb : (xs.getD k (0,0)).2 = b at e2 HYES
        clear hc1 ha1 hgc hgb HC1
        have HOA := hid (HO.out.alloc (.cells #[.int .i64 c, .int .i64 b] 108))
        have hbelA := hbel.alloc hbel.size (.cells #[.int .i64 c, .int .i64 b] 108)
        go_wp2_with (at_builtin; refine wpList_appendS2 (wr.alloc (.cells #[.int .i64 c, .int .i64 b] 108)) rfl _ _ rfl w.heap.size _ _ HOA.out rfl c b 0 0 (wr.heap.size+1) (by simp) rfl (by omega) hbelA.size ?_; intro v' w2 ho' _ hb')
        rw [← HYES.out] at ho'
        have HO' := hid ho'
        have hbel' := hbelA.trans hb'
        clear ho' HO HOA hb' hbel hbelA e1 e2
        go_wp2
        go_roundw
        case rel => exact ⟨k+1, by omega, by go_num, HO', hbel'⟩
        case measure => simp [intOf]; omega
      · have ho := HO.out
        rw [show k = xs.length by rw [HN.out]; omega] at ho
        have HO' := hid ho
        clear ho HO
        go_wp2
        go_ret2
        exact ⟨_, rfl, HO'.out, hbel⟩
  · have h6' : ((12:Int) < 2 * n) := by omega
    rw [blanksR_big (by rw [HN.out]; exact h6)]
    go_enter Try.func102, Try.ntmps102
    go_wp2_with (go_at_call 193; refine (isDriven_any _ _ xs _ HX.out).mono ?_; rintro e w1 ⟨rfl, hb⟩)
    go_ret2
    exact ⟨_, rfl, Own2.nil _ _ _, hb⟩

set_option maxRecDepth 100000 in
set_option maxHeartbeats 2000000 in
theorem specWithBlanks_any (k : Int) (v1 : Value) (xs : List (Int × Int)) (w : World) (h1 : Two w v1 xs) :
    Calls Try.prog 103 #[.int .i64 k, v1] w fun e w' => ∃ v, e = .returned (.tuple #[v, .bool (blanksR k xs).2]) ∧ Own2 108 w' w.heap.size v (blanksR k xs).1 ∧ Below w.heap.size w w' := by
  obtain ⟨n, ao1, cap1, b1, o1, HN, rfl, ha1, hc1, hn1, hm1, HX⟩ := h1.open_
  have HB0 := hid ((Below.refl w.heap.size w).alloc (Nat.le_refl _) (.cells #[] 108))
  have HX0 := hid (h1.later HB0.out)
  have HO0 := hid (Own2.lit0 108 w w.heap.size (Nat.le_refl _))
  clear h1
  cases hs : drivenB k xs with
  | false =>
    rw [blanksR_no hs]
    go_enter Try.func103, Try.ntmps103
    go_wp2_with (go_at_call 195; refine (l8Good_any _ _ xs _ HX0.out).mono ?_; rintro e w1 ⟨rfl, hb⟩; have HO1 := hid (HO0.out.later hb); have HB1 := hid (HB0.out.trans (hb.mono HB0.out.size)))
    go_ret2
    exact ⟨_, rfl, HO1.out, HB1.out⟩
  | true =>
  have hl12 : n ≤ 12 := by have := (frameB_true (drivenB_true hs).2).1; rw [HN.out] at this; exact this
  by_cases h6 : n ≤ 6
  · have h6' : ¬ ((12:Int) < 2 * n) := by omega
    rw [blanksR_yes hs (by rw [HN.out]; exact h6)]
    go_enter Try.func103, Try.ntmps103
    go_wp2_with (go_at_call 195; refine (l8Good_any _ _ xs _ HX0.out).mono ?_; rintro e w1 ⟨rfl, hb⟩; have HO1 := hid (HO0.out.later hb); have HB1 := hid (HB0.out.trans (hb.mono HB0.out.size)))
    go_loopw [6, 7] (fun oo i wr => ∃ k : Nat, k ≤ n ∧ i = .int .i64 k ∧ Hid (Own2 108 wr w.heap.size oo (blanksTo xs k)) ∧ Below w.heap.size w wr) (fun _ i _ => n - (intOf i).toNat)
    case atStart => exact ⟨0, by omega, rfl, HO1, HB1.out⟩
    case round =>
      obtain ⟨k, hk, rfl, HO, hbel⟩ := hrel
      by_cases hlt : k < n
      · obtain ⟨rfl, hb1⟩ := ha1 (by omega)
        have HC1 := hid (hc1 k hlt)
        have e1 : wr.cell? ⟨b1, o1+k*2, none⟩ = some (.int .i64 (xs.getD k (0,0)).1) := (hbel.cell (by exact hb1)).trans HC1.out.1
        have e2 : wr.cell? ⟨b1, o1+k*2+1, none⟩ = some (.int .i64 (xs.getD k (0,0)).2) := (hbel.cell (by exact hb1)).trans HC1.out.2
        have HYES := hid (blanksTo_succ (xs := xs) (k := k) (by rw [HN.out]; exact hlt))
        have hl := blanksTo_len xs k
        generalize hgc : (xs.getD k (0,0)).1 = c at e1 HYES
        generalize hgb : (xs.getD k (0,0)).2 = b at e2 HYES
        clear hc1 ha1 hgc hgb HC1
        go_wp2_with (first | (at_builtin; refine wpList_appendS wr rfl _ _ rfl w.heap.size _ _ HO.out rfl c b rfl (by omega) hbel.size ?_; intro v' w2 ho' _ hb'; have HO' := hid ho'; clear ho'; have hbel' := hbel.trans hb') | (at_builtin; refine wpList_appendS w2 rfl _ _ rfl w.heap.size _ _ HO'.out rfl 0 0 rfl (by simp; omega) hbel'.size ?_; intro v3 w3 ho3 _ hb3; rw [List.append_assoc] at ho3))
        rw [show [(c, b)] ++ [(0, 0)] = [(c, b), ((0:Int), (0:Int))] from rfl, ← HYES.out] at ho3
        have HO3 := hid ho3
        have hbel3 := hbel'.trans hb3
        clear ho3 HO HO' hb' hbel hb3 hbel' e1 e2
        go_wp2
        go_roundw
        case rel => exact ⟨k+1, by omega, by go_num, HO3, hbel3⟩
        case measure => simp [intOf]; omega
      · have ho := HO.out
        rw [show k = xs.length by rw [HN.out]; omega] at ho
        have HO' := hid ho
        clear ho HO
        go_wp2
        go_ret2
        exact ⟨_, rfl, HO'.out, hbel⟩
  · have h6' : ((12:Int) < 2 * n) := by omega
    rw [blanksR_big (by rw [HN.out]; exact h6)]
    go_enter Try.func103, Try.ntmps103
    go_wp2_with (go_at_call 195; refine (l8Good_any _ _ xs _ HX0.out).mono ?_; rintro e w1 ⟨rfl, hb⟩; have HO1 := hid (HO0.out.later hb); have HB1 := hid (HB0.out.trans (hb.mono HB0.out.size)))
    go_ret2
    exact ⟨_, rfl, HO1.out, HB1.out⟩

end Go.Proofs.Ytfgjaefcfmjleaa
