import Derived.Test.YtgbnoljmmenlbaaApp
import Derived.OwnWalk
import Derived.Lib.SliceRun
import Derived.Laws.AppendOwn
import Derived.Deep.AppendLies
namespace Go.Proofs.Ytgbnoljmmenlbaa
open Go.RowKit

/-! ## append of a whole slice of integers; slices.Clone, l1Own -/
theorem OwnI.shape {w : World} {B n : Nat} {v : Value} {xs : List Int} (h : OwnI w B v xs) (hl : xs.length = n) (hn : 0 < n) : ∃ g cap, v = .slice (some ⟨g, 0, none⟩) n cap ∧ B ≤ g ∧ g < w.heap.size := by
  subst hl
  exact World.ownsRow.form h hn
theorem run_append_of_nil {P : Program} (w : World) (base : Nat) (t ty e : TypeId) (i : TypeInfo) (size : Nat) (ht : P.underlying t = some (.slice e)) (hi : P.info? e = some i)
    (v : Value) (n : Nat) (xs : List Value) (hown : w.ownsRow base e size v n xs) (c : Nat) : (Builtin.append_ #[t, t] ty #[v, .slice none 0 c]).run P w = .ok v w := by
  rcases hown.2 with ⟨rfl, rfl⟩ | ⟨g, cap, cur, rfl, _, _, hnc, _⟩
  · simp [Builtin.append_, run_underlying ht, sizeOf, typeInfo, hi, Builtin.lenOf, Builtin.firstCells]
  · simp [Builtin.append_, run_underlying ht, sizeOf, typeInfo, hi, Builtin.lenOf, Builtin.firstCells, hnc, storeCells]
theorem wpList_append_nil {P : Program} {ops : Array Oper} {rest : List Oper} {o : Oper} {a : Act} {Q : Exit → Act → World → Prop} (w : World) (hgd : o.guard = none) (s x : Operand) (t : TypeId)
    (ho : o.op = .call { callee := .builtin .append, args := #[s, x], argTypes := #[t, t] })
    (base : Nat) (e : TypeId) (i : TypeInfo) (size : Nat) (ht : P.underlying t = some (.slice e)) (hi : P.info? e = some i)
    (v : Value) (n : Nat) (xs : List Value) (hs : a.eval s = v) (hown : w.ownsRow base e size v n xs) (c : Nat) (hx : a.eval x = .slice none 0 c)
    (h : wpList P ops Q rest (a.put o.dst v) w) : wpList P ops Q (o :: rest) a w := by
  refine wpList_plain hgd fun K hK => ?_
  have hrun := run_append_of_nil (P := P) w base t o.type e i size ht hi v n xs hown c
  unfold Oper.wp execOp
  simp only [ho, resolve, invoke, builtin, Sem.run_bind, Sem.run_pure, Result.andThen_ok, List.map_toArray, List.map_cons, List.map_nil, hs, hx, hrun]
  exact hK _ _ h
theorem wpList_appendIs {ops : Array Oper} {rest : List Oper} {o : Oper} {a : Act} {Q : Exit → Act → World → Prop} (w : World) (hgd : o.guard = none) (s x : Operand)
    (ho : o.op = .call { callee := .builtin .append, args := #[s, x], argTypes := #[24, 24] })
    (B : Nat) (v : Value) (xs : List Int) (hown : OwnI w B v xs) (hs : a.eval s = v) (v2 : Value) (ys : List Int) (hx : a.eval x = v2) (hy : Ints w v2 ys) (hlen : xs.length ≤ 1099511627776) (hlen2 : ys.length ≤ 1099511627776) (hB : B ≤ w.heap.size)
    (h : ∀ v' w', OwnI w' B v' (xs ++ ys) → w.grownBy w' v.ownBlock → Below B w w' → wpList Try.prog ops Q rest (a.put o.dst v') w') :
    wpList Try.prog ops Q (o :: rest) a w := by
  obtain ⟨i0, hi, hz0, hz1, hz2⟩ := info_parts infoInt
  obtain ⟨ao, cap, b, of, rfl, h1, h2, h3, h4⟩ := hy
  rcases ao with _ | ad
  · have hn : ys = [] := by
      rcases Nat.eq_zero_or_pos ys.length with h0 | h0
      · exact List.length_eq_zero_iff.1 h0
      · exact absurd (h1 h0).1 (by simp)
    subst hn
    exact wpList_append_nil w hgd s x 24 ho B 3 i0 1 Try.underlying24 hi v xs.length (xs.map (Value.int .i64)) hs hown cap hx
      (h v w (by rw [List.append_nil]; exact hown) (World.grownBy.refl _ _) (Below.refl _ _))
  · refine wpList_append_own _ hgd s x 24 ho B 3 i0 (.int .i64 0) 1 8 Try.underlying24 hi hz0 hz1 hz2 rfl (by decide) v xs.length (xs.map (Value.int .i64)) hs hown
      ad ys.length cap (ys.map (Value.int .i64)) hx (by simp) ?_ ?_ ?_ ?_ hB ?_
    · intro j u hj
      have hjl : j < ys.length := by
        have := (List.getElem?_eq_some_iff.1 hj).1
        simpa using this
      obtain ⟨he, _⟩ := h1 (by omega)
      simp only [Option.some.injEq] at he
      subst he
      have := h2 j hjl
      rw [Addr.add_lit, this]
      rw [List.getElem?_map, List.getElem?_eq_getElem hjl] at hj
      simp only [Option.map_some, Option.some.injEq] at hj
      rw [← hj]
      simp [List.getD, hjl]
    · intro u hu; simp at hu; obtain ⟨q, _, rfl⟩ := hu; rfl
    · unfold maxLen; omega
    · omega
    · intro v' w' g1 g2 g3
      refine h v' w' ?_ g2 ((Below.refl _ _).grown g2 hB (fun k hk => (World.ownsRow.lt hown k hk).1))
      unfold OwnI
      rw [List.length_append, List.map_append]
      exact g1

theorem step_appendIs {ops : Array Oper} {o : Oper} {a : Act} {K : Act → World → Prop} {Q : Exit → Act → World → Prop} {E : Prop} (w : World) (hgd : o.guard = none) (s x : Operand)
    (ho : o.op = .call { callee := .builtin .append, args := #[s, x], argTypes := #[24, 24] })
    (B : Nat) (v : Value) (xs : List Int) (hown : OwnI w B v xs) (hs : a.eval s = v) (g : Nat) (y : Int) (hx : a.eval x = .slice (some ⟨g, 0, none⟩) 1 1) (hy : w.cell? ⟨g, 0, none⟩ = some (.int .i64 y)) (hlen : xs.length ≤ 1099511627776) (hB : B ≤ w.heap.size)
    (h : ∀ v' w', OwnI w' B v' (xs ++ [y]) → Below B w w' → K (a.put o.dst v') w') :
    if Region.wanted o (yielded ops a.tmps) = true then Oper.wp Try.prog o a w K Q else E := by
  have hw : Region.wanted o (yielded ops a.tmps) = true := by simp [Region.wanted, hgd]
  rw [if_pos hw]
  obtain ⟨i0, hi, hz0, hz1, hz2⟩ := info_parts infoInt
  refine wp_append_own _ s x 24 ho B 3 i0 (.int .i64 0) 1 8 Try.underlying24 hi hz0 hz1 hz2 rfl (by decide) v xs.length (xs.map (Value.int .i64)) hs hown
    ⟨g, 0, none⟩ 1 1 [.int .i64 y] hx rfl ?_ ?_ ?_ ?_ hB ?_
  · intro j u hj
    match j, hj with
    | 0, hj => simp at hj; subst hj; exact hy
  · intro u hu; simp at hu; subst hu; rfl
  · unfold maxLen; omega
  · omega
  · intro v' w' g1 g2 g3
    refine h v' w' ?_ ((Below.refl _ _).grown g2 hB (fun k hk => (World.ownsRow.lt hown k hk).1))
    unfold OwnI
    rw [List.length_append, List.map_append]
    exact g1

set_option maxRecDepth 100000 in
set_option maxHeartbeats 2000000 in
theorem CloneI_any (v1 : Value) (xs : List Int) (w : World) (h1 : Ints w v1 xs) (hl : xs.length ≤ 1048576) :
    Calls Try.prog 27 #[v1] w fun e w' => ∃ v, e = .returned v ∧ OwnI w' w.heap.size v xs ∧ Below w.heap.size w w' := by
  obtain ⟨n, ao1, cap1, b1, o1, HN, rfl, ha1, hc1, hn1, hm1, HX⟩ := h1.open_
  clear h1 hc1
  rcases ao1 with _ | ad
  · have hn : n = 0 := by
      rcases Nat.eq_zero_or_pos n with h0 | h0
      · exact h0
      · exact absurd (ha1 h0).1 (by simp)
    have hxs : xs = [] := List.length_eq_zero_iff.1 (HN.out.trans hn)
    subst hxs
    clear ha1 hn
    have heq := fun w => Lib.run_eql_slice_nil (P := Try.prog) w 24 3 none n cap1 0 0 Try.underlying24
    simp only [Option.isNone_none] at heq
    go_enter Try.func27, Try.ntmps27
    go_wp2
    go_ret
    exact ⟨_, rfl, OwnI.nil _ _, Below.refl _ _⟩
  · have HB := hid ((Below.refl w.heap.size w).alloc (Nat.le_refl _) (.cells #[] 3))
    have HO0 := hid (OwnI.lit0 w w.heap.size (Nat.le_refl _))
    have HX0 := hid (HX.out.later HB.out)
    have HL := hid (show xs.length ≤ 1099511627776 by omega)
    clear ha1
    have heq := fun w => Lib.run_eql_slice_nil (P := Try.prog) w 24 3 (some ad) n cap1 0 0 Try.underlying24
    simp only [Option.isNone_some] at heq
    go_enter Try.func27, Try.ntmps27
    go_wp2_with (at_builtin; refine wpList_appendIs _ rfl _ _ rfl w.heap.size _ _ HO0.out rfl _ xs rfl HX0.out (by simp) HL.out HB.out.size ?_; intro v' w2 ho' _ hb')
    rw [List.nil_append] at ho'
    have HO' := hid ho'
    have hbel' := HB.out.trans hb'
    clear ho' hb'
    go_wp2
    go_ret
    exact ⟨_, rfl, HO'.out, hbel'⟩


end Go.Proofs.Ytgbnoljmmenlbaa
