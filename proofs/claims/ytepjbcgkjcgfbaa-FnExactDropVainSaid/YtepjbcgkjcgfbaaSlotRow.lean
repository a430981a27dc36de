import Derived.Test.YtepjbcgkjcgfbaaPlain
import Derived.Test.YtepjbcgkjcgfbaaClone
import Derived.Deep.AppendLies
import Derived.Deep.RegionLaw
import Derived.IntWalk
namespace Go.Proofs.Ytepjbcgkjcgfbaa
open Go.RowKit

/-! ## Slices of slots: a whole slice appended; slices.Clone, slices.Delete; without, l8Without -/
theorem flat2_one (ps : List (Int × Int)) : ∀ u ∈ flat2 ps, u.oneCell' = true := by
  intro u hu
  unfold flat2 at hu
  obtain ⟨p, _, hp⟩ := List.mem_flatMap.1 hu
  simp at hp
  rcases hp with rfl | rfl <;> rfl
theorem flat2_at {ps : List (Int × Int)} {j : Nat} {u : Value} (h : (flat2 ps)[j]? = some u) : ∃ i, i < ps.length ∧ ((j = 2*i ∧ u = .int .i64 (ps.getD i (0,0)).1) ∨ (j = 2*i+1 ∧ u = .int .i64 (ps.getD i (0,0)).2)) := by
  have hj : j < 2 * ps.length := by
    have := (List.getElem?_eq_some_iff.1 h).1
    rwa [length_flat2] at this
  have hi : j / 2 < ps.length := by omega
  obtain ⟨h1, h2⟩ := flat2_get hi
  refine ⟨j/2, hi, ?_⟩
  rcases (show j = 2*(j/2) ∨ j = 2*(j/2)+1 by omega) with e | e
  · left
    rw [← e, h] at h1
    exact ⟨e, Option.some.inj h1⟩
  · right
    rw [← e, h] at h2
    exact ⟨e, Option.some.inj h2⟩
theorem Two.news {w : World} {ad : Addr} {n cap : Nat} {ps : List (Int × Int)} (h : Two w (.slice (some ad) n cap) ps) : ∀ j u, (flat2 ps)[j]? = some u → w.cell? (ad.add j) = some u := by
  intro j u hj
  obtain ⟨ao, cap', b, o, he, h1, h2, h3, h4⟩ := h
  obtain ⟨i, hi, hc⟩ := flat2_at hj
  obtain ⟨hs, _⟩ := h1 (by omega)
  simp only [Value.slice.injEq] at he
  rw [hs] at he
  obtain ⟨he, _, _⟩ := he
  simp only [Option.some.injEq] at he
  subst he
  rw [Addr.add_lit]
  rcases hc with ⟨rfl, rfl⟩ | ⟨rfl, rfl⟩
  · rw [show o + 2 * i = o + i * 2 by omega]; exact (h2 i hi).1
  · rw [show o + (2 * i + 1) = o + i * 2 + 1 by omega]; exact (h2 i hi).2
theorem Two.len_eq {w : World} {ao : Option Addr} {n cap : Nat} {ps : List (Int × Int)} (h : Two w (.slice ao n cap) ps) : ps.length = n := by
  obtain ⟨_, _, _, _, he, _⟩ := h
  simp only [Value.slice.injEq] at he
  exact he.2.1.symm
theorem wpList_appendSs {ops : Array Oper} {rest : List Oper} {o : Oper} {a : Act} {Q : Exit → Act → World → Prop} (w : World) (hgd : o.guard = none) (s x : Operand)
    (ho : o.op = .call { callee := .builtin .append, args := #[s, x], argTypes := #[41, 41] })
    (B : Nat) (v : Value) (xs : List (Int × Int)) (hown : Own2 60 w B v xs) (hs : a.eval s = v) (ao : Option Addr) (n cap : Nat) (ys : List (Int × Int)) (hx : a.eval x = .slice ao n cap) (hy : Two w (.slice ao n cap) ys) (hlen : xs.length ≤ 1099511627776) (hlen2 : ys.length ≤ 1099511627776) (hB : B ≤ w.heap.size)
    (h : ∀ v' w', Own2 60 w' B v' (xs ++ ys) → w.grownBy w' v.ownBlock → Below B w w' → wpList Try.prog ops Q rest (a.put o.dst v') w') :
    wpList Try.prog ops Q (o :: rest) a w := by
  obtain ⟨i0, hi, hz0, hz1, hz2⟩ := info_parts infoSlot
  have hn := hy.len_eq
  subst hn
  rcases ao with _ | ad
  · have hn : ys = [] := by
      rcases Nat.eq_zero_or_pos ys.length with h0 | h0
      · exact List.length_eq_zero_iff.1 h0
      · obtain ⟨ao, cap', b, of, he, h1, h2, h3, h4⟩ := hy
        simp only [Value.slice.injEq] at he
        have := (h1 h0).1
        rw [← he.1] at this
        cases this
    subst hn
    exact wpList_append_nil w hgd s x 41 ho B 60 i0 2 Try.underlying41 hi v xs.length (flat2 xs) hs hown cap hx
      (h v w (by rw [List.append_nil]; exact hown) (World.grownBy.refl _ _) (Below.refl _ _))
  · refine wpList_append_own _ hgd s x 41 ho B 60 i0 (.agg #[.int .i64 0, .int .i64 0]) 2 16 Try.underlying41 hi hz0 hz1 hz2 rfl (by decide) v xs.length (flat2 xs) hs hown
      ad ys.length cap (flat2 ys) hx (by rw [length_flat2]; omega) hy.news (flat2_one ys) ?_ ?_ hB ?_
    · unfold maxLen; omega
    · omega
    · intro v' w' g1 g2 g3
      refine h v' w' ?_ g2 ((Below.refl _ _).grown g2 hB (fun k hk => (World.ownsRow.lt hown k hk).1))
      unfold Own2
      rw [List.length_append, flat2_append]
      exact g1
theorem step_appendSs {ops : Array Oper} {o : Oper} {a : Act} {K : Act → World → Prop} {Q : Exit → Act → World → Prop} {E : Prop} (w : World) (hgd : o.guard = none) (s x : Operand)
    (ho : o.op = .call { callee := .builtin .append, args := #[s, x], argTypes := #[41, 41] })
    (B : Nat) (v : Value) (xs : List (Int × Int)) (hown : Own2 60 w B v xs) (hs : a.eval s = v) (ad : Addr) (n cap : Nat) (ys : List (Int × Int)) (hx : a.eval x = .slice (some ad) n cap) (hy : Two w (.slice (some ad) n cap) ys) (hlen : xs.length ≤ 1099511627776) (hlen2 : ys.length ≤ 1099511627776) (hB : B ≤ w.heap.size)
    (h : ∀ v' w', Own2 60 w' B v' (xs ++ ys) → Below B w w' → K (a.put o.dst v') w') :
    if Region.wanted o (yielded ops a.tmps) = true then Oper.wp Try.prog o a w K Q else E := by
  have hw : Region.wanted o (yielded ops a.tmps) = true := by simp [Region.wanted, hgd]
  rw [if_pos hw]
  obtain ⟨i0, hi, hz0, hz1, hz2⟩ := info_parts infoSlot
  have hn := hy.len_eq
  subst hn
  refine wp_append_own _ s x 41 ho B 60 i0 (.agg #[.int .i64 0, .int .i64 0]) 2 16 Try.underlying41 hi hz0 hz1 hz2 rfl (by decide) v xs.length (flat2 xs) hs hown
    ad ys.length cap (flat2 ys) hx (by rw [length_flat2]; omega) hy.news (flat2_one ys) ?_ ?_ hB ?_
  · unfold maxLen; omega
  · omega
  · intro v' w' g1 g2 g3
    refine h v' w' ?_ ((Below.refl _ _).grown g2 hB (fun k hk => (World.ownsRow.lt hown k hk).1))
    unfold Own2
    rw [List.length_append, flat2_append]
    exact g1

set_option maxRecDepth 100000 in
set_option maxHeartbeats 2000000 in
theorem CloneS_any (v1 : Value) (xs : List (Int × Int)) (w : World) (h1 : Two w v1 xs) (hl : xs.length ≤ 1048576) :
    Calls Try.prog 65 #[v1] w fun e w' => ∃ v, e = .returned v ∧ Own2 60 w' w.heap.size v xs ∧ Below w.heap.size w w' := by
  obtain ⟨n, ao1, cap1, b1, o1, HN, rfl, ha1, hc1, hn1, hm1, HX⟩ := h1.open_
  clear h1 hc1
  rcases ao1 with _ | ad
  · have hn : n = 0 := by
      rcases Nat.eq_zero_or_pos n with h0 | h0
      · exact h0
      · exact absurd (ha1 h0).1 (by simp)
    have hxs : xs = [] := List.length_eq_zero_iff.1 (HN.out.trans hn)
    subst hxs
    clear ha1 hn
    have heq := fun w => Lib.run_eql_slice_nil (P := Try.prog) w 41 60 none n cap1 0 0 Try.underlying41
    simp only [Option.isNone_none] at heq
    go_enter Try.func65, Try.ntmps65
    go_wp2
    go_ret
    exact ⟨_, rfl, Own2.nil _ _ _, Below.refl _ _⟩
  · have HB := hid ((Below.refl w.heap.size w).alloc (Nat.le_refl _) (.cells #[] 60))
    have HO0 := hid (Own2.lit0 60 w w.heap.size (Nat.le_refl _))
    have HX0 := hid (HX.out.later HB.out)
    have HL := hid (show xs.length ≤ 1099511627776 by omega)
    clear ha1
    have heq := fun w => Lib.run_eql_slice_nil (P := Try.prog) w 41 60 (some ad) n cap1 0 0 Try.underlying41
    simp only [Option.isNone_some] at heq
    go_enter Try.func65, Try.ntmps65
    go_wp2_with (at_builtin; refine wpList_appendSs _ rfl _ _ rfl w.heap.size _ _ HO0.out rfl _ _ _ xs rfl HX0.out (by simp) HL.out HB.out.size ?_; intro v' w2 ho' _ hb')
    rw [List.nil_append] at ho'
    have HO' := hid ho'
    have hbel' := HB.out.trans hb'
    clear ho' hb'
    go_wp2
    go_ret
    exact ⟨_, rfl, HO'.out, hbel'⟩

/-! ### a row overwritten, a row cut -/
def over (xs : List Value) : Nat → List Value → List Value
  | _, [] => xs
  | o, v :: r => over (xs.set o v) (o+1) r
theorem over_eq : ∀ (vs : List Value) (xs : List Value) (o : Nat), o + vs.length ≤ xs.length → over xs o vs = xs.take o ++ vs ++ xs.drop (o + vs.length)
  | [], xs, o, h => by simp [over]
  | v :: r, xs, o, h => by
    simp only [List.length_cons] at h
    rw [over, over_eq r (xs.set o v) (o+1) (by rw [List.length_set]; omega)]
    have e1 : (xs.set o v).take (o+1) = xs.take o ++ [v] := by
      rw [List.take_succ_eq_append_getElem (by rw [List.length_set]; omega), List.take_set_of_le (Nat.le_refl _), List.getElem_set_self]
    have e2 : (xs.set o v).drop (o+1+r.length) = xs.drop (o + (v :: r).length) := by
      rw [List.drop_set_of_lt (by omega), List.length_cons]
      congr 1
      omega
    rw [e1, e2]
    simp
theorem length_over : ∀ (vs : List Value) (xs : List Value) (o : Nat), (over xs o vs).length = xs.length
  | [], _, _ => rfl
  | v :: r, xs, o => by rw [over, length_over r, List.length_set]
theorem ownsRow_setCells {B e size g n cap : Nat} : ∀ (vs : List Value) (o : Nat) (w : World) (xs : List Value), w.ownsRow B e size (.slice (some ⟨g, 0, none⟩) n cap) n xs →
    (w.setCells g o vs).ownsRow B e size (.slice (some ⟨g, 0, none⟩) n cap) n (over xs o vs) ∧ w.grownBy (w.setCells g o vs) (some g)
  | [], _, w, _, h => ⟨h, World.grownBy.refl _ _⟩
  | v :: r, o, w, xs, h => by
    obtain ⟨h1, h2⟩ := World.ownsRow.stored (n := n) (cap := cap) h o v
    obtain ⟨h3, h4⟩ := ownsRow_setCells r (o+1) _ _ h1
    exact ⟨h3, grown_trans h2 h4⟩
theorem ownsRow_cut {w : World} {B e size g n cap m : Nat} {xs : List Value} (h : w.ownsRow B e size (.slice (some ⟨g, 0, none⟩) n cap) n xs) (hm : m ≤ n) :
    w.ownsRow B e size (.slice (some ⟨g, 0, none⟩) m cap) m (xs.take (m * size)) := by
  have hms : m * size ≤ n * size := Nat.mul_le_mul_right _ hm
  refine ⟨by rw [List.length_take, h.1]; omega, ?_⟩
  rcases h.2 with ⟨h1, _⟩ | ⟨g', cap', cur, h1, h2, h3, h4, h5, h6, h7⟩
  · simp at h1
  · simp only [Value.slice.injEq] at h1
    obtain ⟨e1, _, e2⟩ := h1
    simp only [Option.some.injEq, Addr.mk.injEq] at e1
    obtain ⟨rfl, _⟩ := e1
    subst e2
    exact .inr ⟨_, _, cur, rfl, h2, h3, by omega, h5, h6, by rw [← h7, List.take_take]; congr 1; omega⟩
theorem ownsRow_grow {w : World} {B e size g n cap : Nat} {xs : List Value} (h : w.ownsRow B e size (.slice (some ⟨g, 0, none⟩) n cap) n xs) : n ≤ cap ∧ cap ≤ maxLen ∧ B ≤ g ∧ g < w.heap.size := by
  rcases h.2 with ⟨h1, _⟩ | ⟨g', cap', cur, h1, h2, h3, h4, h5, h6, h7⟩
  · simp at h1
  · simp only [Value.slice.injEq] at h1
    obtain ⟨e1, _, e2⟩ := h1
    simp only [Option.some.injEq, Addr.mk.injEq] at e1
    obtain ⟨rfl, _⟩ := e1
    subst e2
    exact ⟨h4, h5, h2, (Array.getElem?_eq_some_iff.1 h3).1⟩
theorem flat2_take (ps : List (Int × Int)) : ∀ i, (flat2 ps).take (2*i) = flat2 (ps.take i) := by
  induction ps with
  | nil => intro i; simp [flat2]
  | cons a r ih =>
    intro i
    cases i with
    | zero => simp [flat2]
    | succ i =>
      rw [flat2_cons, show 2 * (i+1) = 2*i+1+1 by omega, List.take_succ_cons, List.take_succ_cons, ih i, List.take_succ_cons, flat2_cons]
theorem flat2_drop (ps : List (Int × Int)) : ∀ i, (flat2 ps).drop (2*i) = flat2 (ps.drop i) := by
  induction ps with
  | nil => intro i; simp [flat2]
  | cons a r ih =>
    intro i
    cases i with
    | zero => simp [flat2]
    | succ i =>
      rw [flat2_cons, show 2 * (i+1) = 2*i+1+1 by omega, List.drop_succ_cons, List.drop_succ_cons, ih i, List.drop_succ_cons]
theorem Two.cutLeft {w : World} {b o n cap i : Nat} {ps : List (Int × Int)} (h : Two w (.slice (some ⟨b, o, none⟩) n cap) ps) (hi : i ≤ n) (hn : 0 < n) : Two w (.slice (some ⟨b, o, none⟩) i cap) (ps.take i) := by
  have hl := h.len_eq
  obtain ⟨ao, cap', b', o', he, h1, h2, h3, h4⟩ := h
  simp only [Value.slice.injEq] at he
  obtain ⟨e1, e2, e3⟩ := he
  obtain ⟨h1a, h1b⟩ := h1 (by omega)
  rw [← e1] at h1a
  simp only [Option.some.injEq, Addr.mk.injEq] at h1a
  obtain ⟨rfl, rfl, _⟩ := h1a
  subst e3
  refine ⟨_, _, b, o, by rw [List.length_take, Nat.min_eq_left (by omega)], fun _ => ⟨rfl, h1b⟩, fun j hj => ?_, by rw [List.length_take]; omega, h4⟩
  rw [List.length_take] at hj
  have := h2 j (by omega)
  have e : (ps.take i).getD j (0,0) = ps.getD j (0,0) := by simp [List.getD, show j < i by omega]
  rw [e]
  exact this
theorem Two.cutRight {w : World} {b o n cap i : Nat} {ps : List (Int × Int)} (h : Two w (.slice (some ⟨b, o, none⟩) n cap) ps) (hi : i ≤ n) (hn : 0 < n) :
    ∃ A : Addr, (if cap = i then some (⟨b, o, none⟩ : Addr) else some ⟨b, o + i * 2, none⟩) = some A ∧ Hid (Two w (.slice (some A) (n - i) (cap - i)) (ps.drop i)) := by
  have hl := h.len_eq
  obtain ⟨ao, cap', b', o', he, h1, h2, h3, h4⟩ := h
  simp only [Value.slice.injEq] at he
  obtain ⟨e1, e2, e3⟩ := he
  obtain ⟨h1a, h1b⟩ := h1 (by omega)
  rw [← e1] at h1a
  simp only [Option.some.injEq, Addr.mk.injEq] at h1a
  obtain ⟨rfl, rfl, _⟩ := h1a
  subst e3
  by_cases hc : cap = i
  · refine ⟨⟨b, o, none⟩, by rw [if_pos hc], hid ⟨_, _, b, o, by rw [List.length_drop, hl], fun _ => ⟨rfl, h1b⟩, fun j hj => ?_, by rw [List.length_drop]; omega, by omega⟩⟩
    rw [List.length_drop] at hj
    omega
  · refine ⟨⟨b, o + i * 2, none⟩, by rw [if_neg hc], hid ⟨_, _, b, o + i * 2, by rw [List.length_drop, hl], fun _ => ⟨rfl, h1b⟩, fun j hj => ?_, by rw [List.length_drop]; omega, by omega⟩⟩
    rw [List.length_drop] at hj
    have := h2 (i + j) (by omega)
    have e : (ps.drop i).getD j (0,0) = ps.getD (i + j) (0,0) := by simp [List.getD, List.getElem?_drop]
    rw [e, show o + i * 2 + j * 2 = o + (i + j) * 2 by omega]
    exact this

set_option maxRecDepth 100000 in
set_option maxHeartbeats 4000000 in
theorem l8Without_any (v1 : Value) (xs : List (Int × Int)) (i : Nat) (w : World) (h1 : Two w v1 xs) (hi : i < xs.length) (hl : xs.length ≤ 1048576) :
    Calls Try.prog 64 #[v1, .int .i64 i] w fun e w' => ∃ v, e = .returned v ∧ Own2 60 w' w.heap.size v (xs.eraseIdx i) ∧ Below w.heap.size w w' := by
  obtain ⟨n, ao1, cap1, b1, o1, HN, rfl, ha1, hc1, hn1, hm1, HX⟩ := h1.open_
  clear h1 hc1
  rw [HN.out] at hi hl
  obtain ⟨rfl, hb1⟩ := ha1 (by omega)
  clear ha1
  have HB := hid (((Below.refl w.heap.size w).drew).alloc (Nat.le_refl _) (.cells #[] 60))
  have HO0 := hid (Own2.lit0 60 w.drew w.heap.size (Nat.le_refl _))
  have HX0 := hid (HX.out.later HB.out)
  have HLft := hid (HX0.out.cutLeft (i := i) (by omega) (by omega))
  obtain ⟨A, hA, HRgt⟩ := HX.out.cutRight (i := i+1) (by omega) (by omega)
  have HLL := hid (show (xs.take i).length ≤ 1099511627776 by rw [List.length_take]; omega)
  have HLR := hid (show (xs.drop (i+1)).length ≤ 1099511627776 by rw [List.length_drop, HN.out]; omega)
  have HE := hid (List.eraseIdx_eq_take_drop_succ xs i)
  have hwr : IntKind.i64.wrap ((i : Int) + 1) = (i : Int) + 1 := IntWalk.i64_in _ (by omega)
  have hp0 : (0 : Int) ≤ (i : Int) + 1 := by omega
  have hp1 : (i : Int) + 1 ≤ (n : Int) := by omega
  have hp2 : ((i : Int) + 1).toNat = i + 1 := by omega
  have hi0 : (0 : Int) ≤ (i : Int) := by omega
  have hic : i ≤ cap1 := by omega
  have hic2 : i + 1 ≤ cap1 := by omega
  go_enter Try.func64, Try.ntmps64
  go_wp2_with fail
  go_region_law (first
    | (refine step_appendSs (w.drew.alloc (.cells #[] 60)) rfl (.tmp 5) (.tmp 8) rfl w.heap.size _ _ HO0.out (by simp [Act.eval]) ⟨b1, o1, none⟩ i cap1 (xs.take i) (by simp [Act.eval]) HLft.out (by simp) HLL.out HB.out.size ?_; intro v' w2 ho' hb'; rw [List.nil_append] at ho'; have HO1 := hid ho'; have HB1 := hid (HB.out.trans hb'); have HR1 := hid (HRgt.out.later HB1.out); clear ho' hb')
    | (refine step_appendSs w2 rfl (.tmp 9) (.tmp 13) rfl w.heap.size v' (xs.take i) HO1.out (by simp [Act.eval]) A (n - (i+1)) (cap1 - (i+1)) (xs.drop (i+1)) (by simp [Act.eval]) HR1.out HLL.out HLR.out HB1.out.size ?_; intro v3 w3 ho' hb'; rw [← HE.out] at ho'; have HO2 := hid ho'; have HB2 := hid (HB1.out.trans hb'); clear ho' hb'))
  go_wp2
  go_ret
  exact ⟨_, rfl, HO2.out, HB2.out⟩

theorem zeroSlot (w : World) : (zeroValue 60).run Try.prog w = .ok (.agg #[.int .i64 0, .int .i64 0]) w := by kernel_rfl
theorem run_clear_one (w : World) (ty : TypeId) (g o n c : Nat) (hn : n = 1) (h : ∀ j, j < 2 → (w.cell? ⟨g, o + j, none⟩).isSome = true) (hf : ∀ j, j < 2 → w.frozen? ⟨g, o + j, none⟩ = false) :
    (Builtin.clear_ #[41] ty #[.slice (some ⟨g, o, none⟩) n c]).run Try.prog w = .ok (.tuple #[]) (w.setCells g o [.int .i64 0, .int .i64 0]) := by
  subst hn
  have hst := run_storeCells_cells (P := Try.prog) g o [.int .i64 0, .int .i64 0] 0 w (by simpa using h) (by simpa using hf) (by intro v hv; simp at hv; rcases hv with rfl | rfl <;> rfl)
  simp only [Nat.add_zero] at hst
  have hz : (Builtin.zeroCells (Value.agg #[.int .i64 0, .int .i64 0]).cells 1).toList = [.int .i64 0, .int .i64 0] := by simp [Builtin.zeroCells, Value.cells, List.range_succ]
  simp [Builtin.clear_, run_underlying Try.underlying41, hz, hst]
set_option maxRecDepth 100000 in
set_option maxHeartbeats 4000000 in
theorem DeleteS_any (g cap n i B : Nat) (xs : List (Int × Int)) (w : World) (h : Own2 60 w B (.slice (some ⟨g, 0, none⟩) n cap) xs) (hl : xs.length = n) (hi : i < n) (hn : n ≤ 1048576) :
    Calls Try.prog 104 #[.slice (some ⟨g, 0, none⟩) n cap, .int .i64 i, .int .i64 ((i : Int) + 1)] w fun e w' =>
      e = .returned (.slice (some ⟨g, 0, none⟩) (n-1) cap) ∧ Own2 60 w' B (.slice (some ⟨g, 0, none⟩) (n-1) cap) (xs.eraseIdx i) ∧ w.grownBy w' (some g) := by
  subst hl
  obtain ⟨i0, hi0, hz0, hz1, hz2⟩ := info_parts infoSlot
  have h' := h
  unfold Own2 at h'
  obtain ⟨hnc, hcm, hBg, hgw⟩ := ownsRow_grow h'
  have hcm' : cap ≤ 9223372036854775807 := by simpa [maxLen] using hcm
  have HT := hid (h.drawn 1).two
  obtain ⟨A, hA, HR⟩ := HT.out.cutRight (i := i+1) (by omega) (by omega)
  rw [Nat.zero_add] at hA
  obtain ⟨news, hnews⟩ : ∃ news, news = flat2 (xs.drop (i+1)) := ⟨_, rfl⟩
  have s1 : Hid (news.length = (xs.length - (i+1)) * 2) := hid (by rw [hnews, length_flat2, List.length_drop]; omega)
  have s2 : Hid (∀ u ∈ news, u.oneCell' = true) := hid (by rw [hnews]; exact flat2_one _)
  have hsrc : Hid (∀ j u, news[j]? = some u → w.drew.cell? (A.add j) = some u) := hid (by rw [hnews]; exact HR.out.news)
  have hcell : ∀ q, q < 2 * xs.length → (w.drew.cell? ⟨g, q, none⟩).isSome = true := fun q hq => by
    rw [World.ownsRow.cellAt (n := xs.length) (cap := cap) (World.ownsRow.drew h') q (by omega), List.getElem?_eq_getElem (by rw [length_flat2]; omega)]
    rfl
  have hfree : ∀ q, w.drew.frozen? ⟨g, q, none⟩ = false := fun q => World.ownsRow.frozenAt (n := xs.length) (cap := cap) (World.ownsRow.drew h') q
  have s3 : Hid (∀ j, j < news.length → (w.drew.cell? ⟨g, 0 + i * 2 + j, none⟩).isSome = true ∧ w.drew.frozen? ⟨g, 0 + i * 2 + j, none⟩ = false) := hid (fun j hj => by
    rw [s1.out] at hj
    exact ⟨hcell _ (by omega), hfree _⟩)
  obtain ⟨W1, hW1⟩ : ∃ W1, W1 = w.drew.setCells g (0 + i * 2) news := ⟨_, rfl⟩
  have HW := hid hW1
  obtain ⟨r1, g1⟩ := ownsRow_setCells news (0 + i * 2) _ _ (World.ownsRow.drew h')
  rw [← hW1] at r1 g1
  have hov1 : over (flat2 xs) (0 + i * 2) news = flat2 (xs.take i) ++ flat2 (xs.drop (i+1)) ++ (flat2 xs).drop (2 * (xs.length - 1)) := by
    rw [over_eq _ _ _ (by rw [s1.out, length_flat2]; omega), hnews, show 0 + i * 2 = 2 * i by omega, flat2_take]
    congr 2
    rw [length_flat2, List.length_drop]
    omega
  rw [hov1] at r1
  obtain ⟨r2, g2⟩ := ownsRow_setCells [.int .i64 0, .int .i64 0] ((xs.length - 1) * 2) _ _ r1
  have hlenE : (xs.eraseIdx i).length = xs.length - 1 := by rw [List.length_eraseIdx, if_pos hi]
  have r3 := ownsRow_cut r2 (m := xs.length - 1) (by omega)
  have hov2 : (over (flat2 (xs.take i) ++ flat2 (xs.drop (i+1)) ++ (flat2 xs).drop (2 * (xs.length - 1))) ((xs.length - 1) * 2) [.int .i64 0, .int .i64 0]).take ((xs.length - 1) * 2) = flat2 (xs.eraseIdx i) := by
    have hlen : (flat2 (xs.take i) ++ flat2 (xs.drop (i+1))).length = (xs.length - 1) * 2 := by
      rw [List.length_append, length_flat2, length_flat2, List.length_take, List.length_drop]; omega
    rw [over_eq _ _ _ (by rw [List.length_append, hlen, List.length_drop, length_flat2]; simp; omega), List.append_assoc, List.take_append_of_le_length (by rw [List.length_take, List.length_append, hlen]; omega)]
    rw [List.take_take, Nat.min_self, List.take_append_of_le_length (by omega), List.take_of_length_le (by omega), ← flat2_append, List.eraseIdx_eq_take_drop_succ]
  rw [hov2] at r3
  have HOWN : Hid (Own2 60 (W1.setCells g ((xs.length - 1) * 2) [.int .i64 0, .int .i64 0]) B (.slice (some ⟨g, 0, none⟩) (xs.length - 1) cap) (xs.eraseIdx i)) := hid (by unfold Own2; rw [hlenE]; exact r3)
  have HG := hid (grown_trans (grown_of_below (below_drewN (Below.refl w.heap.size w) 1) (some g)) (grown_trans g1 g2))
  obtain ⟨m, hm⟩ : ∃ m, i + (xs.length - (i+1)) = m := ⟨_, rfl⟩
  have hm1 : m = xs.length - 1 := by omega
  have hcl : ∀ ty, (Builtin.clear_ #[41] ty #[.slice (some ⟨g, m * 2, none⟩) (xs.length - m) (cap - m)]).run Try.prog W1 = .ok (.tuple #[]) (W1.setCells g (m * 2) [.int .i64 0, .int .i64 0]) := fun ty =>
    run_clear_one W1 ty g (m*2) _ _ (by omega) (fun j hj => by
      rw [hW1]
      exact World.isSome_setCells _ _ _ _ _ (hcell _ (by omega))) (fun j hj => by
      rw [hW1, World.frozen?_setCells]
      exact hfree _)
  have HM := hid hm
  have hcapm : ¬ cap = m := by omega
  have hmn : m ≤ xs.length := by omega
  have hmc : m ≤ cap := by omega
  have hmnI : (m : Int) ≤ (xs.length : Int) := by omega
  have HM1 := hid hm1
  rw [← hm1] at HOWN HG ⊢
  have hne : ((i : Int) == (i : Int) + 1) = false := by simp; omega
  have hwr : IntKind.i64.wrap ((i : Int) + 1) = (i : Int) + 1 := IntWalk.i64_in _ (by omega)
  have hp0 : (0 : Int) ≤ (i : Int) + 1 := by omega
  have hp1 : (i : Int) + 1 ≤ (xs.length : Int) := by omega
  have hp2 : ((i : Int) + 1).toNat = i + 1 := by omega
  have hi00 : (0 : Int) ≤ (i : Int) := by omega
  have hic : i ≤ cap := by omega
  have hic2 : i + 1 ≤ cap := by omega
  clear hW1 r1 r2 r3 g1 g2 hov1 hov2 hcell hfree h' h hnews hcm hlenE hm1 hm
  generalize xs.length = n at *
  go_enter Try.func104, Try.ntmps104
  go_wp2_with fail
  go_region_law (refine step_append_room rfl (.tmp 22) (.tmp 25) 41 rfl 60 i0 2 Try.underlying41 hi0 hz1 g 0 i cap (by simp [Act.eval, Act.put]) A (n - (i+1)) (cap - (i+1)) news (by simp [Act.eval, Act.put]) s1.out hsrc.out s2.out (by omega) s3.out ?_; rw [← HW.out, HM.out])
  go_wp2
  go_ret
  exact ⟨rfl, HOWN.out, HG.out⟩

end Go.Proofs.Ytepjbcgkjcgfbaa
