import Derived.Test.YtgbnoljmmenlbaaCur
import Derived.Test.YtgbnoljmmenlbaaClone
import Derived.Test.YtgbnoljmmenlbaaTwo
import Derived.Laws.StructEq
import Derived.ChangeKeysEq
namespace Go.Proofs.Ytgbnoljmmenlbaa
open Go.RowKit

/-! ## Bytes: append, vCut -/
theorem infoByte : (Try.prog.info? 5).map (fun i => (i.zero, i.size, i.bytes)) = some (some (.int .u8 0), 1, 1) := by kernel_rfl
/-- A row of n bytes of the call's own. -/
def OwnB (w : World) (B : Nat) (v : Value) (n : Nat) : Prop :=
  ∃ xs : List Int, xs.length = n ∧ (∀ x ∈ xs, 0 ≤ x ∧ x ≤ 255) ∧ w.ownsRow B 5 1 v n (xs.map (Value.int .u8))
theorem OwnB.byts {w : World} {B n : Nat} {v : Value} (h : OwnB w B v n) : Byts w v n := by
  obtain ⟨xs, hl, hr, h⟩ := h
  subst hl
  rcases h.2 with ⟨rfl, hn⟩ | ⟨g, cap, cur, rfl, hB, hg, hnc, hcm, hcs, htk⟩
  · refine ⟨none, 0, 0, 0, by rw [hn], fun h => by omega, fun i hi => by omega, by omega, by omega⟩
  · refine ⟨some ⟨g, 0, none⟩, cap, g, 0, rfl, fun _ => ⟨rfl, ?_⟩, fun i hi => ?_, hnc, by simpa [maxLen] using hcm⟩
    · exact (Array.getElem?_eq_some_iff.1 hg).1
    · refine ⟨xs[i], ?_, hr _ (List.getElem_mem _)⟩
      rw [Nat.zero_add, World.ownsRow.cellAt (n := xs.length) (cap := cap) h i (by omega)]
      simp [List.getElem?_eq_getElem hi]
/-- What lies in a slice of bytes, as a list. -/
theorem Byts.list {w : World} {v : Value} {n : Nat} (h : Byts w v n) : ∃ (ao : Option Addr) (cap b o : Nat) (xs : List Int), v = .slice ao n cap ∧ xs.length = n ∧ (∀ x ∈ xs, 0 ≤ x ∧ x ≤ 255) ∧ (0 < n → ao = some ⟨b, o, none⟩ ∧ b < w.heap.size) ∧
    (∀ i, i < n → w.cell? ⟨b, o+i, none⟩ = some (.int .u8 (xs.getD i 0))) ∧ n ≤ cap ∧ cap ≤ 9223372036854775807 := by
  obtain ⟨ao, cap, b, o, rfl, h1, h2, h3, h4⟩ := h
  let f : Nat → Int := fun i => match w.cell? ⟨b, o+i, none⟩ with | some (.int _ x) => x | _ => 0
  have hf : ∀ i, i < n → w.cell? ⟨b, o+i, none⟩ = some (.int .u8 (f i)) ∧ 0 ≤ f i ∧ f i ≤ 255 := fun i hi => by
    obtain ⟨x, hx, hx2⟩ := h2 i hi
    have : f i = x := by show (match w.cell? ⟨b, o+i, none⟩ with | some (.int _ x) => x | _ => 0) = x; rw [hx]
    rw [this]
    exact ⟨hx, hx2⟩
  refine ⟨ao, cap, b, o, (List.range n).map f, rfl, by simp, fun x hx => ?_, h1, fun i hi => ?_, h3, h4⟩
  · simp only [List.mem_map, List.mem_range] at hx
    obtain ⟨i, hi, rfl⟩ := hx
    exact (hf i hi).2
  · rw [(hf i hi).1]
    simp [hi]
theorem wpList_appendBs {ops : Array Oper} {rest : List Oper} {o : Oper} {a : Act} {Q : Exit → Act → World → Prop} (w : World) (hgd : o.guard = none) (s x : Operand)
    (ho : o.op = .call { callee := .builtin .append, args := #[s, x], argTypes := #[22, 22] })
    (B : Nat) (v : Value) (n : Nat) (hown : OwnB w B v n) (hs : a.eval s = v) (v2 : Value) (m : Nat) (hx : a.eval x = v2) (hy : Byts w v2 m) (hlen : n ≤ 1099511627776) (hlen2 : m ≤ 1099511627776) (hB : B ≤ w.heap.size)
    (h : ∀ v' w', OwnB w' B v' (n + m) → Below B w w' → wpList Try.prog ops Q rest (a.put o.dst v') w') :
    wpList Try.prog ops Q (o :: rest) a w := by
  obtain ⟨i0, hi, hz0, hz1, hz2⟩ := info_parts infoByte
  obtain ⟨xs, hl, hr, hown⟩ := hown
  obtain ⟨ao, cap, b, of, ys, rfl, hyl, hyr, h1, h2, h3, h4⟩ := hy.list
  rcases ao with _ | ad
  · have hn : m = 0 := by
      rcases Nat.eq_zero_or_pos m with h0 | h0
      · exact h0
      · exact absurd (h1 h0).1 (by simp)
    subst hn
    exact wpList_append_nil w hgd s x 22 ho B 5 i0 1 Try.underlying22 hi v n (xs.map (Value.int .u8)) hs hown cap hx
      (h v w ⟨xs, hl, hr, hown⟩ (Below.refl _ _))
  · refine wpList_append_own _ hgd s x 22 ho B 5 i0 (.int .u8 0) 1 1 Try.underlying22 hi hz0 hz1 hz2 rfl (by decide) v n (xs.map (Value.int .u8)) hs hown
      ad m cap (ys.map (Value.int .u8)) hx (by simp [hyl]) ?_ ?_ ?_ ?_ hB ?_
    · intro j u hj
      have hjl : j < ys.length := by
        have := (List.getElem?_eq_some_iff.1 hj).1
        simpa using this
      obtain ⟨he, _⟩ := h1 (by omega)
      simp only [Option.some.injEq] at he
      subst he
      have := h2 j (by omega)
      rw [Addr.add_lit, this]
      rw [List.getElem?_map, List.getElem?_eq_getElem hjl] at hj
      simp only [Option.map_some, Option.some.injEq] at hj
      rw [← hj]
      simp [List.getD, hjl]
    · intro u hu; simp at hu; obtain ⟨q, _, rfl⟩ := hu; rfl
    · unfold maxLen; omega
    · omega
    · intro v' w' g1 g2 g3
      refine h v' w' ⟨xs ++ ys, by rw [List.length_append]; omega, fun x hx => ?_, by rw [List.map_append]; exact g1⟩ ((Below.refl _ _).grown g2 hB (fun k hk => (World.ownsRow.lt hown k hk).1))
      rcases List.mem_append.1 hx with hx | hx
      · exact hr x hx
      · exact hyr x hx
theorem u8_range (z : Int) : 0 ≤ IntKind.u8.wrap z ∧ IntKind.u8.wrap z ≤ 255 := by
  unfold IntKind.wrap
  simp only [show IntKind.u8.bits = 8 from rfl, show IntKind.u8.signed = false from rfl]
  simp
  omega
theorem OwnB.lit0 (w : World) (B : Nat) (hB : B ≤ w.heap.size) : OwnB (w.alloc (.cells #[] 5)) B (.slice (some ⟨w.heap.size, 0, none⟩) 0 0) 0 :=
  ⟨[], rfl, by simp, World.ownsRow_lit w #[] 0 hB (by simp [maxLen]) rfl⟩
theorem Byts.one (w : World) (z : Int) : Byts (w.alloc (.cells #[.int .u8 (IntKind.u8.wrap z)] 5)) (.slice (some ⟨w.heap.size, 0, none⟩) 1 1) 1 := by
  refine ⟨some ⟨w.heap.size, 0, none⟩, 1, w.heap.size, 0, rfl, fun _ => ⟨rfl, by simp⟩, fun i hi => ?_, by omega, by omega⟩
  obtain rfl : i = 0 := by omega
  exact ⟨_, by simp [go_sem], u8_range z⟩



set_option maxHeartbeats 1000000 in
theorem rBig_any (v : Value) (n : Nat) (w : World) (h : Byts w v n) :
    Calls Try.prog 4 #[v] w fun e w' => e = .returned (.bool (decide (65536 < n))) ∧ w = w' := by
  obtain ⟨ao, cap, b, o, rfl, _⟩ := h
  cases hb : decide (65536 < n) with
  | true =>
    have h1 : (65536 : Int) < n := by have := of_decide_eq_true hb; omega
    go_enter Try.func4, Try.ntmps4
    go_wp2
    go_ret
    exact ⟨rfl, rfl⟩
  | false =>
    have h1 : ¬ (65536 : Int) < n := by have := of_decide_eq_false hb; omega
    go_enter Try.func4, Try.ntmps4
    go_wp2
    go_ret
    exact ⟨rfl, rfl⟩



set_option maxHeartbeats 400000 in
theorem rInts_any (v1 v2 : Value) (xs ys : List Int) (w : World) (h1 : Ints w v1 xs) (h2 : Ints w v2 ys) :
    Calls Try.prog 10 #[v1, v2] w fun e w' => e = .returned (.bool (decide (xs = ys))) ∧ ∃ m, w' = w.drewN m := by
  obtain ⟨ao1, cap1, b1, o1, rfl, ha1, hc1, hn1, hm1⟩ := h1
  obtain ⟨ao2, cap2, b2, o2, rfl, ha2, hc2, hn2, hm2⟩ := h2
  by_cases hl : xs.length = ys.length
  · obtain ⟨n, hn⟩ : ∃ n, xs.length = n := ⟨_, rfl⟩
    have hn' : ys.length = n := by omega
    rw [hn] at ha1 hc1 hn1 ⊢
    rw [hn'] at ha2 hc2 hn2 ⊢
    have hne : ((n : Int) != n) = false := by simp
    have HN : Hid (xs.length = n) := hn
    have HN' : Hid (ys.length = n) := hn'
    clear hn hn' hl
    go_enter Try.func10, Try.ntmps10
    go_wp2
    go_loopw [5] (fun i wr => ∃ k m : Nat, k ≤ n ∧ i = .int .i64 k ∧ wr = w.drewN m ∧ Hid (xs.take k = ys.take k)) (fun i _ => n - (intOf i).toNat)
    case atStart => exact ⟨0, 0, by omega, rfl, rfl, rfl⟩
    case round =>
      obtain ⟨k, m, hk, rfl, rfl, HT⟩ := hrel
      by_cases hlt : k < n
      · obtain ⟨rfl, hb1⟩ := ha1 (by omega)
        obtain ⟨rfl, hb2⟩ := ha2 (by omega)
        clear ha1 ha2
        have e1 : w.cell? ⟨b1, o1+k, none⟩ = some (.int .i64 (xs.getD k 0)) := hc1 k (by omega)
        have e2 : w.cell? ⟨b2, o2+k, none⟩ = some (.int .i64 (ys.getD k 0)) := hc2 k (by omega)
        generalize hx : xs.getD k 0 = x at e1
        generalize hy : ys.getD k 0 = y at e2
        have HX := hid hx
        have HY := hid hy
        clear hx hy hc1 hc2
        have hlt' : (k : Int) < n := by omega
        have hlt2 : (0 : Int) ≤ k := by omega
        go_wp2
        go_quiet (fail)
        by_cases hxy : x = y
        · subst hxy
          have hb : (x != x) = false := by simp
          go_wp2
          go_roundw
          case rel => exact ⟨k+1, m + nq, by omega, by go_num, by simp, take_ext HT.out (by rw [HN.out]; exact hlt) (by rw [HN'.out]; exact hlt) (HX.out.trans HY.out.symm)⟩
          case measure => simp [intOf]; omega
        · have hb : (x != y) = true := by simpa using hxy
          go_wp2
          go_ret
          refine ⟨ret_bool ?_, m + nq, by simp⟩
          symm
          rw [decide_eq_false_iff_not]
          rintro rfl
          exact hxy (HX.out.symm.trans HY.out)
      · go_wp2
        go_ret
        refine ⟨ret_bool ?_, _, rfl⟩
        symm
        obtain rfl : k = n := by omega
        have := HT.out
        rw [List.take_of_length_le (by rw [HN.out]; omega), List.take_of_length_le (by rw [HN'.out]; omega)] at this
        simpa using this
  · have hb : ((xs.length : Int) != ys.length) = true := by simp; omega
    go_enter Try.func10, Try.ntmps10
    go_wp2
    go_ret
    refine ⟨ret_bool ?_, 0, rfl⟩
    symm
    simp
    rintro rfl
    exact hl rfl

set_option maxHeartbeats 400000 in
theorem rHas_any (v1 : Value) (xs : List Int) (v : Int) (w : World) (h1 : Ints w v1 xs) :
    Calls Try.prog 22 #[v1, .int .i64 v] w fun e w' => e = .returned (.bool (decide (v ∈ xs))) ∧ w = w' := by
  obtain ⟨ao1, cap1, b1, o1, rfl, ha1, hc1, hn1, hm1⟩ := h1
  obtain ⟨n, hn⟩ : ∃ n, xs.length = n := ⟨_, rfl⟩
  have HN := hid hn
  rw [hn] at ha1 hc1 hn1 ⊢
  clear hn
  go_enter Try.func22, Try.ntmps22
  go_wp2
  go_loop [5] (fun i => ∃ k : Nat, k ≤ n ∧ i = .int .i64 k ∧ Hid (v ∉ xs.take k)) (fun i => n - (intOf i).toNat)
  case atStart => exact ⟨0, by omega, rfl, hid (by simp)⟩
  case round =>
    obtain ⟨k, hk, rfl, HT⟩ := hrel
    by_cases hlt : k < n
    · obtain ⟨rfl, hb1⟩ := ha1 (by omega)
      have e1 : w.cell? ⟨b1, o1+k, none⟩ = some (.int .i64 (xs.getD k 0)) := hc1 k (by omega)
      generalize hx : xs.getD k 0 = x at e1
      have HX := hid hx
      clear hx hc1 ha1
      by_cases hxv : x = v
      · subst hxv
        have hb : (x == x) = true := by simp
        go_wp2
        go_ret
        refine ⟨ret_bool ?_, rfl⟩
        symm
        rw [decide_eq_true_eq, ← HX.out]
        have hl : k < xs.length := by rw [HN.out]; exact hlt
        simp [List.getD, hl]
      · have hb : (x == v) = false := by simpa using hxv
        go_wp2
        go_round
        case rel => exact ⟨k+1, by omega, by go_num, hid (notMem_take_succ HT.out (by rw [HN.out]; exact hlt) (by rw [HX.out]; exact hxv))⟩
        case measure => simp [intOf]; omega
    · go_wp2
      go_ret
      have := HT.out
      rw [List.take_of_length_le (by rw [HN.out]; omega)] at this
      exact ⟨ret_bool (decide_eq_false this).symm, rfl⟩

theorem drawn_below {P : Program} {f : FuncId} {args : Array Value} {w : World} {v : Value} (h : Calls P f args w fun e w' => e = .returned v ∧ ∃ m, w' = w.drewN m) :
    Calls P f args w fun e w' => e = .returned v ∧ Below w.heap.size w w' :=
  h.mono fun _ _ ⟨he, m, hm⟩ => ⟨he, by subst hm; exact below_drewN (Below.refl _ _) m⟩
theorem OwnI.spell {w : World} {B n : Nat} {v : Value} {xs : List Int} (h : OwnI w B v xs) (hl : xs.length = n) : ∃ ao cap, v = .slice ao n cap := by
  obtain ⟨ao, cap, b, o, rfl, _⟩ := h.ints
  exact ⟨ao, cap, by rw [hl]⟩
theorem Own2.spell {e : TypeId} {w : World} {B n : Nat} {v : Value} {xs : List (Int × Int)} (h : Own2 e w B v xs) (hl : xs.length = n) : ∃ ao cap, v = .slice ao n cap := by
  obtain ⟨ao, cap, b, o, rfl, _⟩ := h.two
  exact ⟨ao, cap, by rw [hl]⟩
/-! ## Equal rows of arrays and structs -/
theorem eqItems_same {d c : Nat} {xs : Array Value} (hp : ∀ i, i * c < xs.size → ∃ z, ∀ w, (part 3 xs (i * c)).run Try.prog w = .ok (.int .i64 z) w) : ∀ (is : List Nat) (w : World), (∀ i ∈ is, i * c < xs.size) → (Op.eqItems (d+1) 3 c xs xs is).run Try.prog w = .ok true w
  | [], w, _ => by simp [Op.eqItems]
  | i :: is, w, h => by
    obtain ⟨z, hz⟩ := hp i (h i (by simp))
    have ih := eqItems_same (d := d) hp is w (fun j hj => h j (by simp [hj]))
    simp only [Op.eqItems, Sem.run_bind, hz, Result.andThen_ok, run_equalIn_int w d 3 .i64 .i64 z z Try.underlying3]
    simpa using ih
/-- An array of integers is equal to itself. -/
theorem neq_ints {t n : Nat} (hu : Try.prog.underlying t = some (.array n 3)) (zs : List Int) (hn : n = zs.length) (w : World) :
    (binOp .neq t (.agg (zs.map (Value.int .i64)).toArray) (.agg (zs.map (Value.int .i64)).toArray)).run Try.prog w = .ok (.bool false) w := by
  obtain ⟨i0, hi, _⟩ := info_parts infoInt
  have hc : Try.prog.cellsOf 3 = 1 := by kernel_rfl
  have hs : (sizeOf 3).run Try.prog w = .ok 1 w := by rw [run_sizeOf w hi, hc]
  have he : (Op.equal t (.agg (zs.map (Value.int .i64)).toArray) (.agg (zs.map (Value.int .i64)).toArray)).run Try.prog w = .ok true w := by
    unfold Op.equal
    rw [show Op.maxDepth = 9999 + 1 from rfl, run_equalIn_array w 9999 _ _ hu hi]
    refine eqItems_same (d := 9998) (fun i h => ?_) _ w (fun i h => ?_)
    · rw [hc, Nat.mul_one] at *
      simp only [List.size_toArray, List.length_map] at h
      refine ⟨zs[i], fun w => run_part_plain w (by kernel_rfl) ?_⟩
      simp [h]
    · rw [hc]
      have := List.mem_range.1 h
      simp
      omega
  simp only [binOp]
  simp [he]


theorem OwnB.alloc {w : World} {B n : Nat} {v : Value} (h : OwnB w B v n) (o : Obj) : OwnB (w.alloc o) B v n := by
  obtain ⟨xs, h1, h2, h3⟩ := h
  exact ⟨xs, h1, h2, World.ownsRow.alloc h3 o⟩
theorem Byts.one' (w : World) {z : Int} (h : 0 ≤ z ∧ z ≤ 255) : Byts (w.alloc (.cells #[.int .u8 z] 5)) (.slice (some ⟨w.heap.size, 0, none⟩) 1 1) 1 := by
  refine ⟨some ⟨w.heap.size, 0, none⟩, 1, w.heap.size, 0, rfl, fun _ => ⟨rfl, by simp⟩, fun i hi => ?_, by omega, by omega⟩
  obtain rfl : i = 0 := by omega
  exact ⟨_, by simp [go_sem], h⟩
theorem Byts.none (w : World) (ao : Option Addr) (c : Nat) (h : c ≤ 9223372036854775807) : Byts w (.slice ao 0 c) 0 := ⟨ao, c, 0, 0, rfl, fun h => by omega, fun i hi => by omega, by omega, h⟩



end Go.Proofs.Ytgbnoljmmenlbaa
