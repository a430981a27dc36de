import Derived.Test.YtfgjaefcfmjleaaDraw5
namespace Go.Proofs.Ytfgjaefcfmjleaa
open Go.RowKit

/-! ## The draws over codes -/
theorem grown_new {w w1 w' : World} {B : Nat} (hb : Below B w w1) (hg : w1.grownBy w' (some w.heap.size)) (h1 : B = w.heap.size) : Below B w w' := by
  subst h1
  exact hb.grown hg hb.size (fun k hk => by cases hk; exact Nat.le_refl _)
/-- among, over the head of a literal laid before the bound was drawn. -/
theorem among_cut (g a : Nat) (cs : List Int) (w wp : World) (k n m : Nat) (hg : (w.alloc (.cells (cs.map (Value.int .i64)).toArray 3)).grownBy wp (some g)) (h : Cur wp g a) (ha : a ≤ 1000000) (hk : w.heap.size = k) (hgk : g < k) (hn : cs.length = n) (hm : 0 < m) (hmn : m ≤ n) (hl2 : cs.length ≤ 1000) :
    Calls Try.prog 144 #[.pointer (some ⟨g, 0, none⟩), .slice (some ⟨k, 0, none⟩) m n] wp fun e w' => ∃ r : Int, e = .returned (.int .i64 r) ∧ r ∈ cs ∧ Cur w' g (a+2) ∧ wp.grownBy w' (some g) := by
  subst hk hn
  have ho := own_keep (own_lit w cs hl2) hg hgk
  have hc : ∀ i, i < cs.length → wp.cell? ⟨w.heap.size, 0+i, none⟩ = some (.int .i64 (cs.getD i 0)) := fun i hi => by rw [Nat.zero_add]; exact ho.cell rfl hi
  have hb : w.heap.size < wp.heap.size := by have := hg.size; simp at this; omega
  have ht := Ints.take hc hb rfl (Nat.le_refl _) (by omega) hmn
  refine (among_any g a _ (cs.take m) _ h ha ht (.inr (by simp [Value.ownBlock]; omega)) (by simp; omega) (by simp; omega)).mono fun e w' ⟨r, h1, h2, h3, h4⟩ => ⟨r, h1, List.mem_of_mem_take h2, h3, h4⟩


set_option maxRecDepth 100000 in
set_option maxHeartbeats 4000000 in
theorem DrawIsCode_any (v : Value) (n : Nat) (w : World) (h : Byts w v n) (hn : n ≤ 131072) :
    Calls Try.prog 130 #[v] w fun e w' => ∃ (u : Value) (xs : List Int), e = .returned u ∧ OwnI w' w.heap.size u xs ∧ xs.length ≤ 13 ∧ Below w.heap.size w w' := by
  obtain ⟨ao, cap, rfl⟩ : ∃ ao cap, v = .slice ao n cap := by obtain ⟨ao, cap, b, o, rfl, _⟩ := h; exact ⟨ao, cap, rfl⟩
  have HC := hid (Cur.new h hn)
  have HB := hid ((Below.refl w.heap.size w).alloc (Nat.le_refl _) (.cells #[.slice ao n cap, .int .i64 0, .int .u64 0] 87))
  clear h
  go_enter Try.func130, Try.ntmps130
  go_wp2_with fail
  refine (code5_any w.heap.size 0 _ HC.out (by omega)).mono ?_
  rintro e w1 ⟨u, xs, rfl, ho, hl, hc, hg⟩
  have HB1 := hid (grown_new HB.out hg rfl)
  have HG1 := hid hg
  have HO1 := hid ho
  have HC1 := hid hc
  clear ho hc hg HC HB
  go_wp2
  go_ret
  exact ⟨_, xs, rfl, HO1.out.mono (by simp), hl, HB1.out⟩

set_option maxRecDepth 100000 in
set_option maxHeartbeats 4000000 in
theorem DrawGapOf_any (v : Value) (n : Nat) (w : World) (h : Byts w v n) (hn : n ≤ 131072) :
    Calls Try.prog 10 #[v] w fun e w' => ∃ (u : Value) (xs : List Int), e = .returned u ∧ OwnI w' w.heap.size u xs ∧ xs.length ≤ 13 ∧ Below w.heap.size w w' := by
  go_enter Try.func10, Try.ntmps10
  go_wp2_with fail
  refine (DrawIsCode_any v n w h hn).mono ?_
  rintro e w1 ⟨u, xs, rfl, ho, hl, hb⟩
  have HB1 := hid hb
  have HO1 := hid ho
  clear hb ho
  go_wp2
  go_ret
  exact ⟨_, xs, rfl, HO1.out, hl, HB1.out⟩

set_option maxRecDepth 100000 in
set_option maxHeartbeats 4000000 in
theorem DrawNearestOf_any (v : Value) (n : Nat) (w : World) (h : Byts w v n) (hn : n ≤ 131072) :
    Calls Try.prog 34 #[v] w fun e w' => ∃ (u : Value) (xs : List Int) (d : Int), e = .returned (.tuple #[u, .int .i64 d]) ∧ OwnI w' w.heap.size u xs ∧ xs.length ≤ 13 ∧ Below w.heap.size w w' := by
  obtain ⟨ao, cap, rfl⟩ : ∃ ao cap, v = .slice ao n cap := by obtain ⟨ao, cap, b, o, rfl, _⟩ := h; exact ⟨ao, cap, rfl⟩
  have HC := hid (Cur.new h hn)
  have HB := hid ((Below.refl w.heap.size w).alloc (Nat.le_refl _) (.cells #[.slice ao n cap, .int .i64 0, .int .u64 0] 87))
  clear h
  go_enter Try.func34, Try.ntmps34
  go_wp2_with fail
  refine (code5_any w.heap.size 0 _ HC.out (by omega)).mono ?_
  rintro e w1 ⟨u, xs, rfl, ho, hl, hc, hg⟩
  have HB1 := hid (grown_new HB.out hg rfl)
  have HG1 := hid hg
  have HO1 := hid ho
  have HC1 := hid hc
  clear ho hc hg HC HB
  go_wp2_with fail
  refine (cell_any w.heap.size _ _ HC1.out (by omega)).mono ?_
  rintro e w2 ⟨d, rfl, hc, hg⟩
  have HB2 := hid (grown_new HB1.out hg rfl)
  have HO2 := hid (own_keep HO1.out hg (by simp))
  go_wp2
  go_ret2
  exact ⟨_, xs, _, rfl, HO2.out.mono (by simp), hl, HB2.out⟩

set_option maxRecDepth 100000 in
set_option maxHeartbeats 4000000 in
theorem DrawFlipCode_any (v : Value) (n : Nat) (w : World) (h : Byts w v n) (hn : n ≤ 131072) :
    Calls Try.prog 19 #[v] w fun e w' => ∃ (u : Value) (xs : List Int) (d : Int), e = .returned (.tuple #[u, .int .i64 d]) ∧ OwnI w' w.heap.size u xs ∧ xs.length ≤ 13 ∧ Below w.heap.size w w' := by
  obtain ⟨ao, cap, rfl⟩ : ∃ ao cap, v = .slice ao n cap := by obtain ⟨ao, cap, b, o, rfl, _⟩ := h; exact ⟨ao, cap, rfl⟩
  have HC := hid (Cur.new h hn)
  have HB := hid ((Below.refl w.heap.size w).alloc (Nat.le_refl _) (.cells #[.slice ao n cap, .int .i64 0, .int .u64 0] 87))
  clear h
  go_enter Try.func19, Try.ntmps19
  go_wp2_with fail
  refine (code5_any w.heap.size 0 _ HC.out (by omega)).mono ?_
  rintro e w1 ⟨u, xs, rfl, ho, hl, hc, hg⟩
  have HB1 := hid (grown_new HB.out hg rfl)
  have HG1 := hid hg
  have HO1 := hid ho
  have HC1 := hid hc
  clear ho hc hg HC HB
  go_wp2_with fail
  refine (cell_any w.heap.size _ _ HC1.out (by omega)).mono ?_
  rintro e w2 ⟨d, rfl, hc, hg⟩
  have HB2 := hid (grown_new HB1.out hg rfl)
  have HO2 := hid (own_keep HO1.out hg (by simp))
  go_wp2
  go_ret2
  exact ⟨_, xs, _, rfl, HO2.out.mono (by simp), hl, HB2.out⟩

set_option maxRecDepth 100000 in
set_option maxHeartbeats 4000000 in
theorem DrawSpreadPart_any (v : Value) (n : Nat) (w : World) (h : Byts w v n) (hn : n ≤ 131072) :
    Calls Try.prog 44 #[v] w fun e w' => ∃ (u : Value) (xs : List Int) (d : Int), e = .returned (.tuple #[u, .int .i64 d]) ∧ OwnI w' w.heap.size u xs ∧ xs.length ≤ 13 ∧ Below w.heap.size w w' := by
  obtain ⟨ao, cap, rfl⟩ : ∃ ao cap, v = .slice ao n cap := by obtain ⟨ao, cap, b, o, rfl, _⟩ := h; exact ⟨ao, cap, rfl⟩
  have HC := hid (Cur.new h hn)
  have HB := hid ((Below.refl w.heap.size w).alloc (Nat.le_refl _) (.cells #[.slice ao n cap, .int .i64 0, .int .u64 0] 87))
  clear h
  go_enter Try.func44, Try.ntmps44
  go_wp2_with fail
  refine (code5_any w.heap.size 0 _ HC.out (by omega)).mono ?_
  rintro e w1 ⟨u, xs, rfl, ho, hl, hc, hg⟩
  have HB1 := hid (grown_new HB.out hg rfl)
  have HG1 := hid hg
  have HO1 := hid ho
  have HC1 := hid hc
  clear ho hc hg HC
  have HBL : Hid (Below w1.heap.size w1 (w1.alloc (.cells (([2, 3, 4, 1, 7, 0, 8] : List Int).map (Value.int .i64)).toArray 3))) := hid ((Below.refl _ _).alloc (Nat.le_refl _) _)
  have HCL := hid (HC1.out.later HBL.out)
  have HGL := hid (grown_trans HG1.out (grown_of_below HBL.out (some w.heap.size)))
  have HOL := hid (HO1.out.later HBL.out)
  have HSZ := hid HC1.out.lt
  go_wp2_with fail
  refine (pick_any w.heap.size _ 24 _ HCL.out (by omega) (by omega) (by omega)).mono ?_
  rintro e w2 ⟨q, rfl, hq, hc2, hg2⟩
  have HC2 := hid hc2
  have HG2 := hid hg2
  have HO2 := hid (own_keep HOL.out hg2 (by simp))
  have HGZ := hid (grown_trans HGL.out hg2)
  clear hc2 hg2 HC1 HCL HOL
  obtain ⟨c, hc3, hcq⟩ : ∃ c : Nat, c ≤ 2 ∧ (q : Int).tdiv 11 = c := ⟨q / 11, by omega, by rw [show (q : Int).tdiv 11 = (q : Int) / 11 from Int.tdiv_eq_ediv_of_nonneg (by omega)]; rfl⟩
  clear hq
  rcases (show c = 0 ∨ c = 1 ∨ c = 2 by omega) with rfl | rfl | rfl
  all_goals
    go_wp2_with fail
    refine (among_cut w.heap.size _ [2, 3, 4, 1, 7, 0, 8] _ _ _ _ _ HG2.out HC2.out (by omega) (by first | rfl | simp) HSZ.out rfl (by decide) (by decide) (by decide)).mono ?_
    rintro e w3 ⟨d, rfl, _, hc3, hg3⟩
    have HO3 := hid (own_keep HO2.out hg3 (by simp))
    have HG3 := hid (grown_trans HGZ.out hg3)
    have HB3 := hid (grown_new HB.out HG3.out rfl)
    go_wp2
    go_ret2
    exact ⟨_, xs, _, rfl, HO3.out.mono (by simp), hl, HB3.out⟩

set_option maxRecDepth 100000 in
set_option maxHeartbeats 4000000 in
theorem DrawCountNear_any (v : Value) (n : Nat) (w : World) (h : Byts w v n) (hn : n ≤ 131072) :
    Calls Try.prog 37 #[v] w fun e w' => ∃ (u : Value) (xs : List Int) (d : Int), e = .returned (.tuple #[u, .int .i64 d]) ∧ OwnI w' w.heap.size u xs ∧ xs.length ≤ 13 ∧ Below w.heap.size w w' := by
  obtain ⟨ao, cap, rfl⟩ : ∃ ao cap, v = .slice ao n cap := by obtain ⟨ao, cap, b, o, rfl, _⟩ := h; exact ⟨ao, cap, rfl⟩
  have HC := hid (Cur.new h hn)
  have HB := hid ((Below.refl w.heap.size w).alloc (Nat.le_refl _) (.cells #[.slice ao n cap, .int .i64 0, .int .u64 0] 87))
  clear h
  go_enter Try.func37, Try.ntmps37
  go_wp2_with fail
  refine (code5_any w.heap.size 0 _ HC.out (by omega)).mono ?_
  rintro e w1 ⟨u, xs, rfl, ho, hl, hc, hg⟩
  have HB1 := hid (grown_new HB.out hg rfl)
  have HG1 := hid hg
  have HO1 := hid ho
  have HC1 := hid hc
  clear ho hc hg HC
  have HBL : Hid (Below w1.heap.size w1 (w1.alloc (.cells (([1, 2, 0, 3, 7, 8, -1] : List Int).map (Value.int .i64)).toArray 3))) := hid ((Below.refl _ _).alloc (Nat.le_refl _) _)
  have HCL := hid (HC1.out.later HBL.out)
  have HGL := hid (grown_trans HG1.out (grown_of_below HBL.out (some w.heap.size)))
  have HOL := hid (HO1.out.later HBL.out)
  have HSZ := hid HC1.out.lt
  go_wp2_with fail
  refine (pick_any w.heap.size _ 24 _ HCL.out (by omega) (by omega) (by omega)).mono ?_
  rintro e w2 ⟨q, rfl, hq, hc2, hg2⟩
  have HC2 := hid hc2
  have HG2 := hid hg2
  have HO2 := hid (own_keep HOL.out hg2 (by simp))
  have HGZ := hid (grown_trans HGL.out hg2)
  clear hc2 hg2 HC1 HCL HOL
  obtain ⟨c, hc3, hcq⟩ : ∃ c : Nat, c ≤ 2 ∧ (q : Int).tdiv 11 = c := ⟨q / 11, by omega, by rw [show (q : Int).tdiv 11 = (q : Int) / 11 from Int.tdiv_eq_ediv_of_nonneg (by omega)]; rfl⟩
  clear hq
  rcases (show c = 0 ∨ c = 1 ∨ c = 2 by omega) with rfl | rfl | rfl
  all_goals
    go_wp2_with fail
    refine (among_cut w.heap.size _ [1, 2, 0, 3, 7, 8, -1] _ _ _ _ _ HG2.out HC2.out (by omega) (by first | rfl | simp) HSZ.out rfl (by decide) (by decide) (by decide)).mono ?_
    rintro e w3 ⟨d, rfl, _, hc3, hg3⟩
    have HO3 := hid (own_keep HO2.out hg3 (by simp))
    have HG3 := hid (grown_trans HGZ.out hg3)
    have HB3 := hid (grown_new HB.out HG3.out rfl)
    go_wp2
    go_ret2
    exact ⟨_, xs, _, rfl, HO3.out.mono (by simp), hl, HB3.out⟩

set_option maxRecDepth 100000 in
set_option maxHeartbeats 4000000 in
theorem DrawCountFar_any (v : Value) (n : Nat) (w : World) (h : Byts w v n) (hn : n ≤ 131072) :
    Calls Try.prog 23 #[v] w fun e w' => ∃ (u : Value) (xs : List Int) (d : Int), e = .returned (.tuple #[u, .int .i64 d]) ∧ OwnI w' w.heap.size u xs ∧ xs.length ≤ 13 ∧ Below w.heap.size w w' := by
  go_enter Try.func23, Try.ntmps23
  go_wp2_with fail
  refine (DrawSpreadPart_any v n w h hn).mono ?_
  rintro e w1 ⟨u, xs, d, rfl, ho, hl, hb⟩
  obtain ⟨m, au, cu, rfl⟩ : ∃ m au cu, u = .slice au m cu := by obtain ⟨au, cu, b, o, rfl, _⟩ := ho.ints; exact ⟨_, au, cu, rfl⟩
  have HB1 := hid hb
  have HO1 := hid ho
  clear hb ho
  go_wp2
  go_ret2
  exact ⟨_, xs, _, rfl, HO1.out, hl, HB1.out⟩

end Go.Proofs.Ytfgjaefcfmjleaa
