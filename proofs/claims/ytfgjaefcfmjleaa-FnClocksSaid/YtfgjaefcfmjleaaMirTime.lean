import Derived.Test.YtfgjaefcfmjleaaMirror
namespace Go.Proofs.Ytfgjaefcfmjleaa
open Go.RowKit

/-! ## backwards; l2MirrorRow, l2TurnRow; MirrorTime, TurnTime -/
def backR (q : Int → Int) (xs : List Int) : List Int := (xs.map q).reverse
theorem length_backR (q : Int → Int) (xs : List Int) : (backR q xs).length = xs.length := by simp [backR]
theorem mapq_take_snoc {xs : List Int} {k : Nat} {x : Int} (f : Int → Int) (h : k < xs.length) (e : xs.getD k 0 = x) : (xs.take (k+1)).map f = (xs.take k).map f ++ [f x] := by
  rw [take_snoc h e, List.map_append]; rfl
theorem getD_reverse {xs : List Int} {k : Nat} (h : k < xs.length) : xs.reverse.getD k 0 = xs.getD (xs.length - 1 - k) 0 := by
  rw [List.getD_eq_getElem?_getD, List.getElem?_reverse h, List.getD_eq_getElem?_getD]
theorem backR_in {q : Int → Int} (hq : ∀ c, 0 ≤ c → c ≤ 127 → 0 ≤ q c ∧ q c ≤ 127) {xs : List Int} (h : cellsIn xs) : cellsIn (backR q xs) := by
  intro i hi
  rw [length_backR] at hi
  have e : (backR q xs).getD i 0 = q (xs.getD (xs.length - 1 - i) 0) := by
    unfold backR
    rw [getD_reverse (by simpa using hi), List.length_map]
    have hl : xs.length - 1 - i < xs.length := by omega
    simp [List.getD, hl]
  rw [e]
  have := h (xs.length - 1 - i) (by omega)
  exact hq _ this.1 this.2

set_option maxHeartbeats 4000000 in
theorem backwards_any (v1 : Value) (xs : List Int) (f : FuncId) (caps : Array Value) (q : Int → Int) (w : World) (h1 : Ints w v1 xs) (hl : xs.length ≤ 1048576)
    (hcf : ∀ (args : Array Value) (w : World), (callFunc f args).run Try.prog w = .ok (.enter f args) w)
    (hcl : ∀ w', Below w.heap.size w w' → ∀ i, i < xs.length → Calls Try.prog f (#[.int .i64 (xs.getD i 0)] ++ caps) w' fun e w'' => e = .returned (.int .i64 (q (xs.getD i 0))) ∧ Below w'.heap.size w' w'') :
    Calls Try.prog 178 #[v1, .func (.func f) #[] caps] w fun e w' => ∃ v, e = .returned v ∧ OwnI w' w.heap.size v (backR q xs) ∧ Below w.heap.size w w' := by
  obtain ⟨n, ao1, cap1, b1, o1, HN, rfl, ha1, hc1, hn1, hm1, HX⟩ := h1.open_
  have HCL := hid hcl
  clear hcl h1
  rw [HN.out] at hl
  have HBR := hid (show backR q xs = (xs.map q).reverse from rfl)
  go_enter Try.func178, Try.ntmps178
  go_wp2
  go_loopw [5, 7, 10] (fun oo _ ii wr => ∃ k : Nat, k ≤ n ∧ ii = .int .i64 k ∧ Hid (OwnI wr w.heap.size oo ((xs.take k).map q)) ∧ Below w.heap.size w wr) (fun _ _ ii _ => n - (intOf ii).toNat)
  case atStart => exact ⟨0, by omega, rfl, hid (OwnI.nil _ _), Below.refl _ _⟩
  case round =>
    obtain ⟨k, hk, rfl, HO, hbel⟩ := hrel
    by_cases hlt : k < n
    · obtain ⟨rfl, hb1⟩ := ha1 (by omega)
      have e1 : wr.cell? ⟨b1, o1+k, none⟩ = some (.int .i64 (xs.getD k 0)) := (hbel.cell (by exact hb1)).trans (hc1 k (by omega))
      have HC := hid (HCL.out _ hbel k (by rw [HN.out]; exact hlt))
      have HSN := hid (mapq_take_snoc (xs := xs) (k := k) q (by rw [HN.out]; exact hlt) rfl)
      have hlen : ((xs.take k).map q).length ≤ 1099511627776 := by rw [List.length_map, List.length_take]; omega
      generalize xs.getD k 0 = x at e1 HC HSN
      clear hc1 ha1
      generalize q x = y at HC HSN
      go_wp2_with fail
      refine HC.out.mono ?_
      rintro e w1 ⟨rfl, hb⟩
      have HO1 := hid (HO.out.later hb)
      have hbel1 := hbel.trans (hb.mono hbel.size)
      clear hb hbel HO e1
      go_wp2_with (at_builtin; refine wpList_appendI w1 rfl _ _ rfl w.heap.size _ _ HO1.out rfl y rfl hlen hbel1.size ?_; intro v' w2 ho' _ hb' _)
      rw [← HSN.out] at ho'
      have HO' := hid ho'
      have hbel' := hbel1.trans hb'
      clear ho' HO1 hb' hbel1
      go_wp2
      go_roundw
      case rel => exact ⟨k+1, by omega, by go_num, HO', hbel'⟩
      case measure => simp [intOf]; omega
    · have ho := HO.out
      rw [List.take_of_length_le (by rw [HN.out]; omega)] at ho
      have HO2 := hid ho
      clear ho HO
      go_wp2_with (go_at_call 228; refine (ReverseI_any _ _ _ _ HO2.out).mono ?_; rintro e w1 ⟨rfl, ho3, hg⟩; have hb3 := hbel.grown hg hbel.size (fun k hk => (World.ownsRow.lt HO2.out k hk).1); have HO3 := hid ho3; clear ho3 hg)
      go_ret
      exact ⟨_, rfl, by rw [HBR.out]; exact HO3.out, hb3⟩


set_option maxHeartbeats 4000000 in
theorem l2MirrorRow_any (v1 : Value) (xs : List Int) (w : World) (h1 : Ints w v1 xs) (hl : xs.length ≤ 1048576) (hin : cellsIn xs) :
    Calls Try.prog 230 #[v1] w fun e w' => ∃ v, e = .returned v ∧ OwnI w' w.heap.size v (backR mirT xs) ∧ Below w.heap.size w w' := by
  obtain ⟨n, ao1, cap1, b1, o1, HN, rfl, ha1, hc1, hn1, hm1, HX⟩ := h1.open_
  have HIN := hid hin
  clear hin h1
  rw [HN.out] at hl
  have HBR : Hid (backR mirT xs = xs.reverse.map mirT) := hid (by rw [backR, List.map_reverse])
  have HB := hid ((Below.refl w.heap.size w).alloc (Nat.le_refl _) (.cells #[] 3))
  have HO0 := hid (OwnI.lit0 w w.heap.size (Nat.le_refl _))
  go_enter Try.func230, Try.ntmps230
  go_wp2
  go_loopw [3, 4] (fun oo ii wr => ∃ k : Nat, k ≤ n ∧ ii = .int .i64 ((n : Int) - 1 - k) ∧ Hid (OwnI wr w.heap.size oo ((xs.reverse.take k).map mirT)) ∧ Below w.heap.size w wr) (fun _ ii _ => (intOf ii + 1).toNat)
  case atStart => exact ⟨0, by omega, int_eq (by simp), HO0, HB.out⟩
  case round =>
    obtain ⟨k, hk, rfl, HO, hbel⟩ := hrel
    by_cases hlt : k < n
    · obtain ⟨rfl, hb1⟩ := ha1 (by omega)
      have e1 : wr.cell? ⟨b1, o1+(n-1-k), none⟩ = some (.int .i64 (xs.getD (n-1-k) 0)) := (hbel.cell (by exact hb1)).trans (hc1 (n-1-k) (by omega))
      have hx := HIN.out (n-1-k) (by rw [HN.out]; omega)
      have HSN := hid (mapq_take_snoc (xs := xs.reverse) (k := k) mirT (by rw [List.length_reverse, HN.out]; exact hlt) (by rw [getD_reverse (by rw [HN.out]; exact hlt), HN.out]))
      have hlen : ((xs.reverse.take k).map mirT).length ≤ 1099511627776 := by rw [List.length_map, List.length_take]; omega
      generalize xs.getD (n-1-k) 0 = x at e1 hx HSN
      clear hc1 ha1
      have HC := hid (fun w => l2Mirror_any x w hx.1 hx.2)
      generalize mirT x = y at HC HSN
      have hj0 : (0 : Int) ≤ (n : Int) - 1 - k := by omega
      have hj1 : (n : Int) - 1 - k < n := by omega
      have hjt : ((n : Int) - 1 - k).toNat = n - 1 - k := by omega
      have HNX : Hid ((n : Int) - 1 - k - 1 = (n : Int) - 1 - ((k+1 : Nat) : Int)) := hid (by omega)
      generalize hj : (n : Int) - 1 - k = j at *
      generalize hm : n - 1 - k = m at *
      go_wp2_with fail
      refine (HC.out _).mono ?_
      rintro e w1 ⟨rfl, hb⟩
      have HO1 := hid (HO.out.later hb)
      have hbel1 := hbel.trans (hb.mono hbel.size)
      clear hb hbel HO e1
      go_wp2_with (at_builtin; refine wpList_appendI w1 rfl _ _ rfl w.heap.size _ _ HO1.out rfl y rfl hlen hbel1.size ?_; intro v' w2 ho' _ hb' _)
      rw [← HSN.out] at ho'
      have HO' := hid ho'
      have hbel' := hbel1.trans hb'
      clear ho' HO1 hb' hbel1
      go_wp2
      go_roundw
      case rel => exact ⟨k+1, by omega, int_eq HNX.out, HO', hbel'⟩
      case measure => simp [intOf]; omega
    · have ho := HO.out
      rw [List.take_of_length_le (by rw [List.length_reverse, HN.out]; omega), ← HBR.out] at ho
      have HO2 := hid ho
      clear ho HO
      have hj0 : ¬ ((0 : Int) ≤ (n : Int) - 1 - k) := by omega
      go_wp2
      go_ret
      exact ⟨_, rfl, HO2.out, hbel⟩


set_option maxHeartbeats 4000000 in
theorem l2TurnRow_any (v1 : Value) (xs : List Int) (w : World) (h1 : Ints w v1 xs) (hl : xs.length ≤ 1048576) (hin : cellsIn xs) :
    Calls Try.prog 231 #[v1] w fun e w' => ∃ v, e = .returned v ∧ OwnI w' w.heap.size v (backR turT xs) ∧ Below w.heap.size w w' := by
  obtain ⟨n, ao1, cap1, b1, o1, HN, rfl, ha1, hc1, hn1, hm1, HX⟩ := h1.open_
  have HIN := hid hin
  clear hin h1
  rw [HN.out] at hl
  have HBR : Hid (backR turT xs = xs.reverse.map turT) := hid (by rw [backR, List.map_reverse])
  have HB := hid ((Below.refl w.heap.size w).alloc (Nat.le_refl _) (.cells #[] 3))
  have HO0 := hid (OwnI.lit0 w w.heap.size (Nat.le_refl _))
  go_enter Try.func231, Try.ntmps231
  go_wp2
  go_loopw [3, 4] (fun oo ii wr => ∃ k : Nat, k ≤ n ∧ ii = .int .i64 ((n : Int) - 1 - k) ∧ Hid (OwnI wr w.heap.size oo ((xs.reverse.take k).map turT)) ∧ Below w.heap.size w wr) (fun _ ii _ => (intOf ii + 1).toNat)
  case atStart => exact ⟨0, by omega, int_eq (by simp), HO0, HB.out⟩
  case round =>
    obtain ⟨k, hk, rfl, HO, hbel⟩ := hrel
    by_cases hlt : k < n
    · obtain ⟨rfl, hb1⟩ := ha1 (by omega)
      have e1 : wr.cell? ⟨b1, o1+(n-1-k), none⟩ = some (.int .i64 (xs.getD (n-1-k) 0)) := (hbel.cell (by exact hb1)).trans (hc1 (n-1-k) (by omega))
      have hx := HIN.out (n-1-k) (by rw [HN.out]; omega)
      have HSN := hid (mapq_take_snoc (xs := xs.reverse) (k := k) turT (by rw [List.length_reverse, HN.out]; exact hlt) (by rw [getD_reverse (by rw [HN.out]; exact hlt), HN.out]))
      have hlen : ((xs.reverse.take k).map turT).length ≤ 1099511627776 := by rw [List.length_map, List.length_take]; omega
      generalize xs.getD (n-1-k) 0 = x at e1 hx HSN
      clear hc1 ha1
      have HC := hid (fun w => l2Turn_any x w hx.1 hx.2)
      generalize turT x = y at HC HSN
      have hj0 : (0 : Int) ≤ (n : Int) - 1 - k := by omega
      have hj1 : (n : Int) - 1 - k < n := by omega
      have hjt : ((n : Int) - 1 - k).toNat = n - 1 - k := by omega
      have HNX : Hid ((n : Int) - 1 - k - 1 = (n : Int) - 1 - ((k+1 : Nat) : Int)) := hid (by omega)
      generalize hj : (n : Int) - 1 - k = j at *
      generalize hm : n - 1 - k = m at *
      go_wp2_with fail
      refine (HC.out _).mono ?_
      rintro e w1 ⟨rfl, hb⟩
      have HO1 := hid (HO.out.later hb)
      have hbel1 := hbel.trans (hb.mono hbel.size)
      clear hb hbel HO e1
      go_wp2_with (at_builtin; refine wpList_appendI w1 rfl _ _ rfl w.heap.size _ _ HO1.out rfl y rfl hlen hbel1.size ?_; intro v' w2 ho' _ hb' _)
      rw [← HSN.out] at ho'
      have HO' := hid ho'
      have hbel' := hbel1.trans hb'
      clear ho' HO1 hb' hbel1
      go_wp2
      go_roundw
      case rel => exact ⟨k+1, by omega, int_eq HNX.out, HO', hbel'⟩
      case measure => simp [intOf]; omega
    · have ho := HO.out
      rw [List.take_of_length_le (by rw [List.length_reverse, HN.out]; omega), ← HBR.out] at ho
      have HO2 := hid ho
      clear ho HO
      have hj0 : ¬ ((0 : Int) ≤ (n : Int) - 1 - k) := by omega
      go_wp2
      go_ret
      exact ⟨_, rfl, HO2.out, hbel⟩

theorem mirT_in (c : Int) (h0 : 0 ≤ c) (h1 : c ≤ 127) : 0 ≤ mirT c ∧ mirT c ≤ 127 := (mirT_law h0 h1).2
theorem turT_in (c : Int) (h0 : 0 ≤ c) (h1 : c ≤ 127) : 0 ≤ turT c ∧ turT c ≤ 127 := (turT_law h0 h1).2


/-- What the row of a time shows, changed. -/
def mirTime (t : Int) : Int × Bool := timeOf (backR mirT (rowT t))
theorem mirTime_row {t : Int} (h0 : 0 ≤ t) (h1 : t ≤ 1439) : mirTime t = timeQ (backR mirT (rowT t)) :=
  timeOf_row (rowB_of (by rw [length_backR, length_rowT]; omega) (backR_in mirT_in (rowT_in h0 h1)))
set_option maxHeartbeats 2000000 in
theorem l6Mirror_any (t : Int) (w : World) (h0 : 0 ≤ t) (h1 : t ≤ 1439) :
    Calls Try.prog 180 #[.int .i64 t] w fun e w' => e = .returned (.tuple #[.int .i64 (mirTime t).1, .bool (mirTime t).2]) ∧ Below w.heap.size w w' := by
  have HT := hid (mirTime_row h0 h1)
  have HIN := hid (rowT_in h0 h1)
  go_enter Try.func180, Try.ntmps180
  go_wp2_with fail
  refine (l6Row_any _ _ h0 h1).mono ?_
  rintro e w1 ⟨v, rfl, ho, hb⟩
  have HO := hid ho.ints
  clear ho
  go_wp2_with fail
  refine (l2MirrorRow_any _ (rowT t) _ HO.out (by rw [length_rowT]; omega) HIN.out).mono ?_
  rintro e w2 ⟨v2, rfl, ho2, hb2⟩
  have HO2 := hid ho2.ints
  clear ho2
  go_wp2_with fail
  refine (l6TimeOf_any _ (backR mirT (rowT t)) _ HO2.out (by rw [length_backR, length_rowT]; omega)).mono ?_
  rintro e w3 ⟨rfl, hb3⟩
  have HB := hid (hb.trans ((hb2.trans (hb3.mono hb2.size)).mono hb.size))
  rw [← HT.out]
  clear hb hb2 hb3
  go_wp2
  go_ret2
  exact ⟨rfl, HB.out⟩

def mirR (t : Int) : Int × Bool := if timeB t then mirTime t else (0, false)
theorem mirR_no {t : Int} (h : timeB t = false) : mirR t = (0, false) := by simp [mirR, h]
theorem mirR_yes {t : Int} (h : timeB t = true) : mirR t = mirTime t := by simp [mirR, h]

set_option maxHeartbeats 2000000 in
theorem implMirrorTime_any (t : Int) (w : World) :
    Calls Try.prog 72 #[.int .i64 t] w fun e w' => e = .returned (.tuple #[.int .i64 (mirR t).1, .bool (mirR t).2]) ∧ Below w.heap.size w w' := by
  cases hs : timeB t with
  | false =>
    rw [mirR_no hs]
    go_enter Try.func72, Try.ntmps72
    go_wp2_with (go_at_call 165; refine (isTime_any _ _).mono ?_; rintro e w1 ⟨rfl, rfl⟩)
    go_ret2
    exact ⟨rfl, Below.refl _ _⟩
  | true =>
    have ht := timeB_true hs
    rw [mirR_yes hs]
    have HT := hid (show mirTime t = timeOf (backR mirT (rowT t)) from rfl)
    have HIN := hid (rowT_in ht.1 ht.2)
    go_enter Try.func72, Try.ntmps72
    go_wp2_with (first | (go_at_call 165; refine (isTime_any _ _).mono ?_; rintro e w1 ⟨rfl, rfl⟩) | (go_at_call 170; refine (clockRow_any _ _ ht.1 ht.2).mono ?_; rintro e w1 ⟨v, rfl, ho, hb⟩; have HO := hid ho.ints; clear ho))
    refine (backwards_any _ (rowT t) 179 #[] mirT _ HO.out (by rw [length_rowT]; omega) enter_mirrored ?_).mono ?_
    · intro w' _ i hi
      exact mirrored_any _ w' (HIN.out i hi).1 (HIN.out i hi).2
    rintro e w2 ⟨v2, rfl, ho2, hb2⟩
    have HO2 := hid ho2.ints
    clear ho2
    go_wp2_with fail
    refine (implTimeOfRow_any _ (backR mirT (rowT t)) _ HO2.out).mono ?_
    rintro e w3 ⟨rfl, hb3⟩
    have HB := hid (hb.trans ((hb2.trans (hb3.mono hb2.size)).mono hb.size))
    rw [← HT.out]
    clear hb hb2 hb3
    go_wp2
    go_ret2
    exact ⟨rfl, HB.out⟩
theorem enter_MirrorTime (args : Array Value) (w : World) : (callFunc 72 args).run Try.prog w = .ok (.enter 72 args) w := by kernel_rfl

set_option maxHeartbeats 2000000 in
theorem specMirrorTime_any (t : Int) (w : World) :
    Calls Try.prog 73 #[.int .i64 t] w fun e w' => e = .returned (.tuple #[.int .i64 (mirR t).1, .bool (mirR t).2]) ∧ Below w.heap.size w w' := by
  cases hs : timeB t with
  | false =>
    rw [mirR_no hs]
    go_enter Try.func73, Try.ntmps73
    go_wp2_with (go_at_call 167; refine (l6Time_any _ _).mono ?_; rintro e w1 ⟨rfl, rfl⟩)
    go_ret2
    exact ⟨rfl, Below.refl _ _⟩
  | true =>
    have ht := timeB_true hs
    rw [mirR_yes hs]
    go_enter Try.func73, Try.ntmps73
    go_wp2_with (first | (go_at_call 167; refine (l6Time_any _ _).mono ?_; rintro e w1 ⟨rfl, rfl⟩) | (go_at_call 180; refine (l6Mirror_any _ _ ht.1 ht.2).mono ?_; rintro e w1 ⟨rfl, hb⟩))
    go_ret2
    exact ⟨rfl, hb⟩


/-- What the row of a time shows, changed. -/
def turTime (t : Int) : Int × Bool := timeOf (backR turT (rowT t))
theorem turTime_row {t : Int} (h0 : 0 ≤ t) (h1 : t ≤ 1439) : turTime t = timeQ (backR turT (rowT t)) :=
  timeOf_row (rowB_of (by rw [length_backR, length_rowT]; omega) (backR_in turT_in (rowT_in h0 h1)))
set_option maxHeartbeats 2000000 in
theorem l6Turn_any (t : Int) (w : World) (h0 : 0 ≤ t) (h1 : t ≤ 1439) :
    Calls Try.prog 182 #[.int .i64 t] w fun e w' => e = .returned (.tuple #[.int .i64 (turTime t).1, .bool (turTime t).2]) ∧ Below w.heap.size w w' := by
  have HT := hid (turTime_row h0 h1)
  have HIN := hid (rowT_in h0 h1)
  go_enter Try.func182, Try.ntmps182
  go_wp2_with fail
  refine (l6Row_any _ _ h0 h1).mono ?_
  rintro e w1 ⟨v, rfl, ho, hb⟩
  have HO := hid ho.ints
  clear ho
  go_wp2_with fail
  refine (l2TurnRow_any _ (rowT t) _ HO.out (by rw [length_rowT]; omega) HIN.out).mono ?_
  rintro e w2 ⟨v2, rfl, ho2, hb2⟩
  have HO2 := hid ho2.ints
  clear ho2
  go_wp2_with fail
  refine (l6TimeOf_any _ (backR turT (rowT t)) _ HO2.out (by rw [length_backR, length_rowT]; omega)).mono ?_
  rintro e w3 ⟨rfl, hb3⟩
  have HB := hid (hb.trans ((hb2.trans (hb3.mono hb2.size)).mono hb.size))
  rw [← HT.out]
  clear hb hb2 hb3
  go_wp2
  go_ret2
  exact ⟨rfl, HB.out⟩

def turR (t : Int) : Int × Bool := if timeB t then turTime t else (0, false)
theorem turR_no {t : Int} (h : timeB t = false) : turR t = (0, false) := by simp [turR, h]
theorem turR_yes {t : Int} (h : timeB t = true) : turR t = turTime t := by simp [turR, h]

set_option maxHeartbeats 2000000 in
theorem implTurnTime_any (t : Int) (w : World) :
    Calls Try.prog 74 #[.int .i64 t] w fun e w' => e = .returned (.tuple #[.int .i64 (turR t).1, .bool (turR t).2]) ∧ Below w.heap.size w w' := by
  cases hs : timeB t with
  | false =>
    rw [turR_no hs]
    go_enter Try.func74, Try.ntmps74
    go_wp2_with (go_at_call 165; refine (isTime_any _ _).mono ?_; rintro e w1 ⟨rfl, rfl⟩)
    go_ret2
    exact ⟨rfl, Below.refl _ _⟩
  | true =>
    have ht := timeB_true hs
    rw [turR_yes hs]
    have HT := hid (show turTime t = timeOf (backR turT (rowT t)) from rfl)
    have HIN := hid (rowT_in ht.1 ht.2)
    go_enter Try.func74, Try.ntmps74
    go_wp2_with (first | (go_at_call 165; refine (isTime_any _ _).mono ?_; rintro e w1 ⟨rfl, rfl⟩) | (go_at_call 170; refine (clockRow_any _ _ ht.1 ht.2).mono ?_; rintro e w1 ⟨v, rfl, ho, hb⟩; have HO := hid ho.ints; clear ho))
    refine (backwards_any _ (rowT t) 181 #[] turT _ HO.out (by rw [length_rowT]; omega) enter_turned ?_).mono ?_
    · intro w' _ i hi
      exact turned_any _ w' (HIN.out i hi).1 (HIN.out i hi).2
    rintro e w2 ⟨v2, rfl, ho2, hb2⟩
    have HO2 := hid ho2.ints
    clear ho2
    go_wp2_with fail
    refine (implTimeOfRow_any _ (backR turT (rowT t)) _ HO2.out).mono ?_
    rintro e w3 ⟨rfl, hb3⟩
    have HB := hid (hb.trans ((hb2.trans (hb3.mono hb2.size)).mono hb.size))
    rw [← HT.out]
    clear hb hb2 hb3
    go_wp2
    go_ret2
    exact ⟨rfl, HB.out⟩
theorem enter_TurnTime (args : Array Value) (w : World) : (callFunc 74 args).run Try.prog w = .ok (.enter 74 args) w := by kernel_rfl

set_option maxHeartbeats 2000000 in
theorem specTurnTime_any (t : Int) (w : World) :
    Calls Try.prog 75 #[.int .i64 t] w fun e w' => e = .returned (.tuple #[.int .i64 (turR t).1, .bool (turR t).2]) ∧ Below w.heap.size w w' := by
  cases hs : timeB t with
  | false =>
    rw [turR_no hs]
    go_enter Try.func75, Try.ntmps75
    go_wp2_with (go_at_call 167; refine (l6Time_any _ _).mono ?_; rintro e w1 ⟨rfl, rfl⟩)
    go_ret2
    exact ⟨rfl, Below.refl _ _⟩
  | true =>
    have ht := timeB_true hs
    rw [turR_yes hs]
    go_enter Try.func75, Try.ntmps75
    go_wp2_with (first | (go_at_call 167; refine (l6Time_any _ _).mono ?_; rintro e w1 ⟨rfl, rfl⟩) | (go_at_call 182; refine (l6Turn_any _ _ ht.1 ht.2).mono ?_; rintro e w1 ⟨rfl, hb⟩))
    go_ret2
    exact ⟨rfl, hb⟩

end Go.Proofs.Ytfgjaefcfmjleaa
