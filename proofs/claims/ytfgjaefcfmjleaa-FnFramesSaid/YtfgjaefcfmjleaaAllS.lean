import Derived.Test.YtfgjaefcfmjleaaNums
import Derived.Test.YtfgjaefcfmjleaaTwo
import Derived.Laws.EntriesVeiled
import Derived.Deep.RegionWith
namespace Go.Proofs.Ytfgjaefcfmjleaa
open Go.RowKit

/-! ## areAll over []Slot; isFrame, l8Frame -/
def topI (k : Int) : Int := 2 ^ k.toNat - 1
def slotB (k : Int) (p : Int × Int) : Bool := inB p.1 0 (topI k) && cellB p.2
theorem six {k : Int} (h : inB k 1 6 = true) : k = 1 ∨ k = 2 ∨ k = 3 ∨ k = 4 ∨ k = 5 ∨ k = 6 := by
  have := inB_true h
  omega

theorem wrapTop {k : Nat} (hk : k ≤ 6) : IntKind.i64.wrap ((2 : Int) ^ k) = 2 ^ k ∧ IntKind.i64.wrap ((2 : Int) ^ k - 1) = topI k := by
  have h : (2 : Int) ^ k ≤ 64 ∧ 1 ≤ (2 : Int) ^ k := by
    obtain ⟨j, rfl⟩ : ∃ j : Fin 7, k = (j : Nat) := ⟨⟨k, by omega⟩, rfl⟩
    clear hk
    revert j
    decide
  refine ⟨IntWalk.i64_in _ (by omega), ?_⟩
  rw [IntWalk.i64_in _ (by omega)]
  simp [topI]

set_option maxHeartbeats 2000000 in
theorem isFrameClosure_any (k : Nat) (c b : Int) (ad : Addr) (w : World) (hk1 : 1 ≤ k) (hk6 : k ≤ 6) (had : w.cell? ad = some (.int .i64 k)) :
    Calls Try.prog 237 #[.agg #[.int .i64 c, .int .i64 b], .pointer (some ad)] w fun e w' => e = .returned (.bool (slotB k (c, b))) ∧ Below w.heap.size w w' := by
  have hlt := World.block_lt_of_cell? w _ had
  have e0 : ∀ o, (w.alloc o).cell? ad = some (.int .i64 k) := fun o => (((Below.refl w.heap.size w).alloc (Nat.le_refl _) o).cell (by exact hlt)).trans had
  have hb := hid (((Below.refl w.heap.size w).alloc (Nat.le_refl _) (.cells #[.int .i64 c, .int .i64 b] 108)))
  have e1 := e0 (.cells #[.int .i64 c, .int .i64 b] 108)
  clear e0 had
  have hw := wrapTop hk6
  have hw1 := hw.1
  have hw2 := hw.2
  have HS : Hid (slotB k (c, b) = (inB c 0 (topI k) && cellB b)) := hid rfl
  clear hw
  cases h1 : inB c 0 (topI k)
  · go_enter Try.func237, Try.ntmps237
    go_wp2
    go_quiet ((go_at_call 151; exact Calls.quiet_of_same ((within_any _ _ _ _).mono fun _ _ h => ⟨h.1, h.2.symm⟩)))
    go_wp2
    go_ret
    exact ⟨ret_bool (by rw [HS.out, h1]; rfl), below_drewN hb.out _⟩
  · go_enter Try.func237, Try.ntmps237
    go_wp2
    go_quiet ((first | (go_at_call 151; exact Calls.quiet_of_same ((within_any _ _ _ _).mono fun _ _ h => ⟨h.1, h.2.symm⟩)) | (go_at_call 139; exact Calls.quiet_of_same ((IsCell_any _ _).mono fun _ _ h => ⟨h.1, h.2.symm⟩))))
    go_wp2
    go_ret
    exact ⟨ret_bool (by rw [HS.out, h1]; rfl), below_drewN hb.out _⟩

theorem enterIsFrame (args : Array Value) (w : World) : (callFunc 237 args).run Try.prog w = .ok (.enter 237 args) w := by kernel_rfl

set_option maxHeartbeats 2000000 in
theorem l8Slot_any (k : Nat) (c b : Int) (w : World) (hk1 : 1 ≤ k) (hk6 : k ≤ 6) :
    Calls Try.prog 238 #[.int .i64 k, .agg #[.int .i64 c, .int .i64 b]] w fun e w' => e = .returned (.bool (slotB k (c, b))) ∧ Below w.heap.size w w' := by
  have hb := hid (((Below.refl w.heap.size w).alloc (Nat.le_refl _) (.cells #[.int .i64 c, .int .i64 b] 108)))
  have hw := wrapTop hk6
  have hw1 := hw.1
  have hw2 := hw.2
  have HS : Hid (slotB k (c, b) = (inB c 0 (topI k) && cellB b)) := hid rfl
  clear hw
  cases h1 : inB c 0 (topI k)
  · go_enter Try.func238, Try.ntmps238
    go_wp2
    go_quiet ((go_at_call 143; exact Calls.quiet_of_same ((l1In_any _ _ _ _).mono fun _ _ h => ⟨h.1, h.2.symm⟩)))
    go_wp2
    go_ret
    exact ⟨ret_bool (by rw [HS.out, h1]; rfl), below_drewN hb.out _⟩
  · go_enter Try.func238, Try.ntmps238
    go_wp2
    go_quiet ((first | (go_at_call 143; exact Calls.quiet_of_same ((l1In_any _ _ _ _).mono fun _ _ h => ⟨h.1, h.2.symm⟩)) | (go_at_call 140; exact Calls.quiet_of_same ((l2Cell_any _ _).mono fun _ _ h => ⟨h.1, h.2.symm⟩))))
    go_wp2
    go_ret
    exact ⟨ret_bool (by rw [HS.out, h1]; rfl), below_drewN hb.out _⟩

/-! ### IndexFunc, ContainsFunc, areAll at []Slot -/
def idxP (xs : List (Int × Int)) (q : Int × Int → Bool) : Int := if xs.any q then (xs.findIdx q : Int) else -1
theorem idxP_at {xs : List (Int × Int)} {q : Int × Int → Bool} {k : Nat} (hk : k < xs.length) (hn : (xs.take k).any q = false) (e : q (xs.getD k (0,0)) = true) : idxP xs q = k := by
  have hx : xs.getD k (0,0) = xs[k] := by simp [List.getD, hk]
  rw [hx] at e
  have ha : xs.any q = true := List.any_eq_true.2 ⟨_, List.getElem_mem hk, e⟩
  have hf : xs.findIdx q = k := by
    rw [List.findIdx_eq hk]
    refine ⟨e, fun j hj => ?_⟩
    have := List.any_eq_false.1 hn xs[j] (List.mem_take_iff_getElem.2 ⟨j, by omega, rfl⟩)
    simpa using this
  simp [idxP, ha, hf]
theorem idxP_none {xs : List (Int × Int)} {q : Int × Int → Bool} (h : xs.any q = false) : idxP xs q = -1 := by simp [idxP, h]
theorem idxP_nonneg (xs : List (Int × Int)) (q : Int × Int → Bool) : decide (0 ≤ idxP xs q) = xs.any q := by
  unfold idxP
  cases xs.any q <;> simp
theorem any_take_succ {xs : List (Int × Int)} {q : Int × Int → Bool} {k : Nat} (hk : k < xs.length) (hn : (xs.take k).any q = false) (e : q (xs.getD k (0,0)) = false) : (xs.take (k+1)).any q = false := by
  rw [take_snoc2 hk rfl, List.any_append, hn]
  simp only [List.any_cons, List.any_nil, e, Bool.or_false]

set_option maxHeartbeats 1000000 in
theorem IndexFuncS_any (v1 : Value) (xs : List (Int × Int)) (f : FuncId) (ad : Addr) (q : Int × Int → Bool) (w : World) (h1 : Two w v1 xs)
    (hcf : ∀ (args : Array Value) (w : World), (callFunc f args).run Try.prog w = .ok (.enter f args) w)
    (hcl : ∀ w', Below w.heap.size w w' → ∀ c b, Calls Try.prog f #[.agg #[.int .i64 c, .int .i64 b], .pointer (some ad)] w' fun e w'' => e = .returned (.bool (q (c, b))) ∧ Below w'.heap.size w' w'') :
    Calls Try.prog 260 #[v1, .func (.func f) #[] #[.pointer (some ad)]] w fun e w' => e = .returned (.int .i64 (idxP xs q)) ∧ Below w.heap.size w w' := by
  obtain ⟨n, ao1, cap1, b1, o1, HN, rfl, ha1, hc1, hn1, hm1, HX⟩ := h1.open_
  have HCL := hid hcl
  clear hcl h1
  go_enter Try.func260, Try.ntmps260
  go_wp2
  go_loopw [5, 8] (fun _ i wr => ∃ k : Nat, k ≤ n ∧ i = .int .i64 k ∧ Hid ((xs.take k).any q = false) ∧ Below w.heap.size w wr) (fun _ i _ => n - (intOf i).toNat)
  case atStart => exact ⟨0, by omega, rfl, hid (by simp), Below.refl _ _⟩
  case round =>
    obtain ⟨k, hk, rfl, HT, hbel⟩ := hrel
    by_cases hlt : k < n
    · obtain ⟨rfl, hb1⟩ := ha1 (by omega)
      have e1 : wr.cell? ⟨b1, o1+k*2, none⟩ = some (.int .i64 (xs.getD k (0,0)).1) := (hbel.cell (by exact hb1)).trans (hc1 k (by omega)).1
      have e2 : wr.cell? ⟨b1, o1+k*2+1, none⟩ = some (.int .i64 (xs.getD k (0,0)).2) := (hbel.cell (by exact hb1)).trans (hc1 k (by omega)).2
      obtain ⟨⟨x1, x2⟩, hx⟩ : ∃ x, xs.getD k (0,0) = x := ⟨_, rfl⟩
      rw [hx] at e1 e2
      have HXX := hid hx
      have HL := hid (show k < xs.length by rw [HN.out]; exact hlt)
      clear hx hc1 ha1
      cases hq : q (x1, x2) with
      | true =>
        have HR := hid (idxP_at HL.out HT.out (by rw [HXX.out]; exact hq))
        go_wp2_with fail
        refine (HCL.out _ hbel x1 x2).mono ?_
        rintro e w1 ⟨rfl, hb⟩
        rw [hq]
        clear hq
        go_wp2
        go_ret
        exact ⟨ret_int HR.out.symm, hbel.trans (hb.mono hbel.size)⟩
      | false =>
        have HR := hid (any_take_succ HL.out HT.out (by rw [HXX.out]; exact hq))
        go_wp2_with fail
        refine (HCL.out _ hbel x1 x2).mono ?_
        rintro e w1 ⟨rfl, hb⟩
        rw [hq]
        clear hq
        go_wp2
        go_roundw
        case rel => exact ⟨k+1, by omega, by go_num, HR, hbel.trans (hb.mono hbel.size)⟩
        case measure => simp [intOf]; omega
    · have HR := hid (idxP_none (xs := xs) (q := q) (by have := HT.out; rw [List.take_of_length_le (by rw [HN.out]; omega)] at this; exact this))
      go_wp2
      go_ret
      exact ⟨ret_int HR.out.symm, hbel⟩

set_option maxHeartbeats 1000000 in
theorem ContainsFuncS_any (v1 : Value) (xs : List (Int × Int)) (f : FuncId) (ad : Addr) (q : Int × Int → Bool) (w : World) (h1 : Two w v1 xs)
    (hcf : ∀ (args : Array Value) (w : World), (callFunc f args).run Try.prog w = .ok (.enter f args) w)
    (hcl : ∀ w', Below w.heap.size w w' → ∀ c b, Calls Try.prog f #[.agg #[.int .i64 c, .int .i64 b], .pointer (some ad)] w' fun e w'' => e = .returned (.bool (q (c, b))) ∧ Below w'.heap.size w' w'') :
    Calls Try.prog 252 #[v1, .func (.func f) #[] #[.pointer (some ad)]] w fun e w' => e = .returned (.bool (xs.any q)) ∧ Below w.heap.size w w' := by
  have HR := hid (idxP_nonneg xs q)
  have HC := hid (IndexFuncS_any v1 xs f ad q w h1 hcf hcl)
  clear hcl h1
  go_enter Try.func252, Try.ntmps252
  go_wp2_with fail
  refine HC.out.mono ?_
  rintro e w1 ⟨rfl, hb⟩
  go_wp2
  go_ret
  exact ⟨ret_bool HR.out, hb⟩

set_option maxHeartbeats 1000000 in
theorem areAllSClosure_any (c b : Int) (f : FuncId) (ad adF : Addr) (q : Int × Int → Bool) (w : World)
    (hcf : ∀ (args : Array Value) (w : World), (callFunc f args).run Try.prog w = .ok (.enter f args) w)
    (hF : w.cell? adF = some (.func (.func f) #[] #[.pointer (some ad)]))
    (hcl : ∀ w', Below w.heap.size w w' → Calls Try.prog f #[.agg #[.int .i64 c, .int .i64 b], .pointer (some ad)] w' fun e w'' => e = .returned (.bool (q (c, b))) ∧ Below w'.heap.size w' w'') :
    Calls Try.prog 253 #[.agg #[.int .i64 c, .int .i64 b], .pointer (some adF)] w fun e w' => e = .returned (.bool (!q (c, b))) ∧ Below w.heap.size w w' := by
  have HB := hid ((Below.refl w.heap.size w).alloc (Nat.le_refl _) (.cells #[.int .i64 c, .int .i64 b] 108))
  have HCL := hid hcl
  have hlt := World.block_lt_of_cell? w _ hF
  have e1 : (w.alloc (.cells #[.int .i64 c, .int .i64 b] 108)).cell? adF = some (.func (.func f) #[] #[.pointer (some ad)]) := (HB.out.cell (by exact hlt)).trans hF
  clear hcl hF
  go_enter Try.func253, Try.ntmps253
  go_wp2_with fail
  refine (HCL.out _ HB.out).mono ?_
  rintro e w1 ⟨rfl, hb⟩
  go_wp2
  go_ret
  exact ⟨rfl, HB.out.trans (hb.mono HB.out.size)⟩
theorem enterAllS (args : Array Value) (w : World) : (callFunc 253 args).run Try.prog w = .ok (.enter 253 args) w := by kernel_rfl

theorem all_not {α : Type} (xs : List α) (q : α → Bool) : (!xs.any fun p => !q p) = xs.all q := by
  induction xs with
  | nil => rfl
  | cons a r ih => simp only [List.any_cons, List.all_cons, Bool.not_or, Bool.not_not, ih]

set_option maxHeartbeats 1000000 in
theorem areAllS_any (v1 : Value) (xs : List (Int × Int)) (f : FuncId) (ad : Addr) (q : Int × Int → Bool) (w : World) (h1 : Two w v1 xs)
    (hcf : ∀ (args : Array Value) (w : World), (callFunc f args).run Try.prog w = .ok (.enter f args) w)
    (hcl : ∀ w', Below w.heap.size w w' → ∀ c b, Calls Try.prog f #[.agg #[.int .i64 c, .int .i64 b], .pointer (some ad)] w' fun e w'' => e = .returned (.bool (q (c, b))) ∧ Below w'.heap.size w' w'') :
    Calls Try.prog 236 #[v1, .func (.func f) #[] #[.pointer (some ad)]] w fun e w' => e = .returned (.bool (xs.all q)) ∧ Below w.heap.size w w' := by
  have HB := hid ((Below.refl w.heap.size w).alloc (Nat.le_refl _) (.cells #[.func (.func f) #[] #[.pointer (some ad)]] 121))
  have HX := hid (h1.later HB.out)
  have HCELL : Hid ((w.alloc (.cells #[.func (.func f) #[] #[.pointer (some ad)]] 121)).cell? ⟨w.heap.size, 0, none⟩ = some (.func (.func f) #[] #[.pointer (some ad)])) := hid (by simp [go_sem])
  have HCL := hid hcl
  have HR := hid (all_not xs q)
  have HCF := hid hcf
  clear h1 hcl hcf
  go_enter Try.func236, Try.ntmps236
  go_wp2_with fail
  refine (ContainsFuncS_any _ xs _ ⟨w.heap.size, 0, none⟩ (fun p => !q p) _ HX.out enterAllS ?_).mono ?_
  · intro w' hb c b
    refine areAllSClosure_any c b f ad _ q w' HCF.out ((hb.cell (by simp)).trans HCELL.out) ?_
    intro w'' hb'
    exact HCL.out w'' (HB.out.trans ((hb.mono HB.out.size).trans (hb'.mono (Nat.le_trans HB.out.size hb.size)))) c b
  rintro e w1 ⟨rfl, hb⟩
  go_wp2
  go_ret
  exact ⟨ret_bool HR.out, HB.out.trans (hb.mono HB.out.size)⟩

/-! ### frames -/
def frameB (k : Int) (xs : List (Int × Int)) : Bool := decide (xs.length ≤ 12) && xs.all (slotB k)
theorem frameB_long {k : Int} {xs : List (Int × Int)} (h : ¬ xs.length ≤ 12) : frameB k xs = false := by simp [frameB]; intro h'; omega
theorem frameB_short {k : Int} {xs : List (Int × Int)} (h : xs.length ≤ 12) : frameB k xs = xs.all (slotB k) := by simp [frameB, h]
theorem frameB_bad {k : Int} {xs : List (Int × Int)} {i : Nat} (hi : i < xs.length) (h : slotB k (xs.getD i (0,0)) = false) : frameB k xs = false := by
  have : xs.all (slotB k) = false := by
    rw [List.all_eq_false]
    refine ⟨xs[i], List.getElem_mem hi, ?_⟩
    have e : xs.getD i (0,0) = xs[i] := by simp [List.getD, hi]
    rw [e] at h
    simp [h]
  simp [frameB, this]
theorem frameB_all {k : Int} {xs : List (Int × Int)} (h : xs.length ≤ 12) (h' : ∀ i, i < xs.length → slotB k (xs.getD i (0,0)) = true) : frameB k xs = true := by
  rw [frameB_short h, List.all_eq_true]
  intro x hx
  obtain ⟨i, hi, rfl⟩ := List.mem_iff_getElem.1 hx
  have := h' i hi
  have e : xs.getD i (0,0) = xs[i] := by simp [List.getD, hi]
  rwa [e] at this
theorem frameB_true {k : Int} {xs : List (Int × Int)} (h : frameB k xs = true) : xs.length ≤ 12 ∧ ∀ i, i < xs.length → slotB k (xs.getD i (0,0)) = true := by
  simp only [frameB, Bool.and_eq_true, decide_eq_true_eq, List.all_eq_true] at h
  refine ⟨h.1, fun i hi => ?_⟩
  have e : xs.getD i (0,0) = xs[i] := by simp [List.getD, hi]
  rw [e]
  exact h.2 _ (List.getElem_mem hi)
theorem slotB_true {k : Nat} {p : Int × Int} (h : slotB k p = true) (hk : k ≤ 6) : (0 ≤ p.1 ∧ p.1 ≤ 63) ∧ 0 ≤ p.2 ∧ p.2 ≤ 127 := by
  simp only [slotB, Bool.and_eq_true] at h
  have h1 := inB_true h.1
  have h2 := cellB_true h.2
  have h3 : topI k ≤ 63 := by
    obtain ⟨j, rfl⟩ : ∃ j : Fin 7, k = (j : Nat) := ⟨⟨k, by omega⟩, rfl⟩
    clear hk h h1 h2
    revert j
    decide
  omega

set_option maxHeartbeats 1000000 in
theorem isFrame_any (k : Nat) (v1 : Value) (xs : List (Int × Int)) (w : World) (h1 : Two w v1 xs) (hk1 : 1 ≤ k) (hk6 : k ≤ 6) :
    Calls Try.prog 197 #[.int .i64 k, v1] w fun e w' => e = .returned (.bool (frameB k xs)) ∧ Below w.heap.size w w' := by
  obtain ⟨n, ao1, cap1, b1, o1, HN, rfl, ha1, hc1, hn1, hm1, HX⟩ := h1.open_
  have HB := hid ((Below.refl w.heap.size w).alloc (Nat.le_refl _) (.cells #[.int .i64 k] 3))
  have HX1 := hid (h1.later HB.out)
  have HCELL : Hid ((w.alloc (.cells #[.int .i64 k] 3)).cell? ⟨w.heap.size, 0, none⟩ = some (.int .i64 k)) := hid (by simp [go_sem])
  clear h1 hc1 ha1
  by_cases hl : n ≤ 12
  · have HR := hid (frameB_short (k := k) (xs := xs) (by rw [HN.out]; exact hl))
    go_enter Try.func197, Try.ntmps197
    go_wp2_with fail
    refine (areAllS_any _ xs _ ⟨w.heap.size, 0, none⟩ (slotB k) _ HX1.out enterIsFrame ?_).mono ?_
    · intro w' hb c b
      exact isFrameClosure_any k c b _ w' hk1 hk6 ((hb.cell (by simp)).trans HCELL.out)
    rintro e w1 ⟨rfl, hb⟩
    go_wp2
    go_ret
    exact ⟨ret_bool HR.out.symm, HB.out.trans (hb.mono HB.out.size)⟩
  · have HR := hid (frameB_long (k := k) (xs := xs) (by rw [HN.out]; exact hl))
    go_enter Try.func197, Try.ntmps197
    go_wp2_with fail
    go_ret
    exact ⟨ret_bool HR.out.symm, HB.out⟩

set_option maxHeartbeats 1000000 in
theorem l8Frame_any (k : Nat) (v1 : Value) (xs : List (Int × Int)) (w : World) (h1 : Two w v1 xs) (hk1 : 1 ≤ k) (hk6 : k ≤ 6) :
    Calls Try.prog 198 #[.int .i64 k, v1] w fun e w' => e = .returned (.bool (frameB k xs)) ∧ Below w.heap.size w w' := by
  obtain ⟨n, ao1, cap1, b1, o1, HN, rfl, ha1, hc1, hn1, hm1, HX⟩ := h1.open_
  clear h1
  go_enter Try.func198, Try.ntmps198
  go_wp2
  go_loopw [5] (fun i wr => ∃ j : Nat, j ≤ n ∧ i = .int .i64 j ∧ Hid (∀ i, i < j → slotB k (xs.getD i (0,0)) = true) ∧ Below w.heap.size w wr) (fun i _ => n - (intOf i).toNat)
  case atStart => exact ⟨0, by omega, rfl, hid (fun i h => absurd h (Nat.not_lt_zero i)), Below.refl _ _⟩
  case round =>
    obtain ⟨j, hj, rfl, HT, hbel⟩ := hrel
    by_cases hlt : j < n ∧ j ≤ 12
    · obtain ⟨hlt, h12⟩ := hlt
      obtain ⟨rfl, hb1⟩ := ha1 (by omega)
      have e1 : wr.cell? ⟨b1, o1+j*2, none⟩ = some (.int .i64 (xs.getD j (0,0)).1) := (hbel.cell (by exact hb1)).trans (hc1 j (by omega)).1
      have e2 : wr.cell? ⟨b1, o1+j*2+1, none⟩ = some (.int .i64 (xs.getD j (0,0)).2) := (hbel.cell (by exact hb1)).trans (hc1 j (by omega)).2
      obtain ⟨⟨x1, x2⟩, hx⟩ : ∃ x, xs.getD j (0,0) = x := ⟨_, rfl⟩
      rw [hx] at e1 e2
      have HXX := hid hx
      have HL := hid (show j < xs.length by rw [HN.out]; exact hlt)
      clear hx hc1 ha1
      cases hq : slotB k (x1, x2) with
      | true =>
        have HR := hid (show ∀ i, i < j + 1 → slotB k (xs.getD i (0,0)) = true from fun i hi => by
          by_cases e : i = j
          · subst e; rw [HXX.out]; exact hq
          · exact HT.out i (by omega))
        go_wp2_with (go_at_call 238; refine (l8Slot_any k _ _ _ hk1 hk6).mono ?_; rintro e w1 ⟨rfl, hb⟩)
        go_roundw
        case rel => exact ⟨j+1, by omega, by go_num, HR, hbel.trans (hb.mono hbel.size)⟩
        case measure => simp [intOf]; omega
      | false =>
        have HR := hid (frameB_bad HL.out (by rw [HXX.out]; exact hq))
        go_wp2_with (go_at_call 238; refine (l8Slot_any k _ _ _ hk1 hk6).mono ?_; rintro e w1 ⟨rfl, hb⟩)
        go_ret
        exact ⟨ret_bool HR.out.symm, hbel.trans (hb.mono hbel.size)⟩
    · by_cases hn12 : n ≤ 12
      · have HR := hid (frameB_all (k := k) (xs := xs) (by rw [HN.out]; exact hn12) (by rw [HN.out, show n = j by omega]; exact HT.out))
        by_cases hjn : j < n
        · omega
        · go_wp2
          go_ret
          exact ⟨ret_bool (by rw [HR.out]; simp; omega), hbel⟩
      · have HR := hid (frameB_long (k := k) (xs := xs) (by rw [HN.out]; exact hn12))
        by_cases hjn : j < n
        all_goals
          go_wp2
          go_ret
          exact ⟨ret_bool (by rw [HR.out]; simp; omega), hbel⟩

/-! ### IsFrame; isDriven, l8Good -/
def isFrameR (k : Int) (xs : List (Int × Int)) : Bool × Bool := if inB k 1 6 then (frameB k xs, true) else (false, false)
theorem isFrameR_no {k : Int} {xs : List (Int × Int)} (h : inB k 1 6 = false) : isFrameR k xs = (false, false) := by simp [isFrameR, h]
theorem isFrameR_yes {k : Int} {xs : List (Int × Int)} (h : inB k 1 6 = true) : isFrameR k xs = (frameB k xs, true) := by simp [isFrameR, h]
def drivenB (k : Int) (xs : List (Int × Int)) : Bool := inB k 1 6 && frameB k xs
theorem kNat {k : Int} (h : inB k 1 6 = true) : ∃ j : Nat, k = j ∧ 1 ≤ j ∧ j ≤ 6 := by
  have := inB_true h
  exact ⟨k.toNat, by omega, by omega, by omega⟩
theorem drivenB_true {k : Int} {xs : List (Int × Int)} (h : drivenB k xs = true) : inB k 1 6 = true ∧ frameB k xs = true := by simpa [drivenB] using h

set_option maxHeartbeats 1000000 in
theorem implIsFrame_any (k : Int) (v1 : Value) (xs : List (Int × Int)) (w : World) (h1 : Two w v1 xs) :
    Calls Try.prog 95 #[.int .i64 k, v1] w fun e w' => e = .returned (.tuple #[.bool (isFrameR k xs).1, .bool (isFrameR k xs).2]) ∧ Below w.heap.size w w' := by
  have HX := hid h1
  cases hk : inB k 1 6 with
  | false =>
    rw [isFrameR_no hk]
    go_enter Try.func95, Try.ntmps95
    go_wp2_with (go_at_call 151; refine (within_any _ _ _ _).mono ?_; rintro e w' ⟨rfl, rfl⟩)
    go_ret2
    exact ⟨rfl, Below.refl _ _⟩
  | true =>
    rw [isFrameR_yes hk]
    have hk' := hk
    obtain ⟨j, rfl, hj1, hj6⟩ := kNat hk'
    go_enter Try.func95, Try.ntmps95
    go_wp2_with (first | (go_at_call 151; refine (within_any _ _ _ _).mono ?_; rintro e w' ⟨rfl, rfl⟩) | (go_at_call 197; refine (isFrame_any j _ xs _ HX.out hj1 hj6).mono ?_; rintro e w1 ⟨rfl, hb⟩))
    go_ret2
    exact ⟨rfl, hb⟩

set_option maxHeartbeats 1000000 in
theorem specIsFrame_any (k : Int) (v1 : Value) (xs : List (Int × Int)) (w : World) (h1 : Two w v1 xs) :
    Calls Try.prog 96 #[.int .i64 k, v1] w fun e w' => e = .returned (.tuple #[.bool (isFrameR k xs).1, .bool (isFrameR k xs).2]) ∧ Below w.heap.size w w' := by
  have HX := hid h1
  cases hk : inB k 1 6 with
  | false =>
    rw [isFrameR_no hk]
    go_enter Try.func96, Try.ntmps96
    go_wp2_with (go_at_call 143; refine (l1In_any _ _ _ _).mono ?_; rintro e w' ⟨rfl, rfl⟩)
    go_ret2
    exact ⟨rfl, Below.refl _ _⟩
  | true =>
    rw [isFrameR_yes hk]
    have hk' := hk
    obtain ⟨j, rfl, hj1, hj6⟩ := kNat hk'
    go_enter Try.func96, Try.ntmps96
    go_wp2_with (first | (go_at_call 143; refine (l1In_any _ _ _ _).mono ?_; rintro e w' ⟨rfl, rfl⟩) | (go_at_call 198; refine (l8Frame_any j _ xs _ HX.out hj1 hj6).mono ?_; rintro e w1 ⟨rfl, hb⟩))
    go_ret2
    exact ⟨rfl, hb⟩

set_option maxHeartbeats 1000000 in
theorem isDriven_any (k : Int) (v1 : Value) (xs : List (Int × Int)) (w : World) (h1 : Two w v1 xs) :
    Calls Try.prog 193 #[.int .i64 k, v1] w fun e w' => e = .returned (.bool (drivenB k xs)) ∧ Below w.heap.size w w' := by
  have HX := hid h1
  have HS : Hid (drivenB k xs = (inB k 1 6 && frameB k xs)) := hid rfl
  cases hk : inB k 1 6 with
  | false =>
    go_enter Try.func193, Try.ntmps193
    go_wp2_with (go_at_call 151; refine (within_any _ _ _ _).mono ?_; rintro e w' ⟨rfl, rfl⟩)
    go_ret
    exact ⟨ret_bool (by rw [HS.out, hk]; rfl), Below.refl _ _⟩
  | true =>
    have hk' := hk
    obtain ⟨j, rfl, hj1, hj6⟩ := kNat hk'
    go_enter Try.func193, Try.ntmps193
    go_wp2_with (first | (go_at_call 151; refine (within_any _ _ _ _).mono ?_; rintro e w' ⟨rfl, rfl⟩) | (go_at_call 197; refine (isFrame_any j _ xs _ HX.out hj1 hj6).mono ?_; rintro e w1 ⟨rfl, hb⟩))
    go_ret
    exact ⟨ret_bool (by rw [HS.out, hk]; rfl), hb⟩

set_option maxHeartbeats 1000000 in
theorem l8Good_any (k : Int) (v1 : Value) (xs : List (Int × Int)) (w : World) (h1 : Two w v1 xs) :
    Calls Try.prog 195 #[.int .i64 k, v1] w fun e w' => e = .returned (.bool (drivenB k xs)) ∧ Below w.heap.size w w' := by
  have HX := hid h1
  have HS : Hid (drivenB k xs = (inB k 1 6 && frameB k xs)) := hid rfl
  cases hk : inB k 1 6 with
  | false =>
    go_enter Try.func195, Try.ntmps195
    go_wp2_with (go_at_call 143; refine (l1In_any _ _ _ _).mono ?_; rintro e w' ⟨rfl, rfl⟩)
    go_ret
    exact ⟨ret_bool (by rw [HS.out, hk]; rfl), Below.refl _ _⟩
  | true =>
    have hk' := hk
    obtain ⟨j, rfl, hj1, hj6⟩ := kNat hk'
    go_enter Try.func195, Try.ntmps195
    go_wp2_with (first | (go_at_call 143; refine (l1In_any _ _ _ _).mono ?_; rintro e w' ⟨rfl, rfl⟩) | (go_at_call 198; refine (l8Frame_any j _ xs _ HX.out hj1 hj6).mono ?_; rintro e w1 ⟨rfl, hb⟩))
    go_ret
    exact ⟨ret_bool (by rw [HS.out, hk]; rfl), hb⟩

end Go.Proofs.Ytfgjaefcfmjleaa
