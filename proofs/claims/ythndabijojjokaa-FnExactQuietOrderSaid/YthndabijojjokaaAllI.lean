import Derived.Test.YthndabijojjokaaNums
import Derived.Laws.EntriesVeiled
namespace Go.Proofs.Ythndabijojjokaa
open Go.RowKit

/-! ## areAll over []int; IsRow, l2Row -/
def idxQ (xs : List Int) (q : Int → Bool) : Int := if xs.any q then (xs.findIdx q : Int) else -1
theorem idxQ_at {xs : List Int} {q : Int → Bool} {k : Nat} (hk : k < xs.length) (hn : (xs.take k).any q = false) (e : q (xs.getD k 0) = true) : idxQ xs q = k := by
  have hx : xs.getD k 0 = xs[k] := by simp [List.getD, hk]
  rw [hx] at e
  have ha : xs.any q = true := List.any_eq_true.2 ⟨_, List.getElem_mem hk, e⟩
  have hf : xs.findIdx q = k := by
    rw [List.findIdx_eq hk]
    refine ⟨e, fun j hj => ?_⟩
    have := List.any_eq_false.1 hn xs[j] (List.mem_take_iff_getElem.2 ⟨j, by omega, rfl⟩)
    simpa using this
  simp [idxQ, ha, hf]
theorem idxQ_none {xs : List Int} {q : Int → Bool} (h : xs.any q = false) : idxQ xs q = -1 := by simp [idxQ, h]
theorem idxQ_nonneg (xs : List Int) (q : Int → Bool) : decide (0 ≤ idxQ xs q) = xs.any q := by
  unfold idxQ
  cases xs.any q <;> simp
theorem anyI_take_succ {xs : List Int} {q : Int → Bool} {k : Nat} (hk : k < xs.length) (hn : (xs.take k).any q = false) (e : q (xs.getD k 0) = false) : (xs.take (k+1)).any q = false := by
  rw [take_snoc hk rfl, List.any_append, hn]
  simp only [List.any_cons, List.any_nil, e, Bool.or_false]
theorem allI_not {α : Type} (xs : List α) (q : α → Bool) : (!xs.any fun p => !q p) = xs.all q := by
  induction xs with
  | nil => rfl
  | cons a r ih => simp only [List.any_cons, List.all_cons, Bool.not_or, Bool.not_not, ih]

set_option maxHeartbeats 1000000 in
theorem IndexFuncI_any (v1 : Value) (xs : List Int) (f : FuncId) (caps : Array Value) (q : Int → Bool) (w : World) (h1 : Ints w v1 xs)
    (hcf : ∀ (args : Array Value) (w : World), (callFunc f args).run Try.prog w = .ok (.enter f args) w)
    (hcl : ∀ w', Below w.heap.size w w' → ∀ i, i < xs.length → Calls Try.prog f (#[.int .i64 (xs.getD i 0)] ++ caps) w' fun e w'' => e = .returned (.bool (q (xs.getD i 0))) ∧ Below w'.heap.size w' w'') :
    Calls Try.prog 36 #[v1, .func (.func f) #[] caps] w fun e w' => e = .returned (.int .i64 (idxQ xs q)) ∧ Below w.heap.size w w' := by
  obtain ⟨n, ao1, cap1, b1, o1, HN, rfl, ha1, hc1, hn1, hm1, HX⟩ := h1.open_
  have HCL := hid hcl
  clear hcl h1
  go_enter Try.func36, Try.ntmps36
  go_wp2
  go_loopw [5, 8] (fun _ i wr => ∃ k : Nat, k ≤ n ∧ i = .int .i64 k ∧ Hid ((xs.take k).any q = false) ∧ Below w.heap.size w wr) (fun _ i _ => n - (intOf i).toNat)
  case atStart => exact ⟨0, by omega, rfl, hid (by simp), Below.refl _ _⟩
  case round =>
    obtain ⟨k, hk, rfl, HT, hbel⟩ := hrel
    by_cases hlt : k < n
    · obtain ⟨rfl, hb1⟩ := ha1 (by omega)
      have e1 : wr.cell? ⟨b1, o1+k, none⟩ = some (.int .i64 (xs.getD k 0)) := (hbel.cell (by exact hb1)).trans (hc1 k (by omega))
      have HC := hid (HCL.out _ hbel k (by rw [HN.out]; exact hlt))
      have HL := hid (show k < xs.length by rw [HN.out]; exact hlt)
      have HAT := hid (idxQ_at (q := q) HL.out HT.out)
      have HSU := hid (anyI_take_succ (q := q) HL.out HT.out)
      generalize xs.getD k 0 = x at e1 HC HAT HSU
      clear hc1 ha1
      cases hq : q x with
      | true =>
        have HR := hid (HAT.out hq)
        go_wp2_with fail
        refine HC.out.mono ?_
        rintro e w1 ⟨rfl, hb⟩
        rw [hq]
        clear hq
        go_wp2
        go_ret
        exact ⟨ret_int HR.out.symm, hbel.trans (hb.mono hbel.size)⟩
      | false =>
        have HR := hid (HSU.out hq)
        go_wp2_with fail
        refine HC.out.mono ?_
        rintro e w1 ⟨rfl, hb⟩
        rw [hq]
        clear hq
        go_wp2
        go_roundw
        case rel => exact ⟨k+1, by omega, by go_num, HR, hbel.trans (hb.mono hbel.size)⟩
        case measure => simp [intOf]; omega
    · have HR := hid (idxQ_none (xs := xs) (q := q) (by have := HT.out; rw [List.take_of_length_le (by rw [HN.out]; omega)] at this; exact this))
      go_wp2
      go_ret
      exact ⟨ret_int HR.out.symm, hbel⟩

set_option maxHeartbeats 1000000 in
theorem ContainsFuncI_any (v1 : Value) (xs : List Int) (f : FuncId) (caps : Array Value) (q : Int → Bool) (w : World) (h1 : Ints w v1 xs)
    (hcf : ∀ (args : Array Value) (w : World), (callFunc f args).run Try.prog w = .ok (.enter f args) w)
    (hcl : ∀ w', Below w.heap.size w w' → ∀ i, i < xs.length → Calls Try.prog f (#[.int .i64 (xs.getD i 0)] ++ caps) w' fun e w'' => e = .returned (.bool (q (xs.getD i 0))) ∧ Below w'.heap.size w' w'') :
    Calls Try.prog 25 #[v1, .func (.func f) #[] caps] w fun e w' => e = .returned (.bool (xs.any q)) ∧ Below w.heap.size w w' := by
  have HR := hid (idxQ_nonneg xs q)
  have HC := hid (IndexFuncI_any v1 xs f caps q w h1 hcf hcl)
  clear hcl h1
  go_enter Try.func25, Try.ntmps25
  go_wp2_with fail
  refine HC.out.mono ?_
  rintro e w1 ⟨rfl, hb⟩
  go_wp2
  go_ret
  exact ⟨ret_bool HR.out, hb⟩

set_option maxHeartbeats 1000000 in
theorem areAllIClosure_any (x : Int) (f : FuncId) (caps : Array Value) (adF : Addr) (r : Bool) (w : World)
    (hcf : ∀ (args : Array Value) (w : World), (callFunc f args).run Try.prog w = .ok (.enter f args) w)
    (hF : w.cell? adF = some (.func (.func f) #[] caps))
    (hcl : ∀ w', Below w.heap.size w w' → Calls Try.prog f (#[.int .i64 x] ++ caps) w' fun e w'' => e = .returned (.bool r) ∧ Below w'.heap.size w' w'') :
    Calls Try.prog 26 #[.int .i64 x, .pointer (some adF)] w fun e w' => e = .returned (.bool (!r)) ∧ Below w.heap.size w w' := by
  have HCL := hid hcl
  clear hcl
  go_enter Try.func26, Try.ntmps26
  go_wp2_with fail
  refine (HCL.out _ (Below.refl _ _)).mono ?_
  rintro e w1 ⟨rfl, hb⟩
  go_wp2
  go_ret
  exact ⟨rfl, hb⟩
theorem enterAllI (args : Array Value) (w : World) : (callFunc 26 args).run Try.prog w = .ok (.enter 26 args) w := by kernel_rfl

set_option maxHeartbeats 1000000 in
theorem areAllI_any (v1 : Value) (xs : List Int) (f : FuncId) (caps : Array Value) (q : Int → Bool) (w : World) (h1 : Ints w v1 xs)
    (hcf : ∀ (args : Array Value) (w : World), (callFunc f args).run Try.prog w = .ok (.enter f args) w)
    (hcl : ∀ w', Below w.heap.size w w' → ∀ i, i < xs.length → Calls Try.prog f (#[.int .i64 (xs.getD i 0)] ++ caps) w' fun e w'' => e = .returned (.bool (q (xs.getD i 0))) ∧ Below w'.heap.size w' w'') :
    Calls Try.prog 14 #[v1, .func (.func f) #[] caps] w fun e w' => e = .returned (.bool (xs.all q)) ∧ Below w.heap.size w w' := by
  have HB := hid ((Below.refl w.heap.size w).alloc (Nat.le_refl _) (.cells #[.func (.func f) #[] caps] 33))
  have HX := hid (h1.later HB.out)
  have HCELL : Hid ((w.alloc (.cells #[.func (.func f) #[] caps] 33)).cell? ⟨w.heap.size, 0, none⟩ = some (.func (.func f) #[] caps)) := hid (by simp [go_sem])
  have HCL := hid hcl
  have HR := hid (allI_not xs q)
  have HCF := hid hcf
  clear h1 hcl hcf
  go_enter Try.func14, Try.ntmps14
  go_wp2_with fail
  refine (ContainsFuncI_any _ xs _ #[.pointer (some ⟨w.heap.size, 0, none⟩)] (fun p => !q p) _ HX.out enterAllI ?_).mono ?_
  · intro w' hb i hi
    refine areAllIClosure_any _ f caps _ (q (xs.getD i 0)) w' HCF.out ((hb.cell (by simp)).trans HCELL.out) ?_
    intro w'' hb'
    exact HCL.out w'' (HB.out.trans ((hb.mono HB.out.size).trans (hb'.mono (Nat.le_trans HB.out.size hb.size)))) i hi
  rintro e w1 ⟨rfl, hb⟩
  go_wp2
  go_ret
  exact ⟨ret_bool HR.out, HB.out.trans (hb.mono HB.out.size)⟩

/-! ### rows -/
def rowB (xs : List Int) : Bool := decide (xs.length ≤ 6) && xs.all cellB
theorem rowB_long {xs : List Int} (h : ¬ xs.length ≤ 6) : rowB xs = false := by simp [rowB]; intro h'; omega
theorem rowB_short {xs : List Int} (h : xs.length ≤ 6) : rowB xs = xs.all cellB := by simp [rowB, h]
theorem rowB_bad {xs : List Int} {i : Nat} (hi : i < xs.length) (h : cellB (xs.getD i 0) = false) : rowB xs = false := by
  have : xs.all cellB = false := by
    rw [List.all_eq_false]
    refine ⟨xs[i], List.getElem_mem hi, ?_⟩
    have e : xs.getD i 0 = xs[i] := by simp [List.getD, hi]
    rw [e] at h
    simp [h]
  simp [rowB, this]
theorem rowB_all {xs : List Int} (h : xs.length ≤ 6) (h' : ∀ i, i < xs.length → cellB (xs.getD i 0) = true) : rowB xs = true := by
  rw [rowB_short h, List.all_eq_true]
  intro x hx
  obtain ⟨i, hi, rfl⟩ := List.mem_iff_getElem.1 hx
  have := h' i hi
  have e : xs.getD i 0 = xs[i] := by simp [List.getD, hi]
  rwa [e] at this
theorem rowB_true {xs : List Int} (h : rowB xs = true) : xs.length ≤ 6 ∧ ∀ i, i < xs.length → 0 ≤ xs.getD i 0 ∧ xs.getD i 0 ≤ 127 := by
  simp only [rowB, Bool.and_eq_true, decide_eq_true_eq, List.all_eq_true] at h
  refine ⟨h.1, fun i hi => ?_⟩
  have e : xs.getD i 0 = xs[i] := by simp [List.getD, hi]
  rw [e]
  exact cellB_true (h.2 _ (List.getElem_mem hi))



def someB (xs : List Int) : Bool := rowB xs && decide (0 < xs.length)
theorem someB_true {xs : List Int} (h : someB xs = true) : rowB xs = true ∧ 0 < xs.length := by simpa [someB] using h

end Go.Proofs.Ythndabijojjokaa
