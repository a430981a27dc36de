/-
  OrdersLaw: least orders and rings cost no more than others: the plain law of FnOrders.
-/
import Derived.Test.YtgbnoljmmenlbaaLeast4
import Derived.Test.YtgbnoljmmenlbaaOrdCost
namespace Go.Proofs.Ytgbnoljmmenlbaa
open List

theorem order_of {xs : List Int} (h1 : xs.Nodup) (h2 : ∀ x ∈ xs, 0 ≤ x ∧ x ≤ 9) : orderB xs = true := by
  refine orderB_all fun i hi => ?_
  have e : xs.getD i 0 = xs[i] := by simp [List.getD, hi]
  rw [e]
  have hm : xs[i] ∈ xs := List.getElem_mem _
  refine ⟨inB_mk (h2 _ hm).1 (h2 _ hm).2, fun hc => ?_⟩
  obtain ⟨j, hj, he⟩ := List.getElem_of_mem hc
  rw [List.length_take] at hj
  rw [List.getElem_take] at he
  exact (List.pairwise_iff_getElem.1 h1 j i (by omega) hi (by omega)) he
theorem order_perm {xs ys : List Int} (hp : ys ~ xs) (h : orderB xs = true) : orderB ys = true := by
  obtain ⟨h1, h2⟩ := orderB_facts h
  exact order_of (hp.nodup_iff.2 h1) fun x hx => h2 x (hp.mem_iff.1 hx)

theorem dchTo_cons (x : Int) (l : List Int) : ∀ k, dchTo (x :: l) (k+1) = dd x (l.getD 0 0) + dchTo l k := by
  intro k
  induction k with
  | zero => simp [dchTo, dd]
  | succ k ih =>
    rw [show dchTo (x :: l) (k+1+1) = dchTo (x :: l) (k+1) + farI (digitC ((x :: l).getD (k+1) 0)) (digitC ((x :: l).getD (k+1+1) 0)) from rfl, ih]
    simp only [List.getD_cons_succ]
    rw [show dchTo l (k+1) = dchTo l k + farI (digitC (l.getD k 0)) (digitC (l.getD (k+1) 0)) from rfl]
    omega
theorem pathC_dch (base : Int → Int) : ∀ (p : List Int) (x : Int), pathC dd base x p = dchF (x :: p) + base ((x :: p).getD p.length 0) := by
  intro p
  induction p with
  | nil => intro x; simp [pathC, dchF, dchTo]
  | cons y q ih =>
    intro x
    simp only [pathC]
    rw [ih y]
    have e1 : dchF (x :: y :: q) = dd x y + dchF (y :: q) := by
      unfold dchF
      have := dchTo_cons x (y :: q) q.length
      simpa using this
    rw [e1]
    simp only [List.length_cons, List.getD_cons_succ]
    omega
theorem ocF_plain (x : Int) (p : List Int) : ocF (x :: p) false = pathC dd (fun _ => 0) x p := by
  rw [ocF_no, pathC_dch]; omega
theorem ocF_ring (x : Int) (p : List Int) : ocF (x :: p) true = pathC dd (fun b => dd b x) x p := by
  rw [ocF_yes (by simp), pathC_dch]
  simp [dd]

theorem orders_out (xs : List Int) (ring : Bool) : ∃ (ok : Bool) (c : Int) (best circle : List Int) (least round other more : Int),
    ocR xs ring = (c, ok) ∧ lsR xs false = (best, least, ok) ∧ lsR xs true = (circle, round, ok) ∧
    (ok = true → ocR best false = (least, true) ∧ ocR circle true = (round, true) ∧ ocR xs false = (other, true) ∧ ocR xs true = (more, true) ∧ least ≤ other ∧ round ≤ more ∧ least ≤ round ∧ best.length = xs.length ∧ circle.length = xs.length) := by
  cases h : orderB xs with
  | false => exact ⟨false, 0, [], [], 0, 0, 0, 0, ocR_no h, lsR_no h, lsR_no h, fun e => by cases e⟩
  | true =>
    have hnd := sortO_nodup h
    have hp := sortO_perm xs
    have hc : ∀ a b, 0 ≤ dd a b := fun a b => (dd_range a b).1
    refine ⟨true, ocF xs ring, (loF dd (sortO xs)).1, (lrF dd (sortO xs)).1, (loF dd (sortO xs)).2, (lrF dd (sortO xs)).2, ocF xs false, ocF xs true, ocR_yes h, ?_, ?_, fun _ => ?_⟩
    · rw [lsR_yes h, loK_lo hnd]
    · rw [lsR_yes h, loK_lr hnd fun x hx => (sortO_dig h hx).1]
    · by_cases hne : sortO xs = []
      · have hx : xs = [] := List.length_eq_zero_iff.1 (by rw [← sortO_length, hne]; rfl)
        subst hx
        rw [hne]
        refine ⟨rfl, rfl, rfl, rfl, ?_, ?_, ?_, rfl, rfl⟩
        · decide
        · decide
        · decide
      · obtain ⟨x, p, y, q, e1, e2, e3, e4, e5⟩ := loF_law dd hc (sortO xs) xs hp.symm hne
        obtain ⟨x', p', y', q', f1, f2, f3, f4, f5, f6⟩ := lrF_law dd hc (sortO xs) xs hp.symm hne
        have g1 : orderB (x :: p) = true := order_perm (e2.trans hp) h
        have g2 : orderB (x' :: p') = true := order_perm (f2.trans hp) h
        rw [e1, f1]
        refine ⟨?_, ?_, ocR_yes h, ocR_yes h, ?_, ?_, f6, ?_, ?_⟩
        · rw [ocR_yes g1, ocF_plain, e3]
        · rw [ocR_yes g2, ocF_ring, f3]
        · rw [show ocF xs false = pathC dd (fun _ => 0) y q by rw [e4, ocF_plain]]; exact e5
        · rw [show ocF xs true = pathC dd (fun b => dd b y') y' q' by rw [f4, ocF_ring]]; exact f5
        · exact (e2.trans hp).length_eq
        · exact (f2.trans hp).length_eq
end Go.Proofs.Ytgbnoljmmenlbaa
