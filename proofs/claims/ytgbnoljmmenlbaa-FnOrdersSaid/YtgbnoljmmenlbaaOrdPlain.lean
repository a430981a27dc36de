/-
  OrdPlain: the plain law of FnOrders: the first road of least cost through all of a list, orders and rings.
-/
import Derived.Test.YtgbnoljmmenlbaaBase
namespace Go.Proofs.Ytgbnoljmmenlbaa
open List

section
variable (c : Int → Int → Int)

/-- the lesser of the best so far (none: below 0) and one more -/
def lesser (b k : Int) : Int := if b < 0 ∨ k < b then k else b
theorem lesser_nonneg {b k : Int} (hk : 0 ≤ k) : 0 ≤ lesser b k := by unfold lesser; split <;> omega

/-- the least cost from a place on, through all of a list -/
def restN (base : Int → Int) : Nat → List Int → Int → Int
  | 0, _, a => base a
  | n+1, l, a => (l.map fun x => c a x + restN base n (l.erase x) x).foldl lesser (-1)

/-- the cost of a road -/
def pathC (base : Int → Int) : Int → List Int → Int
  | a, [] => base a
  | a, x :: p => c a x + pathC base x p

/-- the first road of least cost -/
def firstN (base : Int → Int) : Nat → List Int → Int → List Int
  | 0, _, _ => []
  | n+1, l, a => match l.find? (fun x => decide (c a x + restN c base n (l.erase x) x = restN c base (n+1) l a)) with
    | none => []
    | some x => x :: firstN base n (l.erase x) x

theorem fold_lesser : ∀ (ks : List Int) (b : Int), (∀ k ∈ ks, 0 ≤ k) → 0 ≤ b → (ks.foldl lesser b ∈ b :: ks ∧ ∀ k ∈ b :: ks, ks.foldl lesser b ≤ k) := by
  intro ks
  induction ks with
  | nil => intro b _ _; simp
  | cons k ks ih =>
    intro b h hb
    have hk := h k (by simp)
    obtain ⟨h1, h2⟩ := ih (lesser b k) (fun x hx => h x (by simp [hx])) (lesser_nonneg hk)
    simp only [List.foldl_cons]
    refine ⟨?_, fun x hx => ?_⟩
    · rcases List.mem_cons.1 h1 with e | e
      · rw [e]; unfold lesser; split <;> simp
      · simp [e]
    · have h0 := h2 (lesser b k) (by simp)
      rcases List.mem_cons.1 hx with rfl | hx
      · refine Int.le_trans h0 ?_; unfold lesser; split <;> omega
      · rcases List.mem_cons.1 hx with rfl | hx
        · refine Int.le_trans h0 ?_; unfold lesser; split <;> omega
        · exact h2 x (by simp [hx])

theorem fold_lesser_neg (ks : List Int) (h : ∀ k ∈ ks, 0 ≤ k) (hne : ks ≠ []) : ks.foldl lesser (-1) ∈ ks ∧ ∀ k ∈ ks, ks.foldl lesser (-1) ≤ k := by
  cases ks with
  | nil => exact absurd rfl hne
  | cons k ks =>
    have e : lesser (-1) k = k := by unfold lesser; simp
    rw [List.foldl_cons, e]
    exact fold_lesser ks k (fun x hx => h x (by simp [hx])) (h k (by simp))

variable (hc : ∀ a b, 0 ≤ c a b)

theorem erase_len {l : List Int} {n : Nat} {x : Int} (h : l.length = n+1) (hx : x ∈ l) : (l.erase x).length = n := by
  rw [List.length_erase_of_mem hx]; omega

include hc in
theorem rest_nonneg (base : Int → Int) (hb : ∀ a, 0 ≤ base a) : ∀ (n : Nat) (l : List Int) (a : Int), l.length = n → 0 ≤ restN c base n l a := by
  intro n
  induction n with
  | zero => intro l a _; exact hb a
  | succ n ih =>
    intro l a h
    simp only [restN]
    have hk : ∀ k ∈ l.map (fun x => c a x + restN c base n (l.erase x) x), 0 ≤ k := by
      intro k hk
      obtain ⟨x, hx, rfl⟩ := List.mem_map.1 hk
      have := ih (l.erase x) x (erase_len h hx)
      have := hc a x
      omega
    have hne : l.map (fun x => c a x + restN c base n (l.erase x) x) ≠ [] := by
      intro e
      have := congrArg List.length e
      simp at this
      rw [this] at h
      simp at h
    exact hk _ (fold_lesser_neg _ hk hne).1

include hc in
theorem rest_step (base : Int → Int) (hb : ∀ a, 0 ≤ base a) (n : Nat) (l : List Int) (a : Int) (h : l.length = n+1) :
    (∃ x ∈ l, restN c base (n+1) l a = c a x + restN c base n (l.erase x) x) ∧ ∀ x ∈ l, restN c base (n+1) l a ≤ c a x + restN c base n (l.erase x) x := by
  have hk : ∀ k ∈ l.map (fun x => c a x + restN c base n (l.erase x) x), 0 ≤ k := by
    intro k hk
    obtain ⟨x, hx, rfl⟩ := List.mem_map.1 hk
    have := rest_nonneg c hc base hb n (l.erase x) x (erase_len h hx)
    have := hc a x
    omega
  have hne : l.map (fun x => c a x + restN c base n (l.erase x) x) ≠ [] := by
    intro e
    have := congrArg List.length e
    simp at this
    rw [this] at h
    simp at h
  obtain ⟨h1, h2⟩ := fold_lesser_neg _ hk hne
  simp only [restN]
  refine ⟨?_, fun x hx => h2 _ (List.mem_map.2 ⟨x, hx, rfl⟩)⟩
  obtain ⟨x, hx, e⟩ := List.mem_map.1 h1
  exact ⟨x, hx, e.symm⟩

include hc in
theorem rest_le (base : Int → Int) (hb : ∀ a, 0 ≤ base a) : ∀ (n : Nat) (l p : List Int) (a : Int), l.length = n → p ~ l → restN c base n l a ≤ pathC c base a p := by
  intro n
  induction n with
  | zero =>
    intro l p a h hp
    have : l = [] := List.length_eq_zero_iff.1 h
    subst this
    have : p = [] := hp.eq_nil
    subst this
    exact Int.le_refl _
  | succ n ih =>
    intro l p a h hp
    cases p with
    | nil => have := hp.length_eq; simp at this; omega
    | cons x p =>
      have hx : x ∈ l := hp.mem_iff.1 (by simp)
      have h1 := (rest_step c hc base hb n l a h).2 x hx
      have h2 := ih (l.erase x) p x (erase_len h hx) ((List.perm_cons x).1 (hp.trans (List.perm_cons_erase hx)))
      simp only [pathC]
      omega

include hc in
theorem first_law (base : Int → Int) (hb : ∀ a, 0 ≤ base a) : ∀ (n : Nat) (l : List Int) (a : Int), l.length = n → (firstN c base n l a ~ l ∧ pathC c base a (firstN c base n l a) = restN c base n l a) := by
  intro n
  induction n with
  | zero =>
    intro l a h
    have : l = [] := List.length_eq_zero_iff.1 h
    subst this
    exact ⟨List.Perm.refl _, rfl⟩
  | succ n ih =>
    intro l a h
    obtain ⟨x, hx, e⟩ := (rest_step c hc base hb n l a h).1
    unfold firstN
    cases hf : l.find? (fun x => decide (c a x + restN c base n (l.erase x) x = restN c base (n+1) l a)) with
    | none =>
      have := List.find?_eq_none.1 hf x hx
      simp [e] at this
    | some y =>
      have hy : y ∈ l := List.mem_of_find?_eq_some hf
      have hye := List.find?_some hf
      simp only [decide_eq_true_eq] at hye
      obtain ⟨h1, h2⟩ := ih (l.erase y) y (erase_len h hy)
      refine ⟨(h1.cons y).trans (List.perm_cons_erase hy).symm, ?_⟩
      simp only [pathC]
      rw [h2, hye]

theorem pathC_mid (base : Int → Int) (x : Int) : ∀ (p q : List Int) (a : Int), pathC c base a (p ++ x :: q) = pathC c (fun b => c b x) a p + pathC c base x q := by
  intro p
  induction p with
  | nil => intro q a; simp [pathC]
  | cons y p ih => intro q a; simp only [List.cons_append, pathC, ih]; omega

/-- A ring's cost is the same from everywhere. -/
theorem ring_turn (a x : Int) (p q : List Int) : pathC c (fun b => c b a) a (p ++ x :: q) = pathC c (fun b => c b x) x (q ++ a :: p) := by
  rw [pathC_mid, pathC_mid]; omega

include hc in
theorem ring_le (l : List Int) (d a : Int) (p : List Int) (hd : d ∈ l) (hp : a :: p ~ l) (n : Nat) (h : l.length = n + 1) :
    restN c (fun b => c b d) n (l.erase d) d ≤ pathC c (fun b => c b a) a p := by
  have hd2 : d ∈ a :: p := hp.mem_iff.2 hd
  rcases List.mem_cons.1 hd2 with rfl | hd3
  · exact rest_le c hc _ (fun b => hc b _) n _ p _ (erase_len h hd) ((List.perm_cons d).1 (hp.trans (List.perm_cons_erase hd)))
  · obtain ⟨p1, p2, rfl⟩ := List.append_of_mem hd3
    rw [ring_turn]
    refine rest_le c hc _ (fun b => hc b _) n _ _ _ (erase_len h hd) ((List.perm_cons d).1 ?_)
    refine List.Perm.trans ?_ (hp.trans (List.perm_cons_erase hd))
    have : d :: (p2 ++ a :: p1) ~ (a :: p1) ++ (d :: p2) := by
      have := @List.perm_append_comm _ (d :: p2) (a :: p1)
      simpa using this
    simpa using this

include hc in
theorem ring_same (l : List Int) (d e : Int) (hd : d ∈ l) (he : e ∈ l) (n : Nat) (h : l.length = n + 1) :
    restN c (fun b => c b d) n (l.erase d) d ≤ restN c (fun b => c b e) n (l.erase e) e := by
  obtain ⟨h1, h2⟩ := first_law c hc (fun b => c b e) (fun b => hc b _) n (l.erase e) e (erase_len h he)
  rw [← h2]
  exact ring_le c hc l d e _ hd ((h1.cons e).trans (List.perm_cons_erase he).symm) n h

/-- one more start -/
def loStep (own : List Int) (s : List Int × Int) (x : Int) : List Int × Int :=
  if s.2 < 0 ∨ restN c (fun _ => 0) (own.length - 1) (own.erase x) x < s.2 then (x :: firstN c (fun _ => 0) (own.length - 1) (own.erase x) x, restN c (fun _ => 0) (own.length - 1) (own.erase x) x) else s
def loTo (own : List Int) (k : Nat) : List Int × Int := (own.take k).foldl (loStep c own) ([], -1)
def loF (own : List Int) : List Int × Int := if own = [] then ([], 0) else loTo c own own.length

def lrF : List Int → List Int × Int
  | [] => ([], 0)
  | d :: l => (d :: firstN c (fun b => c b d) l.length l d, restN c (fun b => c b d) l.length l d)

include hc in
theorem loTo_law (own : List Int) : ∀ k, 0 < k → k ≤ own.length → 0 ≤ (loTo c own k).2 ∧ (∃ x p, (loTo c own k).1 = x :: p ∧ x :: p ~ own ∧ pathC c (fun _ => 0) x p = (loTo c own k).2) ∧
    ∀ i, i < k → (loTo c own k).2 ≤ restN c (fun _ => 0) (own.length - 1) (own.erase (own.getD i 0)) (own.getD i 0) := by
  intro k
  induction k with
  | zero => intro h; omega
  | succ k ih =>
    intro _ hk
    have hkl : k < own.length := by omega
    obtain ⟨x, hx⟩ : ∃ x, own.getD k 0 = x := ⟨_, rfl⟩
    have hxk : own[k] = x := by rw [← hx]; simp [List.getD, hkl]
    have hmem : x ∈ own := hxk ▸ List.getElem_mem hkl
    have hs : loTo c own (k+1) = loStep c own (loTo c own k) x := by
      unfold loTo
      rw [List.take_succ_eq_append_getElem hkl, List.foldl_append, hxk]
      rfl
    have hlen : own.length = (own.length - 1) + 1 := by omega
    have hn := rest_nonneg c hc (fun _ => 0) (fun _ => Int.le_refl _) (own.length - 1) (own.erase x) x (erase_len hlen hmem)
    obtain ⟨f1, f2⟩ := first_law c hc (fun _ => 0) (fun _ => Int.le_refl _) (own.length - 1) (own.erase x) x (erase_len hlen hmem)
    have hnew : x :: firstN c (fun _ => 0) (own.length - 1) (own.erase x) x ~ own := (f1.cons x).trans (List.perm_cons_erase hmem).symm
    rw [hs]
    unfold loStep
    by_cases h : (loTo c own k).2 < 0 ∨ restN c (fun _ => 0) (own.length - 1) (own.erase x) x < (loTo c own k).2
    · rw [if_pos h]
      refine ⟨hn, ⟨x, _, rfl, hnew, f2⟩, fun i hi => ?_⟩
      rcases Nat.lt_or_ge i k with h' | h'
      · have h3 := (ih (by omega) (by omega))
        have := h3.2.2 i h'
        have := h3.1
        simp only
        omega
      · have : i = k := by omega
        subst this
        rw [hx]
        exact Int.le_refl _
    · rw [if_neg h]
      have hk0 : 0 < k := by
        rcases Nat.eq_zero_or_pos k with e | e
        · subst e; exact absurd (.inl (by simp [loTo])) h
        · exact e
      obtain ⟨i1, i2, i3⟩ := ih hk0 (by omega)
      refine ⟨i1, i2, fun i hi => ?_⟩
      rcases Nat.lt_or_ge i k with h' | h'
      · exact i3 i h'
      · have : i = k := by omega
        subst this
        rw [hx]
        omega

include hc in
/-- The laws of the least order. -/
theorem loF_law (own o : List Int) (hp : o ~ own) (hne : own ≠ []) : ∃ x p y q, (loF c own).1 = x :: p ∧ x :: p ~ own ∧ pathC c (fun _ => 0) x p = (loF c own).2 ∧ o = y :: q ∧ (loF c own).2 ≤ pathC c (fun _ => 0) y q := by
  have hl : 0 < own.length := List.length_pos_iff.2 hne
  obtain ⟨h1, ⟨x, p, h2, h3, h4⟩, h5⟩ := loTo_law c hc own own.length hl (Nat.le_refl _)
  have e : loF c own = loTo c own own.length := by unfold loF; rw [if_neg hne]
  cases o with
  | nil => have := hp.length_eq; simp at this; omega
  | cons y q =>
    refine ⟨x, p, y, q, by rw [e]; exact h2, h3, by rw [e]; exact h4, rfl, ?_⟩
    have hy : y ∈ own := hp.mem_iff.1 (by simp)
    obtain ⟨i, hi, he⟩ := List.getElem_of_mem hy
    have := h5 i hi
    have hg : own.getD i 0 = y := by simp [List.getD, hi, he]
    rw [hg] at this
    rw [e]
    refine Int.le_trans this ?_
    exact rest_le c hc _ (fun _ => Int.le_refl _) _ _ q y (erase_len (by omega) hy) ((List.perm_cons y).1 (hp.trans (List.perm_cons_erase hy)))

include hc in
theorem pathC_ge (a : Int) : ∀ (p : List Int) (x : Int), pathC c (fun _ => 0) x p ≤ pathC c (fun b => c b a) x p := by
  intro p
  induction p with
  | nil => intro x; simp only [pathC]; exact hc _ _
  | cons y p ih => intro x; have := ih y; simp only [pathC]; omega

include hc in
/-- The laws of the least ring. -/
theorem lrF_law (own o : List Int) (hp : o ~ own) (hne : own ≠ []) : ∃ x p y q, (lrF c own).1 = x :: p ∧ x :: p ~ own ∧ pathC c (fun b => c b x) x p = (lrF c own).2 ∧ o = y :: q ∧ (lrF c own).2 ≤ pathC c (fun b => c b y) y q ∧ (loF c own).2 ≤ (lrF c own).2 := by
  cases own with
  | nil => exact absurd rfl hne
  | cons d l =>
    obtain ⟨f1, f2⟩ := first_law c hc (fun b => c b d) (fun b => hc b _) l.length l d rfl
    cases o with
    | nil => have := hp.length_eq; simp at this
    | cons y q =>
      have hpd : d :: firstN c (fun b => c b d) l.length l d ~ d :: l := f1.cons d
      refine ⟨d, _, y, q, rfl, hpd, f2, rfl, ?_, ?_⟩
      · have := ring_le c hc (d :: l) d y q (by simp) hp l.length (by simp)
        simpa [lrF] using this
      · obtain ⟨x, p, y', q', _, _, _, e, hle⟩ := loF_law c hc (d :: l) _ hpd (by simp)
        simp only [List.cons.injEq] at e
        obtain ⟨rfl, rfl⟩ := e
        refine Int.le_trans hle ?_
        simp only [lrF]
        rw [← f2]
        exact pathC_ge c hc _ _ _
end

end Go.Proofs.Ytgbnoljmmenlbaa
