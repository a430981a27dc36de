import Derived.Test.YtgbnoljmmenlbaaDigit
import Derived.RowKit3
import Derived.Deep.QuietTactic
import Derived.BigQuiet
import Derived.IntWalk
namespace Go.Proofs.Ytgbnoljmmenlbaa
open Go.RowKit

/-! ## The cursor that draws: next, pick, one, among -/
/-- The slice value v reads in w as n bytes. -/
def Byts (w : World) (v : Value) (n : Nat) : Prop :=
  ∃ ao cap b o, v = .slice ao n cap ∧ (0 < n → ao = some ⟨b, o, none⟩ ∧ b < w.heap.size) ∧
    (∀ i, i < n → ∃ x : Int, w.cell? ⟨b, o+i, none⟩ = some (.int .u8 x) ∧ 0 ≤ x ∧ x ≤ 255) ∧ n ≤ cap ∧ cap ≤ 9223372036854775807
theorem Byts.aside {w w' : World} {v : Value} {n : Nat} {row : Option Nat} (h : Byts w v n) (hg : w.grownBy w' row) (hne : 0 < n → v.ownBlock = none ∨ v.ownBlock ≠ row) : Byts w' v n := by
  obtain ⟨ao, cap, b, o, rfl, h1, h2, h3, h4⟩ := h
  refine ⟨ao, cap, b, o, rfl, fun h => ⟨(h1 h).1, Nat.lt_of_lt_of_le (h1 h).2 hg.size⟩, fun i hi => ?_, h3, h4⟩
  obtain ⟨rfl, hb⟩ := h1 (by omega)
  obtain ⟨x, hx, hx2⟩ := h2 i hi
  exact ⟨x, hg.cell hx (by rcases hne (by omega) with hne | hne <;> simp_all [Value.ownBlock]), hx2⟩
theorem Byts.later {w w' : World} {v : Value} {n : Nat} (h : Byts w v n) (hb : Below w.heap.size w w') : Byts w' v n :=
  h.aside (grown_of_below hb none) (fun _ => by cases v.ownBlock <;> simp)
def u64top : Int := 18446744073709551615
/-- The cursor in block g, its place at most a. -/
def Cur (w : World) (g a : Nat) : Prop :=
  ∃ (v : Value) (n : Nat) (p s : Int), w.cell? ⟨g, 0, none⟩ = some v ∧ Byts w v n ∧ (0 < n → ∀ k, v.ownBlock = some k → k < g) ∧ n ≤ 131072 ∧ w.cell? ⟨g, 1, none⟩ = some (.int .i64 p) ∧ w.cell? ⟨g, 2, none⟩ = some (.int .u64 s) ∧
    w.frozen? ⟨g, 1, none⟩ = false ∧ w.frozen? ⟨g, 2, none⟩ = false ∧ 0 ≤ p ∧ p ≤ a ∧ 0 ≤ s ∧ s ≤ u64top ∧ g < w.heap.size
theorem Cur.later {w w' : World} {g a : Nat} (h : Cur w g a) (hb : Below w.heap.size w w') : Cur w' g a := by
  obtain ⟨v, n, p, s, h1, h2, h3, h4, h5, h6, h7, h8, h9, h10, h11, h12, h13⟩ := h
  exact ⟨v, n, p, s, (hb.cell (by exact h13)).trans h1, h2.later hb, h3, h4, (hb.cell (by exact h13)).trans h5, (hb.cell (by exact h13)).trans h6, (hb.frozen (by exact h13)).trans h7, (hb.frozen (by exact h13)).trans h8, h9, h10, h11, h12, Nat.lt_of_lt_of_le h13 hb.size⟩
theorem Byts.below {w w' : World} {v : Value} {n B : Nat} (h : Byts w v n) (hb : Below B w w') (hk : 0 < n → ∀ k, v.ownBlock = some k → k < B) : Byts w' v n := by
  obtain ⟨ao, cap, b, o, rfl, h1, h2, h3, h4⟩ := h
  refine ⟨ao, cap, b, o, rfl, fun h => ⟨(h1 h).1, Nat.lt_of_lt_of_le (h1 h).2 hb.size⟩, fun i hi => ?_, h3, h4⟩
  obtain ⟨rfl, _⟩ := h1 (by omega)
  obtain ⟨x, hx, hx2⟩ := h2 i hi
  exact ⟨x, (hb.cell (by exact hk (by omega) b rfl)).trans hx, hx2⟩
/-- The cursor stands where only what is newer than it has changed. -/
theorem Cur.below {w w' : World} {g a B : Nat} (h : Cur w g a) (hb : Below B w w') (hB : g < B) : Cur w' g a := by
  obtain ⟨v, n, p, s, h1, h2, h3, h4, h5, h6, h7, h8, h9, h10, h11, h12, h13⟩ := h
  exact ⟨v, n, p, s, (hb.cell (by exact hB)).trans h1, h2.below hb (fun hn k hk => Nat.lt_trans (h3 hn k hk) hB), h3, h4, (hb.cell (by exact hB)).trans h5, (hb.cell (by exact hB)).trans h6, (hb.frozen (by exact hB)).trans h7, (hb.frozen (by exact hB)).trans h8, h9, h10, h11, h12, Nat.lt_of_lt_of_le h13 hb.size⟩
theorem older_ne {v : Value} {g : Nat} (h : ∀ k, v.ownBlock = some k → k < g) : v.ownBlock = none ∨ v.ownBlock ≠ some g := by
  cases hv : v.ownBlock with
  | none => exact .inl rfl
  | some k => exact .inr fun e => by have := h k hv; simp only [Option.some.injEq] at e; omega
theorem Cur.mono {w : World} {g a a' : Nat} (h : Cur w g a) (ha : a ≤ a') : Cur w g a' := by
  obtain ⟨v, n, p, s, h1, h2, h3, h4, h5, h6, h7, h8, h9, h10, h11⟩ := h
  exact ⟨v, n, p, s, h1, h2, h3, h4, h5, h6, h7, h8, h9, by omega, h11⟩
theorem Cur.lt {w : World} {g a : Nat} (h : Cur w g a) : g < w.heap.size := by
  obtain ⟨v, n, p, s, h1, h2, h3, h4, h5, h6, h7, h8, h9, h10, h11, h12, h13⟩ := h
  exact h13
theorem grown_setAt (w : World) (g o : Nat) (v : Value) : w.grownBy (w.setCell ⟨g, o, none⟩ v) (some g) :=
  ⟨rfl, rfl, rfl, by simp, fun k _ hr => Below.heap_setCell w ⟨g, o, none⟩ v k (fun e => hr (by rw [e]))⟩
theorem Cur.step {w : World} {g a : Nat} (h : Cur w g a) (m m' : Nat) {p' s' : Int} {a' : Nat} (hp : 0 ≤ p') (hp' : p' ≤ a') (hs : 0 ≤ s') (hs' : s' ≤ u64top) :
    Cur ((((w.drewN m).setCell ⟨g, 1, none⟩ (.int .i64 p')).setCell ⟨g, 2, none⟩ (.int .u64 s')).drewN m') g a' ∧ w.grownBy ((((w.drewN m).setCell ⟨g, 1, none⟩ (.int .i64 p')).setCell ⟨g, 2, none⟩ (.int .u64 s')).drewN m') (some g) := by
  have hg : w.grownBy ((((w.drewN m).setCell ⟨g, 1, none⟩ (.int .i64 p')).setCell ⟨g, 2, none⟩ (.int .u64 s')).drewN m') (some g) :=
    grown_trans (grown_of_below (below_drewN (Below.refl _ _) m) _) (grown_trans (grown_setAt _ g 1 _) (grown_trans (grown_setAt _ g 2 _) (grown_of_below (below_drewN (Below.refl _ _) m') _)))
  refine ⟨?_, hg⟩
  obtain ⟨v, n, p, s, h1, h2, h3, h4, h5, h6, h7, h8, h9, h10, h11, h12, h13⟩ := h
  refine ⟨v, n, p', s', ?_, h2.aside hg (fun hn => older_ne (h3 hn)), h3, h4, ?_, ?_, ?_, ?_, hp, hp', hs, hs', Nat.lt_of_lt_of_le h13 hg.size⟩
  · show ((((w.drewN m).setCell ⟨g, 1, none⟩ (.int .i64 p')).setCell ⟨g, 2, none⟩ (.int .u64 s'))).cell? ⟨g, 0, none⟩ = some v
    rw [World.cell?_setCell_other _ _ _ _ (by simp), World.cell?_setCell_other _ _ _ _ (by simp)]
    exact h1
  · show ((((w.drewN m).setCell ⟨g, 1, none⟩ (.int .i64 p')).setCell ⟨g, 2, none⟩ (.int .u64 s'))).cell? ⟨g, 1, none⟩ = some _
    rw [World.cell?_setCell_other _ _ _ _ (by simp)]
    exact World.cell?_setCell_same' _ _ _ (by show (w.cell? _).isSome = true; rw [h5]; rfl)
  · show ((((w.drewN m).setCell ⟨g, 1, none⟩ (.int .i64 p')).setCell ⟨g, 2, none⟩ (.int .u64 s'))).cell? ⟨g, 2, none⟩ = some _
    exact World.cell?_setCell_same' _ _ _ (by rw [World.cell?_setCell_other _ _ _ _ (by simp)]; show (w.cell? _).isSome = true; rw [h6]; rfl)
  · simpa using h7
  · simpa using h8
theorem u64_range (z : Int) : 0 ≤ IntKind.u64.wrap z ∧ IntKind.u64.wrap z ≤ u64top := by
  unfold IntKind.wrap u64top
  simp only [show IntKind.u64.bits = 64 from rfl, show IntKind.u64.signed = false from rfl]
  simp
  omega
theorem and255 (x : Int) : 0 ≤ bits .and .u64 x 255 ∧ bits .and .u64 x 255 ≤ 255 := by
  have hv : (BitVec.ofInt 64 x &&& BitVec.ofInt 64 255).toNat ≤ 255 := by
    rw [BitVec.toNat_and]
    exact Nat.le_trans Nat.and_le_right (by decide)
  have e : bits .and .u64 x 255 = ((BitVec.ofInt 64 x &&& BitVec.ofInt 64 255).toNat : Int) := by
    show IntKind.u64.wrap (((BitVec.ofInt 64 x) &&& (BitVec.ofInt 64 255)).toNat : Int) = _
    generalize (BitVec.ofInt 64 x &&& BitVec.ofInt 64 255).toNat = q at hv
    unfold IntKind.wrap
    simp only [show IntKind.u64.bits = 64 from rfl, show IntKind.u64.signed = false from rfl]
    simp
    omega
  rw [e]
  omega
theorem and255w (x : Int) : 0 ≤ wrap64 (bits .and .u64 x 255) ∧ wrap64 (bits .and .u64 x 255) ≤ 255 := by
  have h := and255 x
  have e : wrap64 (bits .and .u64 x 255) = bits .and .u64 x 255 := by
    unfold wrap64
    omega
  rw [e]
  exact h

theorem Cur.new {w : World} {v : Value} {n : Nat} (h : Byts w v n) (hn : n ≤ 131072) : Cur (w.alloc (.cells #[v, .int .i64 0, .int .u64 0] 44)) w.heap.size 0 := by
  have hb : Below w.heap.size w (w.alloc (.cells #[v, .int .i64 0, .int .u64 0] 44)) := (Below.refl _ _).alloc (Nat.le_refl _) _
  refine ⟨v, n, 0, 0, by simp [go_sem], h.later hb, ?_, hn, by simp [go_sem], by simp [go_sem], by rw [frozen?_alloc_cells]; simp [World.frozen?], by rw [frozen?_alloc_cells]; simp [World.frozen?], by omega, by omega, by omega, by decide, by simp⟩
  intro h0 k hk
  obtain ⟨ao, cap, b, o, rfl, h1, _⟩ := h
  obtain ⟨rfl, hlt⟩ := h1 h0
  simp [Value.ownBlock] at hk
  omega
set_option maxRecDepth 100000 in
set_option maxHeartbeats 4000000 in
theorem next_any (g a : Nat) (w : World) (h : Cur w g a) (ha : a ≤ 1099511627776) :
    Calls Try.prog 53 #[.pointer (some ⟨g, 0, none⟩)] w fun e w' => ∃ r : Int, e = .returned (.int .i64 r) ∧ 0 ≤ r ∧ r ≤ 255 ∧ Cur w' g (a+1) ∧ w.grownBy w' (some g) := by
  have HC := hid h
  obtain ⟨v, n, p, s, h1, h2, h3, h4, h5, h6, h7, h8, h9, h10, h11, h12, h13⟩ := h
  have HTOP := hid h12
  obtain ⟨ao, cap, b, o, rfl, hb1, hb2, hb3, hb4⟩ := h2
  have HB1 := hid hb1
  have HB2 := hid hb2
  clear h3 hb1 hb2 h12
  by_cases hlt : p < n
  · obtain ⟨q, rfl⟩ : ∃ q : Nat, p = q := ⟨p.toNat, by omega⟩
    obtain ⟨hao, hbs⟩ := HB1.out (by omega)
    subst hao
    obtain ⟨x, hx, hx0, hx1⟩ := HB2.out q (by omega)
    have hle : (q : Int) + 1 ≤ n := by omega
    go_enter Try.func53, Try.ntmps53
    go_wp2
    go_quiet (fail)
    go_wp2
    go_quiet (fail)
    go_wp2
    go_quiet (fail)
    go_wp2
    go_ret
    exact ⟨_, rfl, hx0, hx1, (HC.out.step _ _ (by omega) (by omega) (u64_range _).1 (u64_range _).2).1, (HC.out.step _ _ (a' := a+1) (by omega) (by omega) (u64_range _).1 (u64_range _).2).2⟩
  · have hle : ¬ (p + 1 ≤ n) := by omega
    go_enter Try.func53, Try.ntmps53
    go_wp2
    go_quiet (fail)
    go_wp2
    go_quiet (fail)
    go_wp2
    go_ret
    exact ⟨_, rfl, (and255w _).1, (and255w _).2, (HC.out.step _ _ (by omega) (by omega) (u64_range _).1 (u64_range _).2).1, (HC.out.step _ _ (a' := a+1) (by omega) (by omega) (u64_range _).1 (u64_range _).2).2⟩

end Go.Proofs.Ytgbnoljmmenlbaa
