import Derived.Test.YtgbnoljmmenlbaaOrdBits
import Derived.Test.YtgbnoljmmenlbaaTests
import Derived.Maps.OwnSet
import Derived.Maps.OwnOps
import Derived.Maps.Views
import Derived.WideKeyArr
namespace Go.Proofs.Ytgbnoljmmenlbaa
open Go.RowKit Go.Maps

/-! ## The map of known costs -/
theorem arrKey2 : Go.WideMaps.ArrKey Try.prog 80 3 2 := ⟨Try.underlying80, by kernel_rfl, by kernel_rfl, by kernel_rfl⟩
theorem key2 : Keyed Try.prog 80 := Keyed.of_law arrKey2.law
theorem sizeTypes : ∃ m, Try.prog.types.size = m + 1 := ⟨Try.prog.types.size - 1, by kernel_rfl⟩
theorem cellsInt1 : Try.prog.cellsOf 3 = 1 := by kernel_rfl
theorem key2_ex (s l : Int) (h1 : (Lit.int .i64 s).wf = true) (h2 : (Lit.int .i64 l).wf = true) : ∃ kl, keyOf Try.prog 80 (.agg #[.int .i64 s, .int .i64 l]) = some kl := by
  obtain ⟨m, hm⟩ := sizeTypes
  have hk := arrKey2.keyType sizeTypes
  have hf : (Value.agg #[.int .i64 s, .int .i64 l]).formed Try.prog 80 = true := by simp [Value.formed, Try.underlying80, arrKey2.size]
  unfold keyOf
  rw [Try.underlying80, hk, hf, hm]
  simp [Program.keyLits, Try.underlying80, arrKey2.size, cellsInt1, Try.underlying3, Value.cells, h1, h2, List.range_succ]
theorem wf_nat {s : Nat} (h : s < 9223372036854775808) : (Lit.int .i64 (s : Int)).wf = true := WalkArith.wf_i64 (by omega)
noncomputable def keyL (s l : Nat) : Lit := if h : s < 1048576 ∧ l < 1048576 then (key2_ex s l (wf_nat (by omega)) (wf_nat (by omega))).choose else .nil
theorem keyL_of {s l : Nat} (hs : s < 1048576) (hl : l < 1048576) : keyOf Try.prog 80 (.agg #[.int .i64 s, .int .i64 l]) = some (keyL s l) := by
  unfold keyL
  rw [dif_pos ⟨hs, hl⟩]
  exact (key2_ex s l (wf_nat (by omega)) (wf_nat (by omega))).choose_spec
theorem keyL_inj {s l s' l' : Nat} (hs : s < 1048576) (hl : l < 1048576) (hs' : s' < 1048576) (hl' : l' < 1048576) (h : keyL s l = keyL s' l') : s = s' ∧ l = l' := by
  have h1 := keyL_of hs hl
  rw [h] at h1
  have := key2.inj h1 (keyL_of hs' hl')
  simp at this
  omega

/-- Block bm is a map of at most k entries that holds f at each of its keys. -/
def Memo (w : World) (bm k : Nat) (f : Nat → Nat → Int) : Prop :=
  ∃ D : DataW Unit, w.ownsMap Try.prog 80 (plainElem Try.prog 3) bm k D ∧ IsMap D ∧ ∀ s l, s < 1048576 → l < 1048576 → Maps.has D (keyL s l) = true → D.atKey (keyL s l) (.lit (.int .i64 0)) = .lit (.int .i64 (f s l))
theorem zeroInt (w : World) : (zeroValue 3).run Try.prog w = .ok (.int .i64 0) w := by kernel_rfl
theorem Memo.new (w : World) (f : Nat → Nat → Int) : Memo (w.alloc (.map #[] 0)) w.heap.size 0 f :=
  ⟨.map [], World.ownsMap_made _ _ _ _, isMap_empty, fun s l _ _ h => by simp [Maps.has] at h⟩
theorem Memo.kept {w w' : World} {bm k : Nat} {f : Nat → Nat → Int} {row : Option Nat} (h : Memo w bm k f) (hg : w.grownBy w' row) (hne : some bm ≠ row) : Memo w' bm k f := by
  obtain ⟨D, h1, h2, h3⟩ := h
  exact ⟨D, h1.kept hg hne, h2, h3⟩
theorem Memo.mono {w : World} {bm k k' : Nat} {f : Nat → Nat → Int} (h : Memo w bm k f) (hk : k ≤ k') : Memo w bm k' f := by
  obtain ⟨D, h1, h2, h3⟩ := h
  exact ⟨D, h1.mono hk, h2, h3⟩
theorem Memo.lt {w : World} {bm k : Nat} {f : Nat → Nat → Int} (h : Memo w bm k f) : bm < w.heap.size := by
  obtain ⟨D, h1, h2, h3⟩ := h
  exact h1.lt
theorem Memo.look {w : World} {bm k : Nat} {f : Nat → Nat → Int} (h : Memo w bm k f) {s l : Nat} (hs : s < 1048576) (hl : l < 1048576) :
    ∃ (n : Int) (ok : Bool), (∀ W, w.grownBy W none → (Instr.lookup 65 (.map (some bm)) (.agg #[.int .i64 s, .int .i64 l]) true).run Try.prog W = .ok (.tuple #[.int .i64 n, .bool ok]) W) ∧ (ok = true → n = f s l) := by
  obtain ⟨D, h1, h2, h3⟩ := h
  obtain ⟨v, ps, hrun, hv⟩ := h1.look_ok key2 Try.underlying65 (zeroInt w) (plainElem_int Try.underlying3 (by decide)) (keyL_of hs hl)
  obtain ⟨c, rfl, hc, hwc⟩ := plainElem_int_inv Try.underlying3 hv
  have h5 := congrArg Prod.fst hc
  simp only at h5
  refine ⟨c, Maps.has D (keyL s l), fun W hW => ?_, fun hh => ?_⟩
  · obtain ⟨v', ps', hrun', hv'⟩ := (h1.kept hW (by simp)).look_ok key2 Try.underlying65 (zeroInt W) (plainElem_int Try.underlying3 (by decide)) (keyL_of hs hl)
    obtain ⟨c', rfl, hc', _⟩ := plainElem_int_inv Try.underlying3 hv'
    have h6 := congrArg Prod.fst hc'
    simp only at h6
    rw [h6] at h5
    have : c' = c := by simpa using h5
    rw [this] at hrun'
    exact hrun'
  · have h4 := h3 s l hs hl hh
    rw [h4] at h5
    simpa using h5.symm
theorem Memo.put {w : World} {bm k : Nat} {f : Nat → Nat → Int} (h : Memo w bm k f) {s l : Nat} (hs : s < 1048576) (hl : l < 1048576) (hk : k < 1099511627776) (hf : (Lit.int .i64 (f s l)).wf = true) :
    ∃ w', (Instr.mapUpdate 65 (.map (some bm)) (.agg #[.int .i64 s, .int .i64 l]) (.int .i64 (f s l))).run Try.prog w = .ok () w' ∧ Memo w' bm (k+1) f ∧ w.grownBy w' (some bm) := by
  obtain ⟨D, h1, h2, h3⟩ := h
  obtain ⟨w', hrun, r1, r2⟩ := h1.update key2 Try.underlying65 (by unfold maxLen; omega) (keyL_of hs hl) (plainElem_int Try.underlying3 hf)
  refine ⟨w', hrun, ⟨_, r1, h2.put _ _, fun s' l' hs' hl' hh => ?_⟩, r2⟩
  by_cases e : keyL s' l' = keyL s l
  · obtain ⟨rfl, rfl⟩ := keyL_inj hs' hl' hs hl e
    exact atKey_put_same h2 (key2.key (keyL_of hs hl)) _ _
  · rw [has_put_other e] at hh
    rw [atKey_put_other e]
    exact h3 s' l' hs' hl' hh
end Go.Proofs.Ytgbnoljmmenlbaa
