/-
  Contracts of the small functions that all the others use. Conditions: none.
-/
import Derived.Test.YtmbijgnmbapchaaDoorFacts
import Derived.Test.YtmbijgnmbapchaaDoorAbsApp
set_option linter.unusedSimpArgs false
set_option linter.unusedVariables false
set_option linter.unusedSectionVars false
namespace Go.Proofs.YtmbijgnmbapchaaDoor
open Go.Abs Go.RowKit

def inB (n lo hi : Int) : Bool := decide (lo ≤ n) && decide (n ≤ hi)

theorem l00In_c (n lo hi : Int) (m : Mem) : ACalls Tryd.prog 62 [.int .i64 n, .int .i64 lo, .int .i64 hi] m (.bool (inB n lo hi)) m := by
  refine acalls_of_vc Tryd.func62 rfl Tryd.fol (by kernel_rfl) ?_
  simp only [Tryd.f62]
  simp -dsimp -implicitDefEqProofs
  refine ⟨fun h => GC.eq ?_, fun h => GC.eq ?_⟩ <;> simp [inB, h]
theorem within_c (n lo hi : Int) (m : Mem) : ACalls Tryd.prog 88 [.int .i64 n, .int .i64 lo, .int .i64 hi] m (.bool (inB n lo hi)) m := by
  refine acalls_of_vc Tryd.func88 rfl Tryd.fol (by kernel_rfl) ?_
  simp only [Tryd.f88]
  simp -dsimp -implicitDefEqProofs
  refine ⟨fun h => GC.eq ?_, fun h => GC.eq ?_⟩ <;> simp [inB, h]

/-- What is left of the room. -/
def leftI (n : Nat) (b : Int) : Int := if b - n < 0 then -1 else b - n
theorem leftI_ok {n : Nat} {b : Int} (h : decide (leftI n b < 0) = false) : (n : Int) ≤ b ∧ leftI n b = b - n := by
  simp only [decide_eq_false_iff_not] at h
  unfold leftI at h ⊢
  split at h <;> split <;> omega
theorem take_succ_eq {α : Type} {xs ys : List α} {k : Nat} (h : k < xs.length) (h' : k < ys.length) (ht : xs.take k = ys.take k) (he : xs[k] = ys[k]) : xs.take (k + 1) = ys.take (k + 1) := by
  rw [List.take_add_one, List.take_add_one, List.getElem?_eq_getElem h, List.getElem?_eq_getElem h', ht, he]

/-! ### Lists of whole numbers -/
/-- The number at that place, as an index. -/
def ixAt (pile : List Int) (i : Nat) : Nat := (pile.getD i 0).toNat
theorem getI {xs : List Int} {k : Nat} (h : k < xs.length) : xs.getD k 0 = xs[k] := by simp [List.getD_eq_getElem?_getD, List.getElem?_eq_getElem h]
theorem l00Max_c (a b : Int) (m : Mem) : ACalls Tryd.prog 135 [.int .i64 a, .int .i64 b] m (.int .i64 (max a b)) m := by
  refine acalls_of_vc Tryd.func135 rfl Tryd.fol (by kernel_rfl) ?_
  simp only [Tryd.f135]
  simp -dsimp -implicitDefEqProofs
  refine ⟨fun h => GC.eq ?_, fun h => GC.eq ?_⟩ <;> simp at h <;> simp <;> omega
theorem eqInt64S_c (xs ys : List Int) (a b : Option Addr) (m : Mem) (hr : RdI m a xs) (hs : RdI m b ys) (hn : xs.length ≤ 1048576) :
    ACalls Tryd.prog 15 [.slice a xs.length xs.length, .slice b ys.length ys.length] m (.bool (decide (xs = ys))) m := by
  refine acalls_of_vc Tryd.func15 rfl Tryd.fol (by kernel_rfl) ?_
  simp only [Tryd.f15]
  simp -dsimp -implicitDefEqProofs
  refine ⟨fun h => GC.eq ?_, fun h => ?_⟩
  · have : xs ≠ ys := by rintro rfl; simp at h
    simp [this]
  have hxy : xs.length = ys.length := by simp at h; omega
  refine loopN xs.length (fun k σ m' => m' = m ∧ (σ 0 = some (.slice a xs.length xs.length) ∧ σ 1 = some (.slice b ys.length ys.length) ∧ σ 5 = some (.int .i64 k)) ∧ xs.take k = ys.take k) ⟨rfl, by simp, by simp⟩ ?_
  rintro k σ m' hk ⟨rfl, ⟨s0, s1, s5⟩, ht⟩
  by_cases hlt : k < xs.length
  · have hlt' : k < ys.length := by omega
    obtain ⟨id, off, o, rfl, hm, hkd, hsz, hc⟩ := hr.at_ hlt
    obtain ⟨id', off', o', rfl, hm', hkd', hsz', hc'⟩ := hs.at_ hlt'
    have hw : IntKind.i64.wrap ((k : Int) + 1) = k + 1 := wrapI (by omega) (by omega)
    simp -dsimp -implicitDefEqProofs [s0, s1, s5, hlt, hlt', withO_of hm, hkd, hsz, withC_of hc, withO_of hm', hkd', hsz', withC_of hc', hw]
    refine ⟨fun g => GC.eq ?_, fun g => ?_⟩
    · have : xs ≠ ys := by rintro rfl; simp at g
      simp [this]
    · refine next_ hlt ⟨rfl, by simp [s0, s1, hw], take_succ_eq hlt hlt' ht (by simpa using g)⟩
  · simp -dsimp -implicitDefEqProofs [s0, s1, s5, hlt]
    refine GC.eq ?_
    rw [List.take_of_length_le (by omega), List.take_of_length_le (by omega)] at ht
    simp [ht]
theorem markInt64S_c (xs : List Int) (b : Int) (id : Nat) (o : AObj) (m : Mem) (hm : m[id]? = some o) (hc : o.cells = xs.map (Value.int .i64)) (hs : o.sz = 1) (hk : 1 ≤ o.kind ∧ o.kind ≤ 2) (hn : xs.length ≤ 1048576) (hb : 0 ≤ b ∧ b ≤ 10000000) :
    ACalls Tryd.prog 17 [.slice (some ⟨id, 0, none⟩) xs.length xs.length, .int .i64 b] m (.int .i64 (b + xs.length)) (m.set id ⟨mkCells 1 b xs.length, o.elem, 1, o.kind⟩) := by
  obtain ⟨cells, ty, sz, kd⟩ := o
  simp only at hc hs hk
  subst hc; subst hs
  refine acalls_of_vc Tryd.func17 rfl Tryd.fol (by kernel_rfl) ?_
  simp only [Tryd.f17]
  simp -dsimp -implicitDefEqProofs
  refine loopN xs.length (fun k σ m' => m' = m.set id ⟨marking vI 1 b xs k, ty, 1, kd⟩ ∧ σ 0 = some (.slice (some ⟨id, 0, none⟩) xs.length xs.length) ∧ σ 1 = some (.int .i64 (b + k)) ∧ σ 5 = some (.int .i64 k)) ⟨?_, by simp⟩ ?_
  · rw [marking_zero, flatten_vI, set_self hm]
  rintro k σ m' hk' ⟨rfl, s0, s1, s5⟩
  by_cases hlt : k < xs.length
  · have hw : IntKind.i64.wrap ((k : Int) + 1) = k + 1 := wrapI (by omega) (by omega)
    have hw' : IntKind.i64.wrap (b + (k : Int) + 1) = b + (k + 1) := by rw [wrapI (by omega) (by omega)]; omega
    have hk2 : kd ≤ 2 := hk.2
    have hl := marking_length (g := vI) (sz := 1) (fun _ => rfl) b xs k
    simp -dsimp -implicitDefEqProofs [s0, s1, s5, hlt, withO_of (get_set hm _), hk, hk2, hw, hw', hl, marking_set1 b xs hlt, List.set_set]
    refine need_intro (by omega) ?_
    exact next_ hlt ⟨rfl, by simp [s0, hw, hw']⟩
  · simp -dsimp -implicitDefEqProofs [s0, s1, s5, hlt]
    obtain rfl : k = xs.length := by omega
    rw [marking_all]
    exact GC.refl _ _ _
theorem markInt64S_nil (a : Option Addr) (b : Int) (m : Mem) : ACalls Tryd.prog 17 [.slice a 0 0, .int .i64 b] m (.int .i64 b) m := by
  refine acalls_of_vc Tryd.func17 rfl Tryd.fol (by kernel_rfl) ?_
  simp only [Tryd.f17]
  simp -dsimp -implicitDefEqProofs
  refine loopN 0 (fun k σ m' => m' = m ∧ σ 0 = some (.slice a 0 0) ∧ σ 1 = some (.int .i64 b) ∧ σ 5 = some (.int .i64 0)) ⟨rfl, by simp⟩ ?_
  rintro k σ m' hk ⟨rfl, s0, s1, s5⟩
  simp -dsimp -implicitDefEqProofs [s0, s1, s5]
  exact GC.refl _ _ _
theorem heldInt64S_c (n : Nat) (b : Int) (a : Option Addr) (m : Mem) (hr : RdG (mkRow 1 b) 1 m a (List.range n)) (hn : n ≤ 1048576) (hb : 0 ≤ b ∧ b ≤ 10000000) :
    ACalls Tryd.prog 18 [.slice a n n, .int .i64 b] m (.int .i64 (b + n)) m := by
  refine acalls_of_vc Tryd.func18 rfl Tryd.fol (by kernel_rfl) ?_
  simp only [Tryd.f18]
  simp -dsimp -implicitDefEqProofs
  refine loopN n (fun k σ m' => m' = m ∧ σ 0 = some (.slice a n n) ∧ σ 1 = some (.int .i64 (b + k)) ∧ σ 5 = some (.int .i64 k)) ⟨rfl, by simp⟩ ?_
  rintro k σ m' hk ⟨rfl, s0, s1, s5⟩
  by_cases hlt : k < n
  · obtain ⟨id, off, o, rfl, hm, hkd, hsz, hl, hc⟩ := mkAt hr hlt
    rw [mkRow1] at hc
    have hc0 : o.cells[off + k]? = some (.int .i64 (b + k)) := by have := hc 0 _ rfl; simpa using this
    have hw : IntKind.i64.wrap ((k : Int) + 1) = k + 1 := wrapI (by omega) (by omega)
    have hw' : IntKind.i64.wrap (b + (k : Int) + 1) = b + (k + 1) := by rw [wrapI (by omega) (by omega)]; omega
    simp -dsimp -implicitDefEqProofs [s0, s1, s5, hlt, withO_of hm, hkd, hsz, withC_of hc0, hw, hw']
    exact next_ hlt ⟨rfl, by simp [s0, hw, hw']⟩
  · simp -dsimp -implicitDefEqProofs [s0, s1, s5, hlt]
    obtain rfl : k = n := by omega
    exact GC.refl _ _ _
end Go.Proofs.YtmbijgnmbapchaaDoor
