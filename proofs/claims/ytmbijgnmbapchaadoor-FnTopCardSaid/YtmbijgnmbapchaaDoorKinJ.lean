/-
  Kinds, part 2: which kinds are valid, and which are the same. Conditions: none.
-/
import Derived.Test.YtmbijgnmbapchaaDoorRowKind
import Derived.Test.YtmbijgnmbapchaaDoorLawRods
import Derived.Test.YtmbijgnmbapchaaDoorAbsByte
import Derived.Test.YtmbijgnmbapchaaDoorDraw
set_option linter.unusedSimpArgs false
set_option linter.unusedVariables false
set_option linter.unusedSectionVars false
namespace Go.Proofs.YtmbijgnmbapchaaDoor
open Go.Abs Go.RowKit

/-- The kind at this place is valid, beside the one ahead of it. -/
def kinAt (xs : List I2) (k : Nat) : Bool :=
  match xs[k]? with
  | some p => inB p.1 1 200 && inB p.2 0 12 && (match k with | 0 => true | k + 1 => match xs[k]? with | some q => decide (q.1 < p.1) | none => true)
  | none => true
def kinTo (xs : List I2) (k : Nat) : Bool := (List.range k).all (kinAt xs)
def kinB (xs : List I2) : Bool := kinTo xs xs.length && decide (xs.length ≤ 4)
theorem kinTo_succ {xs : List I2} {k : Nat} (h : kinTo xs k = true) (h' : kinAt xs k = true) : kinTo xs (k + 1) = true := by
  unfold kinTo at *
  rw [List.range_succ, List.all_append, h]; simp [h']
theorem kinB_false {xs : List I2} {k : Nat} (hk : k < xs.length) (h : kinAt xs k = false) : kinB xs = false := by
  have : kinTo xs xs.length = false := by
    unfold kinTo
    rw [List.all_eq_false]
    exact ⟨k, by simpa using hk, by simp [h]⟩
  simp [kinB, this]
theorem kinAt_zero {xs : List I2} (h : 0 < xs.length) : kinAt xs 0 = (inB xs[0].1 1 200 && inB xs[0].2 0 12) := by simp [kinAt, List.getElem?_eq_getElem h]
theorem kinAt_succ {xs : List I2} {k : Nat} (h : k + 1 < xs.length) : kinAt xs (k + 1) = (inB xs[k + 1].1 1 200 && inB xs[k + 1].2 0 12 && decide (xs[k].1 < xs[k + 1].1)) := by
  simp [kinAt, List.getElem?_eq_getElem h, List.getElem?_eq_getElem (show k < xs.length by omega)]

theorem l18Ok_c (xs : List I2) (a : Option Addr) (m : Mem) (hr : RdG v2 2 m a xs) (hn : xs.length ≤ 1048576) : ACalls Tryd.prog 127 [.slice a xs.length xs.length] m (.bool (kinB xs)) m := by
  refine acalls_of_vc Tryd.func127 rfl Tryd.fol (by kernel_rfl) ?_
  simp only [Tryd.f127]
  simp -dsimp -implicitDefEqProofs
  refine loopT (fun c σ m' => ∃ (k : Nat) (j : Mem), c = xs.length - k ∧ k ≤ xs.length ∧ m' = m ++ j ∧ σ 0 = some (.slice a xs.length xs.length) ∧ σ 3 = some (.int .i64 k) ∧ kinTo xs k = true) _
    ⟨0, [], rfl, Nat.zero_le _, by simp, by simp, by simp, rfl⟩ ?_
  rintro _ σ m' ⟨k, j, rfl, hk, rfl, s0, si, hok⟩
  by_cases hlt : k < xs.length
  · obtain ⟨id, off, o, ha, hm, hkd, hsz, hl, hrow, hc0, hc1⟩ := R2.at_ hr hlt
    subst ha
    have hm' := fun l => withO_of (get_old (l := l) hm)
    simp -dsimp -implicitDefEqProofs [s0, si, hlt, hm', hkd, hsz, hl, hrow, v2]
    refine callsTo Tryd.cal62 (l00In_c _ _ _ _) ?_
    simp -dsimp -implicitDefEqProofs [s0, si, hlt, hm', hkd, hsz, hl, hrow, v2]
    cases k with
    | zero =>
      refine ⟨fun g1 => GC.dropEq (by simp at g1; rw [kinB_false hlt (by rw [kinAt_zero hlt]; simp [g1])]) rfl, fun g1 => ?_⟩
      refine callsTo Tryd.cal62 (l00In_c _ _ _ _) ?_
      simp -dsimp -implicitDefEqProofs [s0, si, hlt, hm', hkd, hsz, hl, hrow, v2]
      refine ⟨fun g2 => GC.dropEq (by simp at g2; rw [kinB_false hlt (by rw [kinAt_zero hlt]; simp [g2])]) rfl, fun g2 => ?_⟩
      simp at g1 g2
      refine invT (xs.length - 1) (by omega) ⟨1, _, rfl, by omega, rfl, by simp [s0], ?_, kinTo_succ hok (by rw [kinAt_zero hlt]; simp [g1, g2])⟩
      simp [IntKind.wrap_i64]
    | succ k =>
      have hk' : k < xs.length := by omega
      obtain ⟨d0, d1⟩ := R2.cell hr hm hk'
      have hw : IntKind.i64.wrap (k : Int) = k := wrapI (by omega) (by omega)
      refine ⟨fun g1 => GC.dropEq (by simp at g1; rw [kinB_false hlt (by rw [kinAt_succ hlt]; simp [g1])]) rfl, fun g1 => ?_⟩
      refine callsTo Tryd.cal62 (l00In_c _ _ _ _) ?_
      simp -dsimp -implicitDefEqProofs [s0, si, hlt, hm', hkd, hsz, hl, hrow, v2, hw, withC_of d0, hk']
      refine ⟨fun g2 => GC.dropEq (by simp at g2; rw [kinB_false hlt (by rw [kinAt_succ hlt]; simp [g2])]) rfl, fun g2 => ⟨fun g3 => GC.dropEq (by simp at g3; rw [kinB_false hlt (by rw [kinAt_succ hlt]; simp; omega)]) rfl, fun g3 => ?_⟩⟩
      simp at g1 g2 g3
      refine invT (xs.length - (k + 2)) (by omega) ⟨k + 2, _, rfl, by omega, rfl, by simp [s0], ?_, kinTo_succ hok (by rw [kinAt_succ hlt]; simp [g1, g2, g3])⟩
      simp
      rw [wrapI (by omega) (by omega)]
      omega
  · simp -dsimp -implicitDefEqProofs [s0, si, hlt]
    have : k = xs.length := by omega
    subst this
    exact GC.dropEq (by simp [kinB, hok]; omega) rfl
theorem implKinds_c (xs : List I2) (a : Option Addr) (m : Mem) (hr : RdG v2 2 m a xs) (hn : xs.length ≤ 1048576) : ACalls Tryd.prog 96 [.slice a xs.length xs.length] m (.bool (kinB xs)) m := by
  refine acalls_of_vc Tryd.func96 rfl Tryd.fol (by kernel_rfl) ?_
  simp only [Tryd.f96]
  simp -dsimp -implicitDefEqProofs
  refine loopT (fun c σ m' => ∃ (k : Nat) (j : Mem), c = xs.length - k ∧ k ≤ xs.length ∧ m' = m ++ j ∧ σ 0 = some (.slice a xs.length xs.length) ∧ σ 5 = some (.slice a xs.length xs.length) ∧ σ 6 = some (.int .i64 xs.length) ∧ σ 7 = some (.int .i64 k) ∧ kinTo xs k = true) _
    ⟨0, [], rfl, Nat.zero_le _, by simp, by simp, by simp, by simp, by simp, rfl⟩ ?_
  rintro _ σ m' ⟨k, j, rfl, hk, rfl, s0, s5, s6, si, hok⟩
  by_cases hlt : k < xs.length
  · obtain ⟨id, off, o, ha, hm, hkd, hsz, hl, hrow, hc0, hc1⟩ := R2.at_ hr hlt
    subst ha
    have hm' := fun l => withO_of (get_old (l := l) hm)
    simp -dsimp -implicitDefEqProofs [s0, s5, s6, si, hlt, hm', hkd, hsz, hl, hrow, v2]
    refine callsTo Tryd.cal88 (within_c _ _ _ _) ?_
    simp -dsimp -implicitDefEqProofs [s0, s5, s6, si, hlt, hm', hkd, hsz, hl, hrow, v2]
    cases k with
    | zero =>
      refine ⟨fun g1 => GC.dropEq (by simp at g1; rw [kinB_false hlt (by rw [kinAt_zero hlt]; simp [g1])]) rfl, fun g1 => ?_⟩
      refine callsTo Tryd.cal88 (within_c _ _ _ _) ?_
      simp -dsimp -implicitDefEqProofs [s0, s5, s6, si, hlt, hm', hkd, hsz, hl, hrow, v2]
      refine ⟨fun g2 => GC.dropEq (by simp at g2; rw [kinB_false hlt (by rw [kinAt_zero hlt]; simp [g2])]) rfl, fun g2 => ?_⟩
      simp at g1 g2
      refine invT (xs.length - 1) (by omega) ⟨1, _, rfl, by omega, rfl, by simp [s0], by simp [s5], by simp [s6], ?_, kinTo_succ hok (by rw [kinAt_zero hlt]; simp [g1, g2])⟩
      simp [IntKind.wrap_i64]
    | succ k =>
      have hk' : k < xs.length := by omega
      obtain ⟨d0, d1⟩ := R2.cell hr hm hk'
      have hw : IntKind.i64.wrap (k : Int) = k := wrapI (by omega) (by omega)
      refine ⟨fun g1 => GC.dropEq (by simp at g1; rw [kinB_false hlt (by rw [kinAt_succ hlt]; simp [g1])]) rfl, fun g1 => ?_⟩
      refine callsTo Tryd.cal88 (within_c _ _ _ _) ?_
      simp -dsimp -implicitDefEqProofs [s0, s5, s6, si, hlt, hm', hkd, hsz, hl, hrow, v2, hw, withC_of d0, hk']
      refine ⟨fun g2 => GC.dropEq (by simp at g2; rw [kinB_false hlt (by rw [kinAt_succ hlt]; simp [g2])]) rfl, fun g2 => ⟨fun g3 => GC.dropEq (by simp at g3; rw [kinB_false hlt (by rw [kinAt_succ hlt]; simp; omega)]) rfl, fun g3 => ?_⟩⟩
      simp at g1 g2 g3
      refine invT (xs.length - (k + 2)) (by omega) ⟨k + 2, _, rfl, by omega, rfl, by simp [s0], by simp [s5], by simp [s6], ?_, kinTo_succ hok (by rw [kinAt_succ hlt]; simp [g1, g2, g3])⟩
      simp
      rw [wrapI (by omega) (by omega)]
      omega
  · simp -dsimp -implicitDefEqProofs [s0, s5, s6, si, hlt]
    have : k = xs.length := by omega
    subst this
    exact GC.dropEq (by simp [kinB, hok]; omega) rfl
end Go.Proofs.YtmbijgnmbapchaaDoor
namespace Go.Proofs.YtmbijgnmbapchaaDoor
open Go.Abs Go.RowKit

abbrev w64 (x : Int) : Int := IntKind.i64.wrap x
theorem fold_take {α β : Type} (f : β → α → β) (a : β) {xs : List α} {k : Nat} (h : k < xs.length) : (xs.take (k + 1)).foldl f a = f ((xs.take k).foldl f a) xs[k] := by
  rw [List.take_add_one, List.getElem?_eq_getElem h, List.foldl_append]; rfl
def allW (xs : List I2) : Int := xs.foldl (fun s p => w64 (s + w64 (p.1 * p.2))) 0
def allV (xs : List I2) : Value := .tuple #[.int .i64 (if kinB xs then allW xs else 0), .int .i64 (if kinB xs then 0 else 1)]

theorem allReach_c (xs : List I2) (a : Option Addr) (m : Mem) (hr : RdG v2 2 m a xs) (hn : xs.length ≤ 1048576) : ACalls Tryd.prog 97 [.slice a xs.length xs.length] m (.int .i64 (allW xs)) m := by
  refine acalls_of_vc Tryd.func97 rfl Tryd.fol (by kernel_rfl) ?_
  simp only [Tryd.f97]
  simp -dsimp -implicitDefEqProofs
  refine loopN xs.length (fun k σ m' => m <+: m' ∧ σ 6 = some (.slice a xs.length xs.length) ∧ σ 7 = some (.int .i64 xs.length) ∧ σ 3 = some (.int .i64 (allW (xs.take k))) ∧ σ 8 = some (.int .i64 k)) ⟨pre_refl m, by simp [allW]⟩ ?_
  rintro k σ m' hk ⟨hp, s6, s7, s3, s8⟩
  by_cases hlt : k < xs.length
  · obtain ⟨id, off, o, rfl, hm, hkd, hsz, hl, hrow, hc0, hc1⟩ := R2.at_ hr hlt
    have hw : IntKind.i64.wrap ((k : Int) + 1) = k + 1 := wrapI (by omega) (by omega)
    have hm' := prefix_get hp hm
    simp -dsimp -implicitDefEqProofs [s6, s7, s3, s8, hlt, withO_of hm', fun l => withO_of (get_old (l := l) hm'), hkd, hsz, hl, hrow, v2, hw]
    refine next_ hlt ⟨pre_app hp _, by simp [s6, s7, hw, allW, fold_take _ _ hlt]⟩
  · simp -dsimp -implicitDefEqProofs [s6, s7, s3, s8, hlt]
    rw [List.take_of_length_le (by omega)]
    exact GC.dropP hp rfl rfl
theorem implAll_c (xs : List I2) (a : Option Addr) (m : Mem) (hr : RdG v2 2 m a xs) (hn : xs.length ≤ 1048576) : ACalls Tryd.prog 50 [.slice a xs.length xs.length] m (allV xs) m := by
  refine acalls_of_vc Tryd.func50 rfl Tryd.fol (by kernel_rfl) ?_
  simp only [Tryd.f50]
  simp -dsimp -implicitDefEqProofs
  refine callsTo Tryd.cal96 (implKinds_c xs a _ hr hn) ?_
  simp -dsimp -implicitDefEqProofs
  refine ⟨fun g => GC.eq (by simp at g; simp [allV, g]), fun g => ?_⟩
  refine callsTo Tryd.cal97 (allReach_c xs a _ hr hn) ?_
  simp -dsimp -implicitDefEqProofs
  exact GC.eq (by simp at g; simp [allV, g])

theorem l06Stakes_c (n : Int) (m : Mem) : ACalls Tryd.prog 128 [.int .i64 n] m (.bool (inB n 3 60)) m := by
  refine acalls_of_vc Tryd.func128 rfl Tryd.fol (by kernel_rfl) ?_
  simp only [Tryd.f128]
  simp -dsimp -implicitDefEqProofs
  refine callsTo Tryd.cal62 (l00In_c _ _ _ _) ?_
  simp -dsimp -implicitDefEqProofs
  exact GC.refl _ _ _
theorem areStakes_c (n : Int) (m : Mem) : ACalls Tryd.prog 87 [.int .i64 n] m (.bool (inB n 3 60)) m := by
  refine acalls_of_vc Tryd.func87 rfl Tryd.fol (by kernel_rfl) ?_
  simp only [Tryd.f87]
  simp -dsimp -implicitDefEqProofs
  refine callsTo Tryd.cal88 (within_c _ _ _ _) ?_
  simp -dsimp -implicitDefEqProofs
  exact GC.refl _ _ _
def roundsC (xs : List I2) (n : Int) : Int := if kinB xs then (if inB n 3 60 then 0 else 2) else 1
def roundsV (xs : List I2) (n : Int) : Value := .tuple #[.int .i64 (if roundsC xs n = 0 then w64 ((allW xs).tdiv n) else 0), .int .i64 (roundsC xs n)]
/-- Over how many stakes taken rods reach, the first k kinds of them. -/
def reachTo (ks : List I2) (xs : List Int) : Nat → Int
  | 0 => 0
  | k + 1 => w64 (reachTo ks xs k + w64 (xs.getD k 0 * (ks.getD k (0, 0)).1))
def reachW (ks : List I2) (xs : List Int) : Int := reachTo ks xs xs.length
/-- Taken rods are as told, the first k kinds of them. -/
def takenTo (ks : List I2) (xs : List Int) (k : Nat) : Bool := (List.range k).all fun i => inB (xs.getD i 0) 0 (ks.getD i (0, 0)).2
def takenB (ks : List I2) (xs : List Int) : Bool := decide (xs.length = ks.length) && takenTo ks xs xs.length
theorem takenTo_succ {ks : List I2} {xs : List Int} {k : Nat} (h : takenTo ks xs k = true) (h' : inB (xs.getD k 0) 0 (ks.getD k (0, 0)).2 = true) : takenTo ks xs (k + 1) = true := by
  unfold takenTo at *
  rw [List.range_succ, List.all_append, h]; simpa using h'
theorem takenB_false {ks : List I2} {xs : List Int} {k : Nat} (hk : k < xs.length) (h' : inB (xs.getD k 0) 0 (ks.getD k (0, 0)).2 = false) : takenB ks xs = false := by
  have : takenTo ks xs xs.length = false := by
    unfold takenTo
    rw [List.all_eq_false]
    exact ⟨k, by simpa using hk, by simpa using h'⟩
  simp [takenB, this]
theorem takenB_of {ks : List I2} {xs : List Int} (h : xs.length = ks.length) (h' : takenTo ks xs xs.length = true) : takenB ks xs = true := by rw [takenB, h']; simp [h]
theorem getD_lt {α : Type} {xs : List α} {k : Nat} {d : α} (h : k < xs.length) : xs.getD k d = xs[k] := by simp [List.getD_eq_getElem?_getD, List.getElem?_eq_getElem h]
theorem reachTo_succ {ks : List I2} {xs : List Int} {k : Nat} (h : k < xs.length) (h' : k < ks.length) : reachTo ks xs (k + 1) = w64 (reachTo ks xs k + w64 (xs[k] * ks[k].1)) := by
  simp only [reachTo, getD_lt h, getD_lt h']

theorem reachOf_c (ks : List I2) (xs : List Int) (a b : Option Addr) (m : Mem) (hr : RdG v2 2 m a ks) (hs : RdI m b xs) (hn : xs.length ≤ 1048576) (hl : xs.length ≤ ks.length) :
    ACalls Tryd.prog 99 [.slice a ks.length ks.length, .slice b xs.length xs.length] m (.int .i64 (reachW ks xs)) m := by
  refine acalls_of_vc Tryd.func99 rfl Tryd.fol (by kernel_rfl) ?_
  simp only [Tryd.f99]
  simp -dsimp -implicitDefEqProofs
  refine loopN xs.length (fun k σ m' => m' = m ∧ σ 0 = some (.slice a ks.length ks.length) ∧ σ 8 = some (.slice b xs.length xs.length) ∧ σ 9 = some (.int .i64 xs.length) ∧ σ 5 = some (.int .i64 (reachTo ks xs k)) ∧ σ 10 = some (.int .i64 k)) ⟨rfl, by simp [reachTo]⟩ ?_
  rintro k σ m' hk ⟨rfl, s0, s8, s9, s5, s10⟩
  by_cases hlt : k < xs.length
  · have hlt' : k < ks.length := by omega
    obtain ⟨id, off, o, rfl, hm, hkd, hsz, hl, hrow, hc0, hc1⟩ := R2.at_ hr hlt'
    obtain ⟨id', off', o', rfl, hm', hkd', hsz', hc'⟩ := hs.at_ hlt
    have hw : IntKind.i64.wrap ((k : Int) + 1) = k + 1 := wrapI (by omega) (by omega)
    simp -dsimp -implicitDefEqProofs [s0, s8, s9, s5, s10, hlt, hlt', withO_of hm, hkd, hsz, withC_of hc0, withO_of hm', hkd', hsz', withC_of hc', hw]
    exact next_ hlt ⟨rfl, by simp [s0, s8, s9, hw, reachTo_succ hlt hlt']⟩
  · simp -dsimp -implicitDefEqProofs [s0, s8, s9, s5, s10, hlt]
    obtain rfl : k = xs.length := by omega
    exact GC.refl _ _ _
theorem areTaken_c (ks : List I2) (xs : List Int) (a b : Option Addr) (m : Mem) (hr : RdG v2 2 m a ks) (hs : RdI m b xs) (hn : xs.length ≤ 1048576) :
    ACalls Tryd.prog 98 [.slice a ks.length ks.length, .slice b xs.length xs.length] m (.bool (takenB ks xs)) m := by
  refine acalls_of_vc Tryd.func98 rfl Tryd.fol (by kernel_rfl) ?_
  simp only [Tryd.f98]
  simp -dsimp -implicitDefEqProofs
  refine ⟨fun g => GC.eq (by simp at g; simp [takenB]; omega), fun g => ?_⟩
  have hle : xs.length = ks.length := by simp at g; omega
  refine loopN xs.length (fun k σ m' => m' = m ∧ (σ 0 = some (.slice a ks.length ks.length) ∧ σ 12 = some (.slice b xs.length xs.length) ∧ σ 13 = some (.int .i64 xs.length) ∧ σ 14 = some (.int .i64 k)) ∧ takenTo ks xs k = true) ⟨rfl, by simp, rfl⟩ ?_
  rintro k σ m' hk ⟨rfl, ⟨s0, s12, s13, s14⟩, hok⟩
  by_cases hlt : k < xs.length
  · have hlt' : k < ks.length := by omega
    obtain ⟨id, off, o, rfl, hm, hkd, hsz, hl, hrow, hc0, hc1⟩ := R2.at_ hr hlt'
    obtain ⟨id', off', o', rfl, hm', hkd', hsz', hc'⟩ := hs.at_ hlt
    have hw : IntKind.i64.wrap ((k : Int) + 1) = k + 1 := wrapI (by omega) (by omega)
    simp -dsimp -implicitDefEqProofs [s0, s12, s13, s14, hlt, hlt', withO_of hm, hkd, hsz, withC_of hc1, withO_of hm', hkd', hsz', withC_of hc', hw]
    refine callsTo Tryd.cal88 (within_c _ _ _ _) ?_
    simp -dsimp -implicitDefEqProofs [s0, s12, s13, s14, hlt, hlt', withO_of hm, hkd, hsz, withC_of hc1, withO_of hm', hkd', hsz', withC_of hc', hw]
    refine ⟨fun g' => GC.eq ?_, fun g' => ?_⟩
    · rw [takenB_false hlt (by rw [getD_lt hlt, getD_lt hlt']; simpa using g')]
    · exact next_ hlt ⟨rfl, by simp [s0, s12, s13, hw], takenTo_succ hok (by rw [getD_lt hlt, getD_lt hlt']; simpa using g')⟩
  · simp -dsimp -implicitDefEqProofs [s0, s12, s13, s14, hlt]
    obtain rfl : k = xs.length := by omega
    exact GC.eq (by rw [takenB_of hle hok])
def takenC (ks : List I2) (xs : List Int) : Int := if kinB ks then (if takenB ks xs then 0 else 2) else 1
theorem l18Taken_c (ks : List I2) (xs : List Int) (a b : Option Addr) (m : Mem) (hr : RdG v2 2 m a ks) (hs : RdI m b xs) (hn : xs.length ≤ 1048576) (hn' : ks.length ≤ 1048576) :
    ACalls Tryd.prog 100 [.slice a ks.length ks.length, .slice b xs.length xs.length] m (.int .i64 (takenC ks xs)) m := by
  refine acalls_of_vc Tryd.func100 rfl Tryd.fol (by kernel_rfl) ?_
  simp only [Tryd.f100]
  simp -dsimp -implicitDefEqProofs
  refine callsTo Tryd.cal127 (l18Ok_c ks a _ hr hn') ?_
  simp -dsimp -implicitDefEqProofs
  refine ⟨fun g => GC.eq (by simp at g; simp [takenC, g]), fun g0 => ?_⟩
  simp at g0
  refine ⟨fun g => GC.eq (by simp at g; simp [takenC, takenB, g0]; omega), fun g => ?_⟩
  have hle : xs.length = ks.length := by simp at g; omega
  refine loopN xs.length (fun k σ m' => m' = m ∧ (σ 0 = some (.slice a ks.length ks.length) ∧ σ 1 = some (.slice b xs.length xs.length) ∧ σ 5 = some (.int .i64 k)) ∧ takenTo ks xs k = true) ⟨rfl, by simp, rfl⟩ ?_
  rintro k σ m' hk ⟨rfl, ⟨s0, s1, s5⟩, hok⟩
  by_cases hlt : k < xs.length
  · have hlt' : k < ks.length := by omega
    obtain ⟨id, off, o, rfl, hm, hkd, hsz, hl, hrow, hc0, hc1⟩ := R2.at_ hr hlt'
    obtain ⟨id', off', o', rfl, hm', hkd', hsz', hc'⟩ := hs.at_ hlt
    have hw : IntKind.i64.wrap ((k : Int) + 1) = k + 1 := wrapI (by omega) (by omega)
    simp -dsimp -implicitDefEqProofs [s0, s1, s5, hlt, hlt', withO_of hm, hkd, hsz, withC_of hc1, withO_of hm', hkd', hsz', withC_of hc', hw]
    refine callsTo Tryd.cal62 (l00In_c _ _ _ _) ?_
    simp -dsimp -implicitDefEqProofs [s0, s1, s5, hlt, hlt', withO_of hm, hkd, hsz, withC_of hc1, withO_of hm', hkd', hsz', withC_of hc', hw]
    refine ⟨fun g' => GC.eq ?_, fun g' => ?_⟩
    · simp [takenC, g0, takenB_false hlt (show inB (xs.getD k 0) 0 (ks.getD k (0, 0)).2 = false by rw [getD_lt hlt, getD_lt hlt']; simpa using g')]
    · exact next_ hlt ⟨rfl, by simp [s0, s1, hw], takenTo_succ hok (by rw [getD_lt hlt, getD_lt hlt']; simpa using g')⟩
  · simp -dsimp -implicitDefEqProofs [s0, s1, s5, hlt]
    obtain rfl : k = xs.length := by omega
    exact GC.eq (by simp [takenC, g0, takenB_of hle hok])
def reachV (ks : List I2) (xs : List Int) : Value := .tuple #[.int .i64 (if takenC ks xs = 0 then reachW ks xs else 0), .int .i64 (takenC ks xs)]
theorem takenC_zero {ks : List I2} {xs : List Int} (h : takenC ks xs = 0) : kinB ks = true ∧ takenB ks xs = true ∧ xs.length = ks.length := by
  unfold takenC at h
  split at h
  · split at h
    · rename_i h1 h2
      refine ⟨h1, h2, ?_⟩
      simp [takenB] at h2; exact h2.1
    · omega
  · omega
theorem specReach_c (ks : List I2) (xs : List Int) (a b : Option Addr) (m : Mem) (hr : RdG v2 2 m a ks) (hs : RdI m b xs) (hn : xs.length ≤ 1048576) (hn' : ks.length ≤ 1048576) :
    ACalls Tryd.prog 53 [.slice a ks.length ks.length, .slice b xs.length xs.length] m (reachV ks xs) m := by
  refine acalls_of_vc Tryd.func53 rfl Tryd.fol (by kernel_rfl) ?_
  simp only [Tryd.f53]
  simp -dsimp -implicitDefEqProofs
  refine callsTo Tryd.cal100 (l18Taken_c ks xs a b _ hr hs hn hn') ?_
  simp -dsimp -implicitDefEqProofs
  refine ⟨fun g => GC.eq (by simp at g; simp [reachV, g]), fun g => ?_⟩
  simp at g
  obtain ⟨_, _, hle⟩ := takenC_zero g
  refine loopN xs.length (fun k σ m' => m' = m ∧ σ 0 = some (.slice a ks.length ks.length) ∧ σ 1 = some (.slice b xs.length xs.length) ∧ σ 7 = some (.int .i64 (reachTo ks xs k)) ∧ σ 8 = some (.int .i64 k)) ⟨rfl, by simp [reachTo]⟩ ?_
  rintro k σ m' hk ⟨rfl, s0, s1, s7, s8⟩
  by_cases hlt : k < xs.length
  · have hlt' : k < ks.length := by omega
    obtain ⟨id, off, o, rfl, hm, hkd, hsz, hl, hrow, hc0, hc1⟩ := R2.at_ hr hlt'
    obtain ⟨id', off', o', rfl, hm', hkd', hsz', hc'⟩ := hs.at_ hlt
    have hw : IntKind.i64.wrap ((k : Int) + 1) = k + 1 := wrapI (by omega) (by omega)
    simp -dsimp -implicitDefEqProofs [s0, s1, s7, s8, hlt, hlt', withO_of hm, hkd, hsz, withC_of hc0, withO_of hm', hkd', hsz', withC_of hc', hw]
    exact next_ hlt ⟨rfl, by simp [s0, s1, hw, reachTo_succ hlt hlt']⟩
  · simp -dsimp -implicitDefEqProofs [s0, s1, s7, s8, hlt]
    obtain rfl : k = xs.length := by omega
    exact GC.eq (by simp [reachV, g, reachW])
theorem implReach_c (ks : List I2) (xs : List Int) (a b : Option Addr) (m : Mem) (hr : RdG v2 2 m a ks) (hs : RdI m b xs) (hn : xs.length ≤ 1048576) (hn' : ks.length ≤ 1048576) :
    ACalls Tryd.prog 51 [.slice a ks.length ks.length, .slice b xs.length xs.length] m (reachV ks xs) m := by
  refine acalls_of_vc Tryd.func51 rfl Tryd.fol (by kernel_rfl) ?_
  simp only [Tryd.f51]
  simp -dsimp -implicitDefEqProofs
  refine callsTo Tryd.cal96 (implKinds_c ks a _ hr hn') ?_
  simp -dsimp -implicitDefEqProofs
  refine ⟨fun g => GC.eq (by simp at g; simp [reachV, takenC, g]), fun g => ?_⟩
  refine callsTo Tryd.cal98 (areTaken_c ks xs a b _ hr hs hn) ?_
  simp -dsimp -implicitDefEqProofs
  refine ⟨fun g' => GC.eq (by simp at g g'; simp [reachV, takenC, g, g']), fun g' => ?_⟩
  simp at g g'
  have hle : xs.length = ks.length := by simp [takenB] at g'; exact g'.1
  refine callsTo Tryd.cal99 (reachOf_c ks xs a b _ hr hs hn (by omega)) ?_
  simp -dsimp -implicitDefEqProofs
  exact GC.eq (by simp [reachV, takenC, g, g'])
def codeK (ks : List I2) (w : Int) : Int := if kinB ks then (if inB w 0 5000 then 0 else 2) else 1
theorem kindsCode_c (xs : List I2) (a : Option Addr) (n : Int) (m : Mem) (hr : RdG v2 2 m a xs) (hn : xs.length ≤ 1048576) : ACalls Tryd.prog 92 [.slice a xs.length xs.length, .int .i64 n] m (.int .i64 (codeK xs n)) m := by
  refine acalls_of_vc Tryd.func92 rfl Tryd.fol (by kernel_rfl) ?_
  simp only [Tryd.f92]
  simp -dsimp -implicitDefEqProofs
  refine callsTo Tryd.cal96 (implKinds_c xs a _ hr hn) ?_
  simp -dsimp -implicitDefEqProofs
  refine ⟨fun g => GC.eq (by simp at g; simp [codeK, g]), fun g => ?_⟩
  refine callsTo Tryd.cal88 (within_c _ _ _ _) ?_
  simp -dsimp -implicitDefEqProofs
  refine ⟨fun g' => GC.eq (by simp at g g'; simp [codeK, g, g']), fun g' => GC.eq (by simp at g g'; simp [codeK, g, g'])⟩
end Go.Proofs.YtmbijgnmbapchaaDoor
namespace Go.Proofs.YtmbijgnmbapchaaDoor
open Go.Abs Go.RowKit Go.Law

/-- What stands in the search's own object. -/
def wRow (la : Option Addr) (n : Nat) (wanted : Int) (few found : Bool) (b : Value) (rods reach ways : Int) : List Value :=
  [.slice la n n, .int .i64 wanted, .bool few, .bool found, b, .int .i64 rods, .int .i64 reach, .int .i64 ways]
/-- The best rods so far, in the memory. -/
def BestAt (lo iw it : Nat) (m : Mem) (b : Value) (xs : List Int) : Prop := ∃ ib, b = .slice (some ⟨ib, 0, none⟩) xs.length xs.length ∧ (ib ≠ iw ∧ lo ≤ ib) ∧ ib ≠ it ∧ m[ib]? = some ⟨xs.map (Value.int .i64), 2, 1, 2⟩
def WSt (lo : Nat) (ks : List I2) (la : Option Addr) (wanted : Int) (few : Bool) (iw it : Nat) (m : Mem) (st : RodSt) : Prop :=
  ∃ ty b rods reach, m[iw]? = some ⟨wRow la ks.length wanted few st.best.isSome b rods reach (w64 st.ways), ty, 8, 1⟩ ∧ noTup b = true ∧ (∀ cs, b ≠ .agg cs) ∧
    ∀ xs, st.best = some xs → rods = sumT xs ∧ reach = reachT ks xs ∧ BestAt lo iw it m b xs
/-- What has been taken, at the beginning of a row of four. -/
def TakeAt (it : Nat) (m : Mem) (taken : List Int) : Prop := ∃ o, m[it]? = some o ∧ o.kind = 1 ∧ o.sz = 1 ∧ o.elem = 2 ∧ o.cells.length = 4 ∧ o.cells.take taken.length = taken.map (Value.int .i64)
/-- All else stands. -/
structure Rest (iw it : Nat) (m m' : Mem) : Prop where
  len : m.length ≤ m'.length
  get : ∀ (i : Nat) o, i ≠ iw → i ≠ it → m[i]? = some o → m'[i]? = some o
theorem Rest.refl (iw it : Nat) (m : Mem) : Rest iw it m m := ⟨Nat.le_refl _, fun _ _ _ _ h => h⟩
theorem Rest.trans {iw it : Nat} {m m' m'' : Mem} (h : Rest iw it m m') (h' : Rest iw it m' m'') : Rest iw it m m'' := ⟨Nat.le_trans h.len h'.len, fun i o h1 h2 h3 => h'.get i o h1 h2 (h.get i o h1 h2 h3)⟩
theorem Rest.app (iw it : Nat) (m l : Mem) : Rest iw it m (m ++ l) := ⟨by simp, fun i o _ _ h => get_old h⟩
theorem Rest.setW {iw it : Nat} (m : Mem) (o : AObj) : Rest iw it m (m.set iw o) := ⟨by simp, fun i o' h1 _ h => by rw [List.getElem?_set_ne (Ne.symm h1)]; exact h⟩
theorem Rest.setT {iw it : Nat} (m : Mem) (o : AObj) : Rest iw it m (m.set it o) := ⟨by simp, fun i o' _ h1 h => by rw [List.getElem?_set_ne (Ne.symm h1)]; exact h⟩
theorem Rest.kinds {iw it : Nat} {m m' : Mem} (h : Rest iw it m m') {ks : List I2} {la : Option Addr} (hl : ∀ a, la = some a → a.block ≠ iw ∧ a.block ≠ it) (hr : RdG v2 2 m la ks) : RdG v2 2 m' la ks := by
  obtain ⟨h1, h2, h3⟩ := hr
  refine ⟨h1, h2, fun hn => ?_⟩
  obtain ⟨id, off, o, rfl, hm, g⟩ := h3 hn
  exact ⟨id, off, o, rfl, h.get id o (hl _ rfl).1 (hl _ rfl).2 hm, g⟩

theorem kinB_at {ks : List I2} (h : kinB ks = true) {k : Nat} (hk : k < ks.length) : 1 ≤ ks[k].1 ∧ ks[k].1 ≤ 200 ∧ 0 ≤ ks[k].2 ∧ ks[k].2 ≤ 12 := by
  simp only [kinB, Bool.and_eq_true] at h
  have h1 := List.all_eq_true.1 h.1 k (by simpa using hk)
  simp only [kinAt, List.getElem?_eq_getElem hk, Bool.and_eq_true, inB, decide_eq_true_eq] at h1
  omega
theorem kinB_len {ks : List I2} (h : kinB ks = true) : ks.length ≤ 4 := by
  simp only [kinB, Bool.and_eq_true, decide_eq_true_eq] at h; exact h.2
theorem reachT_snoc : ∀ (ks : List I2) (xs : List Int) (n : Int) (hk : xs.length < ks.length), reachT ks (xs ++ [n]) = reachT ks xs + n * ks[xs.length].1
  | k :: ks, [], n, _ => by simp [reachT]
  | k :: ks, x :: xs, n, hk => by
    have := reachT_snoc ks xs n (by simpa using hk)
    simp only [List.cons_append, reachT, this, List.length_cons, List.getElem_cons_succ]; omega
  | [], xs, n, hk => by simp at hk
/-- Taken rods are few enough. -/
def FewT (xs : List Int) : Prop := ∀ x ∈ xs, 0 ≤ x ∧ x ≤ 12
theorem FewT.sum : ∀ {xs : List Int}, FewT xs → 0 ≤ sumT xs ∧ sumT xs ≤ 12 * (xs.length : Int)
  | [], _ => by simp [sumT_nil]
  | x :: xs, h => by
    have h1 := h x (by simp)
    have h2 := FewT.sum (xs := xs) fun y hy => h y (by simp [hy])
    rw [sumT_cons, List.length_cons]; omega
theorem FewT.reach : ∀ {ks : List I2} {xs : List Int}, FewT xs → (∀ k ∈ ks, 1 ≤ k.1 ∧ k.1 ≤ 200) → 0 ≤ reachT ks xs ∧ reachT ks xs ≤ 2400 * (xs.length : Int)
  | [], xs, _, _ => by cases xs <;> simp [reachT] <;> omega
  | k :: ks, [], _, _ => by simp [reachT]
  | k :: ks, x :: xs, h, hk => by
    have h1 := h x (by simp)
    have h2 := hk k (by simp)
    have h3 := FewT.reach (ks := ks) (xs := xs) (fun y hy => h y (by simp [hy])) (fun y hy => hk y (by simp [hy]))
    have h4 : 0 ≤ x * k.1 := Int.mul_nonneg h1.1 (by omega)
    have h5 : x * k.1 ≤ 12 * 200 := Int.mul_le_mul h1.2 h2.2 (by omega) (by omega)
    simp only [reachT, List.length_cons]; omega

/-- Is it better than the best so far? -/
def betO (ks : List I2) (few : Bool) (st : RodSt) (rods reach : Int) : Bool := match st.best with | none => true | some b => betterT few rods reach (sumT b) (reachT ks b)
theorem takeRd {it : Nat} {m : Mem} {taken : List Int} (m' : Mem) (h : ∀ o, m[it]? = some o → m'[it]? = some o) (ht : TakeAt it m taken) : RdI m' (some ⟨it, 0, none⟩) taken := by
  obtain ⟨o, h1, h2, h3, h4, h5, h6⟩ := ht
  refine ⟨by simp, by intro r hr; obtain ⟨x, _, rfl⟩ := List.mem_map.1 hr; rfl, fun _ => ⟨it, 0, o, rfl, h o h1, by omega, h3, ?_⟩⟩
  rw [Nat.zero_mul, List.drop_zero, Nat.mul_one, h6, flatten_vI]
theorem TakeAt.setW {iw it : Nat} {m : Mem} {taken : List Int} (h : TakeAt it m taken) (hne : iw ≠ it) (o : AObj) : TakeAt it (m.set iw o) taken := by
  obtain ⟨o', h1, h2⟩ := h
  exact ⟨o', by rw [List.getElem?_set_ne hne]; exact h1, h2⟩
theorem TakeAt.app {it : Nat} {m : Mem} {taken : List Int} (h : TakeAt it m taken) (l : Mem) : TakeAt it (m ++ l) taken := by
  obtain ⟨o', h1, h2⟩ := h
  exact ⟨o', get_old h1, h2⟩
theorem leafT_yes {ks : List I2} {wanted : Int} {few : Bool} {st : RodSt} {xs : List Int} {w : Int} (h1 : wanted ≤ reachT ks xs) (h2 : betO ks few st (sumT xs) (reachT ks xs) = true)
    (hw : (if reachT ks xs = wanted then st.ways + 1 else st.ways) = w) : leafT ks wanted few st xs = ⟨some xs, w⟩ := by
  cases hb : st.best <;> simp only [betO, hb] at h2 <;> simp [leafT, hb, h1, h2, hw]
theorem leafT_no {ks : List I2} {wanted : Int} {few : Bool} {st : RodSt} {xs : List Int} {w : RodSt} (h : (¬ wanted ≤ reachT ks xs) ∨ betO ks few st (sumT xs) (reachT ks xs) = false)
    (hw : (⟨st.best, if reachT ks xs = wanted then st.ways + 1 else st.ways⟩ : RodSt) = w) : leafT ks wanted few st xs = w := by
  rw [← hw]
  rcases h with h | h
  · simp [leafT, h]
  · cases hb : st.best <;> simp only [betO, hb] at h <;> simp_all [leafT]

def WalkPost (lo : Nat) (ks : List I2) (la : Option Addr) (wanted : Int) (few : Bool) (iw it : Nat) (m : Mem) (taken : List Int) (st : RodSt) (m' : Mem) : Prop :=
  WSt lo ks la wanted few iw it m' st ∧ Rest iw it m m' ∧ TakeAt it m' taken

theorem WSt.post {lo : Nat} {ks : List I2} {la : Option Addr} {wanted : Int} {few : Bool} {iw it : Nat} {m m' : Mem} {taken : List Int} {st : RodSt} (h : WSt lo ks la wanted few iw it m' st) (h1 : Rest iw it m m') (h2 : TakeAt it m' taken) : WalkPost lo ks la wanted few iw it m taken st m' := ⟨h, h1, h2⟩
theorem leafPost (lo : Nat) (ks : List I2) (la : Option Addr) (wanted : Int) (few : Bool) (iw it : Nat) (hne : iw ≠ it) {m : Mem} {taken : List Int} {o : AObj} (hm : m[iw]? = some o) (ht : TakeAt it m taken) {ty : TypeId} (w : Int) {x : AObj} (hx : x = ⟨taken.map (Value.int .i64), 2, 1, 2⟩) (hlo : lo ≤ m.length) :
    WalkPost lo ks la wanted few iw it m taken ⟨some taken, w⟩ (m.set iw ⟨wRow la ks.length wanted few true (.slice (some ⟨m.length, 0, none⟩) taken.length taken.length) (sumT taken) (reachT ks taken) (w64 w), ty, 8, 1⟩ ++ [x]) := by
  have hiw : iw < m.length := (List.getElem?_eq_some_iff.1 hm).1
  obtain ⟨o', h1, h2⟩ := id ht
  have hit : it < m.length := (List.getElem?_eq_some_iff.1 h1).1
  refine ⟨⟨ty, _, _, _, get_old (get_set hm _), rfl, fun _ => by simp, fun xs hxs => ?_⟩, (Rest.setW m _).trans (Rest.app _ _ _ _), (ht.setW hne _).app _⟩
  injection hxs with hxs
  subst hxs
  refine ⟨rfl, rfl, m.length, rfl, ⟨by omega, hlo⟩, by omega, ?_⟩
  subst hx
  simp

/-- The state behind the first j choices of the next kind. -/
def stepW (ks : List I2) (wanted : Int) (few : Bool) (taken : List Int) (st : RodSt) (j : Nat) : RodSt :=
  (List.range j).foldl (fun (st : RodSt) (n : Nat) => walkT ks wanted few (ks.drop (taken.length + 1)) (taken ++ [(n : Int)]) st) st
theorem stepW_succ (ks : List I2) (wanted : Int) (few : Bool) (taken : List Int) (st : RodSt) (j : Nat) :
    stepW ks wanted few taken st (j + 1) = walkT ks wanted few (ks.drop (taken.length + 1)) (taken ++ [(j : Int)]) (stepW ks wanted few taken st j) := by
  simp only [stepW, List.range_succ, List.foldl_append, List.foldl_cons, List.foldl_nil]
theorem stepW_all (ks : List I2) (wanted : Int) (few : Bool) (taken : List Int) (st : RodSt) (h : taken.length < ks.length) :
    stepW ks wanted few taken st (ks[taken.length].2.toNat + 1) = walkT ks wanted few (ks.drop taken.length) taken st := by
  rw [List.drop_eq_getElem_cons h]
  simp only [walkT, upTo, List.foldl_map, stepW]

end Go.Proofs.YtmbijgnmbapchaaDoor
namespace Go.Proofs.YtmbijgnmbapchaaDoor
open Go.Abs Go.RowKit Go.Law


/-! ### The reference -/
def SearchAt (ks : List I2) (la : Option Addr) (wanted : Int) (few : Bool) (m : Mem) (v : Value) (m' : Mem) : Prop :=
  ∃ iw it, v = .pointer (some ⟨iw, 0, none⟩) ∧ m <+: m' ∧ m.length ≤ iw ∧ WSt m.length ks la wanted few iw it m' (searchT ks wanted few)
/-! ### The odometer -/
theorem GC.eq2 {m m1 m2 : Mem} {v1 v2 : Value} (h : m1 = m2) (h' : v1 = v2) : GC m m1 v1 m2 v2 := by subst h; subst h'; exact GC.refl _ _ _
theorem nextT_hit : ∀ {hs xs : List Int} (i : Nat) (hi : i < xs.length) (hi' : i < hs.length), nextT (hs.drop (i + 1)) (xs.drop (i + 1)) = none → xs[i] < hs[i] →
    nextT hs xs = some (xs.take i ++ (xs[i] + 1) :: zerosT (hs.drop (i + 1)))
  | h :: hs, x :: xs, 0, _, _, hn, hx => by
    simp only [List.drop_succ_cons, List.drop_zero, List.getElem_cons_zero] at hn hx
    simp [nextT, hn, hx]
  | h :: hs, x :: xs, i + 1, hi, hi', hn, hx => by
    simp only [List.drop_succ_cons, List.getElem_cons_succ] at hn hx
    have := nextT_hit (hs := hs) (xs := xs) i (by simpa using hi) (by simpa using hi') hn hx
    simp [nextT, this]
  | [], xs, i, hi, hi', _, _ => by simp at hi'
  | _ :: _, [], i, hi, hi', _, _ => by simp at hi
theorem nextT_miss : ∀ {hs xs : List Int} (i : Nat) (hi : i < xs.length) (hi' : i < hs.length), nextT (hs.drop (i + 1)) (xs.drop (i + 1)) = none → ¬ xs[i] < hs[i] →
    nextT (hs.drop i) (xs.drop i) = none := by
  intro hs xs i hi hi' hn hx
  rw [List.drop_eq_getElem_cons hi, List.drop_eq_getElem_cons hi']
  simp [nextT, hn, hx]
/-- The rods behind an attempt at the next ones. -/
def nextR (hs xs : List Int) : List Int := (nextT hs xs).getD (zerosT hs)
def hv (ks : List I2) : List Int := ks.map (·.2)
theorem hv_length (ks : List I2) : (hv ks).length = ks.length := by simp [hv]
/-- The first i numbers, and zeros behind them. -/
def odo (hs xs : List Int) (i : Nat) : List Value := (xs.take i ++ zerosT (hs.drop i)).map (Value.int .i64)
section
variable {hs xs : List Int} (hl : xs.length = hs.length) {i : Nat}
include hl
theorem odo_length (hi : i ≤ xs.length) : (odo hs xs i).length = xs.length := by simp [odo, zerosT]; omega
theorem odo_get (hi : i < xs.length) : (odo hs xs (i + 1))[i]? = some (.int .i64 xs[i]) := by
  unfold odo
  rw [List.getElem?_map, List.getElem?_append_left (by simp; omega), List.getElem?_take, if_pos (by omega), List.getElem?_eq_getElem hi]; rfl
theorem odo_set (hi : i < xs.length) (y : Int) : (odo hs xs (i + 1)).set i (.int .i64 y) = (xs.take i ++ y :: zerosT (hs.drop (i + 1))).map (Value.int .i64) := by
  unfold odo
  rw [← List.map_set, List.set_append_left _ _ (by simp; omega)]
  congr 1
  rw [List.take_add_one, List.getElem?_eq_getElem hi, List.set_append_right _ _ (by simp; omega)]
  simp [Nat.min_eq_left (Nat.le_of_lt hi)]
theorem odo_zero (hi : i < xs.length) : (odo hs xs (i + 1)).set i (.int .i64 0) = odo hs xs i := by
  rw [odo_set hl hi]
  unfold odo
  rw [List.drop_eq_getElem_cons (show i < hs.length by omega)]
  rfl
theorem odo_all : odo hs xs xs.length = xs.map (Value.int .i64) := by
  unfold odo
  rw [List.take_length, List.drop_eq_nil_of_le (by omega)]; simp [zerosT]
omit hl in
theorem odo_none : odo hs xs 0 = (zerosT hs).map (Value.int .i64) := by simp [odo]
end
theorem nextTaken_c (ks : List I2) (hks : kinB ks = true) (la : Option Addr) (xs : List Int) (it : Nat) (ty : TypeId) (m : Mem) (hl : xs.length = ks.length) (hfew : FewT xs) (hr : RdG v2 2 m la ks) (ho : m[it]? = some ⟨xs.map (Value.int .i64), ty, 1, 1⟩)
    (hla : ∀ a, la = some a → a.block ≠ it) :
    ACalls Tryd.prog 126 [.slice la ks.length ks.length, .slice (some ⟨it, 0, none⟩) xs.length xs.length] m (.bool (nextT (hv ks) xs).isSome) (m.set it ⟨(nextR (hv ks) xs).map (Value.int .i64), ty, 1, 1⟩) := by
  have hk4 := kinB_len hks
  refine acalls_of_vc Tryd.func126 rfl Tryd.fol (by kernel_rfl) ?_
  simp only [Tryd.f126]
  simp -dsimp -implicitDefEqProofs
  have hl' : xs.length = (hv ks).length := by rw [hv_length, hl]
  refine loopN xs.length (fun k σ m' => m' = m.set it ⟨odo (hv ks) xs (xs.length - k), ty, 1, 1⟩ ∧ nextT ((hv ks).drop (xs.length - k)) (xs.drop (xs.length - k)) = none ∧
      σ 0 = some (.slice la ks.length ks.length) ∧ σ 1 = some (.slice (some ⟨it, 0, none⟩) xs.length xs.length) ∧ σ 5 = some (.int .i64 (xs.length - 1 - k))) ⟨?_, ?_, by simp, by simp, ?_⟩ ?_
  · rw [Nat.sub_zero, odo_all hl']
    exact (set_self ho).symm
  · rw [Nat.sub_zero, List.drop_length, List.drop_eq_nil_of_le (by omega)]; rfl
  · have : IntKind.i64.wrap ((xs.length : Int) - 1) = xs.length - 1 := wrapI (by omega) (by omega)
    simp [this]
  rintro k σ m' hk ⟨rfl, hnone, s0, s1, s5⟩
  by_cases hlt : k < xs.length
  · obtain ⟨i, hi⟩ : ∃ i, xs.length = k + 1 + i := ⟨xs.length - (k + 1), by omega⟩
    have hix : i < xs.length := by omega
    have hik : i < ks.length := by omega
    have e1 : xs.length - k = i + 1 := by omega
    have e2 : ((xs.length : Int) - 1 - k) = (i : Int) := by omega
    have e3 : xs.length - (k + 1) = i := by omega
    have hx := hfew _ (List.getElem_mem hix)
    have hihv : (hv ks)[i]'(by rw [hv_length]; exact hik) = ks[i].2 := by simp [hv]
    rw [e1] at hnone
    rw [e2] at s5
    obtain ⟨id, off, o, rfl, hm, hkd, hsz, hl0, hrow, hc0, hc1⟩ := R2.at_ hr hik
    have hne := hla _ rfl
    simp only at hne
    have hget : ∀ x, (m.set it x)[id]? = some o := fun x => by rw [List.getElem?_set_ne (Ne.symm hne)]; exact hm
    have hw : IntKind.i64.wrap (xs[i] + 1) = xs[i] + 1 := wrapI (by omega) (by omega)
    have hw2 : IntKind.i64.wrap ((i : Int) - 1) = i - 1 := wrapI (by omega) (by omega)
    rw [e1]
    simp -dsimp -implicitDefEqProofs [s0, s1, s5, hix, hik, withO_of (get_set ho _), fun x => withO_of (hget x), hkd, hsz, withC_of (odo_get hl' hix), withC_of hc1, odo_length hl' (show i + 1 ≤ xs.length by omega), hw, hw2, odo_zero hl' hix, List.set_set]
    refine sp2 (fun g => ?_) (fun g => ?_)
    · simp at g
      have hhit := nextT_hit (hs := hv ks) i hix (by omega) hnone (by rw [hihv]; exact g)
      refine need_intro (by omega) (GC.eq2 ?_ (by rw [hhit]; rfl))
      rw [odo_set hl' hix, nextR, hhit]; rfl
    · simp at g
      refine need_intro (by omega) (next_ hlt ⟨by rw [e3], ?_, by simp [s0], by simp [s1], ?_⟩)
      · rw [e3]; exact nextT_miss i hix (by omega) hnone (by rw [hihv]; omega)
      · have : ((xs.length : Int) - 1 - ((k + 1 : Nat) : Int)) = i - 1 := by omega
        simp [hw2]; omega
  · obtain rfl : k = xs.length := by omega
    have hneg : ¬ ((xs.length : Int) ≤ (xs.length : Int) - 1) := by omega
    simp -dsimp -implicitDefEqProofs [s0, s1, s5, hneg]
    rw [Nat.sub_self, List.drop_zero, List.drop_zero] at hnone
    refine GC.eq2 ?_ (by rw [hnone]; rfl)
    first | rw [Nat.sub_self, odo_none, nextR, hnone]; rfl | (rw [odo_none, nextR, hnone]; rfl)
end Go.Proofs.YtmbijgnmbapchaaDoor
namespace Go.Proofs.YtmbijgnmbapchaaDoor
open Go.Abs Go.RowKit Go.Law

theorem reachTo_eq {ks : List I2} (hks : kinB ks = true) {xs : List Int} (hl : xs.length = ks.length) (hf : FewT xs) : ∀ k, k ≤ xs.length → reachTo ks xs k = reachT ks (xs.take k)
  | 0, _ => by cases ks <;> rfl
  | k + 1, hk => by
    have h1 : k < xs.length := by omega
    have h2 : k < ks.length := by omega
    have hkk : ∀ k ∈ ks, 1 ≤ k.1 ∧ k.1 ≤ 200 := fun k hk => by
      obtain ⟨i, hi, rfl⟩ := List.getElem_of_mem hk
      exact ⟨(kinB_at hks hi).1, (kinB_at hks hi).2.1⟩
    have h4 := kinB_len hks
    have hft : ∀ k, FewT (xs.take k) := fun k x hx => hf x (List.mem_of_mem_take hx)
    have e := reachT_snoc ks (xs.take k) xs[k] (by rw [List.length_take]; omega)
    have e3 : (xs.take k).length = k := by rw [List.length_take]; omega
    simp only [e3] at e
    rw [reachTo_succ h1 h2, reachTo_eq hks hl hf k (by omega), List.take_add_one, List.getElem?_eq_getElem h1, Option.toList_some, e]
    have b := hf _ (List.getElem_mem h1)
    have c := hkk _ (List.getElem_mem h2)
    have b1 : 0 ≤ xs[k] * ks[k].1 := Int.mul_nonneg b.1 (by omega)
    have b2 : xs[k] * ks[k].1 ≤ 12 * 200 := Int.mul_le_mul b.2 c.2 (by omega) (by omega)
    have b3 := (hft k).reach hkk
    rw [e3] at b3
    unfold w64
    rw [wrapI (x := xs[k] * ks[k].1) (by omega) (by omega), wrapI (by omega) (by omega)]
theorem reachW_eq {ks : List I2} (hks : kinB ks = true) {xs : List Int} (hl : xs.length = ks.length) (hf : FewT xs) : reachW ks xs = reachT ks xs := by
  unfold reachW
  rw [reachTo_eq hks hl hf _ (Nat.le_refl _), List.take_length]

theorem hv_nonneg {ks : List I2} (hks : kinB ks = true) : ∀ h ∈ hv ks, 0 ≤ h ∧ h ≤ 12 := fun h hh => by
  obtain ⟨k, hk, rfl⟩ := List.mem_map.1 hh
  obtain ⟨i, hi, rfl⟩ := List.getElem_of_mem hk
  exact ⟨(kinB_at hks hi).2.2.1, (kinB_at hks hi).2.2.2⟩
theorem Within.few : ∀ {hs xs : List Int}, Within hs xs → (∀ h ∈ hs, h ≤ 12) → FewT xs
  | [], [], _, _ => fun x hx => by simp at hx
  | h :: hs, x :: xs, hw, hh => fun y hy => by
    rcases List.mem_cons.1 hy with rfl | hy
    · have := hh h (by simp); have := hw.1; omega
    · exact Within.few hw.2 (fun z hz => hh z (by simp [hz])) y hy
  | [], _ :: _, hw, _ => hw.elim
  | _ :: _, [], hw, _ => hw.elim
theorem zeros_few (hs : List Int) : FewT (zerosT hs) := fun x hx => by
  simp only [zerosT, List.mem_map] at hx
  obtain ⟨_, _, rfl⟩ := hx; omega
theorem within_length : ∀ {hs xs : List Int}, Within hs xs → xs.length = hs.length
  | [], [], _ => rfl
  | h :: hs, x :: xs, hw => by simp [within_length hw.2]
  | [], _ :: _, hw => hw.elim
  | _ :: _, [], hw => hw.elim

/-- Where the odometer stands: what has been seen, and what stands on it. -/
structure Odo (ks : List I2) (seen : List (List Int)) (more : Bool) (xs : List Int) : Prop where
  go : more = true → tuples (hv ks) = seen ++ fromT (hv ks) xs
  stop : more = false → tuples (hv ks) = seen
  few : FewT xs
  len : xs.length = ks.length
theorem Odo.zero {ks : List I2} (hks : kinB ks = true) : Odo ks [] true (zerosT (hv ks)) :=
  ⟨fun _ => by rw [fromT_zeros (fun h hh => (hv_nonneg hks h hh).1)]; rfl, fun h => (by cases h), zeros_few _, by rw [zerosT_length, hv_length]⟩
theorem Odo.next {ks : List I2} (hks : kinB ks = true) {seen : List (List Int)} {xs : List Int} (h : Odo ks seen true xs) : Odo ks (seen ++ [xs]) (nextT (hv ks) xs).isSome (nextR (hv ks) xs) := by
  have h1 := h.go rfl
  have hl : xs.length = (hv ks).length := by rw [hv_length, h.len]
  rw [fromT_eq (fun h hh => (hv_nonneg hks h hh).1) hl] at h1
  cases hn : nextT (hv ks) xs with
  | none =>
    rw [hn] at h1
    exact ⟨fun h => by simp at h, fun _ => h1, by rw [nextR, hn]; exact zeros_few _, by rw [nextR, hn]; show (zerosT _).length = _; rw [zerosT_length, hv_length]⟩
  | some ys =>
    rw [hn] at h1
    have hly := nextT_length hl hn
    have hmem : ys ∈ tuples (hv ks) := by
      rw [h1]
      show ys ∈ seen ++ xs :: fromT (hv ks) ys
      rw [fromT_eq (fun h hh => (hv_nonneg hks h hh).1) hly]; simp
    refine ⟨fun _ => by rw [nextR, hn]; simpa using h1, fun h => by simp at h, ?_, by rw [nextR, hn]; show ys.length = _; rw [hly, hv_length]⟩
    rw [nextR, hn]
    exact Within.few ((mem_tuples (fun h hh => (hv_nonneg hks h hh).1)).1 hmem) (fun h hh => (hv_nonneg hks h hh).2)

def waysV (ks : List I2) (n : Int) : Value := .tuple #[.int .i64 (if codeK ks n = 0 then w64 (searchT ks n true).ways else 0), .int .i64 (codeK ks n)]
theorem codeK_zero {ks : List I2} {n : Int} (h : codeK ks n = 0) : kinB ks = true ∧ 0 ≤ n ∧ n ≤ 5000 := by
  unfold codeK at h
  split at h
  · split at h
    · rename_i h1 h2
      simp [inB] at h2
      exact ⟨h1, h2⟩
    · omega
  · omega
/-- The ways among what has been seen. -/
def waysOf (ks : List I2) (n : Int) (seen : List (List Int)) : Int := ((seen.filter fun xs => decide (reachT ks xs = n)).length : Int)
theorem waysOf_snoc (ks : List I2) (n : Int) (seen : List (List Int)) (xs : List Int) : waysOf ks n (seen ++ [xs]) = waysOf ks n seen + if reachT ks xs = n then 1 else 0 := by
  unfold waysOf
  by_cases h : reachT ks xs = n <;> simp [List.filter_append, h]
theorem w64_add (x : Int) : w64 (w64 x + 1) = w64 (x + 1) := by simp [w64, IntKind.wrap_i64]; omega
end Go.Proofs.YtmbijgnmbapchaaDoor
namespace Go.Proofs.YtmbijgnmbapchaaDoor
open Go.Abs Go.RowKit Go.Law

/-- What the two searches tell. -/
def bestO (ks : List I2) (n : Int) (few : Bool) : Option (List Int) := if codeK ks n = 0 then (searchT ks n few).best else none
def bestC (ks : List I2) (n : Int) (few : Bool) : Int := if codeK ks n = 0 then (match (searchT ks n few).best with | none => 3 | some _ => 0) else codeK ks n
def bestN (ks : List I2) (n : Int) (few : Bool) : Int := match bestO ks n few with | none => 0 | some b => if few then sumT b else w64 (reachT ks b - n)
def bestV (l : Nat) (ks : List I2) (n : Int) (few : Bool) : Value := .tuple #[optV l (bestO ks n few), .int .i64 (bestN ks n few), .int .i64 (bestC ks n few)]

theorem sumF_c (xs : List Int) (a : Option Addr) (m : Mem) (hr : RdI m a xs) (hf : FewT xs) (hn : xs.length ≤ 1048576) : ACalls Tryd.prog 95 [.slice a xs.length xs.length] m (.int .i64 (sumT xs)) m := by
  refine acalls_of_vc Tryd.func95 rfl Tryd.fol (by kernel_rfl) ?_
  simp only [Tryd.f95]
  simp -dsimp -implicitDefEqProofs
  refine loopN xs.length (fun k σ m' => m' = m ∧ σ 6 = some (.slice a xs.length xs.length) ∧ σ 7 = some (.int .i64 xs.length) ∧ σ 3 = some (.int .i64 (sumT (xs.take k))) ∧ σ 8 = some (.int .i64 k)) ⟨rfl, by simp [sumT_nil]⟩ ?_
  rintro k σ m' hk ⟨rfl, s6, s7, s3, s8⟩
  by_cases hlt : k < xs.length
  · obtain ⟨id, off, o, rfl, hm, hkd, hsz, hc⟩ := hr.at_ hlt
    have hw : IntKind.i64.wrap ((k : Int) + 1) = k + 1 := wrapI (by omega) (by omega)
    have hs : sumT (xs.take (k + 1)) = sumT (xs.take k) + xs[k] := by rw [List.take_add_one, List.getElem?_eq_getElem hlt, Option.toList_some, sumT_append, sumT_cons, sumT_nil]; omega
    have hft : FewT (xs.take (k + 1)) := fun x hx => hf x (List.mem_of_mem_take hx)
    have hb := hft.sum
    have hl : (xs.take (k + 1)).length = k + 1 := by rw [List.length_take]; omega
    rw [hl] at hb
    have hw2 : IntKind.i64.wrap (sumT (xs.take k) + xs[k]) = sumT (xs.take (k + 1)) := by rw [← hs]; exact wrapI (by omega) (by omega)
    simp -dsimp -implicitDefEqProofs [s6, s7, s3, s8, hlt, withO_of hm, hkd, hsz, withC_of hc, hw]
    exact next_ hlt ⟨rfl, by simp [s6, s7, hw, hw2]⟩
  · simp -dsimp -implicitDefEqProofs [s6, s7, s3, s8, hlt]
    rw [List.take_of_length_le (by omega)]
    exact GC.refl _ _ _
theorem fewB_c (a b c d : Int) (m : Mem) : ACalls Tryd.prog 94 [.int .i64 a, .int .i64 b, .int .i64 c, .int .i64 d] m (.bool (betterT true a b c d)) m := by
  refine acalls_of_vc Tryd.func94 rfl Tryd.fol (by kernel_rfl) ?_
  simp only [Tryd.f94]
  simp -dsimp -implicitDefEqProofs
  refine sp2 (fun g => GC.eq (by simp at g; simp [betterT, g])) (fun g => sp2 (fun g' => ?_) (fun g' => ?_))
  · exact GC.eq (by simp at g g'; simp [betterT, g, g'])
  · exact GC.eq (by simp at g g'; simp [betterT, g, g'])
/-- The best so far, as a value. -/
def BestIs (m0 m' : Mem) (v : Value) : Option (List Int) → Prop
  | none => v = .slice none 0 0
  | some xs => ∃ ib, v = .slice (some ⟨ib, 0, none⟩) xs.length xs.length ∧ m0.length < ib ∧ m'[ib]? = some ⟨xs.map (Value.int .i64), 2, 1, 2⟩
def BestRes (m : Mem) (best : Option (List Int)) (v : Value) (m' : Mem) : Prop := m <+: m' ∧ BestIs m m' v best
theorem BestIs.noTup {m0 m : Mem} {v : Value} {o : Option (List Int)} (h : BestIs m0 m v o) : Abs.noTup v = true := by
  cases o with
  | none => rw [show v = .slice none 0 0 from h]; rfl
  | some xs => obtain ⟨ib, rfl, _⟩ := h; rfl
theorem BestIs.keep {m0 m m' : Mem} {v : Value} {o : Option (List Int)} (h : BestIs m0 m v o) (hk : ∀ (i : Nat) ob, m0.length < i → m[i]? = some ob → m'[i]? = some ob) : BestIs m0 m' v o := by
  cases o with
  | none => exact h
  | some xs => obtain ⟨ib, h1, h2, h3⟩ := h; exact ⟨ib, h1, h2, hk ib _ h2 h3⟩
theorem bestTaken_c (ks : List I2) (hks : kinB ks = true) (la : Option Addr) (wanted : Int) (few : Bool) (gf : FuncId) (hcl : callable Tryd.prog gf = true) (hg : ∀ a b c d m, ACalls Tryd.prog gf [.int .i64 a, .int .i64 b, .int .i64 c, .int .i64 d] m (.bool (betterT few a b c d)) m)
    (m : Mem) (hr : RdG v2 2 m la ks) (hla : ∀ a, la = some a → a.block < m.length) :
    ∃ v m', ACalls Tryd.prog 93 [.slice la ks.length ks.length, .int .i64 wanted, .func (.func gf) #[] #[]] m v m' ∧ BestRes m (searchT ks wanted few).best v m' := by
  have hk4 := kinB_len hks
  refine ecalls_of_vc Tryd.func93 rfl Tryd.fol (by kernel_rfl) ?_
  simp only [Tryd.f93]
  simp -dsimp -implicitDefEqProofs
  refine need_intro (by omega) ?_
  refine loopT (fun c σ m' => ∃ (seen : List (List Int)) (more : Bool) (xs : List Int) (b : Value), c = (tuples (hv ks)).length - seen.length ∧ Odo ks seen more xs ∧ m <+: m' ∧ m'[m.length]? = some ⟨xs.map (Value.int .i64), 2, 1, 1⟩ ∧
      BestIs m m' b (seen.foldl (leafT ks wanted few) ⟨none, 0⟩).best ∧ (∀ ys, (seen.foldl (leafT ks wanted few) ⟨none, 0⟩).best = some ys → FewT ys ∧ ys.length = ks.length) ∧
      σ 0 = some (.slice la ks.length ks.length) ∧ σ 1 = some (.int .i64 wanted) ∧ σ 2 = some (.func (.func gf) #[] #[]) ∧ σ 7 = some b ∧ σ 8 = some (.slice (some ⟨m.length, 0, none⟩) ks.length ks.length) ∧ σ 9 = some (.bool more)) _
    ⟨[], true, zerosT (hv ks), .slice none 0 0, rfl, Odo.zero hks, ⟨_, rfl⟩, ?_, rfl, (fun ys h => by cases h), by simp, by simp, by simp, by simp, by simp, by simp⟩ ?_
  · simp [zerosT, hv, Function.comp_def]
    exact List.map_const'.symm
  rintro _ σ m' ⟨seen, more, xs, b, rfl, hO, hp, ho, hb, hfew, s0, s1, s2, s7, s8, s9⟩
  cases more with
  | false =>
    simp -dsimp -implicitDefEqProofs [s0, s1, s2, s7, s8, s9]
    refine ⟨hb.noTup, _, _, GC.refl _ _ _, hp, ?_⟩
    rw [show searchT ks wanted few = (tuples (hv ks)).foldl (leafT ks wanted few) ⟨none, 0⟩ from rfl, hO.stop rfl]
    exact hb
  | true =>
    have hla' : ∀ a, la = some a → a.block ≠ m.length := fun a ha => by have := hla a ha; omega
    have hxs : RdI m' (some ⟨m.length, 0, none⟩) xs := RdI.of_get (o := ⟨xs.map (Value.int .i64), 2, 1, 1⟩) ho (by simp) rfl rfl
    have hreach := reachOf_c ks xs la (some ⟨m.length, 0, none⟩) _ (hr.pre hp) hxs (by rw [hO.len]; omega) (by rw [hO.len]; exact Nat.le_refl _)
    rw [reachW_eq hks hO.len hO.few, hO.len] at hreach
    have hsum := sumF_c xs _ _ hxs hO.few (by rw [hO.len]; omega)
    rw [hO.len] at hsum
    have hstep := hO.next hks
    have hlt : seen.length < (tuples (hv ks)).length := by
      have := hO.go rfl
      rw [fromT_eq (fun h hh => (hv_nonneg hks h hh).1) (by rw [hv_length, hO.len])] at this
      rw [this]; simp
    -- what is left behind the choice of the best
    have hnx := fun (mm : Mem) (h1 : m <+: mm) (h2 : mm[m.length]? = some ⟨xs.map (Value.int .i64), 2, 1, 1⟩) => nextTaken_c ks hks la xs m.length 2 mm hO.len hO.few (hr.pre h1) h2 hla'
    simp only [hO.len] at hnx
    have hfold : ∀ st, (leafT ks wanted few (seen.foldl (leafT ks wanted few) ⟨none, 0⟩) xs) = st → (seen ++ [xs]).foldl (leafT ks wanted few) ⟨none, 0⟩ = st := fun st h => by rw [List.foldl_append]; exact h
    have hkeep : ∀ (mm : Mem) (x : AObj) (b' : Value) (o : Option (List Int)), BestIs m mm b' o → BestIs m (mm.set m.length x) b' o := fun mm x b' o h => h.keep fun i ob hi hg => by rw [List.getElem?_set_ne (by omega)]; exact hg
    have hgrow : ∀ (m2 : Mem) (id2 : Nat), Grown (m' ++ [(⟨[], 2, 1, 1⟩ : AObj)]) m'.length ⟨([] : List Value) ++ xs.map (Value.int .i64), 2, 1, 2⟩ m2 id2 → m <+: m2 ∧ m2[m.length]? = some ⟨xs.map (Value.int .i64), 2, 1, 1⟩ ∧ BestIs m m2 (.slice (some ⟨id2, 0, none⟩) ks.length ks.length) (some xs) := by
      intro m2 id2 hg
      have hml := lt_of_get ho
      refine ⟨hp.trans (hg.pre m' ⟨_, rfl⟩ (Nat.le_refl _)), hg.old _ _ (by omega) (get_old ho), id2, by rw [hO.len], by rw [hg.at_]; simp; omega, hg.new⟩
    cases hst : (seen.foldl (leafT ks wanted few) ⟨none, 0⟩).best with
    | none =>
      rw [hst] at hb
      have hb' : b = .slice none 0 0 := hb
      subst hb'
      simp -dsimp -implicitDefEqProofs [s0, s1, s2, s7, s8, s9]
      refine callsTo Tryd.cal99 hreach ?_
      simp -dsimp -implicitDefEqProofs [s0, s1, s2, s7, s8, s9]
      refine sp2 (fun g => ?_) (fun g => ?_)
      · refine appTo_grow (e := 2) (sz := 1) (by_ := 8) (z := .int .i64 0) (by kernel_rfl) (by kernel_rfl) ⟨by decide, rfl⟩ (o := ⟨[], 2, 1, 1⟩) (by simp) (by simp) ⟨rfl, rfl⟩ rfl (by omega) (by rw [← hO.len]; exact Src.rdI (hxs.ext _)) ?_
        intro m2 id2 hgr
        simp -dsimp -implicitDefEqProofs [s0, s1, s2, s7, s8, s9]
        obtain ⟨q1, q2, q3⟩ := hgrow m2 id2 hgr
        refine callsTo Tryd.cal126 (hnx m2 q1 q2) ?_
        simp -dsimp -implicitDefEqProofs [s0, s1, s2, s7, s8, s9]
        refine invT _ ?_ ⟨seen ++ [xs], _, _, _, rfl, hstep, pre_set q1 (Nat.le_refl _) _, get_set q2 _, hkeep _ _ _ _ (by rw [show ((seen ++ [xs]).foldl (leafT ks wanted few) ⟨none, 0⟩).best = some xs from hfold _ rfl ▸ (by simp at g; simp [leafT, hst, g])]; exact q3), fun zs hz => ?_, by simp [s0], by simp [s1], by simp [s2], by simp, by simp [s8], by simp⟩
        · simp; omega
        · rw [show ((seen ++ [xs]).foldl (leafT ks wanted few) ⟨none, 0⟩).best = some xs from hfold _ rfl ▸ (by simp at g; simp [leafT, hst, g])] at hz
          injection hz with hz
          subst hz
          exact ⟨hO.few, hO.len⟩
      · refine callsTo Tryd.cal126 (hnx m' hp ho) ?_
        simp -dsimp -implicitDefEqProofs [s0, s1, s2, s7, s8, s9]
        have hno : ((seen ++ [xs]).foldl (leafT ks wanted few) ⟨none, 0⟩).best = (seen.foldl (leafT ks wanted few) ⟨none, 0⟩).best := hfold _ rfl ▸ (by simp at g; simp [leafT, hst]; omega)
        refine invT _ ?_ ⟨seen ++ [xs], _, _, _, rfl, hstep, pre_set hp (Nat.le_refl _) _, get_set ho _, hkeep _ _ _ _ (by rw [hno, hst]; exact rfl), fun zs hz => hfew zs (by rw [← hno]; exact hz), by simp [s0], by simp [s1], by simp [s2], by simp [s7], by simp [s8], by simp⟩
        simp; omega
    | some ys =>
      rw [hst] at hb
      obtain ⟨ib, rfl, hib, hob⟩ := hb
      obtain ⟨hfy, hly⟩ := hfew ys hst
      have hys : RdI m' (some ⟨ib, 0, none⟩) ys := RdI.of_get (o := ⟨ys.map (Value.int .i64), 2, 1, 2⟩) hob (by simp) rfl rfl
      have hsumy := sumF_c ys _ _ hys hfy (by rw [hly]; omega)
      have hreachy := reachOf_c ks ys la (some ⟨ib, 0, none⟩) _ (hr.pre hp) hys (by rw [hly]; omega) (by rw [hly]; exact Nat.le_refl _)
      rw [reachW_eq hks hly hfy] at hreachy
      simp -dsimp -implicitDefEqProofs [s0, s1, s2, s7, s8, s9]
      refine callsTo Tryd.cal99 hreach ?_
      simp -dsimp -implicitDefEqProofs [s0, s1, s2, s7, s8, s9]
      refine sp2 (fun g => ?_) (fun g => ?_)
      · refine callsTo Tryd.cal95 hsum ?_
        simp -dsimp -implicitDefEqProofs [s0, s1, s2, s7, s8, s9]
        refine callsTo Tryd.cal95 hsumy ?_
        simp -dsimp -implicitDefEqProofs [s0, s1, s2, s7, s8, s9]
        refine callsTo Tryd.cal99 hreachy ?_
        simp -dsimp -implicitDefEqProofs [s0, s1, s2, s7, s8, s9]
        refine callsTo hcl (hg _ _ _ _ _) ?_
        simp -dsimp -implicitDefEqProofs [s0, s1, s2, s7, s8, s9]
        refine sp2 (fun g' => ?_) (fun g' => ?_)
        · refine appTo_grow (e := 2) (sz := 1) (by_ := 8) (z := .int .i64 0) (by kernel_rfl) (by kernel_rfl) ⟨by decide, rfl⟩ (o := ⟨[], 2, 1, 1⟩) (by simp) (by simp) ⟨rfl, rfl⟩ rfl (by omega) (by rw [← hO.len]; exact Src.rdI (hxs.ext _)) ?_
          intro m2 id2 hgr
          simp -dsimp -implicitDefEqProofs [s0, s1, s2, s7, s8, s9]
          obtain ⟨q1, q2, q3⟩ := hgrow m2 id2 hgr
          refine callsTo Tryd.cal126 (hnx m2 q1 q2) ?_
          simp -dsimp -implicitDefEqProofs [s0, s1, s2, s7, s8, s9]
          refine invT _ ?_ ⟨seen ++ [xs], _, _, _, rfl, hstep, pre_set q1 (Nat.le_refl _) _, get_set q2 _, hkeep _ _ _ _ (by rw [show ((seen ++ [xs]).foldl (leafT ks wanted few) ⟨none, 0⟩).best = some xs from hfold _ rfl ▸ (by simp at g g'; simp [leafT, hst, g, g'])]; exact q3), fun zs hz => ?_, by simp [s0], by simp [s1], by simp [s2], by simp, by simp [s8], by simp⟩
          · simp; omega
          · rw [show ((seen ++ [xs]).foldl (leafT ks wanted few) ⟨none, 0⟩).best = some xs from hfold _ rfl ▸ (by simp at g g'; simp [leafT, hst, g, g'])] at hz
            injection hz with hz
            subst hz
            exact ⟨hO.few, hO.len⟩
        · refine callsTo Tryd.cal126 (hnx m' hp ho) ?_
          simp -dsimp -implicitDefEqProofs [s0, s1, s2, s7, s8, s9]
          have hno : ((seen ++ [xs]).foldl (leafT ks wanted few) ⟨none, 0⟩).best = (seen.foldl (leafT ks wanted few) ⟨none, 0⟩).best := hfold _ rfl ▸ (by simp [leafT, hst, g'])
          refine invT _ ?_ ⟨seen ++ [xs], _, _, _, rfl, hstep, pre_set hp (Nat.le_refl _) _, get_set ho _, hkeep _ _ _ _ (by rw [hno, hst]; exact ⟨ib, rfl, hib, hob⟩), fun zs hz => hfew zs (by rw [← hno]; exact hz), by simp [s0], by simp [s1], by simp [s2], by simp [s7], by simp [s8], by simp⟩
          simp; omega
      · refine callsTo Tryd.cal126 (hnx m' hp ho) ?_
        simp -dsimp -implicitDefEqProofs [s0, s1, s2, s7, s8, s9]
        have hno : ((seen ++ [xs]).foldl (leafT ks wanted few) ⟨none, 0⟩).best = (seen.foldl (leafT ks wanted few) ⟨none, 0⟩).best := hfold _ rfl ▸ (by simp at g; simp [leafT, hst]; omega)
        refine invT _ ?_ ⟨seen ++ [xs], _, _, _, rfl, hstep, pre_set hp (Nat.le_refl _) _, get_set ho _, hkeep _ _ _ _ (by rw [hno, hst]; exact ⟨ib, rfl, hib, hob⟩), fun zs hz => hfew zs (by rw [← hno]; exact hz), by simp [s0], by simp [s1], by simp [s2], by simp [s7], by simp [s8], by simp⟩
        simp; omega
theorem reach_found {ks : List I2} (hks : kinB ks = true) {n : Int} {few : Bool} {ys : List Int} (h : (searchT ks n few).best = some ys) : FewT ys ∧ ys.length = ks.length ∧ n ≤ reachT ks ys := by
  obtain ⟨h1, h2, _⟩ := (searchT_found ks n few).some_ ys h
  have := (mem_tuples (fun h hh => (hv_nonneg hks h hh).1)).1 (show ys ∈ tuples (hv ks) from h1)
  exact ⟨Within.few this fun h hh => (hv_nonneg hks h hh).2, by rw [within_length this, hv_length], h2⟩
theorem implFew_c (ks : List I2) (la : Option Addr) (n : Int) (m : Mem) (hr : RdG v2 2 m la ks) (hn : ks.length ≤ 1048576) (hla : ∀ a, la = some a → a.block < m.length) :
    ACalls Tryd.prog 49 [.slice la ks.length ks.length, .int .i64 n] m (bestV m.length ks n true) (m ++ optM 2 (bestO ks n true)) := by
  refine acalls_of_vc Tryd.func49 rfl Tryd.fol (by kernel_rfl) ?_
  simp only [Tryd.f49]
  simp -dsimp -implicitDefEqProofs
  refine callsTo Tryd.cal92 (kindsCode_c ks la n _ hr hn) ?_
  simp -dsimp -implicitDefEqProofs
  refine ⟨fun g => ?_, fun g => ?_⟩
  · simp at g
    exact GC.eq2 (by simp [bestO, g, optM]) (by simp [bestV, bestN, bestO, bestC, g, optV])
  simp at g
  obtain ⟨hks, _⟩ := codeK_zero g
  obtain ⟨v, m', hcall, hp, hb⟩ := bestTaken_c ks hks la n true 94 Tryd.cal94 (fun a b c d m => fewB_c a b c d m) m hr hla
  have hk4 := kinB_len hks
  cases hbest : (searchT ks n true).best with
  | none =>
    rw [hbest] at hb
    have hv : v = .slice none 0 0 := hb
    subst hv
    refine callsTo Tryd.cal93 hcall ?_
    simp -dsimp -implicitDefEqProofs
    simp only [bestV, bestN, bestO, bestC, g, if_true, hbest, optV, optM, List.append_nil]
    exact GC.dropP hp rfl rfl
  | some ys =>
    rw [hbest] at hb
    obtain ⟨ib, rfl, hib, hob⟩ := hb
    obtain ⟨hfy, hly, _⟩ := reach_found hks hbest
    have hys : RdI m' (some ⟨ib, 0, none⟩) ys := RdI.of_get (o := ⟨ys.map (Value.int .i64), 2, 1, 2⟩) hob (by simp) rfl rfl
    refine callsTo Tryd.cal93 hcall ?_
    simp -dsimp -implicitDefEqProofs
    refine callsTo Tryd.cal95 (sumF_c ys _ _ hys hfy (by omega)) ?_
    simp -dsimp -implicitDefEqProofs
    simp only [bestV, bestN, bestO, bestC, g, if_true, hbest, optV, optM]
    exact GC.keepTP (Fits.refl m) hp hob (by omega) rfl rfl (.inl rfl) rfl (ints_lit _) rfl
theorem bestO_length {ks : List I2} {n : Int} {few : Bool} {ys : List Int} (h : bestO ks n few = some ys) : ys.length = ks.length := by
  unfold bestO at h
  split at h
  · rename_i g; exact (reach_found (codeK_zero g).1 h).2.1
  · cases h
end Go.Proofs.YtmbijgnmbapchaaDoor
namespace Go.Proofs.YtmbijgnmbapchaaDoor
open Go.Abs Go.RowKit

def takeL (ks : List I2) (xs : List Int) : List I2 := List.zipWith (fun p n => (p.1, w64 (p.2 - n))) ks xs
def takeO (ks : List I2) (xs : List Int) : Option (List I2) := if takenC ks xs = 0 then some (takeL ks xs) else none
theorem takeL_length {ks : List I2} {xs : List Int} (h : xs.length = ks.length) : (takeL ks xs).length = ks.length := by simp [takeL, h]
theorem takeL_get {ks : List I2} {xs : List Int} {k : Nat} (h : k < (takeL ks xs).length) (hk : k < ks.length) (hx : k < xs.length) : (takeL ks xs)[k] = (ks[k].1, w64 (ks[k].2 - xs[k])) := by simp [takeL]
theorem v2_lit (p : I2) : (v2 p).all litB = true := rfl

theorem takeO_length {ks zs : List I2} {xs : List Int} (h : takeO ks xs = some zs) : zs.length ≤ ks.length := by
  unfold takeO at h
  split at h
  · rename_i g
    injection h with h; subst h
    rw [takeL_length (takenC_zero g).2.2]; exact Nat.le_refl _
  · cases h
end Go.Proofs.YtmbijgnmbapchaaDoor
namespace Go.Proofs.YtmbijgnmbapchaaDoor
open Go.Abs Go.RowKit Go.Law

theorem a2Long_c (a b : Option Addr) (n k : Nat) (m : Mem) : ACalls Tryd.prog 39 [.slice a n n, .slice b k k] m (.bool (decide ((3000 : Int) < n) || decide ((3000 : Int) < k))) m := by
  refine acalls_of_vc Tryd.func39 rfl Tryd.fol (by kernel_rfl) ?_
  simp only [Tryd.f39]
  simp -dsimp -implicitDefEqProofs
  refine sp2 (fun g => GC.eq (by simp at g; simp [g])) (fun g => GC.eq (by simp at g; simp; omega))
def ValIs (lo hi : Int) (m : Mem) (v : Value) (m' : Mem) : Prop := ∃ x, v = .int .i64 x ∧ (lo ≤ x ∧ x ≤ hi) ∧ m' = m
theorem a2At_c (a : Option Addr) (code : List Int) (i n : Int) (m : Mem) (h : RdB m a code) (hl : code.length ≤ 1048576) (hi : 0 ≤ i) (hn : 1 ≤ n) : ∃ v m', ACalls Tryd.prog 41 [.slice a code.length code.length, .int .i64 i, .int .i64 n] m v m' ∧ ValIs 0 (n - 1) m v m' := by
  by_cases hlt : i < (code.length : Int)
  · obtain ⟨p, rfl⟩ : ∃ p : Nat, i = p := ⟨i.toNat, by omega⟩
    obtain ⟨id, off, o, rfl, hm, hkd, hsz, hc, hb0, hb1⟩ := h.at_ (i := p) (by omega)
    have g1 : ¬ (code.length ≤ p) := by omega
    have g4 : p < code.length := by omega
    have g2 : ¬ (n < 1) := by omega
    have g3 : n ≠ 0 := by omega
    have hw : IntKind.i64.wrap code[p] = code[p] := wrapI (by omega) (by omega)
    refine ecalls_of_vc Tryd.func41 rfl Tryd.fol (by kernel_rfl) ?_
    simp only [Tryd.f41]
    simp -dsimp -implicitDefEqProofs
    simp -dsimp -implicitDefEqProofs [g1, g2, g3, g4, withO_of hm, hkd, hsz, withC_of hc, hw]
    refine ⟨.int .i64 (code[p].tmod n), m, GC.refl _ _ _, code[p].tmod n, rfl, ?_, rfl⟩
    rw [Int.tmod_eq_emod_of_nonneg hb0]
    exact ⟨Int.emod_nonneg _ g3, by have := Int.emod_lt_of_pos code[p] (show 0 < n by omega); omega⟩
  · have g1 : ((code.length : Int) ≤ i) := by omega
    refine ecalls_of_vc Tryd.func41 rfl Tryd.fol (by kernel_rfl) ?_
    simp only [Tryd.f41]
    simp -dsimp -implicitDefEqProofs
    simp -dsimp -implicitDefEqProofs [g1]
    refine ⟨.int .i64 0, m, GC.refl _ _ _, 0, rfl, ?_, rfl⟩
    omega

/-- Kinds as they are drawn: few, of small reach, each kind reaching farther than the one ahead. -/
def SmallK (ks : List I2) : Prop := kinB ks = true ∧ ks.length ≤ 3 ∧ ∀ k ∈ ks, k.1 ≤ 24 ∧ k.2 ≤ 7
def DrawnK (is : Nat) (a : Option Addr) (code : List Int) (k : Int) (m : Mem) (v : Value) (m' : Mem) : Prop :=
  ∃ ks id, SmallK ks ∧ v = .slice (some ⟨id, 0, none⟩) ks.length ks.length ∧ But is m m' ∧ SrcA is a code k m' ∧ m.length ≤ id ∧ ∃ o, m'[id]? = some o ∧ 1 ≤ o.kind ∧ o.kind ≤ 2 ∧ o.sz = 2 ∧ o.elem = 118 ∧ o.cells = (ks.map v2).flatten
theorem kinB_snoc {ks : List I2} {p : I2} (h : kinB ks = true) (h1 : 1 ≤ p.1 ∧ p.1 ≤ 200) (h2 : 0 ≤ p.2 ∧ p.2 ≤ 12) (hl : ks.length + 1 ≤ 4) (hlt : ∀ k ∈ ks, k.1 < p.1) : kinB (ks ++ [p]) = true := by
  simp only [kinB, Bool.and_eq_true, decide_eq_true_eq] at h ⊢
  refine ⟨?_, by simpa using hl⟩
  unfold kinTo at *
  rw [List.all_eq_true] at *
  intro i hi
  simp only [List.length_append, List.length_singleton, List.mem_range] at hi
  by_cases hik : i < ks.length
  · have h0 := h.1 i (by simpa using hik)
    have e1 : (ks ++ [p])[i]? = ks[i]? := List.getElem?_append_left hik
    have e2 : ∀ j, j < i → (ks ++ [p])[j]? = ks[j]? := fun j hj => List.getElem?_append_left (by omega)
    unfold kinAt at *
    rw [e1]
    cases i with
    | zero => exact h0
    | succ i => simp only [e2 i (by omega)] at *; exact h0
  · have e : i = ks.length := by omega
    subst e
    unfold kinAt
    rw [show (ks ++ [p])[ks.length]? = some p by simp]
    cases hk : ks.length with
    | zero => simp [inB]; omega
    | succ n =>
      have hn : n < ks.length := by omega
      have := hlt _ (List.getElem_mem hn)
      simp only [inB, Bool.and_eq_true, decide_eq_true_eq]
      rw [List.getElem?_append_left hn, List.getElem?_eq_getElem hn]
      simp; omega
theorem l18Draw_c (is : Nat) (a : Option Addr) (code : List Int) (k : Int) (hk : k < 800000000) (m : Mem) (h : SrcA is a code k m) :
    ∃ v m', ACalls Tryd.prog 91 [.pointer (some ⟨is, 0, none⟩)] m v m' ∧ DrawnK is a code (k + 100) m v m' := by
  obtain ⟨v1, m1, hc1, x1, rfl, hx1, hb1, hs1, hl1⟩ := pick_c is a code k 8 (by omega) (m ++ [⟨[], 118, 2, 1⟩]) (h.app _)
  obtain ⟨v2, m2, hc2, x2, rfl, hx2, hb2, hs2, hl2⟩ := pick_c is a code (k + 2) 4 (by omega) m1 hs1
  have hw1 : IntKind.i64.wrap (1 + x1) = 1 + x1 := wrapI (by omega) (by omega)
  have his : is < m.length := lt_of_get h.obj.choose_spec.choose_spec.1
  refine ecalls_of_vc Tryd.func91 rfl Tryd.fol (by kernel_rfl) ?_
  simp only [Tryd.f91]
  simp -dsimp -implicitDefEqProofs
  refine callsTo Tryd.cal76 hc1 ?_
  simp -dsimp -implicitDefEqProofs [hw1]
  refine callsTo Tryd.cal76 hc2 ?_
  simp -dsimp -implicitDefEqProofs [hw1]
  have hid1 : m2[m.length]? = some ⟨[], 118, 2, 1⟩ := hb2.get _ _ (by omega) (hb1.get _ _ (by omega) (by simp))
  refine loopN x2.toNat (fun j σ m' => ∃ (ks : List I2) (id : Nat) (reach : Int) (o : AObj), (ks.length = j ∧ kinB ks = true ∧ (∀ p ∈ ks, p.1 < reach ∧ p.1 ≤ 24 ∧ p.2 ≤ 7) ∧ 1 ≤ reach ∧ reach ≤ 8 + 8 * j) ∧ (But is m m' ∧ SrcA is a code (k + 4 + 4 * j) m' ∧ m.length ≤ id) ∧
      (m'[id]? = some o ∧ 1 ≤ o.kind ∧ o.kind ≤ 2 ∧ o.sz = 2 ∧ o.elem = 118 ∧ o.cells = (ks.map v2).flatten) ∧ σ 0 = some (.pointer (some ⟨is, 0, none⟩)) ∧ σ 3 = some (.slice (some ⟨id, 0, none⟩) j j) ∧ σ 4 = some (.int .i64 reach) ∧ σ 5 = some (.int .i64 (x2 - j)))
    ⟨[], m.length, 1 + x1, _, ⟨rfl, rfl, by simp, by omega, by omega⟩, ⟨((But.app is m _).trans hb1).trans hb2, hs2.mono (by omega), Nat.le_refl _⟩, ⟨hid1, by simp, by simp, rfl, rfl, rfl⟩, by simp, by simp, by simp, by simp⟩ ?_
  rintro j σ m' hj ⟨ks, id, reach, o, ⟨rfl, hks, hsm, hr1, hr2⟩, ⟨hbut, hsrc, hid⟩, ⟨ho, ho1, ho2, ho3, ho4, ho5⟩, s0, s3, s4, s5⟩
  simp at hx2
  by_cases hlt : ks.length < x2.toNat
  · have g1 : (ks.length : Int) < x2 := by omega
    have hne : id ≠ is := by omega
    obtain ⟨v3, m3, hc3, x3, rfl, hx3, hb3, hs3, hl3⟩ := pick_c is a code (k + 4 + 4 * ks.length) 8 (by omega) m' hsrc
    simp at hx3
    have hmade : madeCells #[.int .i64 0, .int .i64 0] 2 = #[.int .i64 0, .int .i64 0] := by
      have := made_rows #[.int .i64 0, .int .i64 0] 1 (by simp)
      exact Array.toList_inj.1 (by simpa using this)
    simp -dsimp -implicitDefEqProofs [s0, s3, s4, s5, g1, hmade]
    refine callsTo Tryd.cal76 hc3 ?_
    simp -dsimp -implicitDefEqProofs [s0, s3, s4, s5, g1, hmade]
    have ho' := hb3.get _ _ hne ho
    refine appTo_grow (e := 118) (sz := 2) (by_ := 16) (z := .agg #[.int .i64 0, .int .i64 0]) (by kernel_rfl) (by kernel_rfl) ⟨by decide, rfl⟩ (o := o) (get_old ho') ⟨ho1, ho2⟩ ⟨ho3, ho4⟩ (by rw [ho5, flatten_length (sz := 2) (by intro r hr; obtain ⟨x, _, rfl⟩ := List.mem_map.1 hr; rfl), List.length_map]) (by omega) (Src.obj (o := ⟨[.int .i64 reach, .int .i64 x3], 118, 2, 1⟩) (by simp) (by simp) rfl rfl) ?_
    intro m4 id4 hg
    have hs4 : SrcA is a code (k + 4 + 4 * ks.length + 2) m4 := by
      have hb4 : But id (m3 ++ [⟨[.int .i64 reach, .int .i64 x3], 118, 2, 1⟩]) m4 := ⟨by have := hg.len; omega, fun i o' h1 h2 => hg.old i o' h1 h2⟩
      exact (hs3.app _).keep hb4 (Ne.symm hne) (fun h0 x hx => by have := hs3.off h0 x hx; omega)
    obtain ⟨v5, m5, hc5, x5, rfl, hx5, hb5, hs5, hl5⟩ := pick_c is a code (k + 4 + 4 * ks.length + 2) 8 (by omega) m4 hs4
    simp at hx5
    simp -dsimp -implicitDefEqProofs [s0, s3, s4, s5, g1, hmade]
    have hwr : IntKind.i64.wrap (1 + x5) = 1 + x5 := wrapI (by omega) (by omega)
    have hwr2 : IntKind.i64.wrap (reach + (1 + x5)) = reach + (1 + x5) := wrapI (by omega) (by omega)
    have hw5 : IntKind.i64.wrap (x2 - (ks.length : Int) - 1) = x2 - ((ks.length : Int) + 1) := by rw [wrapI (by omega) (by omega)]; omega
    refine callsTo Tryd.cal76 hc5 ?_
    simp -dsimp -implicitDefEqProofs [s0, s3, s4, s5, g1, hmade, hwr, hwr2, hw5]
    refine next_ hlt ⟨ks ++ [(reach, x3)], id4, reach + (1 + x5), _, ⟨by simp, kinB_snoc hks (by omega) (by omega) (by omega) (fun p hp => (hsm p hp).1), ?_, by omega, by omega⟩, ⟨?_, hs5.mono (by omega), by rw [hg.at_]; simp; have := hb3.len; have := hbut.len; omega⟩,
      ⟨hb5.get _ _ (by rw [hg.at_]; simp; have := hb3.len; have := hbut.len; omega) hg.new, by simp, by simp, rfl, rfl, ?_⟩, by simp [s0], by simp, by simp [hwr2], by simp [hw5]⟩
    · intro p hp
      rcases List.mem_append.1 hp with hp | hp
      · have := hsm p hp; omega
      · simp at hp; subst hp; simp; omega
    · have h13 := hbut.trans hb3
      refine But.trans ⟨by have := hg.len; have := h13.len; simp at *; omega, fun i o' h1 h2 => ?_⟩ hb5
      exact hg.old i o' (by have := lt_of_get h2; omega) (get_old (h13.get i o' h1 h2))
    · simp [ho5, v2]
  · have g1 : ¬ (ks.length : Int) < x2 := by omega
    simp -dsimp -implicitDefEqProofs [s0, s3, s4, s5, g1]
    exact ⟨_, _, GC.refl _ _ _, ks, id, ⟨hks, by omega, fun p hp => (hsm p hp).2⟩, rfl, hbut, hsrc.mono (by omega), hid, o, ho, ho1, ho2, ho3, ho4, ho5⟩
def DrawnX (ks : List I2) (m : Mem) (v : Value) (m' : Mem) : Prop :=
  ∃ (xs : List Int) (id : Nat), (xs.length = ks.length ∧ ∀ (i : Nat) (h : i < xs.length) (h' : i < ks.length), 0 ≤ xs[i] ∧ xs[i] ≤ ks[i].2) ∧ v = .slice (some ⟨id, 0, none⟩) xs.length xs.length ∧ m <+: m' ∧ m.length ≤ id ∧ ∃ o, m'[id]? = some o ∧ 1 ≤ o.kind ∧ o.kind ≤ 2 ∧ o.sz = 1 ∧ o.cells = xs.map (Value.int .i64)
def DrawnL (m : Mem) (v : Value) (m' : Mem) : Prop :=
  ∃ ks id, SmallK ks ∧ v = .slice (some ⟨id, 0, none⟩) ks.length ks.length ∧ m <+: m' ∧ m.length ≤ id ∧ ∃ o, m'[id]? = some o ∧ 1 ≤ o.kind ∧ o.kind ≤ 2 ∧ o.sz = 2 ∧ o.cells = (ks.map v2).flatten
theorem a2Kinds_c (a : Option Addr) (code : List Int) (m : Mem) (h : RdB m a code) (hl : code.length ≤ 1048576) :
    ∃ v m', ACalls Tryd.prog 48 [.slice a code.length code.length] m v m' ∧ DrawnL m v m' := by
  obtain ⟨v, m', hc, ks, id, hks, rfl, hbut, hsrc, hid, o, ho, h1, h2, h3, h4, h5⟩ := l18Draw_c m.length a code 0 (by omega) _ (srcNew h hl)
  refine ecalls_of_vc Tryd.func48 rfl Tryd.fol (by kernel_rfl) ?_
  simp only [Tryd.f48]
  simp -dsimp -implicitDefEqProofs
  refine callsTo Tryd.cal75 (l00From_c a code m) ?_
  simp -dsimp -implicitDefEqProofs
  refine callsTo Tryd.cal91 hc ?_
  simp -dsimp -implicitDefEqProofs
  refine ⟨_, _, GC.refl _ _ _, ks, id, hks, rfl, hbut.pre ⟨_, rfl⟩ (Nat.le_refl _), ?_, o, ho, h1, h2, h3, h5⟩
  simp at hid; omega
theorem a2Taken_c (a : Option Addr) (code : List Int) (ks : List I2) (hks : SmallK ks) (la : Option Addr) (m : Mem) (h : RdB m a code) (hl : code.length ≤ 1048576) (hr : RdG v2 2 m la ks) (hla : ∀ x, la = some x → x.block < m.length) :
    ∃ v m', ACalls Tryd.prog 52 [.slice a code.length code.length, .slice la ks.length ks.length] m v m' ∧ DrawnX ks m v m' := by
  obtain ⟨hks1, hks2, hks3⟩ := hks
  have hsrc0 := (srcNew h hl).app [⟨[], 2, 1, 1⟩]
  refine ecalls_of_vc Tryd.func52 rfl Tryd.fol (by kernel_rfl) ?_
  simp only [Tryd.f52]
  simp -dsimp -implicitDefEqProofs
  refine callsTo Tryd.cal75 (l00From_c a code m) ?_
  simp -dsimp -implicitDefEqProofs
  refine loopN ks.length (fun j σ m' => ∃ (xs : List Int) (id : Nat) (o : AObj), (xs.length = j ∧ ∀ (i : Nat) (h : i < xs.length) (h' : i < ks.length), 0 ≤ xs[i] ∧ xs[i] ≤ ks[i].2) ∧ (m <+: m' ∧ SrcA m.length a code (2 * j) m' ∧ m.length + 1 ≤ id) ∧
      (m'[id]? = some o ∧ 1 ≤ o.kind ∧ o.kind ≤ 2 ∧ o.sz = 1 ∧ o.elem = 2 ∧ o.cells = xs.map (Value.int .i64)) ∧ σ 1 = some (.slice la ks.length ks.length) ∧ σ 5 = some (.pointer (some ⟨m.length, 0, none⟩)) ∧ σ 6 = some (.slice (some ⟨id, 0, none⟩) j j) ∧ σ 7 = some (.int .i64 j))
    ⟨[], m.length + 1, _, ⟨rfl, by simp⟩, ⟨⟨_, rfl⟩, by simpa using hsrc0, Nat.le_refl _⟩, ⟨by simp; rfl, by simp, by simp, rfl, rfl, rfl⟩, by simp, by simp, by simp, by simp⟩ ?_
  rintro j σ m' hj ⟨xs, id, o, ⟨rfl, hxs⟩, ⟨hp, hsrc, hid⟩, ⟨ho, ho1, ho2, ho3, ho4, ho5⟩, s1, s5, s6, s7⟩
  by_cases hlt : xs.length < ks.length
  · obtain ⟨kid, koff, ko, rfl, hm, hkd, hsz, hl0, hrow, hc0, hc1⟩ := R2.at_ (hr.pre hp) hlt
    obtain ⟨_, _, hH0, hH1⟩ := kinB_at hks1 hlt
    have hw1 : IntKind.i64.wrap (ks[xs.length].2 + 1) = ks[xs.length].2 + 1 := wrapI (by omega) (by omega)
    have hw7 : IntKind.i64.wrap ((xs.length : Int) + 1) = xs.length + 1 := wrapI (by omega) (by omega)
    obtain ⟨v3, m3, hc3, x3, rfl, hx3, hb3, hs3, hl3⟩ := pick_c m.length a code (2 * xs.length) (ks[xs.length].2 + 1) (by omega) m' hsrc
    have hx3' : 0 ≤ x3 ∧ x3 ≤ ks[xs.length].2 := by
      split at hx3 <;> omega
    simp -dsimp -implicitDefEqProofs [s1, s5, s6, s7, hlt, withO_of hm, hkd, hsz, withC_of hc1, hw1, hw7]
    refine callsTo Tryd.cal76 hc3 ?_
    simp -dsimp -implicitDefEqProofs [s1, s5, s6, s7, hlt, withO_of hm, hkd, hsz, withC_of hc1, hw1, hw7]
    have hne : id ≠ m.length := by omega
    have ho' := hb3.get _ _ hne ho
    refine appTo_grow (e := 2) (sz := 1) (by_ := 8) (z := .int .i64 0) (by kernel_rfl) (by kernel_rfl) ⟨by decide, rfl⟩ (o := o) (get_old ho') ⟨ho1, ho2⟩ ⟨ho3, ho4⟩ (by rw [ho5]; simp) (by omega) (Src.obj (o := ⟨[.int .i64 x3], 2, 1, 1⟩) (by simp) (by simp) rfl rfl) ?_
    intro m4 id4 hg
    have hb4 : But id (m3 ++ [⟨[.int .i64 x3], 2, 1, 1⟩]) m4 := ⟨by have := hg.len; omega, fun i o' h1 h2 => hg.old i o' h1 h2⟩
    have hp3 := hb3.pre hp (Nat.le_refl _)
    simp -dsimp -implicitDefEqProofs [s1, s5, s6, s7, hlt, withO_of hm, hkd, hsz, withC_of hc1, hw1, hw7]
    refine next_ hlt ⟨xs ++ [x3], id4, _, ⟨by simp, ?_⟩, ⟨hg.pre m (pre_app hp3 _) (by omega), ((hs3.app _).keep hb4 (Ne.symm hne) (fun h0 x hx => by have := hs3.off h0 x hx; omega)).mono (by omega), by rw [hg.at_]; simp; have := hb3.len; have := lt_of_get ho; omega⟩,
      ⟨hg.new, by simp, by simp, rfl, rfl, by simp [ho5]⟩, by simp [s1], by simp [s5], by simp, by simp [hw7]⟩
    intro i hi hi'
    by_cases hix : i < xs.length
    · rw [List.getElem_append_left hix]; exact hxs i hix hi'
    · have : i = xs.length := by simp at hi; omega
      subst this
      simpa using hx3'
  · simp -dsimp -implicitDefEqProofs [s1, s5, s6, s7, hlt]
    exact ⟨_, _, GC.refl _ _ _, xs, id, ⟨by omega, hxs⟩, rfl, hp, by omega, o, ho, ho1, ho2, ho3, ho5⟩
end Go.Proofs.YtmbijgnmbapchaaDoor
namespace Go.Proofs.YtmbijgnmbapchaaDoor
open Go.Abs Go.RowKit Go.Law

theorem SmallK.bounds {ks : List I2} (h : SmallK ks) : ∀ k ∈ ks, (1 ≤ k.1 ∧ k.1 ≤ 24) ∧ 0 ≤ k.2 ∧ k.2 ≤ 7 := fun k hk => by
  obtain ⟨i, hi, rfl⟩ := List.getElem_of_mem hk
  have h1 := kinB_at h.1 hi
  have h2 := h.2.2 _ (List.getElem_mem hi)
  omega
theorem allW_from : ∀ (ks : List I2) (s : Int), (∀ k ∈ ks, (1 ≤ k.1 ∧ k.1 ≤ 24) ∧ 0 ≤ k.2 ∧ k.2 ≤ 7) → 0 ≤ s → s + 168 * (ks.length : Int) ≤ 1000000 →
    ks.foldl (fun s p => w64 (s + w64 (p.1 * p.2))) s = s + reachT ks (hv ks) ∧ 0 ≤ reachT ks (hv ks) ∧ reachT ks (hv ks) ≤ 168 * (ks.length : Int)
  | [], s, _, _, _ => by simp [reachT, hv]
  | k :: ks, s, h, hs, hb => by
    obtain ⟨⟨a1, a2⟩, b1, b2⟩ := h k (by simp)
    have p0 : 0 ≤ k.1 * k.2 := Int.mul_nonneg (by omega) b1
    have p1 : k.1 * k.2 ≤ 24 * 7 := Int.mul_le_mul a2 b2 b1 (by omega)
    simp only [List.length_cons] at hb
    have hw : w64 (s + w64 (k.1 * k.2)) = s + k.1 * k.2 := by
      unfold w64
      rw [wrapI (x := k.1 * k.2) (by omega) (by omega), wrapI (by omega) (by omega)]
    obtain ⟨h1, h2, h3⟩ := allW_from ks (s + k.1 * k.2) (fun x hx => h x (by simp [hx])) (by omega) (by omega)
    rw [List.foldl_cons, hw, h1]
    have e : reachT (k :: ks) (hv (k :: ks)) = k.1 * k.2 + reachT ks (hv ks) := by simp [reachT, hv, Int.mul_comm]
    rw [e, List.length_cons]
    omega
theorem allW_eq {ks : List I2} (h : SmallK ks) : allW ks = reachT ks (hv ks) ∧ 0 ≤ reachT ks (hv ks) ∧ reachT ks (hv ks) ≤ 504 := by
  have := allW_from ks 0 h.bounds (by omega) (by have := h.2.1; omega)
  have h3 := h.2.1
  unfold allW
  omega
theorem within_of {ks : List I2} {xs : List Int} (hl : xs.length = ks.length) (h : ∀ (i : Nat) (h : i < xs.length) (h' : i < ks.length), 0 ≤ xs[i] ∧ xs[i] ≤ ks[i].2) : Within (hv ks) xs := by
  induction ks generalizing xs with
  | nil => cases xs with
    | nil => trivial
    | cons _ _ => simp at hl
  | cons k ks ih => cases xs with
    | nil => simp at hl
    | cons x xs =>
      refine ⟨h 0 (by simp) (by simp), ih (by simpa using hl) fun i hi hi' => ?_⟩
      have := h (i + 1) (by simp; omega) (by simp; omega)
      simpa using this
theorem within_hv : ∀ {ks : List I2}, (∀ k ∈ ks, 0 ≤ k.2) → Within (hv ks) (hv ks)
  | [], _ => trivial
  | k :: ks, h => ⟨⟨h k (by simp), Int.le_refl _⟩, within_hv fun x hx => h x (by simp [hx])⟩
theorem reach_le : ∀ {ks : List I2} {xs : List Int}, (∀ k ∈ ks, 0 ≤ k.1) → Within (hv ks) xs → reachT ks xs ≤ reachT ks (hv ks)
  | [], xs, _, _ => by cases xs <;> simp [reachT, hv]
  | k :: ks, [], _, hw => hw.elim
  | k :: ks, x :: xs, h, hw => by
    have h1 := reach_le (ks := ks) (xs := xs) (fun y hy => h y (by simp [hy])) hw.2
    have h2 : x * k.1 ≤ k.2 * k.1 := Int.mul_le_mul_of_nonneg_right hw.1.2 (h k (by simp))
    have e : reachT (k :: ks) (hv (k :: ks)) = k.2 * k.1 + reachT ks (hv ks) := by simp [reachT, hv]
    rw [e]; simp only [reachT]; omega
theorem tuples_length : ∀ {hs : List Int}, (∀ h ∈ hs, 0 ≤ h ∧ h ≤ 7) → (tuples hs).length ≤ 8 ^ hs.length
  | [], _ => by simp [tuples]
  | h :: hs, hh => by
    have ih := tuples_length (hs := hs) fun x hx => hh x (by simp [hx])
    have h1 := hh h (by simp)
    have e : (tuples (h :: hs)).length = (upTo h).length * (tuples hs).length := by
      simp only [tuples, List.length_flatMap, List.length_map]
      rw [List.map_const', List.sum_replicate_nat]
    have hl : (upTo h).length ≤ 8 := by simp [upTo]; omega
    rw [e, List.length_cons, Nat.pow_succ, Nat.mul_comm]
    exact Nat.mul_le_mul ih hl

section
variable {ks : List I2} (hks : SmallK ks) {n : Int}
include hks
theorem mem_all {xs : List Int} : xs ∈ tuples (ks.map (·.2)) ↔ Within (hv ks) xs := mem_tuples (fun h hh => (hv_nonneg hks.1 h hh).1)
theorem best_none (h : (searchT ks n false).best = none) : reachT ks (hv ks) < n := by
  have h1 := (searchT_found ks n false).none_ h (hv ks) ((mem_all hks).2 (within_hv fun k hk => (hks.bounds k hk).2.1))
  omega
theorem best_some {b : List Int} (h : (searchT ks n false).best = some b) : Within (hv ks) b ∧ n ≤ reachT ks b ∧ reachT ks b ≤ reachT ks (hv ks) ∧ ∀ xs, Within (hv ks) xs → n ≤ reachT ks xs → reachT ks b ≤ reachT ks xs := by
  obtain ⟨h1, h2, h3⟩ := (searchT_found ks n false).some_ b h
  have hw := (mem_all hks).1 h1
  refine ⟨hw, h2, reach_le (fun k hk => by have := (hks.bounds k hk).1; omega) hw, fun xs hxs hn => ?_⟩
  have := h3 xs ((mem_all hks).2 hxs) hn
  simp [betterT] at this
  omega
theorem ways_pos : w64 (searchT ks n true).ways = (searchT ks n true).ways ∧ 0 ≤ (searchT ks n true).ways ∧ (0 < (searchT ks n true).ways ↔ ∃ xs, Within (hv ks) xs ∧ reachT ks xs = n) := by
  have hw := (searchT_found ks n true).ways
  have hl := tuples_length (hs := ks.map (·.2)) fun h hh => by
    obtain ⟨k, hk, rfl⟩ := List.mem_map.1 hh
    have := hks.bounds k hk; omega
  have hf := List.length_filter_le (fun xs => decide (reachT ks xs = n)) (tuples (ks.map (·.2)))
  have h8 : 8 ^ (ks.map (·.2)).length ≤ 8 ^ 3 := Nat.pow_le_pow_right (by omega) (by simpa using hks.2.1)
  have hb : (searchT ks n true).ways ≤ 512 := by rw [hw]; omega
  refine ⟨?_, by rw [hw]; omega, ?_⟩
  · unfold w64
    exact wrapI (by rw [hw]; omega) (by omega)
  · rw [hw]
    constructor
    · intro h
      have : 0 < (List.filter (fun xs => decide (reachT ks xs = n)) (tuples (ks.map (·.2)))).length := by omega
      obtain ⟨xs, hxs⟩ := List.exists_mem_of_length_pos this
      have := List.mem_filter.1 hxs
      exact ⟨xs, (mem_all hks).1 this.1, by simpa using this.2⟩
    · rintro ⟨xs, hxs, he⟩
      have : 0 < (List.filter (fun xs => decide (reachT ks xs = n)) (tuples (ks.map (·.2)))).length := List.length_pos_of_mem (List.mem_filter.2 ⟨(mem_all hks).2 hxs, by simpa using he⟩)
      omega
end
theorem takenC_ok {ks : List I2} (hks : kinB ks = true) {xs : List Int} (hl : xs.length = ks.length) (h : ∀ (i : Nat) (h : i < xs.length) (h' : i < ks.length), 0 ≤ xs[i] ∧ xs[i] ≤ ks[i].2) : takenC ks xs = 0 := by
  have : takenTo ks xs xs.length = true := by
    unfold takenTo
    rw [List.all_eq_true]
    intro i hi
    have hi' : i < xs.length := by simpa using hi
    rw [getD_lt hi', getD_lt (by omega)]
    have := h i hi' (by omega)
    simp [inB]; omega
  simp [takenC, hks, takenB_of hl this]
theorem within_get : ∀ {ks : List I2} {xs : List Int}, Within (hv ks) xs → ∀ (i : Nat) (h : i < xs.length) (h' : i < ks.length), 0 ≤ xs[i] ∧ xs[i] ≤ ks[i].2
  | [], _, _ => fun i h h' => by simp at h'
  | _ :: _, [], hw => hw.elim
  | k :: ks, x :: xs, hw => fun i h h' => by
    cases i with
    | zero => exact hw.1
    | succ i => simpa using within_get hw.2 i (by simpa using h) (by simpa using h')
end Go.Proofs.YtmbijgnmbapchaaDoor
