/-
  Kinds, part 3: over how many stakes rods reach. Conditions: none.
-/
import Derived.Test.YtlhcepcgjnlopaaKinB
import Derived.Test.YtlhcepcgjnlopaaLawRods
set_option linter.unusedSimpArgs false
set_option linter.unusedVariables false
set_option linter.unusedSectionVars false
namespace Go.Proofs.Ytlhcepcgjnlopaa
open Go.Abs Go.RowKit

abbrev w64 (x : Int) : Int := IntKind.i64.wrap x
theorem fold_take {α β : Type} (f : β → α → β) (a : β) {xs : List α} {k : Nat} (h : k < xs.length) : (xs.take (k + 1)).foldl f a = f ((xs.take k).foldl f a) xs[k] := by
  rw [List.take_add_one, List.getElem?_eq_getElem h, List.foldl_append]; rfl
def allW (xs : List I2) : Int := xs.foldl (fun s p => w64 (s + w64 (p.1 * p.2))) 0
def allV (xs : List I2) : Value := .tuple #[.int .i64 (if kinB xs then allW xs else 0), .int .i64 (if kinB xs then 0 else 1)]

theorem l18All_c (xs : List I2) (a : Option Addr) (m : Mem) (hr : RdG v2 2 m a xs) (hn : xs.length ≤ 1048576) : ACalls Try.prog 49 [.slice a xs.length xs.length] m (.int .i64 (allW xs)) m := by
  refine acalls_of_vc Try.func49 rfl Try.fol (by kernel_rfl) ?_
  simp only [Try.f49]
  simp -dsimp -implicitDefEqProofs
  refine loopN xs.length (fun k σ m' => m' = m ∧ σ 0 = some (.slice a xs.length xs.length) ∧ σ 3 = some (.int .i64 (allW (xs.take k))) ∧ σ 4 = some (.int .i64 k)) ⟨rfl, by simp [allW]⟩ ?_
  rintro k σ m' hk ⟨rfl, s0, s3, s4⟩
  by_cases hlt : k < xs.length
  · obtain ⟨id, off, o, rfl, hm, hkd, hsz, hl, hrow, hc0, hc1⟩ := R2.at_ hr hlt
    have hw : IntKind.i64.wrap ((k : Int) + 1) = k + 1 := wrapI (by omega) (by omega)
    simp -dsimp -implicitDefEqProofs [s0, s3, s4, hlt, withO_of hm, hkd, hsz, withC_of hc0, withC_of hc1, hw]
    refine next_ hlt ⟨rfl, by simp [s0, hw, allW, fold_take _ _ hlt, Int.mul_comm]⟩
  · simp -dsimp -implicitDefEqProofs [s0, s3, s4, hlt]
    rw [List.take_of_length_le (by omega)]
    exact GC.refl _ _ _
theorem allReach_c (xs : List I2) (a : Option Addr) (m : Mem) (hr : RdG v2 2 m a xs) (hn : xs.length ≤ 1048576) : ACalls Try.prog 50 [.slice a xs.length xs.length] m (.int .i64 (allW xs)) m := by
  refine acalls_of_vc Try.func50 rfl Try.fol (by kernel_rfl) ?_
  simp only [Try.f50]
  simp -dsimp -implicitDefEqProofs
  refine loopN xs.length (fun k σ m' => m <+: m' ∧ σ 6 = some (.slice a xs.length xs.length) ∧ σ 7 = some (.int .i64 xs.length) ∧ σ 3 = some (.int .i64 (allW (xs.take k))) ∧ σ 8 = some (.int .i64 k)) ⟨pre_refl m, by simp [allW]⟩ ?_
  rintro k σ m' hk ⟨hp, s6, s7, s3, s8⟩
  by_cases hlt : k < xs.length
  · obtain ⟨id, off, o, rfl, hm, hkd, hsz, hl, hrow, hc0, hc1⟩ := R2.at_ hr hlt
    have hw : IntKind.i64.wrap ((k : Int) + 1) = k + 1 := wrapI (by omega) (by omega)
    have hm' := prefix_get hp hm
    simp -dsimp -implicitDefEqProofs [s6, s7, s3, s8, hlt, withO_of hm', fun l => withO_of (get_old (l := l) hm'), hkd, hsz, hl, hrow, v2, hw]
    refine next_ hlt ⟨pre_app hp _, by simp [s6, s7, hw, allW, fold_take _ _ hlt]⟩
  · simp -dsimp -implicitDefEqProofs [s6, s7, s3, s8, hlt]
    rw [List.take_of_length_le (by omega)]
    exact GC.dropP hp rfl rfl
theorem specAll_c (xs : List I2) (a : Option Addr) (m : Mem) (hr : RdG v2 2 m a xs) (hn : xs.length ≤ 1048576) : ACalls Try.prog 20 [.slice a xs.length xs.length] m (allV xs) m := by
  refine acalls_of_vc Try.func20 rfl Try.fol (by kernel_rfl) ?_
  simp only [Try.f20]
  simp -dsimp -implicitDefEqProofs
  refine callsTo Try.cal44 (l18Ok_c xs a _ hr hn) ?_
  simp -dsimp -implicitDefEqProofs
  refine ⟨fun g => GC.eq (by simp at g; simp [allV, g]), fun g => ?_⟩
  refine callsTo Try.cal49 (l18All_c xs a _ hr hn) ?_
  simp -dsimp -implicitDefEqProofs
  exact GC.eq (by simp at g; simp [allV, g])
theorem implAll_c (xs : List I2) (a : Option Addr) (m : Mem) (hr : RdG v2 2 m a xs) (hn : xs.length ≤ 1048576) : ACalls Try.prog 21 [.slice a xs.length xs.length] m (allV xs) m := by
  refine acalls_of_vc Try.func21 rfl Try.fol (by kernel_rfl) ?_
  simp only [Try.f21]
  simp -dsimp -implicitDefEqProofs
  refine callsTo Try.cal16 (implKinds_c xs a _ hr hn) ?_
  simp -dsimp -implicitDefEqProofs
  refine ⟨fun g => GC.eq (by simp at g; simp [allV, g]), fun g => ?_⟩
  refine callsTo Try.cal50 (allReach_c xs a _ hr hn) ?_
  simp -dsimp -implicitDefEqProofs
  exact GC.eq (by simp at g; simp [allV, g])

theorem l06Stakes_c (n : Int) (m : Mem) : ACalls Try.prog 51 [.int .i64 n] m (.bool (inB n 3 60)) m := by
  refine acalls_of_vc Try.func51 rfl Try.fol (by kernel_rfl) ?_
  simp only [Try.f51]
  simp -dsimp -implicitDefEqProofs
  refine callsTo Try.cal68 (l00In_c _ _ _ _) ?_
  simp -dsimp -implicitDefEqProofs
  exact GC.refl _ _ _
theorem areStakes_c (n : Int) (m : Mem) : ACalls Try.prog 52 [.int .i64 n] m (.bool (inB n 3 60)) m := by
  refine acalls_of_vc Try.func52 rfl Try.fol (by kernel_rfl) ?_
  simp only [Try.f52]
  simp -dsimp -implicitDefEqProofs
  refine callsTo Try.cal46 (within_c _ _ _ _) ?_
  simp -dsimp -implicitDefEqProofs
  exact GC.refl _ _ _
def roundsC (xs : List I2) (n : Int) : Int := if kinB xs then (if inB n 3 60 then 0 else 2) else 1
def roundsV (xs : List I2) (n : Int) : Value := .tuple #[.int .i64 (if roundsC xs n = 0 then w64 ((allW xs).tdiv n) else 0), .int .i64 (roundsC xs n)]
theorem specRounds_c (xs : List I2) (a : Option Addr) (n : Int) (m : Mem) (hr : RdG v2 2 m a xs) (hn : xs.length ≤ 1048576) : ACalls Try.prog 22 [.slice a xs.length xs.length, .int .i64 n] m (roundsV xs n) m := by
  refine acalls_of_vc Try.func22 rfl Try.fol (by kernel_rfl) ?_
  simp only [Try.f22]
  simp -dsimp -implicitDefEqProofs
  refine callsTo Try.cal44 (l18Ok_c xs a _ hr hn) ?_
  simp -dsimp -implicitDefEqProofs
  refine ⟨fun g => GC.eq (by simp at g; simp [roundsV, roundsC, g]), fun g => ?_⟩
  simp at g
  refine callsTo Try.cal51 (l06Stakes_c _ _) ?_
  simp -dsimp -implicitDefEqProofs
  refine ⟨fun g' => GC.eq (by simp at g'; simp [roundsV, roundsC, g, g']), fun g' => ?_⟩
  simp at g'
  have hn0 : n ≠ 0 := by rintro rfl; simp [inB] at g'
  refine callsTo Try.cal49 (l18All_c xs a _ hr hn) ?_
  simp -dsimp -implicitDefEqProofs [hn0]
  exact GC.eq (by simp [roundsV, roundsC, g, g'])
theorem implRounds_c (xs : List I2) (a : Option Addr) (n : Int) (m : Mem) (hr : RdG v2 2 m a xs) (hn : xs.length ≤ 1048576) : ACalls Try.prog 23 [.slice a xs.length xs.length, .int .i64 n] m (roundsV xs n) m := by
  refine acalls_of_vc Try.func23 rfl Try.fol (by kernel_rfl) ?_
  simp only [Try.f23]
  simp -dsimp -implicitDefEqProofs
  refine callsTo Try.cal16 (implKinds_c xs a _ hr hn) ?_
  simp -dsimp -implicitDefEqProofs
  refine ⟨fun g => GC.eq (by simp at g; simp [roundsV, roundsC, g]), fun g => ?_⟩
  simp at g
  refine callsTo Try.cal52 (areStakes_c _ _) ?_
  simp -dsimp -implicitDefEqProofs
  refine ⟨fun g' => GC.eq (by simp at g'; simp [roundsV, roundsC, g, g']), fun g' => ?_⟩
  simp at g'
  have hn0 : n ≠ 0 := by rintro rfl; simp [inB] at g'
  refine callsTo Try.cal50 (allReach_c xs a _ hr hn) ?_
  simp -dsimp -implicitDefEqProofs [hn0]
  exact GC.eq (by simp [roundsV, roundsC, g, g'])

/-- Over how many stakes taken rods reach, the first k kinds of them. -/
def reachTo (ks : List I2) (xs : List Int) : Nat → Int
  | 0 => 0
  | k + 1 => w64 (reachTo ks xs k + w64 (xs.getD k 0 * (ks.getD k (0, 0)).1))
def reachW (ks : List I2) (xs : List Int) : Int := reachTo ks xs xs.length
/-- Taken rods are as told, the first k kinds of them. -/
def takenTo (ks : List I2) (xs : List Int) (k : Nat) : Bool := (List.range k).all fun i => inB (xs.getD i 0) 0 (ks.getD i (0, 0)).2
def takenB (ks : List I2) (xs : List Int) : Bool := decide (xs.length = ks.length) && takenTo ks xs xs.length
theorem takenTo_succ {ks : List I2} {xs : List Int} {k : Nat} (h : takenTo ks xs k = true) (h' : inB (xs.getD k 0) 0 (ks.getD k (0, 0)).2 = true) : takenTo ks xs (k + 1) = true := by
  unfold takenTo at *
  rw [List.range_succ, List.all_append, h]; simpa using h'
theorem takenB_false {ks : List I2} {xs : List Int} {k : Nat} (hk : k < xs.length) (h' : inB (xs.getD k 0) 0 (ks.getD k (0, 0)).2 = false) : takenB ks xs = false := by
  have : takenTo ks xs xs.length = false := by
    unfold takenTo
    rw [List.all_eq_false]
    exact ⟨k, by simpa using hk, by simpa using h'⟩
  simp [takenB, this]
theorem takenB_of {ks : List I2} {xs : List Int} (h : xs.length = ks.length) (h' : takenTo ks xs xs.length = true) : takenB ks xs = true := by rw [takenB, h']; simp [h]
theorem getD_lt {α : Type} {xs : List α} {k : Nat} {d : α} (h : k < xs.length) : xs.getD k d = xs[k] := by simp [List.getD_eq_getElem?_getD, List.getElem?_eq_getElem h]
theorem reachTo_succ {ks : List I2} {xs : List Int} {k : Nat} (h : k < xs.length) (h' : k < ks.length) : reachTo ks xs (k + 1) = w64 (reachTo ks xs k + w64 (xs[k] * ks[k].1)) := by
  simp only [reachTo, getD_lt h, getD_lt h']

theorem reachOf_c (ks : List I2) (xs : List Int) (a b : Option Addr) (m : Mem) (hr : RdG v2 2 m a ks) (hs : RdI m b xs) (hn : xs.length ≤ 1048576) (hl : xs.length ≤ ks.length) :
    ACalls Try.prog 55 [.slice a ks.length ks.length, .slice b xs.length xs.length] m (.int .i64 (reachW ks xs)) m := by
  refine acalls_of_vc Try.func55 rfl Try.fol (by kernel_rfl) ?_
  simp only [Try.f55]
  simp -dsimp -implicitDefEqProofs
  refine loopN xs.length (fun k σ m' => m' = m ∧ σ 0 = some (.slice a ks.length ks.length) ∧ σ 8 = some (.slice b xs.length xs.length) ∧ σ 9 = some (.int .i64 xs.length) ∧ σ 5 = some (.int .i64 (reachTo ks xs k)) ∧ σ 10 = some (.int .i64 k)) ⟨rfl, by simp [reachTo]⟩ ?_
  rintro k σ m' hk ⟨rfl, s0, s8, s9, s5, s10⟩
  by_cases hlt : k < xs.length
  · have hlt' : k < ks.length := by omega
    obtain ⟨id, off, o, rfl, hm, hkd, hsz, hl, hrow, hc0, hc1⟩ := R2.at_ hr hlt'
    obtain ⟨id', off', o', rfl, hm', hkd', hsz', hc'⟩ := hs.at_ hlt
    have hw : IntKind.i64.wrap ((k : Int) + 1) = k + 1 := wrapI (by omega) (by omega)
    simp -dsimp -implicitDefEqProofs [s0, s8, s9, s5, s10, hlt, hlt', withO_of hm, hkd, hsz, withC_of hc0, withO_of hm', hkd', hsz', withC_of hc', hw]
    exact next_ hlt ⟨rfl, by simp [s0, s8, s9, hw, reachTo_succ hlt hlt']⟩
  · simp -dsimp -implicitDefEqProofs [s0, s8, s9, s5, s10, hlt]
    obtain rfl : k = xs.length := by omega
    exact GC.refl _ _ _
theorem areTaken_c (ks : List I2) (xs : List Int) (a b : Option Addr) (m : Mem) (hr : RdG v2 2 m a ks) (hs : RdI m b xs) (hn : xs.length ≤ 1048576) :
    ACalls Try.prog 54 [.slice a ks.length ks.length, .slice b xs.length xs.length] m (.bool (takenB ks xs)) m := by
  refine acalls_of_vc Try.func54 rfl Try.fol (by kernel_rfl) ?_
  simp only [Try.f54]
  simp -dsimp -implicitDefEqProofs
  refine ⟨fun g => GC.eq (by simp at g; simp [takenB]; omega), fun g => ?_⟩
  have hle : xs.length = ks.length := by simp at g; omega
  refine loopN xs.length (fun k σ m' => m' = m ∧ (σ 0 = some (.slice a ks.length ks.length) ∧ σ 12 = some (.slice b xs.length xs.length) ∧ σ 13 = some (.int .i64 xs.length) ∧ σ 14 = some (.int .i64 k)) ∧ takenTo ks xs k = true) ⟨rfl, by simp, rfl⟩ ?_
  rintro k σ m' hk ⟨rfl, ⟨s0, s12, s13, s14⟩, hok⟩
  by_cases hlt : k < xs.length
  · have hlt' : k < ks.length := by omega
    obtain ⟨id, off, o, rfl, hm, hkd, hsz, hl, hrow, hc0, hc1⟩ := R2.at_ hr hlt'
    obtain ⟨id', off', o', rfl, hm', hkd', hsz', hc'⟩ := hs.at_ hlt
    have hw : IntKind.i64.wrap ((k : Int) + 1) = k + 1 := wrapI (by omega) (by omega)
    simp -dsimp -implicitDefEqProofs [s0, s12, s13, s14, hlt, hlt', withO_of hm, hkd, hsz, withC_of hc1, withO_of hm', hkd', hsz', withC_of hc', hw]
    refine callsTo Try.cal46 (within_c _ _ _ _) ?_
    simp -dsimp -implicitDefEqProofs [s0, s12, s13, s14, hlt, hlt', withO_of hm, hkd, hsz, withC_of hc1, withO_of hm', hkd', hsz', withC_of hc', hw]
    refine ⟨fun g' => GC.eq ?_, fun g' => ?_⟩
    · rw [takenB_false hlt (by rw [getD_lt hlt, getD_lt hlt']; simpa using g')]
    · exact next_ hlt ⟨rfl, by simp [s0, s12, s13, hw], takenTo_succ hok (by rw [getD_lt hlt, getD_lt hlt']; simpa using g')⟩
  · simp -dsimp -implicitDefEqProofs [s0, s12, s13, s14, hlt]
    obtain rfl : k = xs.length := by omega
    exact GC.eq (by rw [takenB_of hle hok])
def takenC (ks : List I2) (xs : List Int) : Int := if kinB ks then (if takenB ks xs then 0 else 2) else 1
theorem l18Taken_c (ks : List I2) (xs : List Int) (a b : Option Addr) (m : Mem) (hr : RdG v2 2 m a ks) (hs : RdI m b xs) (hn : xs.length ≤ 1048576) (hn' : ks.length ≤ 1048576) :
    ACalls Try.prog 53 [.slice a ks.length ks.length, .slice b xs.length xs.length] m (.int .i64 (takenC ks xs)) m := by
  refine acalls_of_vc Try.func53 rfl Try.fol (by kernel_rfl) ?_
  simp only [Try.f53]
  simp -dsimp -implicitDefEqProofs
  refine callsTo Try.cal44 (l18Ok_c ks a _ hr hn') ?_
  simp -dsimp -implicitDefEqProofs
  refine ⟨fun g => GC.eq (by simp at g; simp [takenC, g]), fun g0 => ?_⟩
  simp at g0
  refine ⟨fun g => GC.eq (by simp at g; simp [takenC, takenB, g0]; omega), fun g => ?_⟩
  have hle : xs.length = ks.length := by simp at g; omega
  refine loopN xs.length (fun k σ m' => m' = m ∧ (σ 0 = some (.slice a ks.length ks.length) ∧ σ 1 = some (.slice b xs.length xs.length) ∧ σ 5 = some (.int .i64 k)) ∧ takenTo ks xs k = true) ⟨rfl, by simp, rfl⟩ ?_
  rintro k σ m' hk ⟨rfl, ⟨s0, s1, s5⟩, hok⟩
  by_cases hlt : k < xs.length
  · have hlt' : k < ks.length := by omega
    obtain ⟨id, off, o, rfl, hm, hkd, hsz, hl, hrow, hc0, hc1⟩ := R2.at_ hr hlt'
    obtain ⟨id', off', o', rfl, hm', hkd', hsz', hc'⟩ := hs.at_ hlt
    have hw : IntKind.i64.wrap ((k : Int) + 1) = k + 1 := wrapI (by omega) (by omega)
    simp -dsimp -implicitDefEqProofs [s0, s1, s5, hlt, hlt', withO_of hm, hkd, hsz, withC_of hc1, withO_of hm', hkd', hsz', withC_of hc', hw]
    refine callsTo Try.cal68 (l00In_c _ _ _ _) ?_
    simp -dsimp -implicitDefEqProofs [s0, s1, s5, hlt, hlt', withO_of hm, hkd, hsz, withC_of hc1, withO_of hm', hkd', hsz', withC_of hc', hw]
    refine ⟨fun g' => GC.eq ?_, fun g' => ?_⟩
    · simp [takenC, g0, takenB_false hlt (show inB (xs.getD k 0) 0 (ks.getD k (0, 0)).2 = false by rw [getD_lt hlt, getD_lt hlt']; simpa using g')]
    · exact next_ hlt ⟨rfl, by simp [s0, s1, hw], takenTo_succ hok (by rw [getD_lt hlt, getD_lt hlt']; simpa using g')⟩
  · simp -dsimp -implicitDefEqProofs [s0, s1, s5, hlt]
    obtain rfl : k = xs.length := by omega
    exact GC.eq (by simp [takenC, g0, takenB_of hle hok])
def reachV (ks : List I2) (xs : List Int) : Value := .tuple #[.int .i64 (if takenC ks xs = 0 then reachW ks xs else 0), .int .i64 (takenC ks xs)]
theorem takenC_zero {ks : List I2} {xs : List Int} (h : takenC ks xs = 0) : kinB ks = true ∧ takenB ks xs = true ∧ xs.length = ks.length := by
  unfold takenC at h
  split at h
  · split at h
    · rename_i h1 h2
      refine ⟨h1, h2, ?_⟩
      simp [takenB] at h2; exact h2.1
    · omega
  · omega
theorem specReach_c (ks : List I2) (xs : List Int) (a b : Option Addr) (m : Mem) (hr : RdG v2 2 m a ks) (hs : RdI m b xs) (hn : xs.length ≤ 1048576) (hn' : ks.length ≤ 1048576) :
    ACalls Try.prog 24 [.slice a ks.length ks.length, .slice b xs.length xs.length] m (reachV ks xs) m := by
  refine acalls_of_vc Try.func24 rfl Try.fol (by kernel_rfl) ?_
  simp only [Try.f24]
  simp -dsimp -implicitDefEqProofs
  refine callsTo Try.cal53 (l18Taken_c ks xs a b _ hr hs hn hn') ?_
  simp -dsimp -implicitDefEqProofs
  refine ⟨fun g => GC.eq (by simp at g; simp [reachV, g]), fun g => ?_⟩
  simp at g
  obtain ⟨_, _, hle⟩ := takenC_zero g
  refine loopN xs.length (fun k σ m' => m' = m ∧ σ 0 = some (.slice a ks.length ks.length) ∧ σ 1 = some (.slice b xs.length xs.length) ∧ σ 7 = some (.int .i64 (reachTo ks xs k)) ∧ σ 8 = some (.int .i64 k)) ⟨rfl, by simp [reachTo]⟩ ?_
  rintro k σ m' hk ⟨rfl, s0, s1, s7, s8⟩
  by_cases hlt : k < xs.length
  · have hlt' : k < ks.length := by omega
    obtain ⟨id, off, o, rfl, hm, hkd, hsz, hl, hrow, hc0, hc1⟩ := R2.at_ hr hlt'
    obtain ⟨id', off', o', rfl, hm', hkd', hsz', hc'⟩ := hs.at_ hlt
    have hw : IntKind.i64.wrap ((k : Int) + 1) = k + 1 := wrapI (by omega) (by omega)
    simp -dsimp -implicitDefEqProofs [s0, s1, s7, s8, hlt, hlt', withO_of hm, hkd, hsz, withC_of hc0, withO_of hm', hkd', hsz', withC_of hc', hw]
    exact next_ hlt ⟨rfl, by simp [s0, s1, hw, reachTo_succ hlt hlt']⟩
  · simp -dsimp -implicitDefEqProofs [s0, s1, s7, s8, hlt]
    obtain rfl : k = xs.length := by omega
    exact GC.eq (by simp [reachV, g, reachW])
theorem implReach_c (ks : List I2) (xs : List Int) (a b : Option Addr) (m : Mem) (hr : RdG v2 2 m a ks) (hs : RdI m b xs) (hn : xs.length ≤ 1048576) (hn' : ks.length ≤ 1048576) :
    ACalls Try.prog 26 [.slice a ks.length ks.length, .slice b xs.length xs.length] m (reachV ks xs) m := by
  refine acalls_of_vc Try.func26 rfl Try.fol (by kernel_rfl) ?_
  simp only [Try.f26]
  simp -dsimp -implicitDefEqProofs
  refine callsTo Try.cal16 (implKinds_c ks a _ hr hn') ?_
  simp -dsimp -implicitDefEqProofs
  refine ⟨fun g => GC.eq (by simp at g; simp [reachV, takenC, g]), fun g => ?_⟩
  refine callsTo Try.cal54 (areTaken_c ks xs a b _ hr hs hn) ?_
  simp -dsimp -implicitDefEqProofs
  refine ⟨fun g' => GC.eq (by simp at g g'; simp [reachV, takenC, g, g']), fun g' => ?_⟩
  simp at g g'
  have hle : xs.length = ks.length := by simp [takenB] at g'; exact g'.1
  refine callsTo Try.cal55 (reachOf_c ks xs a b _ hr hs hn (by omega)) ?_
  simp -dsimp -implicitDefEqProofs
  exact GC.eq (by simp [reachV, takenC, g, g'])
def codeK (ks : List I2) (w : Int) : Int := if kinB ks then (if inB w 0 5000 then 0 else 2) else 1
theorem l18Code_c (xs : List I2) (a : Option Addr) (n : Int) (m : Mem) (hr : RdG v2 2 m a xs) (hn : xs.length ≤ 1048576) : ACalls Try.prog 57 [.slice a xs.length xs.length, .int .i64 n] m (.int .i64 (codeK xs n)) m := by
  refine acalls_of_vc Try.func57 rfl Try.fol (by kernel_rfl) ?_
  simp only [Try.f57]
  simp -dsimp -implicitDefEqProofs
  refine callsTo Try.cal44 (l18Ok_c xs a _ hr hn) ?_
  simp -dsimp -implicitDefEqProofs
  refine ⟨fun g => GC.eq (by simp at g; simp [codeK, g]), fun g => ?_⟩
  refine callsTo Try.cal68 (l00In_c _ _ _ _) ?_
  simp -dsimp -implicitDefEqProofs
  refine ⟨fun g' => GC.eq (by simp at g g'; simp [codeK, g, g']), fun g' => GC.eq (by simp at g g'; simp [codeK, g, g'])⟩
theorem kindsCode_c (xs : List I2) (a : Option Addr) (n : Int) (m : Mem) (hr : RdG v2 2 m a xs) (hn : xs.length ≤ 1048576) : ACalls Try.prog 59 [.slice a xs.length xs.length, .int .i64 n] m (.int .i64 (codeK xs n)) m := by
  refine acalls_of_vc Try.func59 rfl Try.fol (by kernel_rfl) ?_
  simp only [Try.f59]
  simp -dsimp -implicitDefEqProofs
  refine callsTo Try.cal16 (implKinds_c xs a _ hr hn) ?_
  simp -dsimp -implicitDefEqProofs
  refine ⟨fun g => GC.eq (by simp at g; simp [codeK, g]), fun g => ?_⟩
  refine callsTo Try.cal46 (within_c _ _ _ _) ?_
  simp -dsimp -implicitDefEqProofs
  refine ⟨fun g' => GC.eq (by simp at g g'; simp [codeK, g, g']), fun g' => GC.eq (by simp at g g'; simp [codeK, g, g'])⟩
end Go.Proofs.Ytlhcepcgjnlopaa
