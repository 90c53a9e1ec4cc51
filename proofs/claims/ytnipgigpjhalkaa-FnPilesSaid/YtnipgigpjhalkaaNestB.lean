/-
  Nests, part 1: which pots are valid. Conditions: none.
-/
import Derived.Test.YtnipgigpjhalkaaPotA
import Derived.Test.YtnipgigpjhalkaaRowPot
set_option linter.unusedSimpArgs false
set_option linter.unusedVariables false
set_option linter.unusedSectionVars false
namespace Go.Proofs.Ytnipgigpjhalkaa
open Go.Abs Go.RowKit

def potsB (xs : List I3) : Bool := xs.all potB && decide (xs.length ≤ 12)
theorem potsB_false {xs : List I3} {k : Nat} (h : k < xs.length) (h' : potB xs[k] = false) : potsB xs = false := by simp [potsB, all_false_of h h']
theorem l19Ok_c (xs : List I3) (a : Option Addr) (m : Mem) (hr : RdG v3 3 m a xs) (hn : xs.length ≤ 1048576) : ACalls Try.prog 59 [.slice a xs.length xs.length] m (.bool (potsB xs)) m := by
  refine acalls_of_vc Try.func59 rfl Try.fol (by kernel_rfl) ?_
  simp only [Try.f59]
  simp -dsimp -implicitDefEqProofs
  refine loopN xs.length (fun k σ m' => m' = m ∧ (σ 0 = some (.slice a xs.length xs.length) ∧ σ 3 = some (.int .i64 k)) ∧ (xs.take k).all potB = true) ⟨rfl, by simp, by simp⟩ ?_
  rintro k σ m' hk ⟨rfl, ⟨s0, s3⟩, hok⟩
  by_cases hlt : k < xs.length
  · obtain ⟨id, off, o, rfl, hm, hkd, hsz, hl, hrow, _⟩ := R3.at_ hr hlt
    have hw : IntKind.i64.wrap ((k : Int) + 1) = k + 1 := wrapI (by omega) (by omega)
    simp -dsimp -implicitDefEqProofs [s0, s3, hlt, withO_of hm, hkd, hsz, hw]
    refine callsTo Try.cal81 (l19One_c xs[k] _ _ _ (IsP.row hr hlt)) ?_
    simp -dsimp -implicitDefEqProofs [s0, s3, hlt, withO_of hm, hkd, hsz, hw]
    refine ⟨fun g => GC.eq (by rw [potsB_false hlt (by simpa using g)]), fun g => next_ hlt ⟨rfl, by simp [s0, hw], all_take_succ hlt hok (by simpa using g)⟩⟩
  · simp -dsimp -implicitDefEqProofs [s0, s3, hlt]
    rw [List.take_of_length_le (by omega)] at hok
    exact GC.eq (by simp [potsB, hok]; omega)
theorem validPots_c (xs : List I3) (a : Option Addr) (m : Mem) (hr : RdG v3 3 m a xs) (hn : xs.length ≤ 1048576) : ACalls Try.prog 22 [.slice a xs.length xs.length] m (.bool (potsB xs)) m := by
  refine acalls_of_vc Try.func22 rfl Try.fol (by kernel_rfl) ?_
  simp only [Try.f22]
  simp -dsimp -implicitDefEqProofs
  refine loopN xs.length (fun k σ m' => m <+: m' ∧ (σ 0 = some (.slice a xs.length xs.length) ∧ σ 5 = some (.slice a xs.length xs.length) ∧ σ 6 = some (.int .i64 xs.length) ∧ σ 7 = some (.int .i64 k)) ∧ (xs.take k).all potB = true) ⟨pre_refl m, by simp, by simp⟩ ?_
  rintro k σ m' hk ⟨hp, ⟨s0, s5, s6, s7⟩, hok⟩
  by_cases hlt : k < xs.length
  · obtain ⟨id, off, o, rfl, hm, hkd, hsz, hl, hrow, _⟩ := R3.at_ hr hlt
    have hw : IntKind.i64.wrap ((k : Int) + 1) = k + 1 := wrapI (by omega) (by omega)
    have hm' := prefix_get hp hm
    simp -dsimp -implicitDefEqProofs [s0, s5, s6, s7, hlt, withO_of hm', fun l => withO_of (get_old (l := l) hm'), hkd, hsz, hl, hrow, v3, hw]
    refine callsTo Try.cal56 (isPot_c xs[k] _) ?_
    simp -dsimp -implicitDefEqProofs [s0, s5, s6, s7, hlt, withO_of hm', fun l => withO_of (get_old (l := l) hm'), hkd, hsz, hl, hrow, v3, hw]
    refine ⟨fun g => GC.dropP (pre_app hp _) (by rw [potsB_false hlt (by simpa using g)]) rfl, fun g => next_ hlt ⟨pre_app hp _, by simp [s0, s5, s6, hw], all_take_succ hlt hok (by simpa using g)⟩⟩
  · simp -dsimp -implicitDefEqProofs [s0, s5, s6, s7, hlt]
    rw [List.take_of_length_le (by omega)] at hok
    exact GC.dropP hp (by simp [potsB, hok]; omega) rfl
theorem specValidPots_c (xs : List I3) (a : Option Addr) (m : Mem) (hr : RdG v3 3 m a xs) (hn : xs.length ≤ 1048576) : ACalls Try.prog 20 [.slice a xs.length xs.length] m (.bool (potsB xs)) m := by
  refine acalls_of_vc Try.func20 rfl Try.fol (by kernel_rfl) ?_
  simp only [Try.f20]
  simp -dsimp -implicitDefEqProofs
  refine callsTo Try.cal59 (l19Ok_c xs a _ hr hn) ?_
  simp -dsimp -implicitDefEqProofs
  exact GC.refl _ _ _

end Go.Proofs.Ytnipgigpjhalkaa
namespace Go.Proofs.Ytnipgigpjhalkaa
open Go.Abs Go.RowKit

/-- How far the one stands out of the other. -/
def outI (p q : I3) : Int := max 0 (IntKind.i64.wrap (p.2.2 - q.2.2))
theorem l19Out_c (p q : I3) (m : Mem) (id off id' off' : Nat) (hp : IsP m id off p) (hq : IsP m id' off' q) :
    ACalls Try.prog 58 [.pointer (some ⟨id, off, none⟩), .pointer (some ⟨id', off', none⟩)] m (.int .i64 (outI p q)) m := by
  obtain ⟨o, hm, hk, h0, h1, h2⟩ := hp
  obtain ⟨o', hm', hk', h0', h1', h2'⟩ := hq
  refine acalls_of_vc Try.func58 rfl Try.fol (by kernel_rfl) ?_
  simp only [Try.f58]
  simp -dsimp -implicitDefEqProofs [withO_of hm, hk, withC_of h0, withC_of h1, withC_of h2, withO_of hm', hk', withC_of h0', withC_of h1', withC_of h2']
  refine callsTo Try.cal68 (l00Max_c _ _ _) ?_
  simp -dsimp -implicitDefEqProofs
  exact GC.refl _ _ _
def deepC (p q : I3) : Int := if potB p && potB q then (if fitB p q then 0 else 9) else 1
def deepV (p q : I3) : Value := .tuple #[.int .i64 (if deepC p q = 0 then outI p q else 0), .int .i64 (deepC p q)]
theorem specDeep_c (p q : I3) (m : Mem) : ACalls Try.prog 17 [.agg (v3 p).toArray, .agg (v3 q).toArray] m (deepV p q) m := by
  refine acalls_of_vc Try.func17 rfl Try.fol (by kernel_rfl) ?_
  simp only [Try.f17, v3]
  simp -dsimp -implicitDefEqProofs
  refine callsTo Try.cal54 (l19Two_c p q _ _ _ _ _ ?_ ?_) ?_
  · exact IsP.mk (o := ⟨v3 p, _, 3, 1⟩) (by simp [v3]; rfl) (by simp) rfl
  · exact IsP.mk (o := ⟨v3 q, _, 3, 1⟩) (by simp [v3]; rfl) (by simp) rfl
  cases hc : (potB p && potB q) with
  | false =>
    have e : twoI p q = 1 := by simp only [twoI, hc]; rfl
    rw [e]
    simp -dsimp -implicitDefEqProofs
    exact GC.dropEq (by simp only [deepV, deepC, hc]; rfl) rfl
  | true =>
    have e : twoI p q = 0 := by simp only [twoI, hc]; rfl
    rw [e]
    simp -dsimp -implicitDefEqProofs
    refine callsTo Try.cal55 (l19Fits_c p q _ _ _ _ _ ?_ ?_) ?_
    · exact IsP.mk (o := ⟨v3 p, _, 3, 1⟩) (by simp [v3]; rfl) (by simp) rfl
    · exact IsP.mk (o := ⟨v3 q, _, 3, 1⟩) (by simp [v3]; rfl) (by simp) rfl
    simp -dsimp -implicitDefEqProofs
    refine ⟨fun g => GC.dropEq (by simp at g; simp [deepV, deepC, hc, g]) rfl, fun g => ?_⟩
    refine callsTo Try.cal58 (l19Out_c p q _ _ _ _ _ ?_ ?_) ?_
    · exact IsP.mk (o := ⟨v3 p, _, 3, 1⟩) (by simp [v3]; rfl) (by simp) rfl
    · exact IsP.mk (o := ⟨v3 q, _, 3, 1⟩) (by simp [v3]; rfl) (by simp) rfl
    simp -dsimp -implicitDefEqProofs
    exact GC.dropEq (by simp at g; simp [deepV, deepC, hc, g]) rfl
theorem implDeep_c (p q : I3) (m : Mem) : ACalls Try.prog 18 [.agg (v3 p).toArray, .agg (v3 q).toArray] m (deepV p q) m := by
  refine acalls_of_vc Try.func18 rfl Try.fol (by kernel_rfl) ?_
  simp only [Try.f18, v3]
  simp -dsimp -implicitDefEqProofs
  refine callsTo Try.cal56 (isPot_c p _) ?_
  simp -dsimp -implicitDefEqProofs
  refine ⟨fun g1 => GC.dropEq (by simp at g1; simp [deepV, deepC, g1]) rfl, fun g1 => ?_⟩
  refine callsTo Try.cal56 (isPot_c q _) ?_
  simp -dsimp -implicitDefEqProofs
  refine ⟨fun g2 => GC.dropEq (by simp at g2; simp [deepV, deepC, g2]) rfl, fun g2 => ?_⟩
  simp at g1 g2
  refine callsTo Try.cal57 (fitsIn_c p q _) ?_
  simp -dsimp -implicitDefEqProofs
  refine ⟨fun g3 => GC.dropEq (by simp at g3; simp [deepV, deepC, g1, g2, g3]) rfl, fun g3 => GC.dropEq (by simp at g3; simp [deepV, deepC, g1, g2, g3, outI]) rfl⟩
end Go.Proofs.Ytnipgigpjhalkaa
namespace Go.Proofs.Ytnipgigpjhalkaa
open Go.Abs Go.RowKit

def potAt (xs : List I3) (j : Nat) : I3 := xs.getD j (0, 0, 0)
/-- The index is one of n, and stands at no place ahead of it. -/
def rngAt (n : Nat) (pile : List Int) (i : Nat) : Bool := inB (pile.getD i 0) 0 ((n : Int) - 1) && !decide (pile.getD i 0 ∈ pile.take i)
def fitAt (xs : List I3) (pile : List Int) (i : Nat) : Bool := fitB (potAt xs (ixAt pile (i + 1))) (potAt xs (ixAt pile i))
def pileI (xs : List I3) (pile : List Int) : Int :=
  if (List.range pile.length).all (rngAt xs.length pile) then (if pile.length = 0 then 2 else if (List.range (pile.length - 1)).all (fitAt xs pile) then 0 else 9) else 2
def pileC (xs : List I3) (pile : List Int) : Int := if potsB xs then pileI xs pile else 1

theorem potAt_eq {xs : List I3} {k : Nat} (h : k < xs.length) : potAt xs k = xs[k] := by simp [potAt, List.getD_eq_getElem?_getD, List.getElem?_eq_getElem h]
theorem rng_ix {n : Nat} {pile : List Int} (h : (List.range pile.length).all (rngAt n pile) = true) {i : Nat} (hi : i < pile.length) : pile[i] = (ixAt pile i : Int) ∧ ixAt pile i < n := by
  have := allTo_get h hi
  simp only [rngAt, Bool.and_eq_true, inB, getI hi, decide_eq_true_eq] at this
  unfold ixAt
  rw [getI hi]
  omega

theorem l00Has_c (xs : List Int) (a : Option Addr) (n : Int) (m : Mem) (hr : RdI m a xs) (hn : xs.length ≤ 1048576) : ACalls Try.prog 86 [.slice a xs.length xs.length, .int .i64 n] m (.bool (decide (n ∈ xs))) m := by
  refine acalls_of_vc Try.func86 rfl Try.fol (by kernel_rfl) ?_
  simp only [Try.f86]
  simp -dsimp -implicitDefEqProofs
  refine loopN xs.length (fun k σ m' => m' = m ∧ (σ 0 = some (.slice a xs.length xs.length) ∧ σ 1 = some (.int .i64 n) ∧ σ 5 = some (.int .i64 k)) ∧ n ∉ xs.take k) ⟨rfl, by simp, by simp⟩ ?_
  rintro k σ m' hk ⟨rfl, ⟨s0, s1, s5⟩, hno⟩
  by_cases hlt : k < xs.length
  · obtain ⟨id, off, o, rfl, hm, hkd, hsz, hc⟩ := hr.at_ hlt
    have hw : IntKind.i64.wrap ((k : Int) + 1) = k + 1 := wrapI (by omega) (by omega)
    simp -dsimp -implicitDefEqProofs [s0, s1, s5, hlt, withO_of hm, hkd, hsz, withC_of hc, hw]
    refine ⟨fun g => GC.eq ?_, fun g => next_ hlt ⟨rfl, by simp [s0, s1, hw], ?_⟩⟩
    · simp at g; subst g; simp
    · rw [List.take_add_one, List.getElem?_eq_getElem hlt]
      simp only [beq_eq_false_iff_ne, ne_eq] at g
      intro h
      rcases List.mem_append.1 h with h | h
      · exact hno h
      · simp at h; exact g h.symm
  · simp -dsimp -implicitDefEqProofs [s0, s1, s5, hlt]
    rw [List.take_of_length_le (by omega)] at hno
    exact GC.eq (by simp [hno])
theorem l19Pile_c (xs : List I3) (pile : List Int) (a b : Option Addr) (m : Mem) (hr : RdG v3 3 m a xs) (hs : RdI m b pile) (hn : xs.length ≤ 1048576) (hn' : pile.length ≤ 1048576) :
    ACalls Try.prog 64 [.slice a xs.length xs.length, .slice b pile.length pile.length] m (.int .i64 (pileC xs pile)) m := by
  refine acalls_of_vc Try.func64 rfl Try.fol (by kernel_rfl) ?_
  simp only [Try.f64]
  simp -dsimp -implicitDefEqProofs
  refine callsTo Try.cal59 (l19Ok_c xs a _ hr hn) ?_
  simp -dsimp -implicitDefEqProofs
  refine ⟨fun g => GC.eq (by simp at g; simp [pileC, g]), fun g0 => ?_⟩
  simp at g0
  refine loopN pile.length (fun k σ m' => m' = m ∧ (σ 0 = some (.slice a xs.length xs.length) ∧ σ 1 = some (.slice b pile.length pile.length) ∧ σ 5 = some (.int .i64 k)) ∧ (List.range k).all (rngAt xs.length pile) = true) ⟨rfl, by simp, by simp⟩ ?_
  rintro k σ m' hk ⟨rfl, ⟨s0, s1, s5⟩, hok⟩
  by_cases hlt : k < pile.length
  · obtain ⟨id, off, o, rfl, hm, hkd, hsz, hc⟩ := hs.at_ hlt
    have hw : IntKind.i64.wrap ((k : Int) + 1) = k + 1 := wrapI (by omega) (by omega)
    have hw' : IntKind.i64.wrap ((xs.length : Int) - 1) = (xs.length : Int) - 1 := wrapI (by omega) (by omega)
    have hkl : k ≤ pile.length := hk
    simp -dsimp -implicitDefEqProofs [s0, s1, s5, hlt, withO_of hm, hkd, hsz, withC_of hc, hw, hw', hkl]
    refine callsTo Try.cal85 (l00In_c _ _ _ _) ?_
    simp -dsimp -implicitDefEqProofs [s0, s1, s5, hlt, withO_of hm, hkd, hsz, withC_of hc, hw, hw', hkl]
    cases g1 : inB pile[k] 0 ((xs.length : Int) - 1) with
    | false =>
      simp -dsimp -implicitDefEqProofs [s0, s1, s5, hlt, withO_of hm, hkd, hsz, withC_of hc, hw, hw', hkl]
      have : rngAt xs.length pile k = false := by simp only [rngAt, getI hlt, g1]; rfl
      exact GC.eq (by simp only [pileC, pileI, g0, allTo_false hlt this]; rfl)
    | true =>
      have htl : (pile.take k).length = k := by simp; omega
      have hcall := l00Has_c (pile.take k) (some ⟨id, off, none⟩) pile[k] m' (hs.take k) (by omega)
      rw [htl] at hcall
      simp -dsimp -implicitDefEqProofs [s0, s1, s5, hlt, withO_of hm, hkd, hsz, withC_of hc, hw, hw', hkl]
      refine callsTo Try.cal86 hcall ?_
      simp -dsimp -implicitDefEqProofs [s0, s1, s5, hlt, withO_of hm, hkd, hsz, withC_of hc, hw, hw', hkl]
      refine ⟨fun g2 => GC.eq ?_, fun g2 => next_ hlt ⟨rfl, by simp [s0, s1, hw], allTo_succ hok ?_⟩⟩
      · have : rngAt xs.length pile k = false := by simp only [rngAt, getI hlt, g1]; rw [g2]; rfl
        simp only [pileC, pileI, g0, allTo_false hlt this]; rfl
      · simp only [rngAt, getI hlt, g1]; rw [g2]; rfl
  · simp -dsimp -implicitDefEqProofs [s0, s1, s5, hlt]
    obtain rfl : k = pile.length := by omega
    refine ⟨fun g => GC.eq (by simp at g; simp only [pileC, pileI, g0, hok]; simp [g]), fun g3 => ?_⟩
    have hpos : pile.length ≠ 0 := by simp at g3; simpa using g3
    refine loopN (pile.length - 1) (fun k σ m1 => m1 = m' ∧ (σ 0 = some (.slice a xs.length xs.length) ∧ σ 1 = some (.slice b pile.length pile.length) ∧ σ 6 = some (.int .i64 ((k : Int) + 1))) ∧ (List.range k).all (fitAt xs pile) = true) ⟨rfl, by simp [s0, s1], by simp⟩ ?_
    rintro k σ1 m1 hk1 ⟨rfl, ⟨t0, t1, t6⟩, hok1⟩
    by_cases hlt1 : k + 1 < pile.length
    · obtain ⟨id, off, o, rfl, hm, hkd, hsz, hc⟩ := hs.at_ hlt1
      obtain ⟨id', off', o', ha', hm', hkd', hsz', hc'⟩ := hs.at_ (show k < pile.length by omega)
      simp at ha'
      obtain ⟨rfl, rfl⟩ := ha'
      rw [hm] at hm'
      injection hm' with hm'
      subst hm'
      obtain ⟨i1, l1⟩ := rng_ix hok hlt1
      obtain ⟨i2, l2⟩ := rng_ix hok (show k < pile.length by omega)
      rw [i1] at hc
      rw [i2] at hc'
      obtain ⟨ida, offa, oa, rfl, hma, hkda, hsza, _⟩ := R3.at_ hr l1
      have hw : IntKind.i64.wrap ((k : Int) + 1 + 1) = k + 1 + 1 := wrapI (by omega) (by omega)
      have hw2 : IntKind.i64.wrap (k : Int) = k := wrapI (by omega) (by omega)
      have hk2 : k < pile.length := by omega
      have hk3 : ((k : Int) + 1 < pile.length) := by omega
      have hk4 : (0 : Int) ≤ (k : Int) + 1 := by omega
      have hk5 : ((k : Int) + 1).toNat = k + 1 := by omega
      simp -dsimp -implicitDefEqProofs [t0, t1, t6, hlt1, hk2, hk3, hk4, hk5, withO_of hm, hkd, hsz, withC_of hc, withC_of hc', hw, hw2, l1, l2, withO_of hma, hkda, hsza]
      refine callsTo Try.cal55 (l19Fits_c xs[ixAt pile (k + 1)] xs[ixAt pile k] _ _ _ _ _ (IsP.row hr l1) (IsP.row hr l2)) ?_
      simp -dsimp -implicitDefEqProofs [t0, t1, t6, hlt1, hk2, hk3, hk4, hk5, withO_of hm, hkd, hsz, withC_of hc, withC_of hc', hw, hw2, l1, l2, withO_of hma, hkda, hsza]
      refine ⟨fun g => GC.eq ?_, fun g => next_ (by omega) ⟨rfl, by simp [t0, t1, hw], allTo_succ hok1 ?_⟩⟩
      · have : fitAt xs pile k = false := by simp only [fitAt, potAt_eq l1, potAt_eq l2]; simpa using g
        simp only [pileC, pileI, g0, hok, allTo_false (show k < pile.length - 1 by omega) this]
        simp at hpos; simp [hpos]
      · simp only [fitAt, potAt_eq l1, potAt_eq l2]; simpa using g
    · have hk3 : ¬ ((k : Int) + 1 < pile.length) := by omega
      simp -dsimp -implicitDefEqProofs [t0, t1, t6, hk3]
      obtain rfl : k = pile.length - 1 := by omega
      refine GC.eq ?_
      simp only [pileC, pileI, g0, hok, hok1]
      simp at hpos; simp [hpos]
/-- The flags of what has been seen. -/
def seenC (n : Nat) (pile : List Int) : List Value := (List.range n).map fun (i : Nat) => .bool (decide ((i : Int) ∈ pile))
theorem seenC_length (n : Nat) (pile : List Int) : (seenC n pile).length = n := by simp [seenC]
theorem seenC_get {n : Nat} {pile : List Int} {j : Nat} (h : j < n) : (seenC n pile)[j]? = some (.bool (decide ((j : Int) ∈ pile))) := by simp [seenC, h]
theorem seenC_zero (n : Nat) : List.replicate n (Value.bool false) = seenC n [] := by
  apply List.ext_getElem?
  intro i
  by_cases h : i < n
  · rw [seenC_get h]; simp [h]
  · rw [List.getElem?_eq_none (by simp; omega), List.getElem?_eq_none (by rw [seenC_length]; omega)]
theorem seenC_set {n : Nat} {pile : List Int} {j : Nat} (h : j < n) : (seenC n pile).set j (.bool true) = seenC n (pile ++ [(j : Int)]) := by
  apply List.ext_getElem?
  intro i
  by_cases hi : i < n
  · rw [seenC_get hi]
    by_cases hij : j = i
    · subst hij; rw [List.getElem?_set_self (by rw [seenC_length]; exact hi)]; simp
    · rw [List.getElem?_set_ne hij, seenC_get hi]
      have : ¬ (i : Int) = j := by omega
      simp [this]
  · rw [List.getElem?_eq_none (by rw [List.length_set, seenC_length]; omega), List.getElem?_eq_none (by rw [seenC_length]; omega)]
theorem pileCode_c (xs : List I3) (pile : List Int) (a b : Option Addr) (m : Mem) (hr : RdG v3 3 m a xs) (hs : RdI m b pile) (hn : xs.length ≤ 1048576) (hn' : pile.length ≤ 1048576) :
    ACalls Try.prog 66 [.slice a xs.length xs.length, .slice b pile.length pile.length] m (.int .i64 (pileI xs pile)) m := by
  refine acalls_of_vc Try.func66 rfl Try.fol (by kernel_rfl) ?_
  simp only [Try.f66]
  simp -dsimp -implicitDefEqProofs
  refine need_intro (by omega) ?_
  refine loopN pile.length (fun k σ m' => m' = m ++ [⟨seenC xs.length (pile.take k), 4, 1, 1⟩] ∧ (σ 0 = some (.slice a xs.length xs.length) ∧ σ 1 = some (.slice b pile.length pile.length) ∧ σ 5 = some (.slice (some ⟨m.length, 0, none⟩) xs.length xs.length) ∧ σ 12 = some (.slice b pile.length pile.length) ∧ σ 13 = some (.int .i64 pile.length) ∧ σ 14 = some (.int .i64 k)) ∧ (List.range k).all (rngAt xs.length pile) = true)
    ⟨by simp [seenC_zero], by simp, by simp⟩ ?_
  rintro k σ m' hk ⟨rfl, ⟨s0, s1, s5, s12, s13, s14⟩, hok⟩
  by_cases hlt : k < pile.length
  · obtain ⟨id, off, o, rfl, hm, hkd, hsz, hc⟩ := hs.at_ hlt
    have hw : IntKind.i64.wrap ((k : Int) + 1) = k + 1 := wrapI (by omega) (by omega)
    have hw' : IntKind.i64.wrap ((xs.length : Int) - 1) = (xs.length : Int) - 1 := wrapI (by omega) (by omega)
    simp -dsimp -implicitDefEqProofs [s0, s1, s5, s12, s13, s14, hlt, fun l => withO_of (get_old (l := l) hm), hkd, hsz, withC_of hc, hw, hw']
    refine callsTo Try.cal82 (within_c _ _ _ _) ?_
    simp -dsimp -implicitDefEqProofs [s0, s1, s5, s12, s13, s14, hlt, fun l => withO_of (get_old (l := l) hm), hkd, hsz, withC_of hc, hw, hw']
    cases g1 : inB pile[k] 0 ((xs.length : Int) - 1) with
    | false =>
      simp -dsimp -implicitDefEqProofs [s0, s1, s5, s12, s13, s14, hlt, fun l => withO_of (get_old (l := l) hm), hkd, hsz, withC_of hc, hw, hw']
      have : rngAt xs.length pile k = false := by simp only [rngAt, getI hlt, g1]; rfl
      exact GC.dropEq (by simp only [pileI, allTo_false hlt this]; rfl) rfl
    | true =>
      obtain ⟨j, hj⟩ : ∃ j : Nat, pile[k] = (j : Int) := ⟨pile[k].toNat, by simp [inB] at g1; omega⟩
      have hjl : j < xs.length := by simp [inB] at g1; omega
      have htk : pile.take (k + 1) = pile.take k ++ [(j : Int)] := by rw [List.take_add_one, List.getElem?_eq_getElem hlt, hj]; rfl
      have hgt := seenC_get (pile := pile.take k) hjl
      simp -dsimp -implicitDefEqProofs [s0, s1, s5, s12, s13, s14, hlt, hjl, hj, withC_of hgt, seenC_length, hw]
      refine ⟨fun g2 => GC.dropEq ?_ rfl, fun g2 => ?_⟩
      · have : rngAt xs.length pile k = false := by simp only [rngAt, getI hlt, hj]; rw [g2]; simp
        simp only [pileI, allTo_false hlt this]; rfl
      · refine need_intro (by omega) ?_
        refine next_ hlt ⟨by rw [htk, seenC_set hjl], by simp [s0, s1, s5, s12, s13, hw], allTo_succ hok ?_⟩
        rw [hj] at g1
        simp only [rngAt, getI hlt, hj]; rw [g2, g1]; rfl
  · simp -dsimp -implicitDefEqProofs [s0, s1, s5, s12, s13, s14, hlt]
    obtain rfl : k = pile.length := by omega
    refine ⟨fun g => GC.dropEq (by simp at g; simp only [pileI, hok]; simp [g]) rfl, fun g3 => ?_⟩
    have hpos : pile.length ≠ 0 := by simp at g3; simpa using g3
    refine loopN (pile.length - 1) (fun k σ m1 => m <+: m1 ∧ (σ 0 = some (.slice a xs.length xs.length) ∧ σ 1 = some (.slice b pile.length pile.length) ∧ σ 8 = some (.int .i64 ((k : Int) + 1))) ∧ (List.range k).all (fitAt xs pile) = true) ⟨pre_app (pre_refl m) _, by simp [s0, s1], by simp⟩ ?_
    rintro k σ1 m1 hk1 ⟨hp, ⟨t0, t1, t8⟩, hok1⟩
    by_cases hlt1 : k + 1 < pile.length
    · obtain ⟨id, off, o, rfl, hm, hkd, hsz, hc⟩ := hs.at_ hlt1
      obtain ⟨id', off', o', ha', hm', hkd', hsz', hc'⟩ := hs.at_ (show k < pile.length by omega)
      simp at ha'
      obtain ⟨rfl, rfl⟩ := ha'
      rw [hm] at hm'
      injection hm' with hm'
      subst hm'
      obtain ⟨i1, l1⟩ := rng_ix hok hlt1
      obtain ⟨i2, l2⟩ := rng_ix hok (show k < pile.length by omega)
      rw [i1] at hc
      rw [i2] at hc'
      obtain ⟨ida, offa, oa, rfl, hma, hkda, hsza, hla, hrowa, _⟩ := R3.at_ hr l1
      obtain ⟨idb, offb, ob, hab, hmb, hkdb, hszb, hlb, hrowb, _⟩ := R3.at_ hr l2
      simp at hab
      obtain ⟨rfl, rfl⟩ := hab
      rw [hma] at hmb
      injection hmb with hmb
      subst hmb
      have hm1 := prefix_get hp hm
      have hma1 := prefix_get hp hma
      have hw : IntKind.i64.wrap ((k : Int) + 1 + 1) = k + 1 + 1 := wrapI (by omega) (by omega)
      have hw2 : IntKind.i64.wrap (k : Int) = k := wrapI (by omega) (by omega)
      have hk2 : k < pile.length := by omega
      have hk3 : ((k : Int) + 1 < pile.length) := by omega
      have hk4 : (0 : Int) ≤ (k : Int) + 1 := by omega
      have hk5 : ((k : Int) + 1).toNat = k + 1 := by omega
      simp -dsimp -implicitDefEqProofs [t0, t1, t8, hlt1, hk2, hk3, hk4, hk5, withO_of hm1, hkd, hsz, withC_of hc, withC_of hc', hw, hw2, l1, l2, withO_of hma1, hkda, hsza, hla, hlb, hrowa, hrowb, v3]
      refine callsTo Try.cal57 (fitsIn_c xs[ixAt pile (k + 1)] xs[ixAt pile k] _) ?_
      simp -dsimp -implicitDefEqProofs [t0, t1, t8, hlt1, hk2, hk3, hk4, hk5, withO_of hm1, hkd, hsz, withC_of hc, withC_of hc', hw, hw2, l1, l2, withO_of hma1, hkda, hsza, hla, hlb, hrowa, hrowb, v3]
      refine ⟨fun g => GC.dropP hp ?_ rfl, fun g => next_ (by omega) ⟨hp, by simp [t0, t1, hw], allTo_succ hok1 ?_⟩⟩
      · have : fitAt xs pile k = false := by simp only [fitAt, potAt_eq l1, potAt_eq l2]; simpa using g
        simp only [pileI, hok, allTo_false (show k < pile.length - 1 by omega) this]
        simp at hpos; simp [hpos]
      · simp only [fitAt, potAt_eq l1, potAt_eq l2]; simpa using g
    · have hk3 : ¬ ((k : Int) + 1 < pile.length) := by omega
      simp -dsimp -implicitDefEqProofs [t0, t1, t8, hk3]
      obtain rfl : k = pile.length - 1 := by omega
      refine GC.dropP hp ?_ rfl
      simp only [pileI, hok, hok1]
      simp at hpos; simp [hpos]

/-- The height of the first k pots. -/
def highTo (xs : List I3) (pile : List Int) : Nat → Int
  | 0 => 0
  | k + 1 => max (highTo xs pile k) (potAt xs (ixAt pile k)).2.2
theorem pileI_zero {xs : List I3} {pile : List Int} (h : pileI xs pile = 0) : (List.range pile.length).all (rngAt xs.length pile) = true := by
  unfold pileI at h
  split at h
  · assumption
  · omega
theorem l19High_c (xs : List I3) (pile : List Int) (a b : Option Addr) (m : Mem) (hr : RdG v3 3 m a xs) (hs : RdI m b pile) (hn : xs.length ≤ 1048576) (hn' : pile.length ≤ 1048576) (hok : pileI xs pile = 0) :
    ACalls Try.prog 65 [.slice a xs.length xs.length, .slice b pile.length pile.length] m (.int .i64 (highTo xs pile pile.length)) m := by
  have hok := pileI_zero hok
  refine acalls_of_vc Try.func65 rfl Try.fol (by kernel_rfl) ?_
  simp only [Try.f65]
  simp -dsimp -implicitDefEqProofs
  refine loopN pile.length (fun k σ m' => m' = m ∧ σ 0 = some (.slice a xs.length xs.length) ∧ σ 1 = some (.slice b pile.length pile.length) ∧ σ 5 = some (.int .i64 (highTo xs pile k)) ∧ σ 6 = some (.int .i64 k)) ⟨rfl, by simp [highTo]⟩ ?_
  rintro k σ m' hk ⟨rfl, s0, s1, s5, s6⟩
  by_cases hlt : k < pile.length
  · obtain ⟨id, off, o, rfl, hm, hkd, hsz, hc⟩ := hs.at_ hlt
    obtain ⟨i1, l1⟩ := rng_ix hok hlt
    rw [i1] at hc
    obtain ⟨ida, offa, oa, rfl, hma, hkda, hsza, _, _, _, _, hc2⟩ := R3.at_ hr l1
    have hw : IntKind.i64.wrap ((k : Int) + 1) = k + 1 := wrapI (by omega) (by omega)
    simp -dsimp -implicitDefEqProofs [s0, s1, s5, s6, hlt, withO_of hm, hkd, hsz, withC_of hc, hw, l1, withO_of hma, hkda, hsza, withC_of hc2]
    refine callsTo Try.cal68 (l00Max_c _ _ _) ?_
    simp -dsimp -implicitDefEqProofs [s0, s1, s5, s6, hlt, withO_of hm, hkd, hsz, withC_of hc, hw, l1, withO_of hma, hkda, hsza, withC_of hc2]
    exact next_ hlt ⟨rfl, by simp [s0, s1, hw, highTo, potAt_eq l1]⟩
  · simp -dsimp -implicitDefEqProofs [s0, s1, s5, s6, hlt]
    obtain rfl : k = pile.length := by omega
    exact GC.refl _ _ _
def highV (xs : List I3) (pile : List Int) : Value := .tuple #[.int .i64 (if pileC xs pile = 0 then highTo xs pile pile.length else 0), .int .i64 (pileC xs pile)]
theorem pileC_zero {xs : List I3} {pile : List Int} (h : pileC xs pile = 0) : pileI xs pile = 0 := by
  unfold pileC at h
  split at h
  · exact h
  · omega
theorem specHigh_c (xs : List I3) (pile : List Int) (a b : Option Addr) (m : Mem) (hr : RdG v3 3 m a xs) (hs : RdI m b pile) (hn : xs.length ≤ 1048576) (hn' : pile.length ≤ 1048576) :
    ACalls Try.prog 32 [.slice a xs.length xs.length, .slice b pile.length pile.length] m (highV xs pile) m := by
  refine acalls_of_vc Try.func32 rfl Try.fol (by kernel_rfl) ?_
  simp only [Try.f32]
  simp -dsimp -implicitDefEqProofs
  refine callsTo Try.cal64 (l19Pile_c xs pile a b _ hr hs hn hn') ?_
  simp -dsimp -implicitDefEqProofs
  refine ⟨fun g => GC.eq (by simp at g; simp [highV, g]), fun g => ?_⟩
  simp at g
  refine callsTo Try.cal65 (l19High_c xs pile a b _ hr hs hn hn' (pileC_zero g)) ?_
  simp -dsimp -implicitDefEqProofs
  exact GC.eq (by simp [highV, g])
theorem implHigh_c (xs : List I3) (pile : List Int) (a b : Option Addr) (m : Mem) (hr : RdG v3 3 m a xs) (hs : RdI m b pile) (hn : xs.length ≤ 1048576) (hn' : pile.length ≤ 1048576) :
    ACalls Try.prog 34 [.slice a xs.length xs.length, .slice b pile.length pile.length] m (highV xs pile) m := by
  refine acalls_of_vc Try.func34 rfl Try.fol (by kernel_rfl) ?_
  simp only [Try.f34]
  simp -dsimp -implicitDefEqProofs
  refine callsTo Try.cal22 (validPots_c xs a _ hr hn) ?_
  simp -dsimp -implicitDefEqProofs
  refine ⟨fun g => GC.eq (by simp at g; simp [highV, pileC, g]), fun g0 => ?_⟩
  simp at g0
  refine callsTo Try.cal66 (pileCode_c xs pile a b _ hr hs hn hn') ?_
  simp -dsimp -implicitDefEqProofs
  refine ⟨fun g => GC.eq (by simp at g; simp [highV, pileC, g0, g]), fun g1 => ?_⟩
  simp at g1
  have hok := pileI_zero g1
  refine loopN pile.length (fun k σ m' => m' = m ∧ σ 0 = some (.slice a xs.length xs.length) ∧ σ 19 = some (.slice b pile.length pile.length) ∧ σ 20 = some (.int .i64 pile.length) ∧ σ 7 = some (.int .i64 (highTo xs pile k)) ∧ σ 21 = some (.int .i64 k)) ⟨rfl, by simp [highTo]⟩ ?_
  rintro k σ m' hk ⟨rfl, s0, s19, s20, s7, s21⟩
  by_cases hlt : k < pile.length
  · obtain ⟨id, off, o, rfl, hm, hkd, hsz, hc⟩ := hs.at_ hlt
    obtain ⟨i1, l1⟩ := rng_ix hok hlt
    rw [i1] at hc
    obtain ⟨ida, offa, oa, rfl, hma, hkda, hsza, _, _, _, _, hc2⟩ := R3.at_ hr l1
    have hw : IntKind.i64.wrap ((k : Int) + 1) = k + 1 := wrapI (by omega) (by omega)
    simp -dsimp -implicitDefEqProofs [s0, s19, s20, s7, s21, hlt, withO_of hm, hkd, hsz, withC_of hc, hw, l1, withO_of hma, hkda, hsza, withC_of hc2]
    exact next_ hlt ⟨rfl, by simp [s0, s19, s20, hw, highTo, potAt_eq l1]⟩
  · simp -dsimp -implicitDefEqProofs [s0, s19, s20, s7, s21, hlt]
    obtain rfl : k = pile.length := by omega
    exact GC.eq (by simp [highV, pileC, g0, g1])
end Go.Proofs.Ytnipgigpjhalkaa
