/-
  Nests, part 4: the floor for piles. Conditions: none.
-/
import Derived.Test.YtnipgigpjhalkaaNestB
import Derived.Test.YtnipgigpjhalkaaBaseSS
set_option linter.unusedSimpArgs false
set_option linter.unusedVariables false
set_option linter.unusedSectionVars false
namespace Go.Proofs.Ytnipgigpjhalkaa
open Go.Abs Go.RowKit

/-- The first code of a pile that is not 0, among the first k. -/
def codeTo (xs : List I3) (pss : List (List Int)) : Nat → Int
  | 0 => 0
  | k + 1 => if codeTo xs pss k = 0 then pileI xs (pss.getD k []) else codeTo xs pss k
def floorTo (xs : List I3) (pss : List (List Int)) : Nat → Int
  | 0 => 0
  | k + 1 => IntKind.i64.wrap (floorTo xs pss k + IntKind.i64.wrap ((potAt xs (ixAt (pss.getD k []) 0)).1 * (potAt xs (ixAt (pss.getD k []) 0)).1))
def floorC (xs : List I3) (pss : List (List Int)) : Int := if potsB xs then (if 12 < pss.length then 2 else codeTo xs pss pss.length) else 1
def floorV (xs : List I3) (pss : List (List Int)) : Value := .tuple #[.int .i64 (if floorC xs pss = 0 then floorTo xs pss pss.length else 0), .int .i64 (floorC xs pss)]
theorem getSS {xss : List (List Int)} {k : Nat} (h : k < xss.length) : xss.getD k [] = xss[k] := by simp [List.getD_eq_getElem?_getD, List.getElem?_eq_getElem h]
theorem codeTo_stay {xs : List I3} {pss : List (List Int)} {k : Nat} (h : codeTo xs pss k ≠ 0) : ∀ n, k ≤ n → codeTo xs pss n = codeTo xs pss k := by
  intro n hn
  induction n with
  | zero => have : k = 0 := by omega
            rw [this]
  | succ n ih =>
    by_cases hkn : k ≤ n
    · simp only [codeTo]; rw [if_neg (by rw [ih hkn]; exact h), ih hkn]
    · have : k = n + 1 := by omega
      rw [this]
theorem pile_pos {xs : List I3} {pile : List Int} (h : pileI xs pile = 0) : 0 < pile.length := by
  unfold pileI at h
  split at h
  · split at h
    · omega
    · omega
  · omega
theorem pileC_pots {xs : List I3} {pile : List Int} (h : potsB xs = true) : pileC xs pile = pileI xs pile := by simp [pileC, h]

theorem specFloor_c (xs : List I3) (pss : List (List Int)) (a b : Option Addr) (m : Mem) (hr : RdG v3 3 m a xs) (hs : RdSS m b pss) (hn : xs.length ≤ 1048576) (hn' : pss.length ≤ 1048576) (hl : ∀ p ∈ pss, p.length ≤ 1048576) :
    ACalls Try.prog 38 [.slice a xs.length xs.length, .slice b pss.length pss.length] m (floorV xs pss) m := by
  refine acalls_of_vc Try.func38 rfl Try.fol (by kernel_rfl) ?_
  simp only [Try.f38]
  simp -dsimp -implicitDefEqProofs
  refine callsTo Try.cal59 (l19Ok_c xs a _ hr hn) ?_
  simp -dsimp -implicitDefEqProofs
  refine ⟨fun g => GC.eq (by simp at g; simp [floorV, floorC, g]), fun g0 => ?_⟩
  simp at g0
  refine ⟨fun g => GC.eq (by simp at g; simp [floorV, floorC, g0]; omega), fun g1 => ?_⟩
  have g1' : ¬ 12 < pss.length := by simp at g1; omega
  refine loopN pss.length (fun k σ m' => m' = m ∧ (σ 0 = some (.slice a xs.length xs.length) ∧ σ 1 = some (.slice b pss.length pss.length) ∧ σ 6 = some (.int .i64 (floorTo xs pss k)) ∧ σ 7 = some (.int .i64 k)) ∧ codeTo xs pss k = 0) ⟨rfl, by simp [floorTo], rfl⟩ ?_
  rintro k σ m' hk ⟨rfl, ⟨s0, s1, s6, s7⟩, hok⟩
  by_cases hlt : k < pss.length
  · obtain ⟨id, off, o, ad, rfl, hm, hkd, hsz, hc, hrd⟩ := hs k hlt
    have hw : IntKind.i64.wrap ((k : Int) + 1) = k + 1 := wrapI (by omega) (by omega)
    have hck : codeTo xs pss (k + 1) = pileI xs pss[k] := by simp only [codeTo, hok, if_true, getSS hlt]
    by_cases hz : pileI xs pss[k] = 0
    · have hpos := pile_pos hz
      obtain ⟨i1, l1⟩ := rng_ix (pileI_zero hz) (i := 0) hpos
      obtain ⟨idp, offp, op, rfl, hmp, hkdp, hszp, hcp⟩ := RdI.at_ hrd (i := 0) hpos
      rw [i1] at hcp
      obtain ⟨ida, offa, oa, rfl, hma, hkda, hsza, _, _, hc0, _⟩ := R3.at_ hr l1
      have hft : floorTo xs pss (k + 1) = IntKind.i64.wrap (floorTo xs pss k + IntKind.i64.wrap (xs[ixAt pss[k] 0].1 * xs[ixAt pss[k] 0].1)) := by rw [floorTo, getSS hlt, potAt_eq l1]
      have hcp' : op.cells[offp]? = some (.int .i64 (ixAt pss[k] 0)) := by simpa using hcp
      have hpc := (pileC_pots g0) ▸ l19Pile_c xs pss[k] _ _ m' hr hrd hn (hl _ (List.getElem_mem hlt))
      rw [hz] at hpc
      simp -dsimp -implicitDefEqProofs [s0, s1, s6, s7, hlt, withO_of hm, hkd, hsz, withC_of hc, hw, hpos, withO_of hmp, hkdp, hszp, withC_of hcp', l1, withO_of hma, hkda, hsza, withC_of hc0]
      refine callsTo Try.cal64 hpc ?_
      simp -dsimp -implicitDefEqProofs [s0, s1, s6, s7, hlt, withO_of hm, hkd, hsz, withC_of hc, hw, hpos, withO_of hmp, hkdp, hszp, withC_of hcp', l1, withO_of hma, hkda, hsza, withC_of hc0]
      exact next_ hlt ⟨rfl, by simp [s0, s1, hw, hft], by rw [hck]; exact hz⟩
    · have hcn : codeTo xs pss pss.length = pileI xs pss[k] := by rw [codeTo_stay (k := k + 1) (by rw [hck]; exact hz) _ (by omega), hck]
      have hpc := (pileC_pots g0) ▸ l19Pile_c xs pss[k] _ _ m' hr hrd hn (hl _ (List.getElem_mem hlt))
      simp -dsimp -implicitDefEqProofs [s0, s1, s6, s7, hlt, withO_of hm, hkd, hsz, withC_of hc, hw, hz]
      refine callsTo Try.cal64 hpc ?_
      simp -dsimp -implicitDefEqProofs [s0, s1, s6, s7, hlt, withO_of hm, hkd, hsz, withC_of hc, hw, hz]
      exact ⟨fun _ => GC.eq (by simp [floorV, floorC, g0, g1', hcn, hz]), fun h => absurd h (by simp [hz])⟩
  · simp -dsimp -implicitDefEqProofs [s0, s1, s6, s7, hlt]
    obtain rfl : k = pss.length := by omega
    exact GC.eq (by simp [floorV, floorC, g0, g1', hok])
theorem implFloor_c (xs : List I3) (pss : List (List Int)) (a b : Option Addr) (m : Mem) (hr : RdG v3 3 m a xs) (hs : RdSS m b pss) (hn : xs.length ≤ 1048576) (hn' : pss.length ≤ 1048576) (hl : ∀ p ∈ pss, p.length ≤ 1048576) :
    ACalls Try.prog 40 [.slice a xs.length xs.length, .slice b pss.length pss.length] m (floorV xs pss) m := by
  refine acalls_of_vc Try.func40 rfl Try.fol (by kernel_rfl) ?_
  simp only [Try.f40]
  simp -dsimp -implicitDefEqProofs
  refine callsTo Try.cal22 (validPots_c xs a _ hr hn) ?_
  simp -dsimp -implicitDefEqProofs
  refine ⟨fun g => GC.eq (by simp at g; simp [floorV, floorC, g]), fun g0 => ?_⟩
  simp at g0
  refine ⟨fun g => GC.eq (by simp at g; simp [floorV, floorC, g0]; omega), fun g1 => ?_⟩
  have g1' : ¬ 12 < pss.length := by simp at g1; omega
  refine loopN pss.length (fun k σ m' => m' = m ∧ (σ 0 = some (.slice a xs.length xs.length) ∧ σ 16 = some (.slice b pss.length pss.length) ∧ σ 17 = some (.int .i64 pss.length) ∧ σ 6 = some (.int .i64 (floorTo xs pss k)) ∧ σ 18 = some (.int .i64 k)) ∧ codeTo xs pss k = 0) ⟨rfl, by simp [floorTo], rfl⟩ ?_
  rintro k σ m' hk ⟨rfl, ⟨s0, s16, s17, s6, s18⟩, hok⟩
  by_cases hlt : k < pss.length
  · obtain ⟨id, off, o, ad, rfl, hm, hkd, hsz, hc, hrd⟩ := hs k hlt
    have hw : IntKind.i64.wrap ((k : Int) + 1) = k + 1 := wrapI (by omega) (by omega)
    have hck : codeTo xs pss (k + 1) = pileI xs pss[k] := by simp only [codeTo, hok, if_true, getSS hlt]
    by_cases hz : pileI xs pss[k] = 0
    · have hpos := pile_pos hz
      obtain ⟨i1, l1⟩ := rng_ix (pileI_zero hz) (i := 0) hpos
      obtain ⟨idp, offp, op, rfl, hmp, hkdp, hszp, hcp⟩ := RdI.at_ hrd (i := 0) hpos
      rw [i1] at hcp
      obtain ⟨ida, offa, oa, rfl, hma, hkda, hsza, _, _, hc0, _⟩ := R3.at_ hr l1
      have hft : floorTo xs pss (k + 1) = IntKind.i64.wrap (floorTo xs pss k + IntKind.i64.wrap (xs[ixAt pss[k] 0].1 * xs[ixAt pss[k] 0].1)) := by rw [floorTo, getSS hlt, potAt_eq l1]
      have hcp' : op.cells[offp]? = some (.int .i64 (ixAt pss[k] 0)) := by simpa using hcp
      have hpc := pileCode_c xs pss[k] _ _ m' hr hrd hn (hl _ (List.getElem_mem hlt))
      rw [hz] at hpc
      simp -dsimp -implicitDefEqProofs [s0, s16, s17, s6, s18, hlt, withO_of hm, hkd, hsz, withC_of hc, hw, hpos, withO_of hmp, hkdp, hszp, withC_of hcp', l1, withO_of hma, hkda, hsza, withC_of hc0]
      refine callsTo Try.cal66 hpc ?_
      simp -dsimp -implicitDefEqProofs [s0, s16, s17, s6, s18, hlt, withO_of hm, hkd, hsz, withC_of hc, hw, hpos, withO_of hmp, hkdp, hszp, withC_of hcp', l1, withO_of hma, hkda, hsza, withC_of hc0]
      exact next_ hlt ⟨rfl, by simp [s0, s16, s17, hw, hft], by rw [hck]; exact hz⟩
    · have hcn : codeTo xs pss pss.length = pileI xs pss[k] := by rw [codeTo_stay (k := k + 1) (by rw [hck]; exact hz) _ (by omega), hck]
      have hpc := pileCode_c xs pss[k] _ _ m' hr hrd hn (hl _ (List.getElem_mem hlt))
      simp -dsimp -implicitDefEqProofs [s0, s16, s17, s6, s18, hlt, withO_of hm, hkd, hsz, withC_of hc, hw, hz]
      refine callsTo Try.cal66 hpc ?_
      simp -dsimp -implicitDefEqProofs [s0, s16, s17, s6, s18, hlt, withO_of hm, hkd, hsz, withC_of hc, hw, hz]
      exact ⟨fun _ => GC.eq (by simp [floorV, floorC, g0, g1', hcn, hz]), fun h => absurd h (by simp [hz])⟩
  · simp -dsimp -implicitDefEqProofs [s0, s16, s17, s6, s18, hlt]
    obtain rfl : k = pss.length := by omega
    exact GC.eq (by simp [floorV, floorC, g0, g1', hok])
end Go.Proofs.Ytnipgigpjhalkaa
