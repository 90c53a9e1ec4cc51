/-
  Pots, part 6: the reference's longest nest. Conditions: none.
-/
import Derived.Test.YtnipgigpjhalkaaNestE
import Derived.Test.YtnipgigpjhalkaaNestC
set_option linter.unusedSimpArgs false
set_option linter.unusedVariables false
set_option linter.unusedSectionVars false
namespace Go.Proofs.Ytnipgigpjhalkaa
open Go.Abs Go.RowKit

def topP (xs : List I3) (k : Nat) : Int := topD xs.length (fitF xs) k
theorem topP_zero (xs : List I3) : topP xs 0 = 0 := rfl
theorem topP_succ (xs : List I3) (k : Nat) : topP xs (k + 1) = max (topP xs k) (dP xs k) := rfl
theorem topP_bounds (xs : List I3) : ∀ k, 0 ≤ topP xs k ∧ topP xs k ≤ xs.length
  | 0 => by rw [topP_zero]; omega
  | k + 1 => by have := topP_bounds xs k; have := dP_bounds xs k; rw [topP_succ]; omega
def nestP (xs : List I3) (t : Nat) (acc : List Nat) : List Nat := nestTo xs.length (fitF xs) t acc
def nestL (xs : List I3) : List Int := (nestP xs (topP xs xs.length).toNat []).map fun (i : Nat) => (i : Int)
def nestO (xs : List I3) : Option (List Int) := if potsB xs then some (nestL xs) else none
def lastOk (xs : List I3) (acc : List Nat) (i : Nat) : Bool := match acc.getLast? with | none => true | some l => fitF xs i l
def okP (xs : List I3) (t : Int) (acc : List Nat) (i : Nat) : Bool := decide (dP xs i = t) && lastOk xs acc i
def nextP (xs : List I3) (t : Int) (acc : List Nat) (k : Nat) : Option Nat := nextPot xs.length (fitF xs) t acc k
theorem nextP_succ (xs : List I3) (t : Int) (acc : List Nat) (k : Nat) : nextP xs t acc (k + 1) = match nextP xs t acc k with | some j => some j | none => if okP xs t acc k then some k else none := rfl
theorem nextP_skip {xs : List I3} {t : Int} {acc : List Nat} {k : Nat} (h : nextP xs t acc k = none) (h' : okP xs t acc k = false) : nextP xs t acc (k + 1) = none := by rw [nextP_succ, h]; simp [h']
theorem nextP_hit {xs : List I3} {t : Int} {acc : List Nat} {k : Nat} (h : nextP xs t acc k = none) (h' : okP xs t acc k = true) : ∀ n, k < n → nextP xs t acc n = some k
  | 0, h0 => by omega
  | n + 1, h0 => by
    rw [nextP_succ]
    by_cases e : k = n
    · subst e; rw [h]; simp [h']
    · rw [nextP_hit h h' n (by omega)]
theorem nestP_step {xs : List I3} {T k : Nat} {acc : List Nat} (h : k < T) : nestP xs (T - k) acc = nestP xs (T - (k + 1)) (match nextP xs ((T : Int) - k) acc xs.length with | some j => acc ++ [j] | none => acc) := by
  have e : T - k = (T - (k + 1)) + 1 := by omega
  have e2 : (T : Int) - k = ((T - (k + 1) : Nat) : Int) + 1 := by omega
  rw [e, e2]; rfl
theorem specNest_c (xs : List I3) (a : Option Addr) (m : Mem) (hr : RdG v3 3 m a xs) (hn : xs.length ≤ 1048576) :
    ACalls Try.prog 35 [.slice a xs.length xs.length] m (.tuple #[optV m.length (nestO xs), .int .i64 (potsC xs)]) (m ++ optM 2 (nestO xs)) := by
  refine acalls_of_vc Try.func35 rfl Try.fol (by kernel_rfl) ?_
  simp only [Try.f35]
  simp -dsimp -implicitDefEqProofs
  refine callsTo Try.cal59 (l19Ok_c xs a _ hr hn) ?_
  simp -dsimp -implicitDefEqProofs
  refine ⟨fun g => ?_, fun g => ?_⟩
  · simp at g
    simp [nestO, potsC, g, optV, optM]
    exact GC.refl _ _ _
  simp at g
  refine callsTo Try.cal67 (l19Depths_c xs a _ hr hn) ?_
  simp -dsimp -implicitDefEqProofs
  have hdl : (dL xs).length = xs.length := by simp [dL]
  refine loopN xs.length (fun k σ m' => m' = m ++ [⟨(dL xs).map (Value.int .i64), 2, 1, 1⟩] ∧ σ 0 = some (.slice a xs.length xs.length) ∧ σ 4 = some (.slice (some ⟨m.length, 0, none⟩) xs.length xs.length) ∧
    σ 5 = some (.int .i64 (topP xs k)) ∧ σ 6 = some (.int .i64 k)) ⟨rfl, by simp [topP_zero]⟩ ?_
  rintro k σ m' hk ⟨rfl, s0, s4, s5, s6⟩
  by_cases hlt : k < xs.length
  · have hcell : ((dL xs).map (Value.int .i64))[k]? = some (.int .i64 (dP xs k)) := by simp [dL, hlt]
    have hL2 : ((dL xs).map (Value.int .i64)).length = xs.length := by simp [dL]
    have hw : IntKind.i64.wrap ((k : Int) + 1) = k + 1 := wrapI (by omega) (by omega)
    simp -dsimp -implicitDefEqProofs [s0, s4, s5, s6, hlt, hL2, withC_of hcell, hw]
    refine callsTo Try.cal68 (l00Max_c _ _ _) ?_
    simp -dsimp -implicitDefEqProofs [s0, s4, s5, s6, hlt, hL2, withC_of hcell, hw]
    exact next_ hlt ⟨rfl, by simp [s0, s4, hw, topP_succ]⟩
  · obtain rfl : k = xs.length := by omega
    simp -dsimp -implicitDefEqProofs [s0, s4, s5, s6]
    obtain ⟨T, hT⟩ : ∃ T : Nat, topP xs xs.length = (T : Int) := ⟨(topP xs xs.length).toNat, by have := topP_bounds xs xs.length; omega⟩
    have hTn : T ≤ xs.length := by have := topP_bounds xs xs.length; omega
    rw [hT] at s5
    refine loopN T (fun k σ m' => ∃ acc id ob, nestP xs (T - k) acc = nestP xs T [] ∧ (m ++ [⟨(dL xs).map (Value.int .i64), 2, 1, 1⟩]) <+: m' ∧ m.length < id ∧ m'[id]? = some ob ∧
      (ob.cells = (acc.map fun (i : Nat) => (i : Int)).map (Value.int .i64) ∧ ob.elem = 2 ∧ ob.sz = 1 ∧ 1 ≤ ob.kind ∧ ob.kind ≤ 2) ∧ ((∀ x ∈ acc, x < xs.length) ∧ acc.length ≤ k) ∧
      σ 0 = some (.slice a xs.length xs.length) ∧ σ 4 = some (.slice (some ⟨m.length, 0, none⟩) xs.length xs.length) ∧ σ 5 = some (.int .i64 ((T : Int) - k)) ∧ σ 7 = some (.slice (some ⟨id, 0, none⟩) acc.length acc.length))
      ⟨[], m.length + 1, ⟨[], 2, 1, 1⟩, rfl, ⟨_, by simp; rfl⟩, by omega, by simp, by simp, by simp, by simp [s0, s4, s5]⟩ ?_
    clear s0 s4 s5 s6
    rintro k σ m' hk' ⟨acc, id, ob, hacc, hp, hid, hob, ⟨ob1, ob2, ob3, ob4, ob5⟩, ⟨hmem, hlen⟩, s0, s4, s5, s7⟩
    by_cases hlt2 : k < T
    · have hpos : (0 : Int) < (T : Int) - k := by omega
      have hwd : IntKind.i64.wrap ((T : Int) - k - 1) = (T : Int) - k - 1 := wrapI (by omega) (by omega)
      simp -dsimp -implicitDefEqProofs [s0, s4, s5, s7, hpos, hlt2]
      refine loopN xs.length (fun i σ m1 => m1 = m' ∧ nextP xs ((T : Int) - k) acc i = none ∧ σ 0 = some (.slice a xs.length xs.length) ∧ σ 4 = some (.slice (some ⟨m.length, 0, none⟩) xs.length xs.length) ∧ σ 5 = some (.int .i64 ((T : Int) - k)) ∧
        σ 7 = some (.slice (some ⟨id, 0, none⟩) acc.length acc.length) ∧ σ 8 = some (.int .i64 i)) ⟨rfl, rfl, by simp [s0, s4, s5, s7]⟩ ?_
      clear s0 s4 s5 s7
      rintro i σ m1 hi ⟨rfl, hno, s0, s4, s5, s7, s8⟩
      by_cases hlt3 : i < xs.length
      · have hD : m1[m.length]? = some ⟨(dL xs).map (Value.int .i64), 2, 1, 1⟩ := prefix_get hp (by simp)
        have hcell : ((dL xs).map (Value.int .i64))[i]? = some (.int .i64 (dP xs i)) := by simp [dL, hlt3]
        have hL2 : ((dL xs).map (Value.int .i64)).length = xs.length := by simp [dL]
        have hw : IntKind.i64.wrap ((i : Int) + 1) = i + 1 := wrapI (by omega) (by omega)
        by_cases hd : dP xs i = (T : Int) - k
        · rcases List.eq_nil_or_concat acc with rfl | ⟨ys, l, hcc⟩
          · have hst := nestP_step (xs := xs) (acc := []) hlt2
            rw [nextP_hit hno (by simp [okP, lastOk, hd]) xs.length hlt3] at hst
            simp -dsimp -implicitDefEqProofs [s0, s4, s5, s7, s8, hlt3, withO_of hD, hL2, withC_of hcell, hd, hw, hwd]
            refine appTo_grow Try.sl38 Try.inf2 ⟨by decide, rfl⟩ (o := ob) (get_old hob) ⟨ob4, ob5⟩ ⟨ob3, ob2⟩ (by rw [ob1]; simp) ⟨by omega, by omega⟩ (Src.obj (o := ⟨[.int .i64 i], _, 1, 1⟩) (by simp; rfl) (by simp) rfl rfl) ?_
            intro m2 id2 hg
            simp -dsimp -implicitDefEqProofs [s0, s4, s5, s7, s8, hlt3, withO_of hD, hL2, withC_of hcell, hd, hw, hwd]
            refine next_ hlt2 ⟨[i], id2, _, by rw [← hacc, hst]; rfl, hg.pre _ (pre_app hp _) (by simp; omega), by rw [hg.at_]; simp; have := hp.length_le; simp at this; omega, hg.new, by simp [ob1], ⟨by simp [hlt3], by simp⟩, by simp [s0, s4, hwd]; omega⟩
          · rw [List.concat_eq_append] at hcc
            subst hcc
            have hl : l < xs.length := hmem l (by simp)
            have hal : (ys ++ [l]).length = ys.length + 1 := by simp
            have hoc : ob.cells[ys.length]? = some (.int .i64 l) := by rw [ob1]; simp
            have hol : ob.cells.length = ys.length + 1 := by rw [ob1]; simp
            have hyk : ys.length + 1 ≤ k := by simpa using hlen
            have hwl : IntKind.i64.wrap (ys.length : Int) = ys.length := wrapI (by omega) (by omega)
            have hne : ((ys.length : Int) + 1 == 0) = false := by simp; omega
            have hyl : ys.length < ys.length + 1 := by omega
            have hyI : (ys.length : Int) < (ys.length : Int) + 1 := by omega
            obtain ⟨idx, off, o, ha, hm, hkd, hsz, hlx, hrow, hc0, hc1, hc2⟩ := R3.at_ hr hlt3
            obtain ⟨idx', off', o', ha', hm', hkd', hsz', hl', hrow', hd0, hd1, hd2⟩ := R3.at_ hr hl
            subst ha
            simp at ha'
            obtain ⟨rfl, rfl⟩ := ha'
            have hpm : m <+: m1 := (pre_app (pre_refl m) _).trans hp
            have hp1 : IsP m1 idx ((off + i) * 3) xs[i] := ⟨o, prefix_get hpm hm, hkd, hc0, hc1, hc2⟩
            have hp2 : IsP m1 idx ((off + l) * 3) xs[l] := ⟨o', prefix_get hpm hm', hkd', hd0, hd1, hd2⟩
            rw [hm] at hm'
            injection hm' with hm'
            subst hm'
            have hm1 := prefix_get hpm hm
            simp -dsimp -implicitDefEqProofs [s0, s4, s5, s7, s8, hlt3, hl, hal, withO_of hD, hL2, withC_of hcell, hd, hw, hwd, hwl, hne, hyl, hyI, withO_of hob, ob5, ob3, withC_of hoc, hol, withO_of hm1, hkd, hsz]
            refine callsTo Try.cal55 (l19Fits_c xs[i] xs[l] _ _ _ _ _ hp1 hp2) ?_
            simp -dsimp -implicitDefEqProofs [s0, s4, s5, s7, s8, hlt3, hl, hal, withO_of hD, hL2, withC_of hcell, hd, hw, hwd, hwl, hne, hyl, hyI, withO_of hob, ob5, ob3, withC_of hoc, hol, withO_of hm1, hkd, hsz]
            have hf : fitB xs[i] xs[l] = fitF xs i l := by rw [fitF, potAt_eq hlt3, potAt_eq hl]
            rw [hf]
            cases hfk : fitF xs i l with
            | true =>
              have hst := nestP_step (xs := xs) (acc := ys ++ [l]) hlt2
              rw [nextP_hit hno (by simp [okP, lastOk, hd, hfk]) xs.length hlt3] at hst
              simp -dsimp -implicitDefEqProofs [s0, s4, s5, s7, s8, hlt3, hl, hal, withO_of hD, hL2, withC_of hcell, hd, hw, hwd, hwl, hne, hyl, hyI, withO_of hob, ob5, ob3, withC_of hoc, hol, withO_of hm1, hkd, hsz]
              refine appTo_grow Try.sl38 Try.inf2 ⟨by decide, rfl⟩ (o := ob) (get_old hob) ⟨ob4, ob5⟩ ⟨ob3, ob2⟩ (by rw [ob1]; simp) ⟨by omega, by omega⟩ (Src.obj (o := ⟨[.int .i64 i], _, 1, 1⟩) (by simp; rfl) (by simp) rfl rfl) ?_
              intro m2 id2 hg
              simp -dsimp -implicitDefEqProofs [s0, s4, s5, s7, s8, hlt3, hl, hal, withO_of hD, hL2, withC_of hcell, hd, hw, hwd, hwl, hne, hyl, hyI, withO_of hob, ob5, ob3, withC_of hoc, hol, withO_of hm1, hkd, hsz]
              refine next_ hlt2 ⟨ys ++ [l] ++ [i], id2, _, by rw [← hacc, hst], hg.pre _ (pre_app hp _) (by simp; omega), by rw [hg.at_]; simp; have := hp.length_le; simp at this; omega, hg.new, by simp [ob1], ⟨fun x hx => ?_, by simp; omega⟩, by simp [s0, s4, hwd]; omega⟩
              rcases List.mem_append.1 hx with hx | hx
              · exact hmem x hx
              · simp at hx; omega
            | false =>
              simp -dsimp -implicitDefEqProofs [s0, s4, s5, s7, s8, hlt3, hl, hal, withO_of hD, hL2, withC_of hcell, hd, hw, hwd, hwl, hne, hyl, hyI, withO_of hob, ob5, ob3, withC_of hoc, hol, withO_of hm1, hkd, hsz]
              exact next_ hlt3 ⟨rfl, nextP_skip hno (by simp [okP, lastOk, hfk]), by simp [s0, s4, s5, s7, hw]⟩
        · have hd' : (dP xs i == (T : Int) - k) = false := by simpa using hd
          simp -dsimp -implicitDefEqProofs [s0, s4, s5, s7, s8, hlt3, withO_of hD, hL2, withC_of hcell, hd', hw, hwd]
          exact next_ hlt3 ⟨rfl, nextP_skip hno (by simp [okP, hd]), by simp [s0, s4, s5, s7, hw]⟩
      · obtain rfl : i = xs.length := by omega
        have hst := nestP_step (xs := xs) (acc := acc) hlt2
        rw [hno] at hst
        simp -dsimp -implicitDefEqProofs [s0, s4, s5, s7, s8, hwd]
        exact next_ hlt2 ⟨acc, id, ob, by rw [← hst]; exact hacc, hp, hid, hob, ⟨ob1, ob2, ob3, ob4, ob5⟩, ⟨hmem, by omega⟩, by simp [s0, s4, s7, hwd]; omega⟩
    · obtain rfl : k = T := by omega
      have hneg : ¬ (0 : Int) < (k : Int) - k := by omega
      have hO : nestO xs = some (nestL xs) := by simp [nestO, g]
      have hL : nestL xs = acc.map fun (i : Nat) => (i : Int) := by rw [nestL, hT, Int.toNat_natCast, ← hacc, Nat.sub_self]; rfl
      have hC : potsC xs = 0 := by simp [potsC, g]
      simp -dsimp -implicitDefEqProofs [s0, s4, s5, s7, hneg]
      rw [hO, hL, hC]
      simp only [optV, optM, List.length_map]
      exact GC.keepTP (Fits.refl m) ((pre_app (pre_refl m) _).trans hp) hob (by omega) ob3.symm ob2.symm (by simp; omega) ob1.symm (by rw [ob1]; exact ints_lit _) rfl
end Go.Proofs.Ytnipgigpjhalkaa
