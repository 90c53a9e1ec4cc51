/-
  Pots, part 7: the program's longest nest. Conditions: none.
-/
import Derived.Test.YtnipgigpjhalkaaNestF
set_option linter.unusedSimpArgs false
set_option linter.unusedVariables false
set_option linter.unusedSectionVars false
namespace Go.Proofs.Ytnipgigpjhalkaa
open Go.Abs Go.RowKit

theorem implNest_c (xs : List I3) (a : Option Addr) (m : Mem) (hr : RdG v3 3 m a xs) (hn : xs.length ≤ 1048576) :
    ACalls Try.prog 36 [.slice a xs.length xs.length] m (.tuple #[optV m.length (nestO xs), .int .i64 (potsC xs)]) (m ++ optM 2 (nestO xs)) := by
  refine acalls_of_vc Try.func36 rfl Try.fol (by kernel_rfl) ?_
  simp only [Try.f36]
  simp -dsimp -implicitDefEqProofs
  refine callsTo Try.cal22 (validPots_c xs a _ hr hn) ?_
  simp -dsimp -implicitDefEqProofs
  refine ⟨fun g => ?_, fun g => ?_⟩
  · simp at g
    simp [nestO, potsC, g, optV, optM]
    exact GC.refl _ _ _
  simp at g
  refine loopN xs.length (fun k σ m' => m' = m ++ [⟨[], 2, 1, 1⟩] ∧ σ 0 = some (.slice a xs.length xs.length) ∧ σ 4 = some (.slice (some ⟨m.length, 0, none⟩) 0 0) ∧
    σ 5 = some (.int .i64 (topP xs k)) ∧ σ 14 = some (.int .i64 xs.length) ∧ σ 15 = some (.int .i64 k)) ⟨rfl, by simp [topP_zero]⟩ ?_
  rintro k σ m' hk ⟨rfl, s0, s4, s5, s14, s15⟩
  by_cases hlt : k < xs.length
  · have hw : IntKind.i64.wrap ((k : Int) + 1) = k + 1 := wrapI (by omega) (by omega)
    simp -dsimp -implicitDefEqProofs [s0, s4, s5, s14, s15, hlt, hw]
    refine callsTo Try.cal69 (longestFrom_c xs a hn _ k _ (hr.ext _) hlt (rnk_lt hlt)) ?_
    simp -dsimp -implicitDefEqProofs [s0, s4, s5, s14, s15, hlt, hw]
    exact next_ hlt ⟨rfl, by simp [s0, s4, s14, hw, topP_succ]⟩
  · obtain rfl : k = xs.length := by omega
    simp -dsimp -implicitDefEqProofs [s0, s4, s5, s14, s15]
    obtain ⟨T, hT⟩ : ∃ T : Nat, topP xs xs.length = (T : Int) := ⟨(topP xs xs.length).toNat, by have := topP_bounds xs xs.length; omega⟩
    have hTn : T ≤ xs.length := by have := topP_bounds xs xs.length; omega
    rw [hT] at s5
    refine loopN T (fun k σ m' => ∃ acc id ob, nestP xs (T - k) acc = nestP xs T [] ∧ m <+: m' ∧ m.length ≤ id ∧ m'[id]? = some ob ∧
      (ob.cells = (acc.map fun (i : Nat) => (i : Int)).map (Value.int .i64) ∧ ob.elem = 2 ∧ ob.sz = 1 ∧ 1 ≤ ob.kind ∧ ob.kind ≤ 2) ∧ ((∀ x ∈ acc, x < xs.length) ∧ acc.length ≤ k) ∧
      σ 0 = some (.slice a xs.length xs.length) ∧ σ 5 = some (.int .i64 ((T : Int) - k)) ∧ σ 4 = some (.slice (some ⟨id, 0, none⟩) acc.length acc.length))
      ⟨[], m.length, ⟨[], 2, 1, 1⟩, rfl, ⟨_, rfl⟩, by omega, by simp, by simp, by simp, by simp [s0, s4, s5]⟩ ?_
    clear s0 s4 s5 s14 s15
    rintro k σ m' hk' ⟨acc, id, ob, hacc, hp, hid, hob, ⟨ob1, ob2, ob3, ob4, ob5⟩, ⟨hmem, hlen⟩, s0, s5, s4⟩
    by_cases hlt2 : k < T
    · have hpos : (0 : Int) < (T : Int) - k := by omega
      have hwd : IntKind.i64.wrap ((T : Int) - k - 1) = (T : Int) - k - 1 := wrapI (by omega) (by omega)
      simp -dsimp -implicitDefEqProofs [s0, s4, s5, hpos, hlt2]
      refine loopN xs.length (fun i σ m1 => ∃ ob, nextP xs ((T : Int) - k) acc i = none ∧ m <+: m1 ∧ m1[id]? = some ob ∧ (ob.cells = (acc.map fun (i : Nat) => (i : Int)).map (Value.int .i64) ∧ ob.elem = 2 ∧ ob.sz = 1 ∧ 1 ≤ ob.kind ∧ ob.kind ≤ 2) ∧
        σ 0 = some (.slice a xs.length xs.length) ∧ σ 5 = some (.int .i64 ((T : Int) - k)) ∧
        σ 4 = some (.slice (some ⟨id, 0, none⟩) acc.length acc.length) ∧ σ 29 = some (.int .i64 xs.length) ∧ σ 30 = some (.int .i64 i)) ⟨ob, rfl, hp, hob, ⟨ob1, ob2, ob3, ob4, ob5⟩, by simp [s0, s4, s5]⟩ ?_
      clear s0 s4 s5 hob hp ob1 ob2 ob3 ob4 ob5
      rintro i σ m1 hi ⟨ob, hno, hp, hob, ⟨ob1, ob2, ob3, ob4, ob5⟩, s0, s5, s4, s29, s30⟩
      by_cases hlt3 : i < xs.length
      · have hw : IntKind.i64.wrap ((i : Int) + 1) = i + 1 := wrapI (by omega) (by omega)
        have hrj : RdG v3 3 m1 a xs := by obtain ⟨jx, rfl⟩ := hp; exact hr.ext jx
        rcases List.eq_nil_or_concat acc with rfl | ⟨ys, l, hcc⟩
        · simp -dsimp -implicitDefEqProofs [s0, s4, s5, s29, s30, hlt3, hw, hwd]
          refine callsTo Try.cal69 (longestFrom_c xs a hn _ i _ hrj hlt3 (rnk_lt hlt3)) ?_
          simp -dsimp -implicitDefEqProofs [s0, s4, s5, s29, s30, hlt3, hw, hwd]
          cases hd : (dP xs i == (T : Int) - k) with
          | true =>
            have hd' : dP xs i = (T : Int) - k := by simpa using hd
            have hst := nestP_step (xs := xs) (acc := []) hlt2
            rw [nextP_hit hno (by simp [okP, lastOk, hd']) xs.length hlt3] at hst
            simp -dsimp -implicitDefEqProofs [s0, s4, s5, s29, s30, hlt3, hw, hwd]
            refine appTo_grow Try.sl38 Try.inf2 ⟨by decide, rfl⟩ (o := ob) (get_old hob) ⟨ob4, ob5⟩ ⟨ob3, ob2⟩ (by rw [ob1]; simp) ⟨by omega, by omega⟩ (Src.obj (o := ⟨[.int .i64 i], _, 1, 1⟩) (by simp; rfl) (by simp) rfl rfl) ?_
            intro m2 id2 hg
            simp -dsimp -implicitDefEqProofs [s0, s4, s5, s29, s30, hlt3, hw, hwd]
            refine next_ hlt2 ⟨[i], id2, _, by rw [← hacc, hst]; rfl, hg.pre _ (pre_app hp _) hid, by rw [hg.at_]; simp; have := hp.length_le; omega, hg.new, by simp [ob1], ⟨by simp [hlt3], by simp⟩, by simp [s0, hwd]; omega⟩
          | false =>
            have hd' : ¬ dP xs i = (T : Int) - k := by simpa using hd
            simp -dsimp -implicitDefEqProofs [s0, s4, s5, s29, s30, hlt3, hw, hwd]
            exact next_ hlt3 ⟨ob, nextP_skip hno (by simp [okP, hd']), hp, hob, ⟨ob1, ob2, ob3, ob4, ob5⟩, by simp [s0, s4, s5, s29, hw]⟩
        · rw [List.concat_eq_append] at hcc
          subst hcc
          have hl : l < xs.length := hmem l (by simp)
          have hal : (ys ++ [l]).length = ys.length + 1 := by simp
          have hoc : ob.cells[ys.length]? = some (.int .i64 l) := by rw [ob1]; simp
          have hol : ob.cells.length = ys.length + 1 := by rw [ob1]; simp
          have hyk : ys.length + 1 ≤ k := by simpa using hlen
          have hwl : IntKind.i64.wrap (ys.length : Int) = ys.length := wrapI (by omega) (by omega)
          have hne : ((ys.length : Int) + 1 == 0) = false := by simp; omega
          have hyl : ys.length < ys.length + 1 := by omega
          have hyI : (ys.length : Int) < (ys.length : Int) + 1 := by omega
          obtain ⟨idx, off, o, ha, hm, hkd, hsz, hlx, hrow, _⟩ := R3.at_ hrj hlt3
          obtain ⟨idx', off', o', ha', hm', hkd', hsz', hlx', hrow', _⟩ := R3.at_ hrj hl
          subst ha
          simp at ha'
          obtain ⟨rfl, rfl⟩ := ha'
          rw [hm] at hm'
          injection hm' with hm'
          subst hm'
          have hf : fitB xs[i] xs[l] = fitF xs i l := by rw [fitF, potAt_eq hlt3, potAt_eq hl]
          simp -dsimp -implicitDefEqProofs [s0, s4, s5, s29, s30, hlt3, hl, hal, hw, hwd, hwl, hne, hyl, hyI, withO_of hob, ob5, ob3, withC_of hoc, hol, withO_of hm, hkd, hsz, hlx, hrow, hlx', hrow']
          refine callsTo Try.cal57 (fitsIn_c xs[i] xs[l] _) ?_
          simp -dsimp -implicitDefEqProofs [s0, s4, s5, s29, s30, hlt3, hl, hal, hw, hwd, hwl, hne, hyl, hyI, withO_of hob, ob5, ob3, withC_of hoc, hol, withO_of hm, hkd, hsz, hlx, hrow, hlx', hrow']
          rw [hf]
          cases hfk : fitF xs i l with
          | false =>
            simp -dsimp -implicitDefEqProofs [s0, s4, s5, s29, s30, hlt3, hl, hal, hw, hwd, hwl, hne, hyl, hyI, withO_of hob, ob5, ob3, withC_of hoc, hol, withO_of hm, hkd, hsz, hlx, hrow, hlx', hrow']
            exact next_ hlt3 ⟨ob, nextP_skip hno (by simp [okP, lastOk, hfk]), hp, hob, ⟨ob1, ob2, ob3, ob4, ob5⟩, by simp [s0, s4, s5, s29, hw]⟩
          | true =>
            simp -dsimp -implicitDefEqProofs [s0, s4, s5, s29, s30, hlt3, hl, hal, hw, hwd, hwl, hne, hyl, hyI, withO_of hob, ob5, ob3, withC_of hoc, hol, withO_of hm, hkd, hsz, hlx, hrow, hlx', hrow']
            refine callsTo Try.cal69 (longestFrom_c xs _ hn _ i _ hrj hlt3 (rnk_lt hlt3)) ?_
            simp -dsimp -implicitDefEqProofs [s0, s4, s5, s29, s30, hlt3, hl, hal, hw, hwd, hwl, hne, hyl, hyI, withO_of hob, ob5, ob3, withC_of hoc, hol, withO_of hm, hkd, hsz, hlx, hrow, hlx', hrow']
            cases hd : (dP xs i == (T : Int) - k) with
            | true =>
              have hd' : dP xs i = (T : Int) - k := by simpa using hd
              have hst := nestP_step (xs := xs) (acc := ys ++ [l]) hlt2
              rw [nextP_hit hno (by simp [okP, lastOk, hd', hfk]) xs.length hlt3] at hst
              simp -dsimp -implicitDefEqProofs [s0, s4, s5, s29, s30, hlt3, hl, hal, hw, hwd, hwl, hne, hyl, hyI, withO_of hob, ob5, ob3, withC_of hoc, hol, withO_of hm, hkd, hsz, hlx, hrow, hlx', hrow']
              refine appTo_grow Try.sl38 Try.inf2 ⟨by decide, rfl⟩ (o := ob) (get_old hob) ⟨ob4, ob5⟩ ⟨ob3, ob2⟩ (by rw [ob1]; simp) ⟨by omega, by omega⟩ (Src.obj (o := ⟨[.int .i64 i], _, 1, 1⟩) (by simp; rfl) (by simp) rfl rfl) ?_
              intro m2 id2 hg
              simp -dsimp -implicitDefEqProofs [s0, s4, s5, s29, s30, hlt3, hl, hal, hw, hwd, hwl, hne, hyl, hyI, withO_of hob, ob5, ob3, withC_of hoc, hol, withO_of hm, hkd, hsz, hlx, hrow, hlx', hrow']
              refine next_ hlt2 ⟨ys ++ [l] ++ [i], id2, _, by rw [← hacc, hst], hg.pre _ (pre_app hp _) hid, by rw [hg.at_]; simp; have := hp.length_le; omega, hg.new, by simp [ob1], ⟨fun x hx => ?_, by simp; omega⟩, by simp [s0, hwd]; omega⟩
              rcases List.mem_append.1 hx with hx | hx
              · exact hmem x hx
              · simp at hx; omega
            | false =>
              have hd' : ¬ dP xs i = (T : Int) - k := by simpa using hd
              simp -dsimp -implicitDefEqProofs [s0, s4, s5, s29, s30, hlt3, hl, hal, hw, hwd, hwl, hne, hyl, hyI, withO_of hob, ob5, ob3, withC_of hoc, hol, withO_of hm, hkd, hsz, hlx, hrow, hlx', hrow']
              exact next_ hlt3 ⟨ob, nextP_skip hno (by simp [okP, hd']), hp, hob, ⟨ob1, ob2, ob3, ob4, ob5⟩, by simp [s0, s4, s5, s29, hw]⟩
      · obtain rfl : i = xs.length := by omega
        have hst := nestP_step (xs := xs) (acc := acc) hlt2
        rw [hno] at hst
        simp -dsimp -implicitDefEqProofs [s0, s4, s5, s29, s30, hwd]
        exact next_ hlt2 ⟨acc, id, ob, by rw [← hst]; exact hacc, hp, hid, hob, ⟨ob1, ob2, ob3, ob4, ob5⟩, ⟨hmem, by omega⟩, by simp [s0, s4, hwd]; omega⟩
    · obtain rfl : k = T := by omega
      have hneg : ¬ (0 : Int) < (k : Int) - k := by omega
      have hO : nestO xs = some (nestL xs) := by simp [nestO, g]
      have hL : nestL xs = acc.map fun (i : Nat) => (i : Int) := by rw [nestL, hT, Int.toNat_natCast, ← hacc, Nat.sub_self]; rfl
      have hC : potsC xs = 0 := by simp [potsC, g]
      simp -dsimp -implicitDefEqProofs [s0, s4, s5, hneg]
      rw [hO, hL, hC]
      simp only [optV, optM, List.length_map]
      exact GC.keepTP (Fits.refl m) hp hob hid ob3.symm ob2.symm (by simp; omega) ob1.symm (by rw [ob1]; exact ints_lit _) rfl
theorem nestO_length {xs : List I3} {zs : List Int} (h : nestO xs = some zs) : zs.length ≤ xs.length := by
  unfold nestO at h
  split at h
  · simp at h
    subst h
    have h1 := nestTo_length (n := xs.length) (F := fitF xs) (topP xs xs.length).toNat []
    have h2 := topP_bounds xs xs.length
    simp only [nestL, List.length_map]
    unfold nestP
    simp at h1
    omega
  · simp at h
end Go.Proofs.Ytnipgigpjhalkaa
