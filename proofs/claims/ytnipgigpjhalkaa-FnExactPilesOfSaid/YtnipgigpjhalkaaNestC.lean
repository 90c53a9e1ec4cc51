/-
  Nests, part 3: pots that fit with no other one. Conditions: none.
-/
import Derived.Test.YtnipgigpjhalkaaNestA
set_option linter.unusedSimpArgs false
set_option linter.unusedVariables false
set_option linter.unusedSectionVars false
namespace Go.Proofs.Ytnipgigpjhalkaa
open Go.Abs Go.RowKit

/-- Fits with none of these, either way. -/
def aloneB (p : I3) (xs : List I3) : Bool := xs.all fun q => !fitB p q && !fitB q p
def aloneTo (xs : List I3) (k : Nat) : List Int := ((List.range k).filter fun i => aloneB (xs.getD i (0, 0, 0)) xs).map fun (i : Nat) => (i : Int)
def aloneO (xs : List I3) : Option (List Int) := if potsB xs then some (aloneTo xs xs.length) else none
def potsC (xs : List I3) : Int := if potsB xs then 0 else 1
theorem aloneTo_succ {xs : List I3} {k : Nat} (h : k < xs.length) : aloneTo xs (k + 1) = if aloneB xs[k] xs then aloneTo xs k ++ [(k : Int)] else aloneTo xs k := by
  unfold aloneTo
  rw [List.range_succ, List.filter_append, List.map_append]
  cases hf : aloneB xs[k] xs <;> simp [List.getElem?_eq_getElem h, hf]
theorem aloneTo_length (xs : List I3) (k : Nat) : (aloneTo xs k).length ≤ k := by
  unfold aloneTo
  rw [List.length_map]
  exact Nat.le_trans (List.length_filter_le _ _) (by simp)
theorem aloneO_length {xs : List I3} {zs : List Int} (h : aloneO xs = some zs) : zs.length ≤ xs.length := by
  unfold aloneO at h
  split at h
  · injection h with h; subst h; exact aloneTo_length _ _
  · cases h
theorem alone_step {p : I3} {xs : List I3} {i : Nat} (h : i < xs.length) : aloneB p (xs.take (i + 1)) = (aloneB p (xs.take i) && (!fitB p xs[i] && !fitB xs[i] p)) := by
  unfold aloneB
  rw [List.take_add_one, List.getElem?_eq_getElem h, List.all_append]; simp

theorem specAlone_c (xs : List I3) (a : Option Addr) (m : Mem) (hr : RdG v3 3 m a xs) (hn : xs.length ≤ 1048576) :
    ACalls Try.prog 24 [.slice a xs.length xs.length] m (.tuple #[optV m.length (aloneO xs), .int .i64 (potsC xs)]) (m ++ optM 2 (aloneO xs)) := by
  refine acalls_of_vc Try.func24 rfl Try.fol (by kernel_rfl) ?_
  simp only [Try.f24]
  simp -dsimp -implicitDefEqProofs
  refine callsTo Try.cal59 (l19Ok_c xs a _ hr hn) ?_
  simp -dsimp -implicitDefEqProofs
  refine ⟨fun g => ?_, fun g0 => ?_⟩
  · simp at g
    simp [aloneO, potsC, g, optV, optM]
    exact GC.refl _ _ _
  simp at g0
  refine loopN xs.length (fun k σ m' => ∃ id ob, m <+: m' ∧ m.length ≤ id ∧ m'[id]? = some ob ∧ (ob.cells = (aloneTo xs k).map (Value.int .i64) ∧ ob.elem = 2 ∧ ob.sz = 1 ∧ 1 ≤ ob.kind ∧ ob.kind ≤ 2) ∧
      σ 0 = some (.slice a xs.length xs.length) ∧ σ 4 = some (.slice (some ⟨id, 0, none⟩) (aloneTo xs k).length (aloneTo xs k).length) ∧ σ 5 = some (.int .i64 k))
    ⟨m.length, ⟨[], 2, 1, 1⟩, pre_app (pre_refl m) _, Nat.le_refl _, by simp, by simp [aloneTo], by simp [aloneTo]⟩ ?_
  rintro k σ m' hk ⟨id, ob, hp, hid, hob, ⟨ob1, ob2, ob3, ob4, ob5⟩, s0, s4, s5⟩
  by_cases hlt : k < xs.length
  · have hw : IntKind.i64.wrap ((k : Int) + 1) = k + 1 := wrapI (by omega) (by omega)
    obtain ⟨idx, offx, ox, rfl, hm, hkd, hsz, hl, hrow, _⟩ := R3.at_ hr hlt
    have hm' := prefix_get hp hm
    simp -dsimp -implicitDefEqProofs [s0, s4, s5, hlt]
    refine loopN xs.length (fun i σ1 m1 => m1 = m' ∧ σ1 0 = some (.slice (some ⟨idx, offx, none⟩) xs.length xs.length) ∧ σ1 4 = some (.slice (some ⟨id, 0, none⟩) (aloneTo xs k).length (aloneTo xs k).length) ∧ σ1 5 = some (.int .i64 k) ∧
      σ1 6 = some (.bool (aloneB xs[k] (xs.take i))) ∧ σ1 7 = some (.int .i64 i)) ⟨rfl, by simp [s0, s4, s5, aloneB]⟩ ?_
    rintro i σ1 m1 hi ⟨rfl, t0, t4, t5, t6, t7⟩
    by_cases hli : i < xs.length
    · have hwi : IntKind.i64.wrap ((i : Int) + 1) = i + 1 := wrapI (by omega) (by omega)
      have hst := alone_step (p := xs[k]) hli
      cases hf : aloneB xs[k] (xs.take i) with
      | false =>
        rw [hf] at t6 hst
        simp -dsimp -implicitDefEqProofs [t0, t4, t5, t6, t7, hli, hlt, hwi]
        exact next_ hli ⟨rfl, by simp [t0, t4, t5, hwi, hst]⟩
      | true =>
        rw [hf] at t6 hst
        simp -dsimp -implicitDefEqProofs [t0, t4, t5, t6, t7, hli, hlt, hwi, withO_of hm', hkd, hsz]
        refine callsTo Try.cal55 (l19Fits_c xs[k] xs[i] _ _ _ _ _ ((IsP.row hr hlt).ext hp) ((IsP.row hr hli).ext hp)) ?_
        simp -dsimp -implicitDefEqProofs [t0, t4, t5, t6, t7, hli, hlt, hwi, withO_of hm', hkd, hsz]
        cases hf1 : fitB xs[k] xs[i] with
        | true =>
          simp -dsimp -implicitDefEqProofs [t0, t4, t5, t6, t7, hli, hlt, hwi, withO_of hm', hkd, hsz]
          exact next_ hli ⟨rfl, by simp [t0, t4, t5, hwi, hst, hf1]⟩
        | false =>
          simp -dsimp -implicitDefEqProofs [t0, t4, t5, t6, t7, hli, hlt, hwi, withO_of hm', hkd, hsz]
          refine callsTo Try.cal55 (l19Fits_c xs[i] xs[k] _ _ _ _ _ ((IsP.row hr hli).ext hp) ((IsP.row hr hlt).ext hp)) ?_
          simp -dsimp -implicitDefEqProofs [t0, t4, t5, t6, t7, hli, hlt, hwi, withO_of hm', hkd, hsz]
          exact next_ hli ⟨rfl, by simp [t0, t4, t5, hwi, hst, hf1]⟩
    · obtain rfl : i = xs.length := by omega
      rw [List.take_length] at t6
      simp -dsimp -implicitDefEqProofs [t0, t4, t5, t6, t7, hli, hlt, hw]
      cases hf : aloneB xs[k] xs with
      | false =>
        simp -dsimp -implicitDefEqProofs [t0, t4, t5, t6, t7, hli, hlt, hw]
        exact next_ hlt ⟨id, ob, hp, hid, hob, by rw [aloneTo_succ hlt, hf]; exact ⟨ob1, ob2, ob3, ob4, ob5⟩, by simp [t0, t4, t5, aloneTo_succ hlt, hf, hw]⟩
      | true =>
        have hlen := aloneTo_length xs k
        simp -dsimp -implicitDefEqProofs [t0, t4, t5, t6, t7, hli, hlt, hw]
        refine appTo_grow Try.sl38 Try.inf2 ⟨by decide, rfl⟩ (o := ob) (get_old hob) ⟨ob4, ob5⟩ ⟨ob3, ob2⟩ (by rw [ob1]; simp) ⟨by omega, by omega⟩ (Src.obj (o := ⟨[.int .i64 k], _, 1, 1⟩) (by simp; rfl) (by simp) rfl rfl) ?_
        intro m2 id2 hg
        simp -dsimp -implicitDefEqProofs [t0, t4, t5, t6, t7, hli, hlt, hw]
        refine next_ hlt ⟨id2, _, hg.pre m (pre_app hp _) hid, by rw [hg.at_]; simp; have := hp.length_le; omega, hg.new, ?_, ?_⟩
        · rw [aloneTo_succ hlt]; simp [hf, ob1]
        · simp [t0, t4, t5, aloneTo_succ hlt, hf, hw]
  · simp -dsimp -implicitDefEqProofs [s0, s4, s5, hlt]
    obtain rfl : k = xs.length := by omega
    simp only [aloneO, potsC, g0, if_true, optV, optM]
    exact GC.keepTP (Fits.refl m) hp hob hid ob3.symm ob2.symm (by simp; omega) ob1.symm (by rw [ob1]; exact ints_lit _) rfl
theorem implAlone_c (xs : List I3) (a : Option Addr) (m : Mem) (hr : RdG v3 3 m a xs) (hn : xs.length ≤ 1048576) :
    ACalls Try.prog 25 [.slice a xs.length xs.length] m (.tuple #[optV m.length (aloneO xs), .int .i64 (potsC xs)]) (m ++ optM 2 (aloneO xs)) := by
  refine acalls_of_vc Try.func25 rfl Try.fol (by kernel_rfl) ?_
  simp only [Try.f25]
  simp -dsimp -implicitDefEqProofs
  refine callsTo Try.cal22 (validPots_c xs a _ hr hn) ?_
  simp -dsimp -implicitDefEqProofs
  refine ⟨fun g => ?_, fun g0 => ?_⟩
  · simp at g
    simp [aloneO, potsC, g, optV, optM]
    exact GC.refl _ _ _
  simp at g0
  refine loopN xs.length (fun k σ m' => ∃ id ob, m <+: m' ∧ m.length ≤ id ∧ m'[id]? = some ob ∧ (ob.cells = (aloneTo xs k).map (Value.int .i64) ∧ ob.elem = 2 ∧ ob.sz = 1 ∧ 1 ≤ ob.kind ∧ ob.kind ≤ 2) ∧
      σ 0 = some (.slice a xs.length xs.length) ∧ σ 14 = some (.slice a xs.length xs.length) ∧ σ 15 = some (.int .i64 xs.length) ∧ σ 4 = some (.slice (some ⟨id, 0, none⟩) (aloneTo xs k).length (aloneTo xs k).length) ∧ σ 16 = some (.int .i64 k))
    ⟨m.length, ⟨[], 2, 1, 1⟩, pre_app (pre_refl m) _, Nat.le_refl _, by simp, by simp [aloneTo], by simp [aloneTo]⟩ ?_
  rintro k σ m' hk ⟨id, ob, hp, hid, hob, ⟨ob1, ob2, ob3, ob4, ob5⟩, s0, s14, s15, s4, s16⟩
  by_cases hlt : k < xs.length
  · have hw : IntKind.i64.wrap ((k : Int) + 1) = k + 1 := wrapI (by omega) (by omega)
    obtain ⟨idx, offx, ox, rfl, hm, hkd, hsz, hl, hrow, _⟩ := R3.at_ hr hlt
    have hm' := prefix_get hp hm
    simp -dsimp -implicitDefEqProofs [s0, s14, s15, s4, s16, hlt, withO_of hm', fun l => withO_of (get_old (l := l) hm'), hkd, hsz, hl, hrow, v3]
    refine loopN xs.length (fun i σ1 m1 => (m' ++ [⟨v3 xs[k], 26, 3, 1⟩]) <+: m1 ∧ σ1 0 = some (.slice (some ⟨idx, offx, none⟩) xs.length xs.length) ∧ σ1 14 = some (.slice (some ⟨idx, offx, none⟩) xs.length xs.length) ∧ σ1 15 = some (.int .i64 xs.length) ∧ σ1 4 = some (.slice (some ⟨id, 0, none⟩) (aloneTo xs k).length (aloneTo xs k).length) ∧
      σ1 16 = some (.int .i64 k) ∧ σ1 5 = some (.int .i64 k) ∧ σ1 6 = some (.pointer (some ⟨m'.length, 0, none⟩)) ∧ σ1 7 = some (.bool (aloneB xs[k] (xs.take i))) ∧ σ1 21 = some (.slice (some ⟨idx, offx, none⟩) xs.length xs.length) ∧ σ1 22 = some (.int .i64 xs.length) ∧ σ1 23 = some (.int .i64 i))
      ⟨pre_refl _, by simp [s0, s14, s15, s4, s16, aloneB]⟩ ?_
    rintro i σ1 m1 hi ⟨hp1, t0, t14, t15, t4, t16, t5, t6, t7, t21, t22, t23⟩
    have hp' : m' <+: m1 := (pre_app (pre_refl m') _).trans hp1
    by_cases hli : i < xs.length
    · have hwi : IntKind.i64.wrap ((i : Int) + 1) = i + 1 := wrapI (by omega) (by omega)
      have hst := alone_step (p := xs[k]) hli
      have hbox : m1[m'.length]? = some ⟨v3 xs[k], 26, 3, 1⟩ := prefix_get hp1 (by simp)
      have hm1 := prefix_get hp' hm'
      obtain ⟨idi, offi, oi, hai, hmi, hkdi, hszi, hli', hrowi, _⟩ := R3.at_ hr hli
      simp at hai
      obtain ⟨rfl, rfl⟩ := hai
      rw [hm] at hmi
      injection hmi with hmi
      subst hmi
      cases hf : aloneB xs[k] (xs.take i) with
      | false =>
        rw [hf] at t7 hst
        simp -dsimp -implicitDefEqProofs [t0, t14, t15, t4, t16, t5, t6, t7, t21, t22, t23, hli, hlt, hwi, withO_of hm1, fun l => withO_of (get_old (l := l) hm1), fun l => withO_of (get_old (l := l) hbox), hkd, hsz, hli', hrowi, v3]
        exact next_ hli ⟨pre_app hp1 _, by simp [t0, t14, t15, t4, t16, t5, t6, t21, t22, hwi, hst]⟩
      | true =>
        rw [hf] at t7 hst
        simp -dsimp -implicitDefEqProofs [t0, t14, t15, t4, t16, t5, t6, t7, t21, t22, t23, hli, hlt, hwi, withO_of hm1, fun l => withO_of (get_old (l := l) hm1), fun l => withO_of (get_old (l := l) hbox), hkd, hsz, hli', hrowi, v3]
        refine callsTo Try.cal57 (fitsIn_c xs[k] xs[i] _) ?_
        simp -dsimp -implicitDefEqProofs [t0, t14, t15, t4, t16, t5, t6, t7, t21, t22, t23, hli, hlt, hwi, withO_of hm1, fun l => withO_of (get_old (l := l) hm1), fun l => withO_of (get_old (l := l) hbox), hkd, hsz, hli', hrowi, v3]
        cases hf1 : fitB xs[k] xs[i] with
        | true =>
          simp -dsimp -implicitDefEqProofs [t0, t14, t15, t4, t16, t5, t6, t7, t21, t22, t23, hli, hlt, hwi, withO_of hm1, fun l => withO_of (get_old (l := l) hm1), fun l => withO_of (get_old (l := l) hbox), hkd, hsz, hli', hrowi, v3]
          exact next_ hli ⟨pre_app hp1 _, by simp [t0, t14, t15, t4, t16, t5, t6, t21, t22, hwi, hst, hf1]⟩
        | false =>
          simp -dsimp -implicitDefEqProofs [t0, t14, t15, t4, t16, t5, t6, t7, t21, t22, t23, hli, hlt, hwi, withO_of hm1, fun l => withO_of (get_old (l := l) hm1), fun l => withO_of (get_old (l := l) hbox), hkd, hsz, hli', hrowi, v3]
          refine callsTo Try.cal57 (fitsIn_c xs[i] xs[k] _) ?_
          simp -dsimp -implicitDefEqProofs [t0, t14, t15, t4, t16, t5, t6, t7, t21, t22, t23, hli, hlt, hwi, withO_of hm1, fun l => withO_of (get_old (l := l) hm1), fun l => withO_of (get_old (l := l) hbox), hkd, hsz, hli', hrowi, v3]
          exact next_ hli ⟨pre_app hp1 _, by simp [t0, t14, t15, t4, t16, t5, t6, t21, t22, hwi, hst, hf1]⟩
    · obtain rfl : i = xs.length := by omega
      rw [List.take_length] at t7
      simp -dsimp -implicitDefEqProofs [t0, t14, t15, t4, t16, t5, t6, t7, t21, t22, t23, hli, hlt, hw]
      cases hf : aloneB xs[k] xs with
      | false =>
        simp -dsimp -implicitDefEqProofs [t0, t14, t15, t4, t16, t5, t6, t7, t21, t22, t23, hli, hlt, hw]
        exact next_ hlt ⟨id, ob, hp.trans hp', hid, prefix_get hp' hob, by rw [aloneTo_succ hlt, hf]; exact ⟨ob1, ob2, ob3, ob4, ob5⟩, by simp [t0, t14, t15, t4, aloneTo_succ hlt, hf, hw]⟩
      | true =>
        have hlen := aloneTo_length xs k
        simp -dsimp -implicitDefEqProofs [t0, t14, t15, t4, t16, t5, t6, t7, t21, t22, t23, hli, hlt, hw]
        refine appTo_grow Try.sl38 Try.inf2 ⟨by decide, rfl⟩ (o := ob) (get_old (prefix_get hp' hob)) ⟨ob4, ob5⟩ ⟨ob3, ob2⟩ (by rw [ob1]; simp) ⟨by omega, by omega⟩ (Src.obj (o := ⟨[.int .i64 k], _, 1, 1⟩) (by simp; rfl) (by simp) rfl rfl) ?_
        intro m2 id2 hg
        simp -dsimp -implicitDefEqProofs [t0, t14, t15, t4, t16, t5, t6, t7, t21, t22, t23, hli, hlt, hw]
        refine next_ hlt ⟨id2, _, hg.pre m (pre_app (hp.trans hp') _) hid, by rw [hg.at_]; simp; have := (hp.trans hp').length_le; omega, hg.new, ?_, ?_⟩
        · rw [aloneTo_succ hlt]; simp [hf, ob1]
        · simp [t0, t14, t15, aloneTo_succ hlt, hf, hw]
  · simp -dsimp -implicitDefEqProofs [s0, s14, s15, s4, s16, hlt]
    obtain rfl : k = xs.length := by omega
    simp only [aloneO, potsC, g0, if_true, optV, optM]
    exact GC.keepTP (Fits.refl m) hp hob hid ob3.symm ob2.symm (by simp; omega) ob1.symm (by rw [ob1]; exact ints_lit _) rfl
end Go.Proofs.Ytnipgigpjhalkaa
