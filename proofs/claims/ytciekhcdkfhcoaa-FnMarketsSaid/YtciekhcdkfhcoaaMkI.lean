/-
  Markets, part 9: where it is worth going. Conditions: none.
-/
import Derived.Test.YtciekhcdkfhcoaaMkG
set_option linter.unusedSimpArgs false
set_option linter.unusedVariables false
set_option linter.unusedSectionVars false
namespace Go.Proofs.Ytciekhcdkfhcoaa
open Go.Abs Go.RowKit

def dM : Mk := (0, 0, [], [])
theorem getM {xs : List Mk} {i : Nat} (h : i < xs.length) : xs.getD i dM = xs[i] := by simp [List.getD_eq_getElem?_getD, List.getElem?_eq_getElem h]
def worthL (xs : List Mk) (ys : List Int) (k : Nat) : List Int := ((List.range k).filter fun i => decide (0 < incOf (xs.getD i dM) ys)).map fun (i : Nat) => (i : Int)
theorem worthL_succ (xs : List Mk) (ys : List Int) (k : Nat) : worthL xs ys (k + 1) = worthL xs ys k ++ (if 0 < incOf (xs.getD k dM) ys then [(k : Int)] else []) := by
  unfold worthL
  rw [List.range_succ, List.filter_append, List.map_append]
  congr 1
  by_cases h : 0 < incOf (xs.getD k dM) ys <;> simp only [List.filter_cons, h, decide_true, decide_false, if_true, Bool.false_eq_true, if_false] <;> rfl
theorem worthL_length (xs : List Mk) (ys : List Int) (k : Nat) : (worthL xs ys k).length ≤ k := by
  unfold worthL
  rw [List.length_map]
  exact Nat.le_trans (List.length_filter_le _ _) (by simp)
def worthO (n : Int) (xs : List Mk) (ys : List Int) : Option (List Int) := if codeM n xs ys = 0 then some (worthL xs ys xs.length) else none
theorem worthO_length {n : Int} {xs : List Mk} {ys zs : List Int} (h : worthO n xs ys = some zs) : zs.length ≤ 1048576 := by
  unfold worthO at h
  split at h
  · rename_i g
    injection h with h; subst h
    have := worthL_length xs ys xs.length
    have := (mksB_n (codeM_zero g).1).2.2
    omega
  · cases h
theorem IsMk.pre {m m' : Mem} {id off : Nat} {x : Mk} (h : IsMk m id off x) (hp : m <+: m') : IsMk m' id off x := by
  obtain ⟨o, a, b, h1, h2, h3, h4, h5, h6, h7, h8⟩ := h
  exact ⟨o, a, b, prefix_get hp h1, h2, h3, h4, h5, h6, h7.pre' hp, h8.pre' hp⟩
theorem specWorth_c (n : Int) (xs : List Mk) (ys : List Int) (a b : Option Addr) (m : Mem) (hr : RdM m a xs) (hs : RdI m b ys) (hn : xs.length ≤ 1048576) (hn' : ∀ x ∈ xs, x.2.2.1.length ≤ 1048576 ∧ x.2.2.2.length ≤ 1048576) (hn2 : ys.length ≤ 1048576) :
    ACalls Try.prog 33 [.int .i64 n, .slice a xs.length xs.length, .slice b ys.length ys.length] m (.tuple #[optV m.length (worthO n xs ys), .int .i64 (codeM n xs ys)]) (m ++ optM 2 (worthO n xs ys)) := by
  refine acalls_of_vc Try.func33 rfl Try.fol (by kernel_rfl) ?_
  simp only [Try.f33]
  simp -dsimp -implicitDefEqProofs
  refine callsTo Try.cal58 (l21Code_c n xs ys a b _ hr hs hn hn' hn2) ?_
  simp -dsimp -implicitDefEqProofs
  refine ⟨fun g => ?_, fun g => ?_⟩
  · simp at g
    simp [worthO, g, optV, optM]
    exact GC.refl _ _ _
  simp at g
  obtain ⟨hmk, hyn⟩ := codeM_zero g
  refine loopN xs.length (fun k σ m' => ∃ (i : Nat) (o : AObj), (m <+: m' ∧ m.length ≤ i ∧ m'[i]? = some o ∧ 1 ≤ o.kind ∧ o.kind ≤ 2 ∧ o.sz = 1 ∧ o.elem = 2 ∧ o.cells = (worthL xs ys k).map (Value.int .i64)) ∧ σ 1 = some (.slice a xs.length xs.length) ∧ σ 2 = some (.slice b ys.length ys.length) ∧
      σ 9 = some (.slice (some ⟨i, 0, none⟩) (worthL xs ys k).length (worthL xs ys k).length) ∧ σ 10 = some (.int .i64 k))
    ⟨m.length, _, ⟨⟨_, rfl⟩, Nat.le_refl _, by simp; rfl, by simp, by simp, rfl, rfl, rfl⟩, by simp, by simp, by simp [worthL], by simp⟩ ?_
  rintro k σ m' hk ⟨i, o, ⟨hp, hi, ho, ho1, ho2, ho3, ho4, ho5⟩, s1, s2, s9, s10⟩
  by_cases hlt : k < xs.length
  · obtain ⟨id, off, mo, ad, bd, rfl, hmo, hmk2, hms, hrow⟩ := (hr.pre hp) k hlt
    have hx := RdM.row (hr.pre hp) hlt
    obtain ⟨e2, e3⟩ := mksB_len hmk hlt
    have hwk : IntKind.i64.wrap ((k : Int) + 1) = k + 1 := wrapI (by omega) (by omega)
    have hsl := l21Sale_c xs[k] ys id ((off + k) * 4) b m' hx (hs.pre' hp) hn2 (by omega)
    have hx2 : IsMk (m' ++ [⟨(saleN xs[k] ys ys.length).map (Value.int .i64), 2, 1, 2⟩]) id ((off + k) * 4) xs[k] := hx.pre ⟨_, rfl⟩
    have hinc := l21Income_c xs[k] (saleN xs[k] ys ys.length) id ((off + k) * 4) (some ⟨m'.length, 0, none⟩) _ hx2 (RdI.of_get (o := ⟨(saleN xs[k] ys ys.length).map (Value.int .i64), 2, 1, 2⟩) (by simp) (by simp) rfl rfl) (by rw [saleN_length]; omega) (by rw [saleN_length]; omega)
    rw [saleN_length] at hinc
    simp -dsimp -implicitDefEqProofs [s1, s2, s9, s10, hlt, withO_of hmo, hmk2, hms, hwk]
    have e1 : incOf (xs.getD k dM) ys = incTo xs[k] (saleN xs[k] ys ys.length) ys.length := by rw [getM hlt]; rfl
    have hws := worthL_succ xs ys k
    refine callsTo Try.cal55 hsl ?_
    simp -dsimp -implicitDefEqProofs [s1, s2, s9, s10, hlt, withO_of hmo, hmk2, hms, hwk]
    refine callsTo Try.cal54 hinc ?_
    simp -dsimp -implicitDefEqProofs [s1, s2, s9, s10, hlt, withO_of hmo, hmk2, hms, hwk]
    refine sp2 (fun g1 => ?_) (fun g1 => ?_)
    · simp at g1
      rw [e1, if_pos g1] at hws
      refine appTo_grow (e := 2) (sz := 1) (by_ := 8) (z := .int .i64 0) (by kernel_rfl) (by kernel_rfl) ⟨by decide, rfl⟩ (o := o) (get_old ho) ⟨ho1, ho2⟩ ⟨ho3, ho4⟩ (by rw [ho5]; simp) (by have := worthL_length xs ys k; omega) (Src.obj (o := ⟨[.int .i64 k], 2, 1, 1⟩) (by simp) (by simp) rfl rfl) ?_
      intro m4 id4 hg
      simp -dsimp -implicitDefEqProofs [s1, s2, s9, s10, hlt, withO_of hmo, hmk2, hms, hwk]
      exact next_ hlt ⟨id4, _, ⟨hg.pre m (pre_app hp _) hi, by rw [hg.at_]; simp; have := hp.length_le; omega, hg.new, by simp, by simp, rfl, rfl, by simp [ho5, hws]⟩, by simp [s1], by simp [s2], by simp [hws], by simp [hwk]⟩
    · simp at g1
      rw [e1, if_neg (by omega), List.append_nil] at hws
      exact next_ hlt ⟨i, o, ⟨pre_app hp _, hi, get_old ho, ho1, ho2, ho3, ho4, by rw [hws]; exact ho5⟩, by simp [s1], by simp [s2], by simp [s9, hws], by simp [hwk]⟩
  · simp -dsimp -implicitDefEqProofs [s1, s2, s9, s10, hlt]
    obtain rfl : k = xs.length := by omega
    simp only [worthO, g, if_true, optV, optM]
    exact GC.keepTP (Fits.refl m) hp ho hi ho3.symm ho4.symm (by simp; omega) ho5.symm (by rw [ho5]; exact ints_lit _) rfl
theorem implWorth_c (n : Int) (xs : List Mk) (ys : List Int) (a b : Option Addr) (m : Mem) (hr : RdM m a xs) (hs : RdI m b ys) (hn : xs.length ≤ 1048576) (hn' : ∀ x ∈ xs, x.2.2.1.length ≤ 1048576 ∧ x.2.2.2.length ≤ 1048576) (hn2 : ys.length ≤ 1048576) :
    ACalls Try.prog 34 [.int .i64 n, .slice a xs.length xs.length, .slice b ys.length ys.length] m (.tuple #[optV m.length (worthO n xs ys), .int .i64 (codeM n xs ys)]) (m ++ optM 2 (worthO n xs ys)) := by
  refine acalls_of_vc Try.func34 rfl Try.fol (by kernel_rfl) ?_
  simp only [Try.f34]
  simp -dsimp -implicitDefEqProofs
  refine callsTo Try.cal59 (marketsCode_c n xs ys a b _ hr hs hn hn' hn2) ?_
  simp -dsimp -implicitDefEqProofs
  refine ⟨fun g => ?_, fun g => ?_⟩
  · simp at g
    simp [worthO, g, optV, optM]
    exact GC.refl _ _ _
  simp at g
  obtain ⟨hmk, hyn⟩ := codeM_zero g
  refine loopN xs.length (fun k σ m' => ∃ (i : Nat) (o : AObj), (m <+: m' ∧ m.length ≤ i ∧ m'[i]? = some o ∧ 1 ≤ o.kind ∧ o.kind ≤ 2 ∧ o.sz = 1 ∧ o.elem = 2 ∧ o.cells = (worthL xs ys k).map (Value.int .i64)) ∧ σ 2 = some (.slice b ys.length ys.length) ∧ σ 23 = some (.slice a xs.length xs.length) ∧ σ 24 = some (.int .i64 xs.length) ∧
      σ 9 = some (.slice (some ⟨i, 0, none⟩) (worthL xs ys k).length (worthL xs ys k).length) ∧ σ 25 = some (.int .i64 k))
    ⟨m.length, _, ⟨⟨_, rfl⟩, Nat.le_refl _, by simp; rfl, by simp, by simp, rfl, rfl, rfl⟩, by simp, by simp, by simp, by simp [worthL], by simp⟩ ?_
  rintro k σ m' hk ⟨i, o, ⟨hp, hi, ho, ho1, ho2, ho3, ho4, ho5⟩, s2, s23, s24, s9, s25⟩
  by_cases hlt : k < xs.length
  · obtain ⟨id, off, mo, ad, bd, rfl, hmo, hmk2, hms, hl4, hrow, c0, c1, c2, c3, q1, q2⟩ := (hr.pre hp) k hlt
    obtain ⟨e2, e3⟩ := mksB_len hmk hlt
    have hwk : IntKind.i64.wrap ((k : Int) + 1) = k + 1 := wrapI (by omega) (by omega)
    have e1 : incOf (xs.getD k dM) ys = incOf xs[k] ys := by rw [getM hlt]
    have hws := worthL_succ xs ys k
    simp -dsimp -implicitDefEqProofs [s2, s23, s24, s9, s25, hlt, withO_of hmo, fun l => withO_of (get_old (l := l) hmo), hmk2, hms, hl4, hrow, mkRow4, hwk]
    have hsell := sellAt_c xs[k] ys ad bd b (m' ++ [⟨mkRow4 xs[k] ad bd, 35, 4, 1⟩]) (q1.ext _) (q2.ext _) ((hs.pre' hp).ext _) hn2 (by omega) (by omega)
    simp only [mkRow4] at hsell
    refine callsTo Try.cal57 hsell ?_
    simp -dsimp -implicitDefEqProofs [s2, s23, s24, s9, s25, hlt, withO_of hmo, fun l => withO_of (get_old (l := l) hmo), hmk2, hms, hl4, hrow, mkRow4, hwk]
    refine sp2 (fun g1 => ?_) (fun g1 => ?_)
    · simp at g1
      rw [e1, if_pos g1] at hws
      refine appTo_grow (e := 2) (sz := 1) (by_ := 8) (z := .int .i64 0) (by kernel_rfl) (by kernel_rfl) ⟨by decide, rfl⟩ (o := o) (get_old ho) ⟨ho1, ho2⟩ ⟨ho3, ho4⟩ (by rw [ho5]; simp) (by have := worthL_length xs ys k; omega) (Src.obj (o := ⟨[.int .i64 k], 2, 1, 1⟩) (by simp) (by simp) rfl rfl) ?_
      intro m4 id4 hg
      simp -dsimp -implicitDefEqProofs [s2, s23, s24, s9, s25, hlt, withO_of hmo, fun l => withO_of (get_old (l := l) hmo), hmk2, hms, hl4, hrow, mkRow4, hwk]
      exact next_ hlt ⟨id4, _, ⟨hg.pre m (pre_app hp _) hi, by rw [hg.at_]; simp; have := hp.length_le; omega, hg.new, by simp, by simp, rfl, rfl, by simp [ho5, hws]⟩, by simp [s2], by simp [s23], by simp [s24], by simp [hws], by simp [hwk]⟩
    · simp at g1
      rw [e1, if_neg (by omega), List.append_nil] at hws
      exact next_ hlt ⟨i, o, ⟨pre_app hp _, hi, get_old ho, ho1, ho2, ho3, ho4, by rw [hws]; exact ho5⟩, by simp [s2], by simp [s23], by simp [s24], by simp [s9, hws], by simp [hwk]⟩
  · simp -dsimp -implicitDefEqProofs [s2, s23, s24, s9, s25, hlt]
    obtain rfl : k = xs.length := by omega
    simp only [worthO, g, if_true, optV, optM]
    exact GC.keepTP (Fits.refl m) hp ho hi ho3.symm ho4.symm (by simp; omega) ho5.symm (by rw [ho5]; exact ints_lit _) rfl
end Go.Proofs.Ytciekhcdkfhcoaa
