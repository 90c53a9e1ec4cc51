/-
  Kinds, part 4: rods that are taken. Conditions: none.
-/
import Derived.Test.YtlhcepcgjnlopaaKinC
set_option linter.unusedSimpArgs false
set_option linter.unusedVariables false
set_option linter.unusedSectionVars false
namespace Go.Proofs.Ytlhcepcgjnlopaa
open Go.Abs Go.RowKit

def takeL (ks : List I2) (xs : List Int) : List I2 := List.zipWith (fun p n => (p.1, w64 (p.2 - n))) ks xs
def takeO (ks : List I2) (xs : List Int) : Option (List I2) := if takenC ks xs = 0 then some (takeL ks xs) else none
theorem takeL_length {ks : List I2} {xs : List Int} (h : xs.length = ks.length) : (takeL ks xs).length = ks.length := by simp [takeL, h]
theorem takeL_get {ks : List I2} {xs : List Int} {k : Nat} (h : k < (takeL ks xs).length) (hk : k < ks.length) (hx : k < xs.length) : (takeL ks xs)[k] = (ks[k].1, w64 (ks[k].2 - xs[k])) := by simp [takeL]
theorem v2_lit (p : I2) : (v2 p).all litB = true := rfl

theorem specTake_c (ks : List I2) (xs : List Int) (a b : Option Addr) (m : Mem) (hr : RdG v2 2 m a ks) (hs : RdI m b xs) (hn : xs.length ≤ 1048576) (hn' : ks.length ≤ 1048576) :
    ACalls Try.prog 28 [.slice a ks.length ks.length, .slice b xs.length xs.length] m (.tuple #[optVG m.length (takeO ks xs), .int .i64 (takenC ks xs)]) (m ++ optMG v2 2 51 (takeO ks xs)) := by
  have hg : ∀ x, (v2 x).length = 2 := fun _ => rfl
  refine acalls_of_vc Try.func28 rfl Try.fol (by kernel_rfl) ?_
  simp only [Try.f28]
  simp -dsimp -implicitDefEqProofs
  refine callsTo Try.cal53 (l18Taken_c ks xs a b _ hr hs hn hn') ?_
  simp -dsimp -implicitDefEqProofs
  refine ⟨fun g => ?_, fun g0 => ?_⟩
  · simp at g
    simp [takeO, g, optVG, optMG]
    exact GC.refl _ _ _
  simp at g0
  obtain ⟨_, _, hle⟩ := takenC_zero g0
  have hlT := takeL_length hle
  refine appTo_grow Try.sl25 Try.inf51 ⟨by decide, rfl⟩ (o := ⟨[], 51, 2, 1⟩) (by simp) (by decide) ⟨rfl, rfl⟩ rfl ⟨by omega, by omega⟩ (Src.rd (hr.ext _)) ?_
  intro m2 id2 gr
  have hp := gr.pre m (pre_app (pre_refl m) _) (Nat.le_refl _)
  have hid : m.length ≤ id2 := by rw [gr.at_]; simp
  simp -dsimp -implicitDefEqProofs
  refine loopN xs.length (fun k σ m' => m <+: m' ∧ m'[id2]? = some ⟨((overL (takeL ks xs) ks k).map v2).flatten, 51, 2, 2⟩ ∧ σ 1 = some (.slice b xs.length xs.length) ∧ σ 7 = some (.slice (some ⟨id2, 0, none⟩) ks.length ks.length) ∧ σ 8 = some (.int .i64 k))
    ⟨hp, by rw [overL_zero]; simpa using gr.new, by simp⟩ ?_
  rintro k σ m' hk ⟨hp', ho, s1, s7, s8⟩
  by_cases hlt : k < xs.length
  · have hlt' : k < ks.length := by omega
    have hlo : k < (overL (takeL ks xs) ks k).length := by rw [overL_length hlT]; exact hlt'
    obtain ⟨id', off', o', rfl, hm', hkd', hsz', hc'⟩ := hs.at_ hlt
    have hm'' := prefix_get hp' hm'
    obtain ⟨c0, c1⟩ := R2.cell (RdG.of_get hg (overL (takeL ks xs) ks k) ho (Nat.le_refl 2) rfl rfl) ho hlo
    rw [overL_get hlT hlt'] at c0 c1
    simp at c0 c1
    have hset := set_rows hg (xs := overL (takeL ks xs) ks k) (k := k) (j := 1) hlo (by decide) (y := .int .i64 (w64 (ks[k].2 - xs[k]))) (x := (takeL ks xs)[k]'(by omega)) (by rw [overL_get hlT hlt', takeL_get _ hlt' hlt]; rfl)
    have hlen : (((overL (takeL ks xs) ks k).map v2).flatten).length = ks.length * 2 := by
      rw [flatten_length (sz := 2) (by intro r hr; obtain ⟨x, _, rfl⟩ := List.mem_map.1 hr; rfl), List.length_map, overL_length hlT]
    have hlen' : (List.map (List.length ∘ v2) (overL (takeL ks xs) ks k)).sum = ks.length * 2 := by rw [← hlen, List.length_flatten, List.map_map]
    have hw : IntKind.i64.wrap ((k : Int) + 1) = k + 1 := wrapI (by omega) (by omega)
    simp -dsimp -implicitDefEqProofs [s1, s7, s8, hlt, hlt', withO_of ho, withO_of hm'', hkd', hsz', withC_of hc', withC_of c1, hw]
    refine need_intro (by rw [hlen']; omega) ?_
    refine need_intro (.inr (by kernel_rfl)) ?_
    refine next_ hlt ⟨pre_set hp' hid _, ?_, by simp [s1, s7, hw]⟩
    rw [List.getElem?_set_self (List.getElem?_eq_some_iff.1 ho).1]
    congr 2
    refine hset.trans ?_
    rw [overL_set hlT hlt']
  · simp -dsimp -implicitDefEqProofs [s1, s7, s8, hlt]
    obtain rfl : k = xs.length := by omega
    rw [hle, overL_all hlT] at ho
    simp only [takeO, g0, if_true, optVG, optMG, hlT]
    exact GC.keepTP (Fits.refl m) hp' ho hid rfl rfl (.inl rfl) rfl (rows_lit v2_lit _) rfl
theorem clone_c (ks : List I2) (id off : Nat) (m : Mem) (hr : RdG v2 2 m (some ⟨id, off, none⟩) ks) (hn' : ks.length ≤ 1048576) :
    ACalls Try.prog 56 [.slice (some ⟨id, off, none⟩) ks.length ks.length] m (.slice (some ⟨m.length, 0, none⟩) ks.length ks.length) (m ++ [⟨(ks.map v2).flatten, 51, 2, 2⟩]) := by
  refine acalls_of_vc Try.func56 rfl Try.fol (by kernel_rfl) ?_
  simp only [Try.f56]
  simp -dsimp -implicitDefEqProofs
  refine appTo_grow Try.sl25 Try.inf51 ⟨by decide, rfl⟩ (o := ⟨[], 51, 2, 1⟩) (by simp) (by decide) ⟨rfl, rfl⟩ rfl ⟨by omega, by omega⟩ (Src.rd (hr.ext _)) ?_
  intro m2 id2 gr
  have hp := gr.pre m (pre_app (pre_refl m) _) (Nat.le_refl _)
  have hid : m.length ≤ id2 := by rw [gr.at_]; simp
  simp -dsimp -implicitDefEqProofs
  exact GC.keepSP (Fits.refl m) hp gr.new hid rfl rfl (.inl rfl) rfl (rows_lit v2_lit _)
theorem implTake_c (ks : List I2) (xs : List Int) (id off : Nat) (b : Option Addr) (m : Mem) (hr : RdG v2 2 m (some ⟨id, off, none⟩) ks) (hs : RdI m b xs) (hn : xs.length ≤ 1048576) (hn' : ks.length ≤ 1048576) :
    ACalls Try.prog 29 [.slice (some ⟨id, off, none⟩) ks.length ks.length, .slice b xs.length xs.length] m (.tuple #[optVG m.length (takeO ks xs), .int .i64 (takenC ks xs)]) (m ++ optMG v2 2 51 (takeO ks xs)) := by
  have hg : ∀ x, (v2 x).length = 2 := fun _ => rfl
  refine acalls_of_vc Try.func29 rfl Try.fol (by kernel_rfl) ?_
  simp only [Try.f29]
  simp -dsimp -implicitDefEqProofs
  refine callsTo Try.cal16 (implKinds_c ks _ _ hr hn') ?_
  simp -dsimp -implicitDefEqProofs
  refine ⟨fun g => ?_, fun g0 => ?_⟩
  · simp at g
    simp [takeO, takenC, g, optVG, optMG]
    exact GC.refl _ _ _
  refine callsTo Try.cal54 (areTaken_c ks xs _ b _ hr hs hn) ?_
  simp -dsimp -implicitDefEqProofs
  refine ⟨fun g => ?_, fun g1 => ?_⟩
  · simp at g g0
    simp [takeO, takenC, g, g0, optVG, optMG]
    exact GC.refl _ _ _
  have g0 : takenC ks xs = 0 := by simp at g0 g1; simp [takenC, g0, g1]
  obtain ⟨_, _, hle⟩ := takenC_zero g0
  have hlT := takeL_length hle
  refine callsTo Try.cal56 (clone_c ks _ _ _ hr hn') ?_
  simp -dsimp -implicitDefEqProofs
  refine loopN xs.length (fun k σ m' => m <+: m' ∧ m'[m.length]? = some ⟨((overL (takeL ks xs) ks k).map v2).flatten, 51, 2, 2⟩ ∧ σ 18 = some (.slice b xs.length xs.length) ∧ σ 19 = some (.int .i64 xs.length) ∧ σ 6 = some (.slice (some ⟨m.length, 0, none⟩) ks.length ks.length) ∧ σ 20 = some (.int .i64 k))
    ⟨pre_app (pre_refl m) _, by rw [overL_zero]; simp, by simp⟩ ?_
  rintro k σ m' hk ⟨hp', ho, s18, s19, s6, s20⟩
  by_cases hlt : k < xs.length
  · have hlt' : k < ks.length := by omega
    have hlo : k < (overL (takeL ks xs) ks k).length := by rw [overL_length hlT]; exact hlt'
    obtain ⟨id', off', o', rfl, hm', hkd', hsz', hc'⟩ := hs.at_ hlt
    have hm'' := prefix_get hp' hm'
    obtain ⟨c0, c1⟩ := R2.cell (RdG.of_get hg (overL (takeL ks xs) ks k) ho (Nat.le_refl 2) rfl rfl) ho hlo
    rw [overL_get hlT hlt'] at c0 c1
    simp at c0 c1
    have hset := set_rows hg (xs := overL (takeL ks xs) ks k) (k := k) (j := 1) hlo (by decide) (y := .int .i64 (w64 (ks[k].2 - xs[k]))) (x := (takeL ks xs)[k]'(by omega)) (by rw [overL_get hlT hlt', takeL_get _ hlt' hlt]; rfl)
    have hlen : (((overL (takeL ks xs) ks k).map v2).flatten).length = ks.length * 2 := by
      rw [flatten_length (sz := 2) (by intro r hr; obtain ⟨x, _, rfl⟩ := List.mem_map.1 hr; rfl), List.length_map, overL_length hlT]
    have hlen' : (List.map (List.length ∘ v2) (overL (takeL ks xs) ks k)).sum = ks.length * 2 := by rw [← hlen, List.length_flatten, List.map_map]
    have hw : IntKind.i64.wrap ((k : Int) + 1) = k + 1 := wrapI (by omega) (by omega)
    simp -dsimp -implicitDefEqProofs [s18, s19, s6, s20, hlt, hlt', withO_of ho, withO_of hm'', hkd', hsz', withC_of hc', withC_of c1, hw]
    refine need_intro (by rw [hlen']; omega) ?_
    refine next_ hlt ⟨pre_set hp' (Nat.le_refl _) _, ?_, by simp [s18, s19, s6, hw]⟩
    rw [List.getElem?_set_self (List.getElem?_eq_some_iff.1 ho).1]
    congr 2
    refine hset.trans ?_
    rw [overL_set hlT hlt']
  · simp -dsimp -implicitDefEqProofs [s18, s19, s6, s20, hlt]
    obtain rfl : k = xs.length := by omega
    rw [hle, overL_all hlT] at ho
    simp only [takeO, g0, if_true, optVG, optMG, hlT]
    exact GC.keepTP (Fits.refl m) hp' ho (Nat.le_refl _) rfl rfl (.inl rfl) rfl (rows_lit v2_lit _) rfl
theorem takeO_length {ks zs : List I2} {xs : List Int} (h : takeO ks xs = some zs) : zs.length ≤ ks.length := by
  unfold takeO at h
  split at h
  · rename_i g
    injection h with h; subst h
    rw [takeL_length (takenC_zero g).2.2]; exact Nat.le_refl _
  · cases h
end Go.Proofs.Ytlhcepcgjnlopaa
