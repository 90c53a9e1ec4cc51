/-
  Pots, part 1: the contracts of the small functions of pots. Conditions: none.
-/
import Derived.Test.YtnipgigpjhalkaaBase
set_option linter.unusedSimpArgs false
set_option linter.unusedVariables false
set_option linter.unusedSectionVars false
namespace Go.Proofs.Ytnipgigpjhalkaa
open Go.Abs Go.RowKit

/-- A pot that there may be. -/
def potB (p : I3) : Bool := inB p.1 10 2000 && inB p.2.1 5 (p.1 - 1) && inB p.2.2 5 2000
def fitB (p q : I3) : Bool := decide (p.1 < q.1) && decide (p.2.1 < q.2.1)

/-- An object that is a pot's own. -/
def IsP (m : Mem) (id off : Nat) (p : I3) : Prop := ∃ o, m[id]? = some o ∧ o.kind ≤ 2 ∧ o.cells[off]? = some (.int .i64 p.1) ∧ o.cells[off + 1]? = some (.int .i64 p.2.1) ∧ o.cells[off + 2]? = some (.int .i64 p.2.2)

theorem IsP.mk {m : Mem} {id : Nat} {o : AObj} {p : I3} (hm : m[id]? = some o) (hk : o.kind ≤ 2) (h : o.cells = v3 p) : IsP m id 0 p :=
  ⟨o, hm, hk, by rw [h]; rfl, by rw [h]; rfl, by rw [h]; rfl⟩

theorem IsP.row {m : Mem} {id off : Nat} {xs : List I3} (h : RdG v3 3 m (some ⟨id, off, none⟩) xs) {i : Nat} (hi : i < xs.length) : IsP m id ((off + i) * 3) xs[i] := by
  obtain ⟨id', off', o', ha, hm, hk, _, _, _, h0, h1, h2⟩ := R3.at_ h hi
  simp at ha
  obtain ⟨rfl, rfl⟩ := ha
  exact ⟨o', hm, hk, h0, h1, h2⟩
theorem IsP.ext {m m' : Mem} (hp : m <+: m') {id off : Nat} {p : I3} (h : IsP m id off p) : IsP m' id off p :=
  let ⟨o, hm, hk⟩ := h
  ⟨o, prefix_get hp hm, hk⟩
theorem l19One_c (p : I3) (m : Mem) (id off : Nat) (hp : IsP m id off p) : ACalls Try.prog 81 [.pointer (some ⟨id, off, none⟩)] m (.bool (potB p)) m := by
  obtain ⟨o, hm, hk, h0, h1, h2⟩ := hp
  refine acalls_of_vc Try.func81 rfl Try.fol (by kernel_rfl) ?_
  simp only [Try.f81]
  simp -dsimp -implicitDefEqProofs [withO_of hm, hk, withC_of h0, withC_of h1, withC_of h2]
  refine callsTo Try.cal85 (l00In_c _ _ _ _) ?_
  simp -dsimp -implicitDefEqProofs [withO_of hm, hk, withC_of h0, withC_of h1, withC_of h2]
  refine ⟨fun g1 => ?_, fun g1 => GC.eq (by simp [potB, g1])⟩
  refine callsTo Try.cal85 (l00In_c _ _ _ _) ?_
  simp -dsimp -implicitDefEqProofs [withO_of hm, hk, withC_of h0, withC_of h1, withC_of h2]
  have hw : IntKind.i64.wrap (p.1 - 1) = p.1 - 1 := by simp [inB] at g1; exact wrapI (by omega) (by omega)
  rw [hw]
  refine ⟨fun g2 => ?_, fun g2 => GC.eq (by simp [potB, g1, g2])⟩
  refine callsTo Try.cal85 (l00In_c _ _ _ _) ?_
  simp -dsimp -implicitDefEqProofs [withO_of hm, hk, withC_of h0, withC_of h1, withC_of h2]
  exact GC.eq (by simp [potB, g1, g2])

theorem l19Fits_c (p q : I3) (m : Mem) (id off id' off' : Nat) (hp : IsP m id off p) (hq : IsP m id' off' q) :
    ACalls Try.prog 55 [.pointer (some ⟨id, off, none⟩), .pointer (some ⟨id', off', none⟩)] m (.bool (fitB p q)) m := by
  obtain ⟨o, hm, hk, h0, h1, h2⟩ := hp
  obtain ⟨o', hm', hk', h0', h1', h2'⟩ := hq
  refine acalls_of_vc Try.func55 rfl Try.fol (by kernel_rfl) ?_
  simp only [Try.f55]
  simp -dsimp -implicitDefEqProofs [withO_of hm, hk, withC_of h0, withC_of h1, withC_of h2, withO_of hm', hk', withC_of h0', withC_of h1', withC_of h2']
  refine ⟨fun h => GC.eq ?_, fun h => GC.eq ?_⟩ <;> simp [fitB, h]

/-- What the two tell of two pots. -/
def twoI (p q : I3) : Int := if potB p && potB q then 0 else 1
theorem l19Two_c (p q : I3) (m : Mem) (id off id' off' : Nat) (hp : IsP m id off p) (hq : IsP m id' off' q) :
    ACalls Try.prog 54 [.pointer (some ⟨id, off, none⟩), .pointer (some ⟨id', off', none⟩)] m (.int .i64 (twoI p q)) m := by
  refine acalls_of_vc Try.func54 rfl Try.fol (by kernel_rfl) ?_
  simp only [Try.f54]
  simp -dsimp -implicitDefEqProofs
  refine callsTo Try.cal81 (l19One_c _ _ _ _ hp) ?_
  simp -dsimp -implicitDefEqProofs
  refine ⟨fun g1 => GC.eq (by simp at g1; simp [twoI, g1]), fun g1 => ?_⟩
  refine callsTo Try.cal81 (l19One_c _ _ _ _ hq) ?_
  simp -dsimp -implicitDefEqProofs
  refine ⟨fun g2 => GC.eq (by simp at g2; simp [twoI, g2]), fun g2 => GC.eq ?_⟩
  simp at g1 g2
  simp [twoI, g1, g2]

theorem isPot_c (p : I3) (m : Mem) : ACalls Try.prog 56 [.agg (v3 p).toArray] m (.bool (potB p)) m := by
  refine acalls_of_vc Try.func56 rfl Try.fol (by kernel_rfl) ?_
  simp only [Try.f56, v3]
  simp -dsimp -implicitDefEqProofs
  refine callsTo Try.cal82 (within_c _ _ _ _) ?_
  simp -dsimp -implicitDefEqProofs
  refine ⟨fun g1 => ?_, fun g1 => GC.dropEq (by simp [potB, g1]) rfl⟩
  refine callsTo Try.cal82 (within_c _ _ _ _) ?_
  simp -dsimp -implicitDefEqProofs
  have hw : IntKind.i64.wrap (p.1 - 1) = p.1 - 1 := by simp [inB] at g1; exact wrapI (by omega) (by omega)
  rw [hw]
  refine ⟨fun g2 => ?_, fun g2 => GC.dropEq (by simp [potB, g1, g2]) rfl⟩
  refine callsTo Try.cal82 (within_c _ _ _ _) ?_
  simp -dsimp -implicitDefEqProofs
  exact GC.dropEq (by simp [potB, g1, g2]) rfl

theorem fitsIn_c (p q : I3) (m : Mem) : ACalls Try.prog 57 [.agg (v3 p).toArray, .agg (v3 q).toArray] m (.bool (fitB p q)) m := by
  refine acalls_of_vc Try.func57 rfl Try.fol (by kernel_rfl) ?_
  simp only [Try.f57, v3]
  simp -dsimp -implicitDefEqProofs
  refine ⟨fun h => GC.dropEq ?_ rfl, fun h => GC.dropEq ?_ rfl⟩ <;> simp [fitB, h]

theorem toPot_c (p : I3) (m : Mem) : ACalls Try.prog 15 [.agg (v3 p).toArray] m (.agg (v3 p).toArray) m := by
  refine acalls_of_vc Try.func15 rfl Try.fol (by kernel_rfl) ?_
  simp only [Try.f15, v3]
  simp -dsimp -implicitDefEqProofs
  exact GC.dropEq rfl rfl

/-- What the two return. -/
def fitsV (p q : I3) : Value := .tuple #[.bool (decide (twoI p q = 0) && fitB p q), .int .i64 (twoI p q)]

theorem specFits_c (p q : I3) (m : Mem) : ACalls Try.prog 14 [.agg (v3 p).toArray, .agg (v3 q).toArray] m (fitsV p q) m := by
  refine acalls_of_vc Try.func14 rfl Try.fol (by kernel_rfl) ?_
  simp only [Try.f14, v3]
  simp -dsimp -implicitDefEqProofs
  refine callsTo Try.cal54 (l19Two_c p q _ _ _ _ _ ?_ ?_) ?_
  · exact IsP.mk (o := ⟨v3 p, _, 3, 1⟩) (by simp [v3]; rfl) (by simp) rfl
  · exact IsP.mk (o := ⟨v3 q, _, 3, 1⟩) (by simp [v3]; rfl) (by simp) rfl
  simp -dsimp -implicitDefEqProofs
  refine ⟨fun g => GC.dropEq ?_ rfl, fun g => ?_⟩
  · simp at g; simp [fitsV, g]
  refine callsTo Try.cal55 (l19Fits_c p q _ _ _ _ _ ?_ ?_) ?_
  · exact IsP.mk (o := ⟨v3 p, _, 3, 1⟩) (by simp [v3]; rfl) (by simp) rfl
  · exact IsP.mk (o := ⟨v3 q, _, 3, 1⟩) (by simp [v3]; rfl) (by simp) rfl
  simp -dsimp -implicitDefEqProofs
  exact GC.dropEq (by simp at g; simp [fitsV, g]) rfl
theorem implFits_c (p q : I3) (m : Mem) : ACalls Try.prog 16 [.agg (v3 p).toArray, .agg (v3 q).toArray] m (fitsV p q) m := by
  refine acalls_of_vc Try.func16 rfl Try.fol (by kernel_rfl) ?_
  simp only [Try.f16, v3]
  simp -dsimp -implicitDefEqProofs
  refine callsTo Try.cal56 (isPot_c p _) ?_
  simp -dsimp -implicitDefEqProofs
  refine ⟨fun g1 => GC.dropEq (by simp at g1; simp [fitsV, twoI, g1]) rfl, fun g1 => ?_⟩
  refine callsTo Try.cal56 (isPot_c q _) ?_
  simp -dsimp -implicitDefEqProofs
  refine ⟨fun g2 => GC.dropEq (by simp at g2; simp [fitsV, twoI, g2]) rfl, fun g2 => ?_⟩
  refine callsTo Try.cal57 (fitsIn_c p q _) ?_
  simp -dsimp -implicitDefEqProofs
  exact GC.dropEq (by simp at g1 g2; simp [fitsV, twoI, g1, g2]) rfl
theorem lawFits_c (p q : I3) (m : Mem) : ACalls Try.prog 3 [.agg (v3 p).toArray, .agg (v3 q).toArray] m (.bool true) m := by
  refine acalls_of_vc Try.func3 rfl Try.fol (by kernel_rfl) ?_
  simp only [Try.f3, v3]
  simp -dsimp -implicitDefEqProofs
  refine callsTo Try.cal15 (toPot_c p _) ?_
  simp -dsimp -implicitDefEqProofs
  refine callsTo Try.cal15 (toPot_c q _) ?_
  simp -dsimp -implicitDefEqProofs
  refine callsTo Try.cal14 (specFits_c p q _) ?_
  simp -dsimp -implicitDefEqProofs [fitsV]
  refine callsTo Try.cal15 (toPot_c p _) ?_
  simp -dsimp -implicitDefEqProofs
  refine callsTo Try.cal15 (toPot_c q _) ?_
  simp -dsimp -implicitDefEqProofs
  refine callsTo Try.cal16 (implFits_c p q _) ?_
  simp -dsimp -implicitDefEqProofs [fitsV]
  exact GC.dropEq rfl rfl

end Go.Proofs.Ytnipgigpjhalkaa
