/-
  Pots, part 1: the contracts of the small functions of pots. Conditions: none.
-/
import Derived.Test.YthadhfogmfcacaaDoorBase
set_option linter.unusedSimpArgs false
set_option linter.unusedVariables false
set_option linter.unusedSectionVars false
namespace Go.Proofs.YthadhfogmfcacaaDoor
open Go.Abs Go.RowKit

/-- A pot that there may be. -/
def potB (p : I3) : Bool := inB p.1 10 2000 && inB p.2.1 5 (p.1 - 1) && inB p.2.2 5 2000
def fitB (p q : I3) : Bool := decide (p.1 < q.1) && decide (p.2.1 < q.2.1)

/-- An object that is a pot's own. -/
def IsP (m : Mem) (id off : Nat) (p : I3) : Prop := ∃ o, m[id]? = some o ∧ o.kind ≤ 2 ∧ o.cells[off]? = some (.int .i64 p.1) ∧ o.cells[off + 1]? = some (.int .i64 p.2.1) ∧ o.cells[off + 2]? = some (.int .i64 p.2.2)

theorem IsP.mk {m : Mem} {id : Nat} {o : AObj} {p : I3} (hm : m[id]? = some o) (hk : o.kind ≤ 2) (h : o.cells = v3 p) : IsP m id 0 p :=
  ⟨o, hm, hk, by rw [h]; rfl, by rw [h]; rfl, by rw [h]; rfl⟩

theorem IsP.row {m : Mem} {id off : Nat} {xs : List I3} (h : RdG v3 3 m (some ⟨id, off, none⟩) xs) {i : Nat} (hi : i < xs.length) : IsP m id ((off + i) * 3) xs[i] := by
  obtain ⟨id', off', o', ha, hm, hk, _, _, _, h0, h1, h2⟩ := R3.at_ h hi
  simp at ha
  obtain ⟨rfl, rfl⟩ := ha
  exact ⟨o', hm, hk, h0, h1, h2⟩
theorem IsP.ext {m m' : Mem} (hp : m <+: m') {id off : Nat} {p : I3} (h : IsP m id off p) : IsP m' id off p :=
  let ⟨o, hm, hk⟩ := h
  ⟨o, prefix_get hp hm, hk⟩
/-- What the two tell of two pots. -/
def twoI (p q : I3) : Int := if potB p && potB q then 0 else 1
/-- What the two return. -/
def fitsV (p q : I3) : Value := .tuple #[.bool (decide (twoI p q = 0) && fitB p q), .int .i64 (twoI p q)]

end Go.Proofs.YthadhfogmfcacaaDoor
