/-
  Lids, part 20: the texts of lids. Conditions: none.
-/
import Derived.Test.YthadhfogmfcacaaDoorLidA
import Derived.Test.YthadhfogmfcacaaDoorDec
set_option linter.unusedSimpArgs false
set_option linter.unusedVariables false
set_option linter.unusedSectionVars false
namespace Go.Proofs.YthadhfogmfcacaaDoor
open Go.Abs Go.RowKit

theorem lidB_spec {p : I3} (h : lidB p = true) : (20 ≤ p.1 ∧ p.1 ≤ 2000) ∧ (1 ≤ p.2.1 ∧ p.2.1 ≤ 9) ∧ (1 ≤ p.2.2 ∧ p.2.2 ≤ 10000) := by
  simp [lidB, inB] at h; omega
/-- The text of a lid. -/
def lidTextV (p : I3) : ByteArray := if lidB p then ((((((⟨#[108, 105, 100, 32]⟩ ++ decT p.1) ++ ⟨#[32, 114, 105, 109, 32]⟩) ++ decT p.2.1) ++ ⟨#[32]⟩) ++ decT p.2.2) ++ ⟨#[32, 103]⟩) else ⟨#[]⟩
theorem lit4 : (⟨#[108, 105, 100, 32]⟩ : ByteArray).size = 4 := rfl
theorem lit5 : (⟨#[32, 114, 105, 109, 32]⟩ : ByteArray).size = 5 := rfl
theorem lit1 : (⟨#[32]⟩ : ByteArray).size = 1 := rfl
theorem lit2 : (⟨#[32, 103]⟩ : ByteArray).size = 2 := rfl
theorem specLidText_c (p : I3) (m : Mem) : ACalls Tryd.prog 5 [.agg (v3 p).toArray] m (.string (lidTextV p)) m := by
  refine acalls_of_vc Tryd.func5 rfl Tryd.fol (by kernel_rfl) ?_
  simp only [Tryd.f5, v3]
  simp -dsimp -implicitDefEqProofs
  refine callsTo Tryd.cal19 (l22One_c p _ _ 0 ⟨_, get_len _ _, by simp, rfl, rfl, rfl⟩) ?_
  simp -dsimp -implicitDefEqProofs
  refine ⟨fun g => GC.dropEq (by have : lidB p = false := by simpa using g
                                 simp [lidTextV, this]) rfl, fun g => ?_⟩
  have g : lidB p = true := by simpa using g
  have hb := lidB_spec g
  have h1 : in64 p.1 := by unfold in64; omega
  have h2 : in64 p.2.1 := by unfold in64; omega
  have h3 : in64 p.2.2 := by unfold in64; omega
  have z1 := decT_size h1; have z2 := decT_size h2; have z3 := decT_size h3
  refine callsTo Tryd.cal20 (l01Dec_c _ h1 _) ?_
  simp -dsimp -implicitDefEqProofs [ByteArray.size_append, lit4, lit5, lit1, lit2]
  refine ⟨by omega, by omega, ?_⟩
  refine callsTo Tryd.cal20 (l01Dec_c _ h2 _) ?_
  simp -dsimp -implicitDefEqProofs [ByteArray.size_append, lit4, lit5, lit1, lit2]
  refine ⟨by omega, by omega, ?_⟩
  refine callsTo Tryd.cal20 (l01Dec_c _ h3 _) ?_
  simp -dsimp -implicitDefEqProofs [ByteArray.size_append, lit4, lit5, lit1, lit2]
  refine ⟨by omega, by omega, ?_⟩
  exact GC.dropEq (by rw [lidTextV, if_pos g]) rfl
theorem implLidText_c (p : I3) (m : Mem) : ACalls Tryd.prog 7 [.agg (v3 p).toArray] m (.string (lidTextV p)) m := by
  refine acalls_of_vc Tryd.func7 rfl Tryd.fol (by kernel_rfl) ?_
  simp only [Tryd.f7, v3]
  simp -dsimp -implicitDefEqProofs
  refine callsTo Tryd.cal21 (isLid_c p _) ?_
  simp -dsimp -implicitDefEqProofs
  refine ⟨fun g => GC.dropEq (by have : lidB p = false := by simpa using g
                                 simp [lidTextV, this]) rfl, fun g => ?_⟩
  have g : lidB p = true := by simpa using g
  have hb := lidB_spec g
  have h1 : in64 p.1 := by unfold in64; omega
  have h2 : in64 p.2.1 := by unfold in64; omega
  have h3 : in64 p.2.2 := by unfold in64; omega
  have z1 := decT_size h1; have z2 := decT_size h2; have z3 := decT_size h3
  refine callsTo Tryd.cal22 (implDecimal_c _ h1 _) ?_
  simp -dsimp -implicitDefEqProofs [ByteArray.size_append, lit4, lit5, lit1, lit2]
  refine ⟨by omega, by omega, ?_⟩
  refine callsTo Tryd.cal22 (implDecimal_c _ h2 _) ?_
  simp -dsimp -implicitDefEqProofs [ByteArray.size_append, lit4, lit5, lit1, lit2]
  refine ⟨by omega, by omega, ?_⟩
  refine callsTo Tryd.cal22 (implDecimal_c _ h3 _) ?_
  simp -dsimp -implicitDefEqProofs [ByteArray.size_append, lit4, lit5, lit1, lit2]
  refine ⟨by omega, by omega, ?_⟩
  exact GC.dropEq (by rw [lidTextV, if_pos g]) rfl
end Go.Proofs.YthadhfogmfcacaaDoor
