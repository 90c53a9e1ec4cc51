/-
  'FnExactValidMarkets': for all arguments the program's ValidMarkets returns what the reference's returns, leaves its arguments as they are and returns memory of its own. Conditions: none.
-/
import Derived.Test.YtciekhcdkfhcoaaMkB
set_option linter.unusedSimpArgs false
set_option linter.unusedVariables false
set_option linter.unusedSectionVars false
namespace Go.Proofs.Ytciekhcdkfhcoaa
open Go.Abs Go.RowKit

theorem lawValidMarkets_c (n : Int) (xs : List Mk) (a : Option Addr) (m : Mem) (hr : RdM m a xs) (hm : xs.length ≤ maxLen) (ht : ∀ x ∈ xs, x.2.2.1.length ≤ maxLen ∧ x.2.2.2.length ≤ maxLen) : ACalls Try.prog 3 [.int .i64 n, .slice a xs.length xs.length] m (.bool true) m := by
  refine acalls_of_vc Try.func3 rfl Try.fol (by kernel_rfl) ?_
  simp only [Try.f3]
  simp -dsimp -implicitDefEqProofs
  refine callsTo Try.cal13 (szMarketS_c xs a _ _ hr hm ht (by decide)) ?_
  simp -dsimp -implicitDefEqProofs
  refine ⟨fun _ => GC.refl _ _ _, fun hb => ?_⟩
  obtain ⟨hb1, he⟩ := leftI_ok hb
  rw [he]
  have hn : xs.length ≤ 1048576 := by omega
  have hu : ∀ x ∈ xs, x.2.2.1.length ≤ 1048576 ∧ x.2.2.2.length ≤ 1048576 := fun x hx => by have := sumMk_mem hx; omega
  obtain ⟨_, m1, c1, rfl, p1, o1⟩ := toMarketS_c xs a m hr hn hu
  refine callsTo Try.cal15 (c1) ?_
  simp -dsimp -implicitDefEqProofs
  refine callsTo Try.cal14 (specValidMarkets_c n xs _ _ o1.rd hn hu) ?_
  simp -dsimp -implicitDefEqProofs
  obtain ⟨_, m2, c2, rfl, p2, o2⟩ := toMarketS_c xs a m1 (hr.pre p1) hn hu
  refine callsTo Try.cal15 (c2) ?_
  simp -dsimp -implicitDefEqProofs
  refine callsTo Try.cal16 (validMarkets_c n xs _ _ o2.rd hn hu) ?_
  simp -dsimp -implicitDefEqProofs
  obtain ⟨_, m3, c3, rfl, p3, o3⟩ := toMarketS_c xs a m2 (hr.pre (p1.trans p2)) hn hu
  refine callsTo Try.cal15 (c3) ?_
  simp -dsimp -implicitDefEqProofs
  refine callsTo Try.cal17 (eqMarketS_c xs xs _ _ _ (o2.rd.pre p3) o3.rd hn hu) ?_
  simp -dsimp -implicitDefEqProofs
  exact GC.dropP (p1.trans (p2.trans p3)) rfl rfl

set_option maxRecDepth 100000 in
theorem fnExactValidMarketsLifted (os : Os) (started : os.Started) (H : Type) (enc : TypeId × Value → H) :
    ReturnsInHanded {} Try.checked os 3 .any (Rows.fnExactValidMarketsSpec.pre6 enc Try.prog Try.f3 Rows.fnExactValidMarketsRow.domain false) (Rows.fnExactValidMarketsSpec.post enc Try.prog Try.f3 false true false false) :=
  lawLifted (C := Try.checked) [.one I64, .one (.sl [I64, I64, .sl [I64], .sl [I64]])] 3 4 (by kernel_rfl) started (by kernel_rfl) Try.func3
    (ChangeSpec.witness6 (enc := enc) (C := Try.checked) false ⟨#[], #[.int .i64 0,.slice none 0 0], []⟩ 8 (by kernel_rfl) (by kernel_rfl) (by kernel_rfl) (by kernel_rfl))
    (by kernel_rfl) (by kernel_rfl) (by kernel_rfl) rfl (by kernel_rfl) rfl (fun ds h => match ds, h with | [_, _], _ => rfl) fun m vs h => by
      obtain ⟨u0, u1, rfl, hv0, hv1⟩ := h.two
      obtain ⟨n, rfl, _⟩ := CV.int hv0
      obtain ⟨a, xs, rfl, hl1, ht1, hq1⟩ := CV.slM hv1
      exact ⟨_, lawValidMarkets_c n xs a m hq1 hl1 ht1⟩

theorem fnExactValidMarketsHolds : Rows.FnExactValidMarketsSaid :=
  OpenClaim.holds_of_wide 3 Try.f3 rfl rfl rfl rfl rfl rfl rfl ⟨rfl, rfl, rfl, rfl, rfl⟩ rfl rfl rfl rfl rfl (by kernel_rfl) Try.func3 (by kernel_rfl)
    (of_decide_eq_true (by kernel_rfl)) (by unfold Func.isWrapper; first | (rw [if_pos (by decide +kernel)]; kernel_rfl) | (rw [if_neg (by decide +kernel)]; exact ⟨rfl, rfl⟩))
    (fun os started H enc _ => fnExactValidMarketsLifted os started H enc)
end Go.Proofs.Ytciekhcdkfhcoaa
