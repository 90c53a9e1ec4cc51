/-
  'FnExactLidText': for every lid the program's LidText returns what the reference's returns. Conditions: none but those of the row (the library's tables are as the program's text lays them).
-/
import Derived.Test.YthadhfogmfcacaaDoorLidT
import Derived.Test.YthadhfogmfcacaaDoorDoor
set_option linter.unusedSimpArgs false
set_option linter.unusedVariables false
set_option linter.unusedSectionVars false
namespace Go.Proofs.YthadhfogmfcacaaDoor
open Go.Abs Go.RowKit

theorem lawLidText_c (p : I3) (m : Mem) : ACalls Tryd.prog 3 [.agg (v3 p).toArray] m (.bool true) m := by
  refine acalls_of_vc Tryd.func3 rfl Tryd.fol (by kernel_rfl) ?_
  simp only [Tryd.f3, v3]
  simp -dsimp -implicitDefEqProofs
  refine callsTo Tryd.cal6 (toLid_c p _) ?_
  simp -dsimp -implicitDefEqProofs
  refine callsTo Tryd.cal5 (specLidText_c p _) ?_
  simp -dsimp -implicitDefEqProofs
  refine callsTo Tryd.cal6 (toLid_c p _) ?_
  simp -dsimp -implicitDefEqProofs
  refine callsTo Tryd.cal7 (implLidText_c p _) ?_
  simp -dsimp -implicitDefEqProofs
  exact GC.dropEq rfl rfl
set_option maxRecDepth 100000 in
theorem lidTextLifted (os : Os) (started : os.Started) (H : Type) (enc : TypeId × Value → H) :
    ReturnsInHanded {} Tryd.checked os 3 .any (fun w args => (Rows.fnExactLidTextSpec.pre enc Tryd.prog Tryd.f3 [] false w args ∧ laidMetH Tryd.prog Rows.fnExactLidTextRow.laid w) ∧ sizedMet enc Tryd.prog Tryd.f3 (OpenSpec.ofChange Rows.fnExactLidTextSpec) false w args) (Rows.fnExactLidTextSpec.post enc Tryd.prog Tryd.f3 false true false false) :=
  lawLiftedD (C := Tryd.checked) Rows.fnExactLidTextRow.laid [.agg [I64, I64, I64]] 3 4 (by kernel_rfl) started (by kernel_rfl) Tryd.func3
    (ChangeSpec.witness_shaped (enc := enc) (C := Tryd.checked) (os := os) (X := fun w _ => laidMetH Tryd.prog Rows.fnExactLidTextRow.laid w) false (doorWorld os) #[.agg #[.int .i64 0, .int .i64 0, .int .i64 0]] 8 rfl (doorShaped os _) (by kernel_rfl) (by kernel_rfl) (by kernel_rfl) (doorMet os _))
    (by kernel_rfl) (by kernel_rfl) (by kernel_rfl) (fun W hs h => doorTabs W hs h) rfl (by kernel_rfl) rfl (fun ds h => match ds, h with | [_], _ => rfl) fun m vs h => by
      obtain ⟨v, rfl, hv⟩ := h.one
      obtain ⟨p, rfl, _⟩ := hv.agg3
      exact ⟨_, lawLidText_c p m⟩

theorem lidTextRow : Rows.FnExactLidTextSaid :=
  OpenClaim.holds_of_wide 3 Tryd.f3 rfl rfl rfl rfl rfl rfl rfl ⟨rfl, rfl, rfl, rfl, rfl⟩ rfl rfl rfl rfl rfl (by kernel_rfl) Tryd.func3 (by kernel_rfl)
    (of_decide_eq_true (by kernel_rfl)) (by unfold Func.isWrapper; first | (rw [if_pos (by decide +kernel)]; kernel_rfl) | (rw [if_neg (by decide +kernel)]; exact ⟨rfl, rfl⟩))
    (fun os started H enc _ => lidTextLifted os started H enc)

theorem lidTextHolds : Rows.FnExactLidTextCardSaid :=
  Claim7.holds_tied_plain_at .later [] [.data, .data, .data] true (true, "3987e356d695e392881ab485eba87bf4eb925380b8f5784048972f361d69f77c") false
    lidTextRow (fun _ h => by cases h) (by kernel_rfl) (fun _ h => by cases h) fnExactLidText_row_tie rfl ⟨rfl, rfl⟩ (by kernel_rfl) rfl
    (fun f fn hf hfn => by
      obtain rfl : f = 3 := Option.some.inj ((show Tryd.prog.funcNamed Rows.fnExactLidTextRow.func = some 3 by kernel_rfl).symm.trans hf) |>.symm
      obtain rfl : fn = Tryd.f3 := (Option.some.inj (Tryd.func3.symm.trans hfn)).symm
      exact ⟨by kernel_rfl, fun j t ht => by
        have hall : (Tryd.f3.params.toList.all fun u => !Tryd.prog.wantsStandIn u) = true := by kernel_rfl
        have hm : t ∈ Tryd.f3.params.toList := by simpa using Array.mem_of_getElem? ht
        exact (show Tryd.prog.wantsStandIn t = false by simpa using List.all_eq_true.1 hall t hm)⟩)
    (by kernel_rfl)
end Go.Proofs.YthadhfogmfcacaaDoor
