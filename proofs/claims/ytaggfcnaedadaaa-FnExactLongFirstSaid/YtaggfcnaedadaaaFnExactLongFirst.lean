/-
  'FnExactLongFirst': for all arguments the program's LongFirst returns what the reference's returns, leaves its arguments as they are and returns memory of its own. Conditions: none.
-/
import Derived.Test.YtaggfcnaedadaaaJobM
set_option linter.unusedSimpArgs false
set_option linter.unusedVariables false
set_option linter.unusedSectionVars false
namespace Go.Proofs.Ytaggfcnaedadaaa
open Go.Abs Go.RowKit

theorem lawLongFirst_c (js : List I2) (a : Option Addr) (ss : List Int) (b : Option Addr) (m : Mem) (hr0 : RdG v2 2 m a js) (hm0 : js.length ≤ maxLen) (hr1 : RdI m b ss) (hm1 : ss.length ≤ maxLen) : ACalls Try.prog 11 [.slice a js.length js.length, .slice b ss.length ss.length] m (.bool true) m := by
  have hg2 : ∀ x, (v2 x).length = 2 := fun _ => rfl
  refine acalls_of_vc Try.func11 rfl Try.fol (by kernel_rfl) ?_
  simp only [Try.f11]
  simp -dsimp -implicitDefEqProofs
  refine ⟨fun _ => GC.refl _ _ _, fun hb1 => ?_⟩
  have hn1 : ss.length ≤ 1048576 := by simp at hb1; omega
  refine callsTo Try.cal14 (szJobS_c a _ _ _ hm0 (by decide)) ?_
  simp -dsimp -implicitDefEqProofs
  refine ⟨fun _ => GC.refl _ _ _, fun hb0 => ?_⟩
  obtain ⟨hn0', he0⟩ := leftI_ok hb0
  rw [he0]
  have hn0 : js.length ≤ 1048576 := by omega
  refine callsTo Try.cal16 (toJobS_c js a _ hr0 hn0) ?_
  simp -dsimp -implicitDefEqProofs
  refine callsTo Try.cal17 (toInt64S_c ss b _ (hr1.ext _) hn1) ?_
  simp -dsimp -implicitDefEqProofs
  cases hO : longO js ss with
  | none =>
    refine callsTo Try.cal38 (specLong_c js ss _ _ _ (RdG.of_get hg2 (o := ⟨_, _, 2, 1⟩) js (by simp; rfl) (by simp) rfl rfl) (RdI.of_get (xs := ss) (o := ⟨_, _, 1, 1⟩) (by simp; rfl) (by simp) rfl rfl) hn0 hn1) ?_
    simp -dsimp -implicitDefEqProofs [hO, optV, optM]
    refine callsTo Try.cal16 (toJobS_c js a _ (hr0.ext _) hn0) ?_
    simp -dsimp -implicitDefEqProofs [hO, optV, optM]
    refine callsTo Try.cal17 (toInt64S_c ss b _ (hr1.ext _) hn1) ?_
    simp -dsimp -implicitDefEqProofs [hO, optV, optM]
    refine callsTo Try.cal39 (implLong_c js ss _ _ _ (RdG.of_get hg2 (o := ⟨_, _, 2, 1⟩) js (by simp; rfl) (by simp) rfl rfl) (RdI.of_get (xs := ss) (o := ⟨_, _, 1, 1⟩) (by simp; rfl) (by simp) rfl rfl) hn0 hn1) ?_
    simp -dsimp -implicitDefEqProofs [hO, optV, optM]
    refine callsTo Try.cal20 (eqInt64S_c [] [] _ _ _ (RdI.nil _ _) (RdI.nil _ _) (by simp)) ?_
    simp -dsimp -implicitDefEqProofs [hO, optV, optM]
    refine callsTo Try.cal16 (toJobS_c js a _ (hr0.ext _) hn0) ?_
    simp -dsimp -implicitDefEqProofs [hO, optV, optM]
    refine callsTo Try.cal19 (eqJobS_c js js _ _ _ (RdG.of_get hg2 (o := ⟨_, _, 2, 1⟩) js (by simp; rfl) (by simp) rfl rfl) (RdG.of_get hg2 (o := ⟨_, _, 2, 1⟩) js (by simp; rfl) (by simp) rfl rfl) hn0) ?_
    simp -dsimp -implicitDefEqProofs [hO, optV, optM]
    refine callsTo Try.cal17 (toInt64S_c ss b _ (hr1.ext _) hn1) ?_
    simp -dsimp -implicitDefEqProofs [hO, optV, optM]
    refine callsTo Try.cal20 (eqInt64S_c ss ss _ _ _ (RdI.of_get (xs := ss) (o := ⟨_, _, 1, 1⟩) (by simp; rfl) (by simp) rfl rfl) (RdI.of_get (xs := ss) (o := ⟨_, _, 1, 1⟩) (by simp; rfl) (by simp) rfl rfl) hn1) ?_
    simp -dsimp -implicitDefEqProofs [hO, optV, optM]
    have hk : ¬ ((1 : Int) + (js.length : Int) * 2 + (ss.length : Int) < 0) := by omega
    refine callsTo Try.cal23 (markJobS_c js _ _ ⟨_, _, 2, 1⟩ _ (by simp; rfl) rfl rfl (by simp) hn0 (by decide)) ?_
    simp -dsimp -implicitDefEqProofs [hO, optV, optM, hk]
    refine callsTo Try.cal24 (markInt64S_c ss _ _ ⟨_, _, 1, 1⟩ _ (by simp; rfl) rfl rfl (by simp) hn1 (by omega)) ?_
    simp -dsimp -implicitDefEqProofs [hO, optV, optM, hk]
    refine callsTo Try.cal20 (eqInt64S_c [] [] _ _ _ (RdI.nil _ _) (RdI.nil _ _) (by simp)) ?_
    simp -dsimp -implicitDefEqProofs [hO, optV, optM, hk]
    refine callsTo Try.cal24 (markInt64S_nil _ _ _) ?_
    simp -dsimp -implicitDefEqProofs [hO, optV, optM, hk]
    refine callsTo Try.cal25 (heldInt64S_c 0 1 _ _ (RdMk.nil 1 1 _ _) (by simp) (by decide)) ?_
    simp -dsimp -implicitDefEqProofs [hO, optV, optM, hk]
    refine callsTo Try.cal16 (toJobS_c js a _ (hr0.ext _) hn0) ?_
    simp -dsimp -implicitDefEqProofs [hO, optV, optM, hk]
    refine callsTo Try.cal17 (toInt64S_c ss b _ (hr1.ext _) hn1) ?_
    simp -dsimp -implicitDefEqProofs [hO, optV, optM, hk]
    refine callsTo Try.cal39 (implLong_c js ss _ _ _ (RdG.of_get hg2 (o := ⟨_, _, 2, 1⟩) js (by simp; rfl) (by simp) rfl rfl) (RdI.of_get (xs := ss) (o := ⟨_, _, 1, 1⟩) (by simp; rfl) (by simp) rfl rfl) hn0 hn1) ?_
    simp -dsimp -implicitDefEqProofs [hO, optV, optM, hk]
    refine callsTo Try.cal20 (eqInt64S_c [] [] _ _ _ (RdI.nil _ _) (RdI.nil _ _) (by simp)) ?_
    simp -dsimp -implicitDefEqProofs [hO, optV, optM, hk]
    refine callsTo Try.cal25 (heldInt64S_c 0 1 _ _ (RdMk.nil 1 1 _ _) (by simp) (by decide)) ?_
    simp -dsimp -implicitDefEqProofs [hO, optV, optM, hk]
    exact GC.dropEq rfl rfl
  | some zs =>
    have hz : zs.length ≤ 1048576 := Nat.le_trans (longO_length hO) hn0
    refine callsTo Try.cal38 (specLong_c js ss _ _ _ (RdG.of_get hg2 (o := ⟨_, _, 2, 1⟩) js (by simp; rfl) (by simp) rfl rfl) (RdI.of_get (xs := ss) (o := ⟨_, _, 1, 1⟩) (by simp; rfl) (by simp) rfl rfl) hn0 hn1) ?_
    simp -dsimp -implicitDefEqProofs [hO, optV, optM]
    refine callsTo Try.cal16 (toJobS_c js a _ (hr0.ext _) hn0) ?_
    simp -dsimp -implicitDefEqProofs [hO, optV, optM]
    refine callsTo Try.cal17 (toInt64S_c ss b _ (hr1.ext _) hn1) ?_
    simp -dsimp -implicitDefEqProofs [hO, optV, optM]
    refine callsTo Try.cal39 (implLong_c js ss _ _ _ (RdG.of_get hg2 (o := ⟨_, _, 2, 1⟩) js (by simp; rfl) (by simp) rfl rfl) (RdI.of_get (xs := ss) (o := ⟨_, _, 1, 1⟩) (by simp; rfl) (by simp) rfl rfl) hn0 hn1) ?_
    simp -dsimp -implicitDefEqProofs [hO, optV, optM]
    refine callsTo Try.cal20 (eqInt64S_c zs zs _ _ _ (RdI.of_get (xs := zs) (o := ⟨_, _, 1, 2⟩) (by simp; rfl) (by simp) rfl rfl) (RdI.of_get (xs := zs) (o := ⟨_, _, 1, 2⟩) (by simp; rfl) (by simp) rfl rfl) hz) ?_
    simp -dsimp -implicitDefEqProofs [hO, optV, optM]
    refine callsTo Try.cal16 (toJobS_c js a _ (hr0.ext _) hn0) ?_
    simp -dsimp -implicitDefEqProofs [hO, optV, optM]
    refine callsTo Try.cal19 (eqJobS_c js js _ _ _ (RdG.of_get hg2 (o := ⟨_, _, 2, 1⟩) js (by simp; rfl) (by simp) rfl rfl) (RdG.of_get hg2 (o := ⟨_, _, 2, 1⟩) js (by simp; rfl) (by simp) rfl rfl) hn0) ?_
    simp -dsimp -implicitDefEqProofs [hO, optV, optM]
    refine callsTo Try.cal17 (toInt64S_c ss b _ (hr1.ext _) hn1) ?_
    simp -dsimp -implicitDefEqProofs [hO, optV, optM]
    refine callsTo Try.cal20 (eqInt64S_c ss ss _ _ _ (RdI.of_get (xs := ss) (o := ⟨_, _, 1, 1⟩) (by simp; rfl) (by simp) rfl rfl) (RdI.of_get (xs := ss) (o := ⟨_, _, 1, 1⟩) (by simp; rfl) (by simp) rfl rfl) hn1) ?_
    simp -dsimp -implicitDefEqProofs [hO, optV, optM]
    have hk : ¬ ((1 : Int) + (js.length : Int) * 2 + (ss.length : Int) < 0) := by omega
    have hq : ¬ ((1 : Int) + (zs.length : Int) < 0) := by omega
    refine callsTo Try.cal23 (markJobS_c js _ _ ⟨_, _, 2, 1⟩ _ (by simp; rfl) rfl rfl (by simp) hn0 (by decide)) ?_
    simp -dsimp -implicitDefEqProofs [hO, optV, optM, hk, hq]
    refine callsTo Try.cal24 (markInt64S_c ss _ _ ⟨_, _, 1, 1⟩ _ (by simp; rfl) rfl rfl (by simp) hn1 (by omega)) ?_
    simp -dsimp -implicitDefEqProofs [hO, optV, optM, hk, hq]
    refine callsTo Try.cal20 (eqInt64S_c zs zs _ _ _ (RdI.of_get (xs := zs) (o := ⟨_, _, 1, 2⟩) (by simp; rfl) (by simp) rfl rfl) (RdI.of_get (xs := zs) (o := ⟨_, _, 1, 2⟩) (by simp; rfl) (by simp) rfl rfl) hz) ?_
    simp -dsimp -implicitDefEqProofs [hO, optV, optM, hk, hq]
    refine callsTo Try.cal24 (markInt64S_c zs 1 _ ⟨_, _, 1, 2⟩ _ (by simp; rfl) rfl rfl (by simp) hz (by decide)) ?_
    simp -dsimp -implicitDefEqProofs [hO, optV, optM, hk, hq]
    refine callsTo Try.cal25 (heldInt64S_c zs.length 1 _ _ (RdMk.of_get zs.length (o := ⟨mkCells 1 1 zs.length, _, 1, 2⟩) (by simp; rfl) (by simp) rfl rfl) hz (by decide)) ?_
    simp -dsimp -implicitDefEqProofs [hO, optV, optM, hk, hq]
    refine callsTo Try.cal16 (toJobS_c js a _ (hr0.ext _) hn0) ?_
    simp -dsimp -implicitDefEqProofs [hO, optV, optM, hk, hq]
    refine callsTo Try.cal17 (toInt64S_c ss b _ (hr1.ext _) hn1) ?_
    simp -dsimp -implicitDefEqProofs [hO, optV, optM, hk, hq]
    refine callsTo Try.cal39 (implLong_c js ss _ _ _ (RdG.of_get hg2 (o := ⟨_, _, 2, 1⟩) js (by simp; rfl) (by simp) rfl rfl) (RdI.of_get (xs := ss) (o := ⟨_, _, 1, 1⟩) (by simp; rfl) (by simp) rfl rfl) hn0 hn1) ?_
    simp -dsimp -implicitDefEqProofs [hO, optV, optM, hk, hq]
    refine callsTo Try.cal20 (eqInt64S_c zs zs _ _ _ (RdI.of_get (xs := zs) (o := ⟨_, _, 1, 2⟩) (by simp; rfl) (by simp) rfl rfl) (RdI.of_get (xs := zs) (o := ⟨_, _, 1, 2⟩) (by simp; rfl) (by simp) rfl rfl) hz) ?_
    simp -dsimp -implicitDefEqProofs [hO, optV, optM, hk, hq]
    refine callsTo Try.cal25 (heldInt64S_c zs.length 1 _ _ (RdMk.of_get zs.length (o := ⟨mkCells 1 1 zs.length, _, 1, 2⟩) (by simp; rfl) (by simp) rfl rfl) hz (by decide)) ?_
    simp -dsimp -implicitDefEqProofs [hO, optV, optM, hk, hq]
    exact GC.dropEq rfl rfl

set_option maxRecDepth 100000 in
theorem fnExactLongFirstLifted (os : Os) (started : os.Started) (H : Type) (enc : TypeId × Value → H) :
    ReturnsInHanded {} Try.checked os 11 .any (Rows.fnExactLongFirstSpec.pre6 enc Try.prog Try.f11 Rows.fnExactLongFirstRow.domain false) (Rows.fnExactLongFirstSpec.post enc Try.prog Try.f11 false true false false) :=
  lawLifted (C := Try.checked) [.one (.sl [I64, I64]), .one (.sl [I64])] 3 4 (by kernel_rfl) started (by kernel_rfl) Try.func11
    (ChangeSpec.witness6 (enc := enc) (C := Try.checked) false ⟨#[], #[.slice none 0 0,.slice none 0 0], []⟩ 8 (by kernel_rfl) (by kernel_rfl) (by kernel_rfl) (by kernel_rfl))
    (by kernel_rfl) (by kernel_rfl) (by kernel_rfl) rfl (by kernel_rfl) rfl (fun ds h => match ds, h with | [_, _], _ => rfl) fun m vs h => by
      obtain ⟨u0, u1, rfl, hv0, hv1⟩ := h.two
      obtain ⟨a, js, rfl, hl0, hq0, _⟩ := CV.sl2 hv0
      obtain ⟨b, ss, rfl, hl1, hq1, _⟩ := CV.sl1 hv1
      exact ⟨_, lawLongFirst_c js a ss b m hq0 hl0 hq1 hl1⟩

theorem fnExactLongFirstHolds : Rows.FnExactLongFirstSaid :=
  OpenClaim.holds_of_wide 11 Try.f11 rfl rfl rfl rfl rfl rfl rfl ⟨rfl, rfl, rfl, rfl, rfl⟩ rfl rfl rfl rfl rfl (by kernel_rfl) Try.func11 (by kernel_rfl)
    (of_decide_eq_true (by kernel_rfl)) (by unfold Func.isWrapper; first | (rw [if_pos (by decide +kernel)]; kernel_rfl) | (rw [if_neg (by decide +kernel)]; exact ⟨rfl, rfl⟩))
    (fun os started H enc _ => fnExactLongFirstLifted os started H enc)
end Go.Proofs.Ytaggfcnaedadaaa

