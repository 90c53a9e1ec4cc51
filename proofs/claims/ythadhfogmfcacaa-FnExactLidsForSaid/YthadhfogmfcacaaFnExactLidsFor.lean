/-
  'FnExactLidsFor': for all arguments the program's LidsFor returns what the reference's returns, leaves its arguments as they are and returns memory of its own. Conditions: none.
-/
import Derived.Test.YthadhfogmfcacaaLidH
set_option linter.unusedSimpArgs false
set_option linter.unusedVariables false
set_option linter.unusedSectionVars false
namespace Go.Proofs.Ythadhfogmfcacaa
open Go.Abs Go.RowKit

theorem lawLidsFor_c (xs : List I3) (a : Option Addr) (ws : List Int) (b : Option Addr) (s : Int) (m : Mem) (hr0 : RdG v3 3 m a xs) (hm0 : xs.length ≤ maxLen) (hr1 : RdI m b ws) (hm1 : ws.length ≤ maxLen) : ACalls Try.prog 9 [.slice a xs.length xs.length, .slice b ws.length ws.length, .int .i64 s] m (.bool true) m := by
  have hg3 : ∀ x, (v3 x).length = 3 := fun _ => rfl
  refine acalls_of_vc Try.func9 rfl Try.fol (by kernel_rfl) ?_
  simp only [Try.f9]
  simp -dsimp -implicitDefEqProofs
  refine ⟨fun _ => GC.refl _ _ _, fun hb1 => ?_⟩
  have hn1 : ws.length ≤ 1048576 := by simp at hb1; omega
  refine callsTo Try.cal16 (szLidS_c a _ _ _ hm0 (by decide)) ?_
  simp -dsimp -implicitDefEqProofs
  refine ⟨fun _ => GC.refl _ _ _, fun hb0 => ?_⟩
  obtain ⟨hn0', he0⟩ := leftI_ok hb0
  rw [he0]
  have hn0 : xs.length ≤ 1048576 := by omega
  refine callsTo Try.cal18 (toLidS_c xs a _ hr0 hn0) ?_
  simp -dsimp -implicitDefEqProofs
  refine callsTo Try.cal24 (toInt64S_c ws b _ (hr1.ext _) hn1) ?_
  simp -dsimp -implicitDefEqProofs
  cases hO : lidsO xs ws s with
  | none =>
    refine callsTo Try.cal32 (specLidsFor_c xs ws _ _ s _ (RdG.of_get hg3 (o := ⟨_, _, 3, 1⟩) xs (by simp; rfl) (by simp) rfl rfl) (RdI.of_get (xs := ws) (o := ⟨_, _, 1, 1⟩) (by simp; rfl) (by simp) rfl rfl) hn0 hn1 (fun x h => by injection h with h; subst h; simp) (fun x h => by injection h with h; subst h; simp)) ?_
    simp -dsimp -implicitDefEqProofs [hO, optV, optM]
    refine callsTo Try.cal18 (toLidS_c xs a _ (hr0.ext _) hn0) ?_
    simp -dsimp -implicitDefEqProofs [hO, optV, optM]
    refine callsTo Try.cal24 (toInt64S_c ws b _ (hr1.ext _) hn1) ?_
    simp -dsimp -implicitDefEqProofs [hO, optV, optM]
    refine callsTo Try.cal33 (implLidsFor_c xs ws _ _ s _ (RdG.of_get hg3 (o := ⟨_, _, 3, 1⟩) xs (by simp; rfl) (by simp) rfl rfl) (RdI.of_get (xs := ws) (o := ⟨_, _, 1, 1⟩) (by simp; rfl) (by simp) rfl rfl) hn0 hn1) ?_
    simp -dsimp -implicitDefEqProofs [hO, optV, optM]
    refine callsTo Try.cal26 (eqInt64S_c [] [] _ _ _ (RdI.nil _ _) (RdI.nil _ _) (by simp)) ?_
    simp -dsimp -implicitDefEqProofs [hO, optV, optM]
    refine callsTo Try.cal18 (toLidS_c xs a _ (hr0.ext _) hn0) ?_
    simp -dsimp -implicitDefEqProofs [hO, optV, optM]
    refine callsTo Try.cal20 (eqLidS_c xs xs _ _ _ (RdG.of_get hg3 (o := ⟨_, _, 3, 1⟩) xs (by simp; rfl) (by simp) rfl rfl) (RdG.of_get hg3 (o := ⟨_, _, 3, 1⟩) xs (by simp; rfl) (by simp) rfl rfl) hn0) ?_
    simp -dsimp -implicitDefEqProofs [hO, optV, optM]
    refine callsTo Try.cal24 (toInt64S_c ws b _ (hr1.ext _) hn1) ?_
    simp -dsimp -implicitDefEqProofs [hO, optV, optM]
    refine callsTo Try.cal26 (eqInt64S_c ws ws _ _ _ (RdI.of_get (xs := ws) (o := ⟨_, _, 1, 1⟩) (by simp; rfl) (by simp) rfl rfl) (RdI.of_get (xs := ws) (o := ⟨_, _, 1, 1⟩) (by simp; rfl) (by simp) rfl rfl) hn1) ?_
    simp -dsimp -implicitDefEqProofs [hO, optV, optM]
    have hk : ¬ ((1 : Int) + (xs.length : Int) * 3 + (ws.length : Int) < 0) := by omega
    refine callsTo Try.cal27 (markLidS_c xs _ _ ⟨_, _, 3, 1⟩ _ (by simp; rfl) rfl rfl (by simp) hn0 (by decide)) ?_
    simp -dsimp -implicitDefEqProofs [hO, optV, optM, hk]
    refine callsTo Try.cal28 (markInt64S_c ws _ _ ⟨_, _, 1, 1⟩ _ (by simp; rfl) rfl rfl (by simp) hn1 (by omega)) ?_
    simp -dsimp -implicitDefEqProofs [hO, optV, optM, hk]
    refine callsTo Try.cal26 (eqInt64S_c [] [] _ _ _ (RdI.nil _ _) (RdI.nil _ _) (by simp)) ?_
    simp -dsimp -implicitDefEqProofs [hO, optV, optM, hk]
    refine callsTo Try.cal28 (markInt64S_nil _ _ _) ?_
    simp -dsimp -implicitDefEqProofs [hO, optV, optM, hk]
    refine callsTo Try.cal29 (heldInt64S_c 0 1 _ _ (RdMk.nil 1 1 _ _) (by simp) (by decide)) ?_
    simp -dsimp -implicitDefEqProofs [hO, optV, optM, hk]
    refine callsTo Try.cal18 (toLidS_c xs a _ (hr0.ext _) hn0) ?_
    simp -dsimp -implicitDefEqProofs [hO, optV, optM, hk]
    refine callsTo Try.cal24 (toInt64S_c ws b _ (hr1.ext _) hn1) ?_
    simp -dsimp -implicitDefEqProofs [hO, optV, optM, hk]
    refine callsTo Try.cal33 (implLidsFor_c xs ws _ _ s _ (RdG.of_get hg3 (o := ⟨_, _, 3, 1⟩) xs (by simp; rfl) (by simp) rfl rfl) (RdI.of_get (xs := ws) (o := ⟨_, _, 1, 1⟩) (by simp; rfl) (by simp) rfl rfl) hn0 hn1) ?_
    simp -dsimp -implicitDefEqProofs [hO, optV, optM, hk]
    refine callsTo Try.cal26 (eqInt64S_c [] [] _ _ _ (RdI.nil _ _) (RdI.nil _ _) (by simp)) ?_
    simp -dsimp -implicitDefEqProofs [hO, optV, optM, hk]
    refine callsTo Try.cal29 (heldInt64S_c 0 1 _ _ (RdMk.nil 1 1 _ _) (by simp) (by decide)) ?_
    simp -dsimp -implicitDefEqProofs [hO, optV, optM, hk]
    exact GC.dropEq rfl rfl
  | some zs =>
    have hz : zs.length ≤ 1048576 := (lidsO_length hO ▸ hn1)
    refine callsTo Try.cal32 (specLidsFor_c xs ws _ _ s _ (RdG.of_get hg3 (o := ⟨_, _, 3, 1⟩) xs (by simp; rfl) (by simp) rfl rfl) (RdI.of_get (xs := ws) (o := ⟨_, _, 1, 1⟩) (by simp; rfl) (by simp) rfl rfl) hn0 hn1 (fun x h => by injection h with h; subst h; simp) (fun x h => by injection h with h; subst h; simp)) ?_
    simp -dsimp -implicitDefEqProofs [hO, optV, optM]
    refine callsTo Try.cal18 (toLidS_c xs a _ (hr0.ext _) hn0) ?_
    simp -dsimp -implicitDefEqProofs [hO, optV, optM]
    refine callsTo Try.cal24 (toInt64S_c ws b _ (hr1.ext _) hn1) ?_
    simp -dsimp -implicitDefEqProofs [hO, optV, optM]
    refine callsTo Try.cal33 (implLidsFor_c xs ws _ _ s _ (RdG.of_get hg3 (o := ⟨_, _, 3, 1⟩) xs (by simp; rfl) (by simp) rfl rfl) (RdI.of_get (xs := ws) (o := ⟨_, _, 1, 1⟩) (by simp; rfl) (by simp) rfl rfl) hn0 hn1) ?_
    simp -dsimp -implicitDefEqProofs [hO, optV, optM]
    refine callsTo Try.cal26 (eqInt64S_c zs zs _ _ _ (RdI.of_get (xs := zs) (o := ⟨_, _, 1, 2⟩) (by simp; rfl) (by simp) rfl rfl) (RdI.of_get (xs := zs) (o := ⟨_, _, 1, 2⟩) (by simp; rfl) (by simp) rfl rfl) hz) ?_
    simp -dsimp -implicitDefEqProofs [hO, optV, optM]
    refine callsTo Try.cal18 (toLidS_c xs a _ (hr0.ext _) hn0) ?_
    simp -dsimp -implicitDefEqProofs [hO, optV, optM]
    refine callsTo Try.cal20 (eqLidS_c xs xs _ _ _ (RdG.of_get hg3 (o := ⟨_, _, 3, 1⟩) xs (by simp; rfl) (by simp) rfl rfl) (RdG.of_get hg3 (o := ⟨_, _, 3, 1⟩) xs (by simp; rfl) (by simp) rfl rfl) hn0) ?_
    simp -dsimp -implicitDefEqProofs [hO, optV, optM]
    refine callsTo Try.cal24 (toInt64S_c ws b _ (hr1.ext _) hn1) ?_
    simp -dsimp -implicitDefEqProofs [hO, optV, optM]
    refine callsTo Try.cal26 (eqInt64S_c ws ws _ _ _ (RdI.of_get (xs := ws) (o := ⟨_, _, 1, 1⟩) (by simp; rfl) (by simp) rfl rfl) (RdI.of_get (xs := ws) (o := ⟨_, _, 1, 1⟩) (by simp; rfl) (by simp) rfl rfl) hn1) ?_
    simp -dsimp -implicitDefEqProofs [hO, optV, optM]
    have hk : ¬ ((1 : Int) + (xs.length : Int) * 3 + (ws.length : Int) < 0) := by omega
    have hq : ¬ ((1 : Int) + (zs.length : Int) < 0) := by omega
    refine callsTo Try.cal27 (markLidS_c xs _ _ ⟨_, _, 3, 1⟩ _ (by simp; rfl) rfl rfl (by simp) hn0 (by decide)) ?_
    simp -dsimp -implicitDefEqProofs [hO, optV, optM, hk, hq]
    refine callsTo Try.cal28 (markInt64S_c ws _ _ ⟨_, _, 1, 1⟩ _ (by simp; rfl) rfl rfl (by simp) hn1 (by omega)) ?_
    simp -dsimp -implicitDefEqProofs [hO, optV, optM, hk, hq]
    refine callsTo Try.cal26 (eqInt64S_c zs zs _ _ _ (RdI.of_get (xs := zs) (o := ⟨_, _, 1, 2⟩) (by simp; rfl) (by simp) rfl rfl) (RdI.of_get (xs := zs) (o := ⟨_, _, 1, 2⟩) (by simp; rfl) (by simp) rfl rfl) hz) ?_
    simp -dsimp -implicitDefEqProofs [hO, optV, optM, hk, hq]
    refine callsTo Try.cal28 (markInt64S_c zs 1 _ ⟨_, _, 1, 2⟩ _ (by simp; rfl) rfl rfl (by simp) hz (by decide)) ?_
    simp -dsimp -implicitDefEqProofs [hO, optV, optM, hk, hq]
    refine callsTo Try.cal29 (heldInt64S_c zs.length 1 _ _ (RdMk.of_get zs.length (o := ⟨mkCells 1 1 zs.length, _, 1, 2⟩) (by simp; rfl) (by simp) rfl rfl) hz (by decide)) ?_
    simp -dsimp -implicitDefEqProofs [hO, optV, optM, hk, hq]
    refine callsTo Try.cal18 (toLidS_c xs a _ (hr0.ext _) hn0) ?_
    simp -dsimp -implicitDefEqProofs [hO, optV, optM, hk, hq]
    refine callsTo Try.cal24 (toInt64S_c ws b _ (hr1.ext _) hn1) ?_
    simp -dsimp -implicitDefEqProofs [hO, optV, optM, hk, hq]
    refine callsTo Try.cal33 (implLidsFor_c xs ws _ _ s _ (RdG.of_get hg3 (o := ⟨_, _, 3, 1⟩) xs (by simp; rfl) (by simp) rfl rfl) (RdI.of_get (xs := ws) (o := ⟨_, _, 1, 1⟩) (by simp; rfl) (by simp) rfl rfl) hn0 hn1) ?_
    simp -dsimp -implicitDefEqProofs [hO, optV, optM, hk, hq]
    refine callsTo Try.cal26 (eqInt64S_c zs zs _ _ _ (RdI.of_get (xs := zs) (o := ⟨_, _, 1, 2⟩) (by simp; rfl) (by simp) rfl rfl) (RdI.of_get (xs := zs) (o := ⟨_, _, 1, 2⟩) (by simp; rfl) (by simp) rfl rfl) hz) ?_
    simp -dsimp -implicitDefEqProofs [hO, optV, optM, hk, hq]
    refine callsTo Try.cal29 (heldInt64S_c zs.length 1 _ _ (RdMk.of_get zs.length (o := ⟨mkCells 1 1 zs.length, _, 1, 2⟩) (by simp; rfl) (by simp) rfl rfl) hz (by decide)) ?_
    simp -dsimp -implicitDefEqProofs [hO, optV, optM, hk, hq]
    exact GC.dropEq rfl rfl

set_option maxRecDepth 100000 in
theorem fnExactLidsForLifted (os : Os) (started : os.Started) (H : Type) (enc : TypeId × Value → H) :
    ReturnsInHanded {} Try.checked os 9 .any (Rows.fnExactLidsForSpec.pre6 enc Try.prog Try.f9 Rows.fnExactLidsForRow.domain false) (Rows.fnExactLidsForSpec.post enc Try.prog Try.f9 false true false false) :=
  lawLifted (C := Try.checked) [.one (.sl [I64, I64, I64]), .one (.sl [I64]), .one I64] 3 4 (by kernel_rfl) started (by kernel_rfl) Try.func9
    (ChangeSpec.witness6 (enc := enc) (C := Try.checked) false ⟨#[], #[.slice none 0 0,.slice none 0 0,.int .i64 0], []⟩ 8 (by kernel_rfl) (by kernel_rfl) (by kernel_rfl) (by kernel_rfl))
    (by kernel_rfl) (by kernel_rfl) (by kernel_rfl) rfl (by kernel_rfl) rfl (fun ds h => match ds, h with | [_, _, _], _ => rfl) fun m vs h => by
      obtain ⟨u0, u1, u2, rfl, hv0, hv1, hv2⟩ := h.three
      obtain ⟨a, xs, rfl, hl0, hq0, _⟩ := CV.sl3 hv0
      obtain ⟨b, ws, rfl, hl1, hq1, _⟩ := CV.sl1 hv1
      obtain ⟨s, rfl, hi2⟩ := CV.int hv2
      exact ⟨_, lawLidsFor_c xs a ws b s m hq0 hl0 hq1 hl1⟩

theorem fnExactLidsForHolds : Rows.FnExactLidsForSaid :=
  OpenClaim.holds_of_wide 9 Try.f9 rfl rfl rfl rfl rfl rfl rfl ⟨rfl, rfl, rfl, rfl, rfl⟩ rfl rfl rfl rfl rfl (by kernel_rfl) Try.func9 (by kernel_rfl)
    (of_decide_eq_true (by kernel_rfl)) (by unfold Func.isWrapper; first | (rw [if_pos (by decide +kernel)]; kernel_rfl) | (rw [if_neg (by decide +kernel)]; exact ⟨rfl, rfl⟩))
    (fun os started H enc _ => fnExactLidsForLifted os started H enc)
end Go.Proofs.Ythadhfogmfcacaa

