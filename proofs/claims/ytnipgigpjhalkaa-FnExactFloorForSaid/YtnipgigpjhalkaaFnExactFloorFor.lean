/-
  'FnExactFloorFor': for all arguments the program's FloorFor returns what the reference's returns, leaves its arguments as they are and returns memory of its own. Conditions: none.
-/
import Derived.Test.YtnipgigpjhalkaaNestD
set_option linter.unusedSimpArgs false
set_option linter.unusedVariables false
set_option linter.unusedSectionVars false
namespace Go.Proofs.Ytnipgigpjhalkaa
open Go.Abs Go.RowKit

theorem lawFloorFor_c (xs : List I3) (a : Option Addr) (pss : List (List Int)) (b : Option Addr) (m : Mem) (hr0 : RdG v3 3 m a xs) (hm0 : xs.length ≤ maxLen) (hr1 : RdSS m b pss) (hm1 : pss.length ≤ maxLen) (hm2 : ∀ p ∈ pss, p.length ≤ maxLen) :
    ACalls Try.prog 10 [.slice a xs.length xs.length, .slice b pss.length pss.length] m (.bool true) m := by
  have hg3 : ∀ x, (v3 x).length = 3 := fun _ => rfl
  refine acalls_of_vc Try.func10 rfl Try.fol (by kernel_rfl) ?_
  simp only [Try.f10]
  simp -dsimp -implicitDefEqProofs
  refine callsTo Try.cal19 (szPotS_c a _ _ _ hm0 (by decide)) ?_
  simp -dsimp -implicitDefEqProofs
  refine ⟨fun _ => GC.refl _ _ _, fun hb0 => ?_⟩
  obtain ⟨hn0', he0⟩ := leftI_ok hb0
  rw [he0]
  have hn0 : xs.length ≤ 1048576 := by omega
  refine callsTo Try.cal37 (szInt64SS_c pss b _ _ hr1 hm1 hm2 (by omega)) ?_
  simp -dsimp -implicitDefEqProofs
  refine ⟨fun _ => GC.refl _ _ _, fun hb1 => ?_⟩
  obtain ⟨hn1', he1⟩ := leftI_ok hb1
  have hn1 : pss.length ≤ 1048576 := by omega
  have hn2 : ∀ p ∈ pss, p.length ≤ 1048576 := fun p hp => by
    obtain ⟨k, hk, rfl⟩ := List.getElem_of_mem hp
    have := sumLen_at hk
    omega
  refine callsTo Try.cal21 (toPotS_c xs a _ hr0 hn0) ?_
  simp -dsimp -implicitDefEqProofs [floorV]
  refine callsToE Try.cal39 (toInt64SS_c pss b _ (hr1.pre (pre_app (pre_refl m) _)) hn1 hn2) ?_
  rintro _ m1 ⟨rfl, hp1, hs1⟩
  have hm1p : m <+: m1 := (pre_app (pre_refl m) _).trans hp1
  have hk0 : RdG v3 3 m1 (some ⟨m.length, 0, none⟩) xs := RdG.of_get hg3 xs (prefix_get hp1 (by simp; rfl)) (show (1 : Nat) ≤ 2 by decide) rfl rfl
  simp -dsimp -implicitDefEqProofs [floorV]
  refine callsTo Try.cal38 (specFloor_c xs pss _ _ _ hk0 (by simpa using hs1) hn0 hn1 hn2) ?_
  simp -dsimp -implicitDefEqProofs [floorV]
  refine callsTo Try.cal21 (toPotS_c xs a _ (hr0.pre hm1p) hn0) ?_
  simp -dsimp -implicitDefEqProofs [floorV]
  refine callsToE Try.cal39 (toInt64SS_c pss b _ (hr1.pre (pre_app hm1p _)) hn1 hn2) ?_
  rintro _ m2 ⟨rfl, hp2, hs2⟩
  have hm2p : m <+: m2 := (pre_app hm1p _).trans hp2
  have hx0 : RdG v3 3 m2 (some ⟨m1.length, 0, none⟩) xs := RdG.of_get hg3 xs (prefix_get hp2 (by simp; rfl)) (show (1 : Nat) ≤ 2 by decide) rfl rfl
  simp -dsimp -implicitDefEqProofs [floorV]
  refine callsTo Try.cal40 (implFloor_c xs pss _ _ _ hx0 (by simpa using hs2) hn0 hn1 hn2) ?_
  simp -dsimp -implicitDefEqProofs [floorV]
  refine callsTo Try.cal21 (toPotS_c xs a _ (hr0.pre hm2p) hn0) ?_
  simp -dsimp -implicitDefEqProofs [floorV]
  refine callsTo Try.cal23 (eqPotS_c xs xs _ _ _ (hx0.ext _) (RdG.of_get hg3 (o := ⟨_, _, 3, 1⟩) xs (by simp; rfl) (by simp) rfl rfl) hn0) ?_
  simp -dsimp -implicitDefEqProofs [floorV]
  refine callsToE Try.cal39 (toInt64SS_c pss b _ (hr1.pre (pre_app hm2p _)) hn1 hn2) ?_
  rintro _ m3 ⟨rfl, hp3, hs3⟩
  simp -dsimp -implicitDefEqProofs [floorV]
  refine callsTo Try.cal41 (eqInt64SS_c pss _ _ _ (by simpa using hs2.pre ((pre_app (pre_refl m2) _).trans hp3)) (by simpa using hs3) hn1 hn2) ?_
  simp -dsimp -implicitDefEqProofs [floorV]
  exact GC.dropP ((pre_app hm2p _).trans hp3) rfl rfl

set_option maxRecDepth 100000 in
theorem fnExactFloorForLifted (os : Os) (started : os.Started) (H : Type) (enc : TypeId × Value → H) :
    ReturnsInHanded {} Try.checked os 10 .any (Rows.fnExactFloorForSpec.pre6 enc Try.prog Try.f10 Rows.fnExactFloorForRow.domain false) (Rows.fnExactFloorForSpec.post enc Try.prog Try.f10 false true false false) :=
  lawLifted (C := Try.checked) [.one (.sl [I64, I64, I64]), .one (.sl [.sl [I64]])] 4 4 (by kernel_rfl) started (by kernel_rfl) Try.func10
    (ChangeSpec.witness6 (enc := enc) (C := Try.checked) false ⟨#[], #[.slice none 0 0,.slice none 0 0], []⟩ 8 (by kernel_rfl) (by kernel_rfl) (by kernel_rfl) (by kernel_rfl))
    (by kernel_rfl) (by kernel_rfl) (by kernel_rfl) rfl (by kernel_rfl) rfl (fun ds h => match ds, h with | [_, _], _ => rfl) fun m vs h => by
      obtain ⟨u0, u1, rfl, hv0, hv1⟩ := h.two
      obtain ⟨a, xs, rfl, hl0, hq0, _⟩ := CV.sl3 hv0
      obtain ⟨b, pss, rfl, hl1, hl2, hq1⟩ := CV.sls hv1
      exact ⟨_, lawFloorFor_c xs a pss b m hq0 hl0 hq1 hl1 hl2⟩

theorem fnExactFloorForHolds : Rows.FnExactFloorForSaid :=
  OpenClaim.holds_of_wide 10 Try.f10 rfl rfl rfl rfl rfl rfl rfl ⟨rfl, rfl, rfl, rfl, rfl⟩ rfl rfl rfl rfl rfl (by kernel_rfl) Try.func10 (by kernel_rfl)
    (of_decide_eq_true (by kernel_rfl)) (by unfold Func.isWrapper; first | (rw [if_pos (by decide +kernel)]; kernel_rfl) | (rw [if_neg (by decide +kernel)]; exact ⟨rfl, rfl⟩))
    (fun os started H enc _ => fnExactFloorForLifted os started H enc)
end Go.Proofs.Ytnipgigpjhalkaa
