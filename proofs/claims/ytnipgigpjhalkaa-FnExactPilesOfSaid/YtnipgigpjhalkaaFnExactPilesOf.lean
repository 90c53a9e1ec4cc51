/-
  'FnExactPilesOf': for all arguments the program's PilesOf returns what the reference's returns, leaves its arguments as they are and returns memory of its own. Conditions: none.
-/
import Derived.Test.YtnipgigpjhalkaaNestO
set_option linter.unusedSimpArgs false
set_option linter.unusedVariables false
set_option linter.unusedSectionVars false
namespace Go.Proofs.Ytnipgigpjhalkaa
open Go.Abs Go.RowKit

def IsT (v : Value) (_ : Mem) : Prop := v = .bool true
theorem lawPilesOf_c (xs : List I3) (a : Option Addr) (m : Mem) (hr0 : RdG v3 3 m a xs) (hm0 : xs.length ≤ maxLen) :
    ∃ v m', ACalls Try.prog 11 [.slice a xs.length xs.length] m v m' ∧ IsT v m' := by
  have hg3 : ∀ x, (v3 x).length = 3 := fun _ => rfl
  refine ecalls_of_vc Try.func11 rfl Try.fol (by kernel_rfl) ?_
  simp only [Try.f11]
  simp -dsimp -implicitDefEqProofs
  refine callsTo Try.cal19 (szPotS_c a _ _ _ hm0 (by decide)) ?_
  simp -dsimp -implicitDefEqProofs
  refine ⟨fun _ => ⟨_, _, GC.refl _ _ _, rfl⟩, fun hb0 => ?_⟩
  obtain ⟨hn0', he0⟩ := leftI_ok hb0
  have hn0 : xs.length ≤ 1048576 := by omega
  obtain ⟨hzl, hzp⟩ := pilesO_le xs hn0
  have hzs := pilesO_sum xs
  refine callsTo Try.cal21 (toPotS_c xs a _ hr0 hn0) ?_
  simp -dsimp -implicitDefEqProofs
  obtain ⟨m1, hm1⟩ : ∃ m1, m1 = m ++ [(⟨(xs.map v3).flatten, 26, 3, 1⟩ : AObj)] := ⟨_, rfl⟩
  rw [← hm1]
  have hp1 : m <+: m1 := by rw [hm1]; exact ⟨_, rfl⟩
  have hx1 : RdG v3 3 m1 (some ⟨m.length, 0, none⟩) xs := RdG.of_get hg3 (o := ⟨_, _, 3, 1⟩) xs (by rw [hm1]; simp; rfl) (by simp) rfl rfl
  refine callsToE Try.cal42 (specPilesU_c xs _ m1 hx1 hn0) ?_
  rintro _ m2 ⟨A, ids, rfl, hp2, hW⟩
  simp -dsimp -implicitDefEqProofs
  have hp12 := hp1.trans hp2
  refine callsTo Try.cal21 (toPotS_c xs a _ (hr0.pre hp12) hn0) ?_
  simp -dsimp -implicitDefEqProofs
  obtain ⟨m3, hm3⟩ : ∃ m3, m3 = m2 ++ [(⟨(xs.map v3).flatten, 26, 3, 1⟩ : AObj)] := ⟨_, rfl⟩
  rw [← hm3]
  have hp3 : m2 <+: m3 := by rw [hm3]; exact ⟨_, rfl⟩
  have hl3 : m3.length = m2.length + 1 := by rw [hm3]; simp
  have ox3 : m3[m2.length]? = some ⟨(xs.map v3).flatten, 26, 3, 1⟩ := by rw [hm3]; simp
  refine callsToE Try.cal43 (implPilesU_c xs _ m3 (RdG.of_get hg3 xs ox3 (by simp) rfl rfl) hn0) ?_
  rintro _ m4 ⟨B, jds, rfl, hp4, hG⟩
  simp -dsimp -implicitDefEqProofs
  have hW4 := hW.pre (hp3.trans hp4)
  have ox4 := prefix_get hp4 ox3
  refine callsTo Try.cal41 (eqInt64SS_c (pilesO xs) _ _ _ hG.rd hW4.rd hzl hzp) ?_
  simp -dsimp -implicitDefEqProofs
  have hp14 := hp12.trans (hp3.trans hp4)
  refine callsTo Try.cal21 (toPotS_c xs a _ (hr0.pre hp14) hn0) ?_
  simp -dsimp -implicitDefEqProofs
  obtain ⟨m5, hm5⟩ : ∃ m5, m5 = m4 ++ [(⟨(xs.map v3).flatten, 26, 3, 1⟩ : AObj)] := ⟨_, rfl⟩
  rw [← hm5]
  have hp5 : m4 <+: m5 := by rw [hm5]; exact ⟨_, rfl⟩
  have hl5 : m5.length = m4.length + 1 := by rw [hm5]; simp
  have ox5 := prefix_get hp5 ox4
  refine callsTo Try.cal23 (eqPotS_c xs xs _ _ _ (RdG.of_get hg3 xs ox5 (by simp) rfl rfl) (RdG.of_get hg3 (o := ⟨_, _, 3, 1⟩) xs (by rw [hm5]; simp; rfl) (by simp) rfl rfl) hn0) ?_
  simp -dsimp -implicitDefEqProofs
  have hmk := markPotS_c xs 1 m2.length _ m5 ox5 rfl rfl (by simp) hn0 (by decide)
  have hk : ¬ ((1 : Int) + (xs.length : Int) * 3 < 0) := by omega
  refine callsTo Try.cal27 hmk ?_
  simp -dsimp -implicitDefEqProofs [hk]
  obtain ⟨m6, hm6⟩ : ∃ m6, m6 = m5.set m2.length ⟨mkCells 3 1 xs.length, 26, 3, 1⟩ := ⟨_, rfl⟩
  have hR6 : RestS [m2.length] m5 m6 := by rw [hm6]; exact RestS.set _ (by simp) _
  have hl6 : m6.length = m5.length := by rw [hm6]; simp
  have hl23 := hp4.length_le
  have hW6 : PU m1 m6 A ids (pilesO xs) := by
    have h1 := hW.pre (m' := m5) (hp3.trans (hp4.trans hp5))
    refine ⟨h1.len, h1.nd, h1.lo, fun j h2 h3 => ?_, fun j h2 h3 => ?_⟩
    · obtain ⟨ip, o, e, ho, q1, q2, q3, q4, q5⟩ := hW.row j h2 h3
      exact ⟨ip, o, e, hR6.get _ _ (by simp; have := lt_of_get ho; omega) (prefix_get (hp3.trans (hp4.trans hp5)) ho), q1, q2, q3, q4, q5⟩
    · obtain ⟨o, ho, q⟩ := hW.each j h2 h3
      exact ⟨o, hR6.get _ _ (by simp; have := lt_of_get ho; omega) (prefix_get (hp3.trans (hp4.trans hp5)) ho), q⟩
  have hG6 : PU m3 m6 B jds (pilesO xs) := (hG.pre hp5).rest hR6 (fun i h1 _ => by simp; omega)
  have hp6 : m <+: m6 := by rw [hm6]; exact pre_set (hp14.trans hp5) (by have := hp12.length_le; omega) _
  simp only [← hm6]
  refine callsTo Try.cal41 (eqInt64SS_c (pilesO xs) _ _ m6 hG6.rd hW6.rd hzl hzp) ?_
  simp -dsimp -implicitDefEqProofs [hk]
  refine callsToE Try.cal44 (markInt64SS_c m3 m6 B jds (pilesO xs) 1 hG6 hzl (by omega) (by decide)) ?_
  rintro _ m7 ⟨rfl, hR7, hl7, hM7⟩
  have hrow7 : ∀ j (h : j < jds.length) (h' : j < (pilesO xs).length), ∃ ip o, B = some ⟨ip, 0, none⟩ ∧ m7[ip]? = some o ∧ o.kind ≤ 2 ∧ o.sz = 1 ∧ m3.length ≤ ip ∧ ip ∉ jds ∧ o.cells[j]? = some (.slice (some ⟨jds[j], 0, none⟩) (pilesO xs)[j].length (pilesO xs)[j].length) := fun j h1 h2 => by
    obtain ⟨ip, o, e, ho, q1, q2, q3, q4, q5⟩ := hG6.row j h1 h2
    exact ⟨ip, o, e, hR7.get _ _ q4 ho, q1, q2, q3, q4, q5⟩
  have hp7 : m <+: m7 := hR7.base hp6 (fun i hi => by have := hG6.lo i hi; have := hp12.length_le; have := hp3.length_le; omega)
  have hq : ¬ ((1 : Int) + (sumLen (pilesO xs) : Int) < 0) := by omega
  simp -dsimp -implicitDefEqProofs [hq]
  refine callsTo Try.cal45 (heldInt64SS_c m3 m7 B jds (pilesO xs) 1 hG6.len hrow7 hM7 hzl (by omega) (by decide)) ?_
  simp -dsimp -implicitDefEqProofs [hq]
  refine callsTo Try.cal21 (toPotS_c xs a _ (hr0.pre hp7) hn0) ?_
  simp -dsimp -implicitDefEqProofs [hq]
  obtain ⟨m8, hm8⟩ : ∃ m8, m8 = m7 ++ [(⟨(xs.map v3).flatten, 26, 3, 1⟩ : AObj)] := ⟨_, rfl⟩
  rw [← hm8]
  have hp8 : m7 <+: m8 := by rw [hm8]; exact ⟨_, rfl⟩
  refine callsToE Try.cal43 (implPilesU_c xs _ m8 (RdG.of_get hg3 (o := ⟨_, _, 3, 1⟩) xs (by rw [hm8]; simp; rfl) (by simp) rfl rfl) hn0) ?_
  rintro _ m9 ⟨D, kds, rfl, hp9, hH⟩
  simp -dsimp -implicitDefEqProofs [hq]
  have hp79 := hp8.trans hp9
  have hlo : ∀ i, i < m2.length → i ∉ jds := fun i hi hj => by have := hG6.lo i hj; omega
  have hW9 : PU m1 m9 A ids (pilesO xs) := by
    refine ⟨hW6.len, hW6.nd, hW6.lo, fun j h2 h3 => ?_, fun j h2 h3 => ?_⟩
    · obtain ⟨ip, o, e, ho, _⟩ := hW.row j h2 h3
      obtain ⟨ip', o', e', ho', q1, q2, q3, q4, q5⟩ := hW6.row j h2 h3
      have hip : ip' < m2.length := by
        rw [e] at e'
        injection e' with e'
        injection e' with e1
        rw [← e1]; exact lt_of_get ho
      exact ⟨ip', o', e', prefix_get hp79 (hR7.get _ _ (hlo _ hip) ho'), q1, q2, q3, q4, q5⟩
    · have hid := (hW.each j h2 h3).lt
      obtain ⟨o, ho, q⟩ := hW6.each j h2 h3
      exact ⟨o, prefix_get hp79 (hR7.get _ _ (hlo _ hid) ho), q⟩
  refine callsTo Try.cal41 (eqInt64SS_c (pilesO xs) _ _ m9 hH.rd hW9.rd hzl hzp) ?_
  simp -dsimp -implicitDefEqProofs [hq]
  have hrow9 : ∀ j (h : j < jds.length) (h' : j < (pilesO xs).length), ∃ ip o, B = some ⟨ip, 0, none⟩ ∧ m9[ip]? = some o ∧ o.kind ≤ 2 ∧ o.sz = 1 ∧ m3.length ≤ ip ∧ ip ∉ jds ∧ o.cells[j]? = some (.slice (some ⟨jds[j], 0, none⟩) (pilesO xs)[j].length (pilesO xs)[j].length) := fun j h1 h2 => by
    obtain ⟨ip, o, e, ho, q⟩ := hrow7 j h1 h2
    exact ⟨ip, o, e, prefix_get hp79 ho, q⟩
  refine callsTo Try.cal45 (heldInt64SS_c m3 m9 B jds (pilesO xs) 1 hG6.len hrow9 (hM7.rest (S := []) (RestS.of_pre hp79) (by simp)) hzl (by omega) (by decide)) ?_
  simp -dsimp -implicitDefEqProofs [hq]
  exact ⟨_, _, GC.refl _ _ _, rfl⟩

set_option maxRecDepth 100000 in
theorem fnExactPilesOfLifted (os : Os) (started : os.Started) (H : Type) (enc : TypeId × Value → H) :
    ReturnsInHanded {} Try.checked os 11 .any (Rows.fnExactPilesOfSpec.pre6 enc Try.prog Try.f11 Rows.fnExactPilesOfRow.domain false) (Rows.fnExactPilesOfSpec.post enc Try.prog Try.f11 false true false false) :=
  lawLifted (C := Try.checked) [.one (.sl [I64, I64, I64])] 3 4 (by kernel_rfl) started (by kernel_rfl) Try.func11
    (ChangeSpec.witness6 (enc := enc) (C := Try.checked) false ⟨#[], #[.slice none 0 0], []⟩ 8 (by kernel_rfl) (by kernel_rfl) (by kernel_rfl) (by kernel_rfl))
    (by kernel_rfl) (by kernel_rfl) (by kernel_rfl) rfl (by kernel_rfl) rfl (fun ds h => match ds, h with | [_], _ => rfl) fun m vs h => by
      obtain ⟨u0, rfl, hv0⟩ := h.one
      obtain ⟨a, xs, rfl, hl0, hq0, _⟩ := CV.sl3 hv0
      obtain ⟨v, m', hc, hv⟩ := lawPilesOf_c xs a m hq0 hl0
      have hv' : v = .bool true := hv
      exact ⟨m', hv' ▸ hc⟩

theorem fnExactPilesOfHolds : Rows.FnExactPilesOfSaid :=
  OpenClaim.holds_of_wide 11 Try.f11 rfl rfl rfl rfl rfl rfl rfl ⟨rfl, rfl, rfl, rfl, rfl⟩ rfl rfl rfl rfl rfl (by kernel_rfl) Try.func11 (by kernel_rfl)
    (of_decide_eq_true (by kernel_rfl)) (by unfold Func.isWrapper; first | (rw [if_pos (by decide +kernel)]; kernel_rfl) | (rw [if_neg (by decide +kernel)]; exact ⟨rfl, rfl⟩))
    (fun os started H enc _ => fnExactPilesOfLifted os started H enc)
end Go.Proofs.Ytnipgigpjhalkaa
