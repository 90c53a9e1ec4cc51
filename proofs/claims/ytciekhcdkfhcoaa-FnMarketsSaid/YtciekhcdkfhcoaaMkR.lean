/-
  Markets, part 18: a single drawn market. Conditions: none.
-/
import Derived.Test.YtciekhcdkfhcoaaMkQ
set_option linter.unusedSimpArgs false
set_option linter.unusedVariables false
set_option linter.unusedSectionVars false
namespace Go.Proofs.Ytciekhcdkfhcoaa
open Go.Abs Go.RowKit

def DSale (m : Mem) (v : Value) (m' : Mem) : Prop :=
  ∃ (n : Int) (x : Mk) (ad bd : Option Addr) (ys : List Int) (b : Option Addr), v = .tuple #[.int .i64 n, .agg (mkRow4 x ad bd).toArray, .slice b ys.length ys.length] ∧ x.2.2.1.length ≤ 1048576 ∧ x.2.2.2.length ≤ 1048576 ∧ ys.length ≤ 1048576 ∧ m <+: m' ∧ RdI m' ad x.2.2.1 ∧ RdI m' bd x.2.2.2 ∧ RdI m' b ys
theorem RestS.rdSkip {m m' : Mem} {i : Nat} {o : AObj} {l : List Int} {a : Option Addr} (h : RestS [i] m m') (hi : m[i]? = some o) (hs : o.sz = 4) (hr : RdI m a l) : RdI m' a l := by
  obtain ⟨h1, h2, h3⟩ := hr
  refine ⟨h1, h2, fun hn => ?_⟩
  obtain ⟨id, off, ob, rfl, hm, g1, g2, g3⟩ := h3 hn
  have hne : id ≠ i := by
    rintro rfl
    rw [hm] at hi
    injection hi with hi
    subst hi
    omega
  exact ⟨id, off, ob, rfl, h.get id ob (by simpa using hne) hm, g1, g2, g3⟩
set_option maxRecDepth 20000 in
theorem l21Single_c (a : Option Addr) (code : List Int) (m : Mem) (h : RdB m a code) (hl : code.length ≤ 1048576) :
    ∃ v m', ACalls Try.prog 74 [.slice a code.length code.length] m v m' ∧ DSale m v m' := by
  obtain ⟨m0, hm0⟩ : ∃ m0 : Mem, m0 = m ++ [⟨[.int .i64 0, .int .i64 0, .slice none 0 0, .slice none 0 0], 35, 4, 1⟩] := ⟨_, rfl⟩
  have hp0 : m <+: m0 := by rw [hm0]; exact ⟨_, rfl⟩
  have h0 : RdB m0 a code := by rw [hm0]; exact ⟨RdG.ext h.1 _, h.2⟩
  have t0 : m0[m.length]? = some ⟨[.int .i64 0, .int .i64 0, .slice none 0 0, .slice none 0 0], 35, 4, 1⟩ := by rw [hm0]; simp
  obtain ⟨v1, m1, hc1, n, xs, im, ys, iy, rfl, hx, hxl, hy, hp1, hX, hY⟩ := l21All_c a code m0 h0 hl
  have t1 := prefix_get hp1 t0
  have hlt1 := lt_of_get t1
  refine ecalls_of_vcF [3] Try.func74 rfl Try.fol (by kernel_rfl) ?_
  simp only [Try.f74]
  simp -dsimp -implicitDefEqProofs [hm0.symm]
  refine callsTo Try.cal73 hc1 ?_
  simp -dsimp -implicitDefEqProofs [hm0.symm]
  by_cases he : xs.length = 0
  · obtain ⟨k, hk⟩ : ∃ k, k = max 0 (min 9 n) := ⟨_, rfl⟩
    have hk9 : 0 ≤ k ∧ k ≤ 9 := by omega
    simp -dsimp -implicitDefEqProofs [hm0.symm, he, hk.symm]
    refine regP [false, false, true, true, false, false, true, true, false, false, false, false, false, false] [[], [], [], [], [], [], [4], [4], [4], [], [], [], [], []] 2 (by kernel_rfl) (by kernel_rfl) ?_
    simp -dsimp -implicitDefEqProofs [hm0.symm, he, hk.symm, fun l => withO_of (get_old (l := l) t1)]
    refine callsP Try.cal79 (fun _ => (l00Min_c _ _ _)) ?_
    simp -dsimp -implicitDefEqProofs [hm0.symm, he, hk.symm, fun l => withO_of (get_old (l := l) t1)]
    refine callsP Try.cal60 (fun _ => (l00Max_c _ _ _)) ?_
    simp -dsimp -implicitDefEqProofs [hm0.symm, he, hk.symm, fun l => withO_of (get_old (l := l) t1)]
    refine need_intro (by omega) ?_
    refine callsP Try.cal79 (fun _ => (l00Min_c _ _ _)) ?_
    simp -dsimp -implicitDefEqProofs [hm0.symm, he, hk.symm, fun l => withO_of (get_old (l := l) t1)]
    refine callsP Try.cal60 (fun _ => (l00Max_c _ _ _)) ?_
    simp -dsimp -implicitDefEqProofs [hm0.symm, he, hk.symm, fun l => withO_of (get_old (l := l) t1)]
    refine need_intro (by omega) ?_
    obtain ⟨mF, hmF⟩ : ∃ mF, mF = (m1 ++ [(⟨List.replicate k.toNat (.int .i64 0), 2, 1, 1⟩ : AObj), ⟨List.replicate k.toNat (.int .i64 0), 2, 1, 1⟩]).set m.length ⟨[.int .i64 0, .int .i64 0, .slice (some ⟨m1.length, 0, none⟩) k.toNat k.toNat, .slice (some ⟨m1.length + 1, 0, none⟩) k.toNat k.toNat], 35, 4, 1⟩ := ⟨_, rfl⟩
    have tF : mF[m.length]? = some ⟨[.int .i64 0, .int .i64 0, .slice (some ⟨m1.length, 0, none⟩) k.toNat k.toNat, .slice (some ⟨m1.length + 1, 0, none⟩) k.toNat k.toNat], 35, 4, 1⟩ := by rw [hmF]; exact get_set (get_old t1) _
    have hpF : RestS [m.length] m1 mF := by rw [hmF]; exact (RestS.app _ _ _).trans (RestS.set _ (by simp) _)
    have e1 : mF[m1.length]? = some ⟨(List.replicate k.toNat (0 : Int)).map (Value.int .i64), 2, 1, 1⟩ := by
      rw [hmF, List.getElem?_set_ne (by omega)]; simp
    have e2 : mF[m1.length + 1]? = some ⟨(List.replicate k.toNat (0 : Int)).map (Value.int .i64), 2, 1, 1⟩ := by
      rw [hmF, List.getElem?_set_ne (by omega)]; simp
    have z1 := RdI.of_get e1 (by simp) rfl rfl
    have z2 := RdI.of_get e2 (by simp) rfl rfl
    have hYF : RdI mF (some ⟨iy, 0, none⟩) ys := hpF.rdSkip t1 rfl hY
    have hbF : m <+: mF := hpF.base (hp0.trans hp1) (by simp)
    refine need_intro (by rintro (_ | _ | _ | _ | i) h <;> first | rfl | omega) ?_
    simp only [hmF.symm]
    simp -dsimp -implicitDefEqProofs [withO_of tF]
    subst hmF
    exact ⟨_, _, GC.refl _ _ _, n, (0, 0, List.replicate k.toNat 0, List.replicate k.toNat 0), some ⟨m1.length, 0, none⟩, some ⟨m1.length + 1, 0, none⟩, ys, some ⟨iy, 0, none⟩, by simp [mkRow4], by simp; omega, by simp; omega, by omega, hbF, z1, z2, hYF⟩
  · have hl0 : 0 < xs.length := by omega
    obtain ⟨mo, ad, bd, hmo, hmk2, hms, hl4, hrow, c0, c1, c2, c3, q1, q2⟩ := row0 hX hl0
    have he' : ((xs.length : Int) == 0) = false := beq_eq_false_iff_ne.2 (by omega)
    have hrow' : mo.cells.take 4 = mkRow4 xs[0] ad bd := by simpa using hrow
    obtain ⟨mF, hmF⟩ : ∃ mF, mF = m1.set m.length ⟨mkRow4 xs[0] ad bd, 35, 4, 1⟩ := ⟨_, rfl⟩
    have tF : mF[m.length]? = some ⟨mkRow4 xs[0] ad bd, 35, 4, 1⟩ := by rw [hmF]; exact get_set t1 _
    have hmF' := hmF.symm
    simp only [mkRow4] at tF hmF' hrow'
    simp -dsimp -implicitDefEqProofs [hm0.symm, he', hl0, withO_of hmo, hmk2, hms, withO_of t1, hl4, hrow', hmF', withO_of tF]
    refine need_intro (.inr (by kernel_rfl)) ?_
    have hpF : RestS [m.length] m1 mF := by rw [hmF]; exact RestS.set _ (by simp) _
    have hxa := hxl _ (List.getElem_mem hl0)
    exact ⟨_, _, GC.refl _ _ _, n, xs[0], ad, bd, ys, some ⟨iy, 0, none⟩, by simp [mkRow4], by omega, by omega, by omega, hpF.base (hp0.trans hp1) (by simp), hpF.rdSkip t1 rfl q1, hpF.rdSkip t1 rfl q2, hpF.rdSkip t1 rfl hY⟩
theorem drawSale_c (a : Option Addr) (code : List Int) (m : Mem) (h : RdB m a code) (hl : code.length ≤ 1048576) :
    ∃ v m', ACalls Try.prog 47 [.slice a code.length code.length] m v m' ∧ DSale m v m' := by
  obtain ⟨m0, hm0⟩ : ∃ m0 : Mem, m0 = m ++ [⟨[.int .i64 0, .int .i64 0, .slice none 0 0, .slice none 0 0], 35, 4, 1⟩] := ⟨_, rfl⟩
  have hp0 : m <+: m0 := by rw [hm0]; exact ⟨_, rfl⟩
  have h0 : RdB m0 a code := by rw [hm0]; exact ⟨RdG.ext h.1 _, h.2⟩
  have t0 : m0[m.length]? = some ⟨[.int .i64 0, .int .i64 0, .slice none 0 0, .slice none 0 0], 35, 4, 1⟩ := by rw [hm0]; simp
  obtain ⟨v1, m1, hc1, n, x, ad, bd, ys, b, rfl, hx1, hx2, hy, hp1, q1, q2, hY⟩ := l21Single_c a code m0 h0 hl
  have t1 := prefix_get hp1 t0
  obtain ⟨mF, hmF⟩ : ∃ mF, mF = m1.set m.length ⟨mkRow4 x ad bd, 35, 4, 1⟩ := ⟨_, rfl⟩
  have tF : mF[m.length]? = some ⟨mkRow4 x ad bd, 35, 4, 1⟩ := by rw [hmF]; exact get_set t1 _
  have hmF' := hmF.symm
  simp only [mkRow4] at tF hmF' hc1
  have hpF : RestS [m.length] m1 mF := by rw [hmF]; exact RestS.set _ (by simp) _
  refine ecalls_of_vc Try.func47 rfl Try.fol (by kernel_rfl) ?_
  simp only [Try.f47]
  simp -dsimp -implicitDefEqProofs [hm0.symm, withO_of t1, hmF', withO_of tF]
  refine callsTo Try.cal74 hc1 ?_
  simp -dsimp -implicitDefEqProofs [hm0.symm, withO_of t1, hmF', withO_of tF]
  exact ⟨_, _, GC.refl _ _ _, n, x, ad, bd, ys, b, by simp [mkRow4], by omega, by omega, by omega, hpF.base (hp0.trans hp1) (by simp), hpF.rdSkip t1 rfl q1, hpF.rdSkip t1 rfl q2, hpF.rdSkip t1 rfl hY⟩
end Go.Proofs.Ytciekhcdkfhcoaa
