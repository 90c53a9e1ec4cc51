/-
  'FnExactIncomeAt': for all arguments the program's IncomeAt returns what the reference's returns, leaves its arguments as they are and returns memory of its own. Conditions: none.
-/
import Derived.Test.YtciekhcdkfhcoaaMkH
set_option linter.unusedSimpArgs false
set_option linter.unusedVariables false
set_option linter.unusedSectionVars false
namespace Go.Proofs.Ytciekhcdkfhcoaa
open Go.Abs Go.RowKit

set_option maxHeartbeats 1600000 in
theorem lawIncomeAt_c (n : Int) (x : Mk) (ad bd : Option Addr) (ys : List Int) (b : Option Addr) (m : Mem) (q1 : RdI m ad x.2.2.1) (q2 : RdI m bd x.2.2.2) (hl1 : x.2.2.1.length ≤ maxLen) (hl2 : x.2.2.2.length ≤ maxLen) (hs : RdI m b ys) (hms : ys.length ≤ maxLen) : ACalls Try.prog 4 [.int .i64 n, .agg (mkRow4 x ad bd).toArray, .slice b ys.length ys.length] m (.bool true) m := by
  obtain ⟨m0, hm0⟩ : ∃ m0, m0 = m ++ [(⟨mkRow4 x ad bd, 31, 4, 1⟩ : AObj)] := ⟨_, rfl⟩
  have p0 : m <+: m0 := by rw [hm0]; exact ⟨_, rfl⟩
  have hbx : ∀ mm, m0 <+: mm → mm[m.length]? = some ⟨mkRow4 x ad bd, 31, 4, 1⟩ := fun mm hp => prefix_get hp (by rw [hm0]; simp)
  simp only [mkRow4] at hm0 hbx
  refine acalls_of_vc Try.func4 rfl Try.fol (by kernel_rfl) ?_
  simp only [Try.f4, mkRow4]
  simp -dsimp -implicitDefEqProofs
  rw [← hm0]
  refine ⟨fun _ => GC.dropP p0 rfl rfl, fun hbs => ?_⟩
  have hs' : ys.length ≤ 1048576 := by simp at hbs; omega
  refine callsTo Try.cal18 (szMarket_c x ad bd _ _ hl1 hl2 (by decide)) ?_
  simp -dsimp -implicitDefEqProofs [withO_of (hbx _ (pre_refl _))]
  refine ⟨fun _ => GC.dropP p0 rfl rfl, fun hb => ?_⟩
  obtain ⟨hb1, he⟩ := leftI_ok hb
  rw [he]
  have hn1 : x.2.2.1.length ≤ 1048576 := by omega
  have hn2 : x.2.2.2.length ≤ 1048576 := by omega
  obtain ⟨_, m1, c1, i1, j1, rfl, p1, gi1, gj1, r1, t1⟩ := toMarket_e x ad bd m0 (q1.pre' p0) (q2.pre' p0) hn1 hn2
  refine callsTo Try.cal20 c1 ?_
  simp -dsimp -implicitDefEqProofs [withO_of (hbx _ (pre_refl _))]
  obtain ⟨_, m2, c2, rfl, p2, o2⟩ := toInt64S_e ys b m1 (hs.pre' (p0.trans p1)) hs'
  refine callsTo Try.cal21 c2 ?_
  simp -dsimp -implicitDefEqProofs [withO_of (hbx _ (pre_refl _))]
  refine callsTo Try.cal19 (specInc_c n x ys _ _ _ _ (RdI.of_get (prefix_get p2 r1) (by simp) rfl rfl) (RdI.of_get (prefix_get p2 t1) (by simp) rfl rfl) (RdI.of_get (xs := ys) o2 (by simp) rfl rfl) hn1 hn2 hs') ?_
  simp -dsimp -implicitDefEqProofs [withO_of (hbx _ (pre_refl _)), incV, mkRow4]
  have p02 := p1.trans p2
  simp -dsimp -implicitDefEqProofs [withO_of (hbx _ (pre_refl _)), incV, mkRow4, withO_of (hbx _ p02), fun l => withO_of (hbx _ (pre_app p02 l))]
  obtain ⟨_, m3, c3, i3, j3, rfl, p3, gi3, gj3, r3, t3⟩ := toMarket_e x ad bd m2 (q1.pre' (p0.trans p02)) (q2.pre' (p0.trans p02)) hn1 hn2
  simp only [mkRow4] at c3
  refine callsTo Try.cal20 c3 ?_
  simp -dsimp -implicitDefEqProofs [withO_of (hbx _ (pre_refl _)), incV, mkRow4, withO_of (hbx _ p02), fun l => withO_of (hbx _ (pre_app p02 l))]
  obtain ⟨m4, hm4⟩ : ∃ m4, m4 = m3 ++ [(⟨mkRow4 x (some ⟨i3, 0, none⟩) (some ⟨j3, 0, none⟩), 35, 4, 1⟩ : AObj)] := ⟨_, rfl⟩
  have p4 : m3 <+: m4 := by rw [hm4]; exact ⟨_, rfl⟩
  have b4 : ∀ mm, m4 <+: mm → mm[m3.length]? = some ⟨mkRow4 x (some ⟨i3, 0, none⟩) (some ⟨j3, 0, none⟩), 35, 4, 1⟩ := fun mm hp => prefix_get hp (by rw [hm4]; simp)
  simp only [mkRow4] at hm4 b4
  rw [← hm4]
  have p04 := p02.trans (p3.trans p4)
  obtain ⟨_, m5, c5, rfl, p5, o5⟩ := toInt64S_e ys b m4 (hs.pre' (p0.trans p04)) hs'
  refine callsTo Try.cal21 c5 ?_
  simp -dsimp -implicitDefEqProofs [withO_of (hbx _ (pre_refl _)), incV, mkRow4, withO_of (hbx _ p02), fun l => withO_of (hbx _ (pre_app p02 l))]
  have p45 := p4.trans p5
  simp -dsimp -implicitDefEqProofs [withO_of (hbx _ (pre_refl _)), incV, mkRow4, withO_of (hbx _ p02), fun l => withO_of (hbx _ (pre_app p02 l)), withO_of (b4 _ p5), withO_of (hbx _ (p04.trans p5))]
  have hI := implInc_c n x ys _ _ _ _ (RdI.of_get (prefix_get p45 r3) (by simp) rfl rfl) (RdI.of_get (prefix_get p45 t3) (by simp) rfl rfl) (RdI.of_get (xs := ys) o5 (by simp) rfl rfl) hn1 hn2 hs'
  simp only [mkRow4] at hI
  refine callsTo Try.cal22 hI ?_
  simp -dsimp -implicitDefEqProofs [withO_of (hbx _ (pre_refl _)), incV, mkRow4, withO_of (hbx _ p02), fun l => withO_of (hbx _ (pre_app p02 l)), withO_of (b4 _ p5), withO_of (hbx _ (p04.trans p5))]
  obtain ⟨_, m6, c6, i6, j6, rfl, p6, gi6, gj6, r6, t6⟩ := toMarket_e x ad bd m5 (q1.pre' (p0.trans (p04.trans p5))) (q2.pre' (p0.trans (p04.trans p5))) hn1 hn2
  simp only [mkRow4] at c6
  refine callsTo Try.cal20 c6 ?_
  simp -dsimp -implicitDefEqProofs [withO_of (hbx _ (pre_refl _)), incV, mkRow4, withO_of (hbx _ p02), fun l => withO_of (hbx _ (pre_app p02 l)), withO_of (b4 _ p5), withO_of (hbx _ (p04.trans p5))]
  refine need_intro (.inl p6) ?_
  have hE := eqMarket_c x x (some ⟨i3, 0, none⟩) (some ⟨j3, 0, none⟩) (some ⟨i6, 0, none⟩) (some ⟨j6, 0, none⟩) m6 (RdI.of_get (prefix_get (p45.trans p6) r3) (by simp) rfl rfl) (RdI.of_get (prefix_get (p45.trans p6) t3) (by simp) rfl rfl) (RdI.of_get r6 (by simp) rfl rfl) (RdI.of_get t6 (by simp) rfl rfl) hn1 hn2
  simp only [mkRow4] at hE
  refine callsTo Try.cal23 hE ?_
  simp -dsimp -implicitDefEqProofs [withO_of (hbx _ (pre_refl _)), incV, mkRow4, withO_of (hbx _ p02), fun l => withO_of (hbx _ (pre_app p02 l)), withO_of (b4 _ p5), withO_of (hbx _ (p04.trans p5))]
  obtain ⟨_, m7, c7, rfl, p7, o7⟩ := toInt64S_e ys b m6 (hs.pre' (p0.trans (p04.trans (p5.trans p6)))) hs'
  refine callsTo Try.cal21 c7 ?_
  simp -dsimp -implicitDefEqProofs [withO_of (hbx _ (pre_refl _)), incV, mkRow4, withO_of (hbx _ p02), fun l => withO_of (hbx _ (pre_app p02 l)), withO_of (b4 _ p5), withO_of (hbx _ (p04.trans p5))]
  refine callsTo Try.cal24 (eqInt64S_c ys ys _ _ _ (RdI.of_get (xs := ys) (prefix_get (p6.trans p7) o5) (by simp) rfl rfl) (RdI.of_get (xs := ys) o7 (by simp) rfl rfl) hs') ?_
  simp -dsimp -implicitDefEqProofs [withO_of (hbx _ (pre_refl _)), incV, mkRow4, withO_of (hbx _ p02), fun l => withO_of (hbx _ (pre_app p02 l)), withO_of (b4 _ p5), withO_of (hbx _ (p04.trans p5))]
  exact GC.dropP (p0.trans (p04.trans (p5.trans (p6.trans p7)))) rfl rfl

set_option maxRecDepth 100000 in
theorem fnExactIncomeAtLifted (os : Os) (started : os.Started) (H : Type) (enc : TypeId × Value → H) :
    ReturnsInHanded {} Try.checked os 4 .any (Rows.fnExactIncomeAtSpec.pre6 enc Try.prog Try.f4 Rows.fnExactIncomeAtRow.domain false) (Rows.fnExactIncomeAtSpec.post enc Try.prog Try.f4 false true false false) :=
  lawLifted (C := Try.checked) [.one I64, .agg [I64, I64, .sl [I64], .sl [I64]], .one (.sl [I64])] 3 4 (by kernel_rfl) started (by kernel_rfl) Try.func4
    (ChangeSpec.witness6 (enc := enc) (C := Try.checked) false ⟨#[], #[.int .i64 0,.agg #[.int .i64 0,.int .i64 0,.slice none 0 0,.slice none 0 0],.slice none 0 0], []⟩ 8 (by kernel_rfl) (by kernel_rfl) (by kernel_rfl) (by kernel_rfl))
    (by kernel_rfl) (by kernel_rfl) (by kernel_rfl) rfl (by kernel_rfl) rfl (fun ds h => match ds, h with | [_, _, _], _ => rfl) fun m vs h => by
      obtain ⟨u0, u1, u2, rfl, hv0, hv1, hv2⟩ := h.three
      obtain ⟨n, rfl, _⟩ := CV.int hv0
      obtain ⟨x, ad, bd, rfl, q1, q2, hl1, hl2⟩ := AV.mkt hv1
      obtain ⟨b, ys, rfl, hms, hs, _⟩ := CV.sl1 hv2
      exact ⟨_, lawIncomeAt_c n x ad bd ys b m q1 q2 hl1 hl2 hs hms⟩

theorem fnExactIncomeAtHolds : Rows.FnExactIncomeAtSaid :=
  OpenClaim.holds_of_wide 4 Try.f4 rfl rfl rfl rfl rfl rfl rfl ⟨rfl, rfl, rfl, rfl, rfl⟩ rfl rfl rfl rfl rfl (by kernel_rfl) Try.func4 (by kernel_rfl)
    (of_decide_eq_true (by kernel_rfl)) (by unfold Func.isWrapper; first | (rw [if_pos (by decide +kernel)]; kernel_rfl) | (rw [if_neg (by decide +kernel)]; exact ⟨rfl, rfl⟩))
    (fun os started H enc _ => fnExactIncomeAtLifted os started H enc)
end Go.Proofs.Ytciekhcdkfhcoaa
