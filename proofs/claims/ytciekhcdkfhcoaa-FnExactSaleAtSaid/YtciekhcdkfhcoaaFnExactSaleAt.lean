/-
  'FnExactSaleAt': for all arguments the program's SaleAt returns what the reference's returns, leaves its arguments as they are and returns memory of its own. Conditions: none.
-/
import Derived.Test.YtciekhcdkfhcoaaMkH
set_option linter.unusedSimpArgs false
set_option linter.unusedVariables false
set_option linter.unusedSectionVars false
namespace Go.Proofs.Ytciekhcdkfhcoaa
open Go.Abs Go.RowKit

set_option maxHeartbeats 1600000 in
theorem lawSaleAt_c (n : Int) (x : Mk) (ad bd : Option Addr) (ys : List Int) (b : Option Addr) (m : Mem) (q1 : RdI m ad x.2.2.1) (q2 : RdI m bd x.2.2.2) (hl1 : x.2.2.1.length ≤ maxLen) (hl2 : x.2.2.2.length ≤ maxLen) (hs : RdI m b ys) (hms : ys.length ≤ maxLen) : ACalls Try.prog 5 [.int .i64 n, .agg (mkRow4 x ad bd).toArray, .slice b ys.length ys.length] m (.bool true) m := by
  obtain ⟨m0, hm0⟩ : ∃ m0, m0 = m ++ [(⟨mkRow4 x ad bd, 31, 4, 1⟩ : AObj)] := ⟨_, rfl⟩
  have p0 : m <+: m0 := by rw [hm0]; exact ⟨_, rfl⟩
  have hbx : ∀ mm, m0 <+: mm → mm[m.length]? = some ⟨mkRow4 x ad bd, 31, 4, 1⟩ := fun mm hp => prefix_get hp (by rw [hm0]; simp)
  simp only [mkRow4] at hm0 hbx
  refine acalls_of_vc Try.func5 rfl Try.fol (by kernel_rfl) ?_
  simp only [Try.f5, mkRow4]
  simp -dsimp -implicitDefEqProofs
  rw [← hm0]
  refine ⟨fun _ => GC.dropP p0 rfl rfl, fun hbs => ?_⟩
  have hs' : ys.length ≤ 1048576 := by simp at hbs; omega
  refine callsTo Try.cal18 (szMarket_c x ad bd _ _ hl1 hl2 (by decide)) ?_
  simp -dsimp -implicitDefEqProofs [withO_of (hbx _ (pre_refl _))]
  refine ⟨fun _ => GC.dropP p0 rfl rfl, fun hb => ?_⟩
  obtain ⟨hb1, he⟩ := leftI_ok hb
  rw [he]
  have hn1 : x.2.2.1.length ≤ 1048576 := by omega
  have hn2 : x.2.2.2.length ≤ 1048576 := by omega
  have hk : ¬ ((1 : Int) + (x.2.2.1.length : Int) + (x.2.2.2.length : Int) + (ys.length : Int) < 0) := by omega
  obtain ⟨_, m1, c1, i1, j1, rfl, p1, gi1, gj1, r1, t1⟩ := toMarket_e x ad bd m0 (q1.pre' p0) (q2.pre' p0) hn1 hn2
  refine callsTo Try.cal20 c1 ?_
  simp -dsimp -implicitDefEqProofs [withO_of (hbx _ (pre_refl _))]
  obtain ⟨_, m2, c2, rfl, p2, o2⟩ := toInt64S_e ys b m1 (hs.pre' (p0.trans p1)) hs'
  refine callsTo Try.cal21 c2 ?_
  simp -dsimp -implicitDefEqProofs [withO_of (hbx _ (pre_refl _))]
  have p02 := p1.trans p2
  have hS := specSale_c n x ys _ _ _ _ (RdI.of_get (prefix_get p2 r1) (by simp) rfl rfl) (RdI.of_get (prefix_get p2 t1) (by simp) rfl rfl) (RdI.of_get (xs := ys) o2 (by simp) rfl rfl) hn1 hn2 hs'
  cases hO : saleO n x ys with
  | none =>
    rw [hO] at hS
    simp only [optV, optM, mkRow4, List.append_nil] at hS
    refine callsTo Try.cal25 hS ?_
    simp -dsimp -implicitDefEqProofs [withO_of (hbx _ (pre_refl _)), hk, mkRow4, hO, optV, optM]
    obtain ⟨m3, hm3⟩ : ∃ m3, m3 = m2 := ⟨_, rfl⟩
    have p3 : m2 <+: m3 := by rw [hm3]; exact pre_refl _
    rw [← hm3]
    have p03 := p02.trans p3
    simp -dsimp -implicitDefEqProofs [withO_of (hbx _ (pre_refl _)), hk, mkRow4, hO, optV, optM, fun l => withO_of (hbx _ (pre_app p03 l)), withO_of (hbx _ p03)]
    obtain ⟨_, m4, c4, i4, j4, rfl, p4, gi4, gj4, r4, t4⟩ := toMarket_e x ad bd m3 (q1.pre' (p0.trans p03)) (q2.pre' (p0.trans p03)) hn1 hn2
    simp only [mkRow4] at c4
    refine callsTo Try.cal20 c4 ?_
    simp -dsimp -implicitDefEqProofs [withO_of (hbx _ (pre_refl _)), hk, mkRow4, hO, optV, optM, fun l => withO_of (hbx _ (pre_app p03 l)), withO_of (hbx _ p03)]
    obtain ⟨m5, hm5⟩ : ∃ m5, m5 = m4 ++ [(⟨mkRow4 x (some ⟨i4, 0, none⟩) (some ⟨j4, 0, none⟩), 35, 4, 1⟩ : AObj)] := ⟨_, rfl⟩
    have p5 : m4 <+: m5 := by rw [hm5]; exact ⟨_, rfl⟩
    have b5 : ∀ mm, m5 <+: mm → mm[m4.length]? = some ⟨mkRow4 x (some ⟨i4, 0, none⟩) (some ⟨j4, 0, none⟩), 35, 4, 1⟩ := fun mm hp => prefix_get hp (by rw [hm5]; simp)
    have l5 : m4.length < m5.length := by rw [hm5]; simp
    simp only [mkRow4] at hm5 b5
    rw [← hm5]
    have p35 := p4.trans p5
    have p05 := p03.trans p35
    obtain ⟨_, m6, c6, rfl, p6, o6⟩ := toInt64S_e ys b m5 (hs.pre' (p0.trans p05)) hs'
    refine callsTo Try.cal21 c6 ?_
    simp -dsimp -implicitDefEqProofs [withO_of (hbx _ (pre_refl _)), hk, mkRow4, hO, optV, optM, fun l => withO_of (hbx _ (pre_app p03 l)), withO_of (hbx _ p03)]
    have p46 := p5.trans p6
    have l6 := lt_of_get o6
    simp -dsimp -implicitDefEqProofs [withO_of (hbx _ (pre_refl _)), hk, mkRow4, hO, optV, optM, fun l => withO_of (hbx _ (pre_app p03 l)), withO_of (hbx _ p03), withO_of (b5 _ p6), withO_of (hbx _ (p05.trans p6)), fun l => withO_of (b5 _ (pre_app p6 l)), fun l => withO_of (hbx _ (pre_app (p05.trans p6) l))]
    have hI := implSale_c n x ys _ _ _ _ (RdI.of_get (prefix_get p46 r4) (by simp) rfl rfl) (RdI.of_get (prefix_get p46 t4) (by simp) rfl rfl) (RdI.of_get (xs := ys) o6 (by simp) rfl rfl) hn1 hn2 hs'
    rw [hO] at hI
    simp only [optV, optM, mkRow4, List.append_nil] at hI
    refine callsTo Try.cal26 hI ?_
    simp -dsimp -implicitDefEqProofs [withO_of (hbx _ (pre_refl _)), hk, mkRow4, hO, optV, optM, fun l => withO_of (hbx _ (pre_app p03 l)), withO_of (hbx _ p03), withO_of (b5 _ p6), withO_of (hbx _ (p05.trans p6)), fun l => withO_of (b5 _ (pre_app p6 l)), fun l => withO_of (hbx _ (pre_app (p05.trans p6) l))]
    obtain ⟨m7, hm7⟩ : ∃ m7, m7 = m6 := ⟨_, rfl⟩
    have p7 : m6 <+: m7 := by rw [hm7]; exact pre_refl _
    rw [← hm7]
    have p07 := p05.trans (p6.trans p7)
    have p47 := p46.trans p7
    refine callsTo Try.cal24 (eqInt64S_c [] [] _ _ _ (RdI.nil _ _) (RdI.nil _ _) (by simp)) ?_
    simp -dsimp -implicitDefEqProofs [withO_of (hbx _ (pre_refl _)), hk, mkRow4, hO, optV, optM, fun l => withO_of (hbx _ (pre_app p03 l)), withO_of (hbx _ p03), withO_of (b5 _ p6), withO_of (hbx _ (p05.trans p6)), fun l => withO_of (b5 _ (pre_app p6 l)), fun l => withO_of (hbx _ (pre_app (p05.trans p6) l)), withO_of (b5 _ (p6.trans p7)), withO_of (hbx _ p07)]
    obtain ⟨_, m8, c8, i8, j8, rfl, p8, gi8, gj8, r8, t8⟩ := toMarket_e x ad bd m7 (q1.pre' (p0.trans p07)) (q2.pre' (p0.trans p07)) hn1 hn2
    simp only [mkRow4] at c8
    refine callsTo Try.cal20 c8 ?_
    simp -dsimp -implicitDefEqProofs [withO_of (hbx _ (pre_refl _)), hk, mkRow4, hO, optV, optM, fun l => withO_of (hbx _ (pre_app p03 l)), withO_of (hbx _ p03), withO_of (b5 _ p6), withO_of (hbx _ (p05.trans p6)), fun l => withO_of (b5 _ (pre_app p6 l)), fun l => withO_of (hbx _ (pre_app (p05.trans p6) l)), withO_of (b5 _ (p6.trans p7)), withO_of (hbx _ p07)]
    refine need_intro (.inl p8) ?_
    have hE := eqMarket_c x x (some ⟨i4, 0, none⟩) (some ⟨j4, 0, none⟩) (some ⟨i8, 0, none⟩) (some ⟨j8, 0, none⟩) m8 (RdI.of_get (prefix_get (p47.trans p8) r4) (by simp) rfl rfl) (RdI.of_get (prefix_get (p47.trans p8) t4) (by simp) rfl rfl) (RdI.of_get r8 (by simp) rfl rfl) (RdI.of_get t8 (by simp) rfl rfl) hn1 hn2
    simp only [mkRow4] at hE
    refine callsTo Try.cal23 hE ?_
    simp -dsimp -implicitDefEqProofs [withO_of (hbx _ (pre_refl _)), hk, mkRow4, hO, optV, optM, fun l => withO_of (hbx _ (pre_app p03 l)), withO_of (hbx _ p03), withO_of (b5 _ p6), withO_of (hbx _ (p05.trans p6)), fun l => withO_of (b5 _ (pre_app p6 l)), fun l => withO_of (hbx _ (pre_app (p05.trans p6) l)), withO_of (b5 _ (p6.trans p7)), withO_of (hbx _ p07)]
    obtain ⟨_, m9, c9, rfl, p9, o9⟩ := toInt64S_e ys b m8 (hs.pre' (p0.trans (p07.trans p8))) hs'
    refine callsTo Try.cal21 c9 ?_
    simp -dsimp -implicitDefEqProofs [withO_of (hbx _ (pre_refl _)), hk, mkRow4, hO, optV, optM, fun l => withO_of (hbx _ (pre_app p03 l)), withO_of (hbx _ p03), withO_of (b5 _ p6), withO_of (hbx _ (p05.trans p6)), fun l => withO_of (b5 _ (pre_app p6 l)), fun l => withO_of (hbx _ (pre_app (p05.trans p6) l)), withO_of (b5 _ (p6.trans p7)), withO_of (hbx _ p07)]
    have p79 := p8.trans p9
    have p69 := p7.trans p79
    refine callsTo Try.cal24 (eqInt64S_c ys ys _ _ _ (RdI.of_get (xs := ys) (prefix_get p69 o6) (by simp) rfl rfl) (RdI.of_get (xs := ys) o9 (by simp) rfl rfl) hs') ?_
    simp -dsimp -implicitDefEqProofs [withO_of (hbx _ (pre_refl _)), hk, mkRow4, hO, optV, optM, fun l => withO_of (hbx _ (pre_app p03 l)), withO_of (hbx _ p03), withO_of (b5 _ p6), withO_of (hbx _ (p05.trans p6)), fun l => withO_of (b5 _ (pre_app p6 l)), fun l => withO_of (hbx _ (pre_app (p05.trans p6) l)), withO_of (b5 _ (p6.trans p7)), withO_of (hbx _ p07)]
    obtain ⟨_, m10, c10, rfl, f10⟩ := markMarket_c x i4 j4 1 m9 (prefix_get (p47.trans p79) r4) (prefix_get (p47.trans p79) t4) gj4 hn1 hn2 (by decide)
    simp only [mkRow4] at c10
    simp -dsimp -implicitDefEqProofs [withO_of (hbx _ (pre_refl _)), hk, mkRow4, hO, optV, optM, fun l => withO_of (hbx _ (pre_app p03 l)), withO_of (hbx _ p03), withO_of (b5 _ p6), withO_of (hbx _ (p05.trans p6)), fun l => withO_of (b5 _ (pre_app p6 l)), fun l => withO_of (hbx _ (pre_app (p05.trans p6) l)), withO_of (b5 _ (p6.trans p7)), withO_of (hbx _ p07), withO_of (b5 _ (p6.trans p69))]
    refine callsTo Try.cal27 c10 ?_
    simp -dsimp -implicitDefEqProofs [withO_of (hbx _ (pre_refl _)), hk, mkRow4, hO, optV, optM, fun l => withO_of (hbx _ (pre_app p03 l)), withO_of (hbx _ p03), withO_of (b5 _ p6), withO_of (hbx _ (p05.trans p6)), fun l => withO_of (b5 _ (pre_app p6 l)), fun l => withO_of (hbx _ (pre_app (p05.trans p6) l)), withO_of (b5 _ (p6.trans p7)), withO_of (hbx _ p07), withO_of (b5 _ (p6.trans p69))]
    have li4 := lt_of_get r4
    have lj4 := lt_of_get t4
    have l3 := p4.length_le
    have y10 : m10[m5.length]? = some ⟨ys.map (Value.int .i64), 2, 1, 1⟩ := f10 _ _ (by omega) (by omega) (prefix_get p69 o6)
    have pm10 : m0 <+: m10 := pre_of_get' fun i o hi => f10 i o (by have := lt_of_get hi; have := p03.length_le; omega) (by have := lt_of_get hi; have := p03.length_le; omega) (prefix_get (p07.trans p79) hi)
    obtain ⟨m11, hm11⟩ : ∃ m11, m11 = m10.set m5.length ⟨mkCells 1 ((1 : Int) + (x.2.2.1.length : Int) + (x.2.2.2.length : Int)) ys.length, 2, 1, 1⟩ := ⟨_, rfl⟩
    have cm11 := markInt64S_c ys ((1 : Int) + (x.2.2.1.length : Int) + (x.2.2.2.length : Int)) _ _ _ y10 rfl rfl (by simp) hs' (by omega)
    simp only at cm11
    rw [← hm11] at cm11
    have l05 := p05.length_le
    have pm11 : m0 <+: m11 := by rw [hm11]; exact pre_set pm10 l05 _
    refine callsTo Try.cal28 cm11 ?_
    simp -dsimp -implicitDefEqProofs [withO_of (hbx _ (pre_refl _)), hk, mkRow4, hO, optV, optM, fun l => withO_of (hbx _ (pre_app p03 l)), withO_of (hbx _ p03), withO_of (b5 _ p6), withO_of (hbx _ (p05.trans p6)), fun l => withO_of (b5 _ (pre_app p6 l)), fun l => withO_of (hbx _ (pre_app (p05.trans p6) l)), withO_of (b5 _ (p6.trans p7)), withO_of (hbx _ p07), withO_of (b5 _ (p6.trans p69))]
    refine callsTo Try.cal24 (eqInt64S_c [] [] _ _ _ (RdI.nil _ _) (RdI.nil _ _) (by simp)) ?_
    simp -dsimp -implicitDefEqProofs [withO_of (hbx _ (pre_refl _)), hk, mkRow4, hO, optV, optM, fun l => withO_of (hbx _ (pre_app p03 l)), withO_of (hbx _ p03), withO_of (b5 _ p6), withO_of (hbx _ (p05.trans p6)), fun l => withO_of (b5 _ (pre_app p6 l)), fun l => withO_of (hbx _ (pre_app (p05.trans p6) l)), withO_of (b5 _ (p6.trans p7)), withO_of (hbx _ p07), withO_of (b5 _ (p6.trans p69))]
    refine callsTo Try.cal28 (markInt64S_nil _ _ _) ?_
    simp -dsimp -implicitDefEqProofs [withO_of (hbx _ (pre_refl _)), hk, mkRow4, hO, optV, optM, fun l => withO_of (hbx _ (pre_app p03 l)), withO_of (hbx _ p03), withO_of (b5 _ p6), withO_of (hbx _ (p05.trans p6)), fun l => withO_of (b5 _ (pre_app p6 l)), fun l => withO_of (hbx _ (pre_app (p05.trans p6) l)), withO_of (b5 _ (p6.trans p7)), withO_of (hbx _ p07), withO_of (b5 _ (p6.trans p69))]
    obtain ⟨m12, hm12⟩ : ∃ m12, m12 = m11 := ⟨_, rfl⟩
    rw [← hm12]
    have pm12 : m0 <+: m12 := by rw [hm12]; exact pm11
    refine callsTo Try.cal29 (heldInt64S_c 0 1 _ _ (RdMk.nil 1 1 _ _) (by simp) (by decide)) ?_
    simp -dsimp -implicitDefEqProofs [withO_of (hbx _ (pre_refl _)), hk, mkRow4, hO, optV, optM, fun l => withO_of (hbx _ (pre_app p03 l)), withO_of (hbx _ p03), withO_of (b5 _ p6), withO_of (hbx _ (p05.trans p6)), fun l => withO_of (b5 _ (pre_app p6 l)), fun l => withO_of (hbx _ (pre_app (p05.trans p6) l)), withO_of (b5 _ (p6.trans p7)), withO_of (hbx _ p07), withO_of (b5 _ (p6.trans p69)), withO_of (hbx _ pm12)]
    obtain ⟨_, m13, c13, i13, j13, rfl, p13, gi13, gj13, r13, t13⟩ := toMarket_e x ad bd m12 (q1.pre' (p0.trans pm12)) (q2.pre' (p0.trans pm12)) hn1 hn2
    simp only [mkRow4] at c13
    refine callsTo Try.cal20 c13 ?_
    simp -dsimp -implicitDefEqProofs [withO_of (hbx _ (pre_refl _)), hk, mkRow4, hO, optV, optM, fun l => withO_of (hbx _ (pre_app p03 l)), withO_of (hbx _ p03), withO_of (b5 _ p6), withO_of (hbx _ (p05.trans p6)), fun l => withO_of (b5 _ (pre_app p6 l)), fun l => withO_of (hbx _ (pre_app (p05.trans p6) l)), withO_of (b5 _ (p6.trans p7)), withO_of (hbx _ p07), withO_of (b5 _ (p6.trans p69)), withO_of (hbx _ pm12)]
    obtain ⟨_, m14, c14, rfl, p14, o14⟩ := toInt64S_e ys b m13 (hs.pre' (p0.trans (pm12.trans p13))) hs'
    refine callsTo Try.cal21 c14 ?_
    simp -dsimp -implicitDefEqProofs [withO_of (hbx _ (pre_refl _)), hk, mkRow4, hO, optV, optM, fun l => withO_of (hbx _ (pre_app p03 l)), withO_of (hbx _ p03), withO_of (b5 _ p6), withO_of (hbx _ (p05.trans p6)), fun l => withO_of (b5 _ (pre_app p6 l)), fun l => withO_of (hbx _ (pre_app (p05.trans p6) l)), withO_of (b5 _ (p6.trans p7)), withO_of (hbx _ p07), withO_of (b5 _ (p6.trans p69)), withO_of (hbx _ pm12)]
    have hI2 := implSale_c n x ys _ _ _ _ (RdI.of_get (prefix_get p14 r13) (by simp) rfl rfl) (RdI.of_get (prefix_get p14 t13) (by simp) rfl rfl) (RdI.of_get (xs := ys) o14 (by simp) rfl rfl) hn1 hn2 hs'
    rw [hO] at hI2
    simp only [optV, optM, mkRow4, List.append_nil] at hI2
    refine callsTo Try.cal26 hI2 ?_
    simp -dsimp -implicitDefEqProofs [withO_of (hbx _ (pre_refl _)), hk, mkRow4, hO, optV, optM, fun l => withO_of (hbx _ (pre_app p03 l)), withO_of (hbx _ p03), withO_of (b5 _ p6), withO_of (hbx _ (p05.trans p6)), fun l => withO_of (b5 _ (pre_app p6 l)), fun l => withO_of (hbx _ (pre_app (p05.trans p6) l)), withO_of (b5 _ (p6.trans p7)), withO_of (hbx _ p07), withO_of (b5 _ (p6.trans p69)), withO_of (hbx _ pm12)]
    have p124 := p13.trans p14
    refine callsTo Try.cal24 (eqInt64S_c [] [] _ _ _ (RdI.nil _ _) (RdI.nil _ _) (by simp)) ?_
    simp -dsimp -implicitDefEqProofs [withO_of (hbx _ (pre_refl _)), hk, mkRow4, hO, optV, optM, fun l => withO_of (hbx _ (pre_app p03 l)), withO_of (hbx _ p03), withO_of (b5 _ p6), withO_of (hbx _ (p05.trans p6)), fun l => withO_of (b5 _ (pre_app p6 l)), fun l => withO_of (hbx _ (pre_app (p05.trans p6) l)), withO_of (b5 _ (p6.trans p7)), withO_of (hbx _ p07), withO_of (b5 _ (p6.trans p69)), withO_of (hbx _ pm12)]
    refine callsTo Try.cal29 (heldInt64S_c 0 1 _ _ (RdMk.nil 1 1 _ _) (by simp) (by decide)) ?_
    simp -dsimp -implicitDefEqProofs [withO_of (hbx _ (pre_refl _)), hk, mkRow4, hO, optV, optM, fun l => withO_of (hbx _ (pre_app p03 l)), withO_of (hbx _ p03), withO_of (b5 _ p6), withO_of (hbx _ (p05.trans p6)), fun l => withO_of (b5 _ (pre_app p6 l)), fun l => withO_of (hbx _ (pre_app (p05.trans p6) l)), withO_of (b5 _ (p6.trans p7)), withO_of (hbx _ p07), withO_of (b5 _ (p6.trans p69)), withO_of (hbx _ pm12)]
    exact GC.dropP (p0.trans (pm12.trans p124)) rfl rfl

  | some zs =>
    rw [hO] at hS
    simp only [optV, optM, mkRow4] at hS
    have hz : zs.length ≤ 1048576 := by rw [saleO_length hO]; exact hs'
    have hq : ¬ ((1 : Int) + (zs.length : Int) < 0) := by omega
    refine callsTo Try.cal25 hS ?_
    simp -dsimp -implicitDefEqProofs [withO_of (hbx _ (pre_refl _)), hk, mkRow4, hO, optV, optM, hq]
    obtain ⟨m3, hm3⟩ : ∃ m3, m3 = m2 ++ [(⟨zs.map (Value.int .i64), 2, 1, 2⟩ : AObj)] := ⟨_, rfl⟩
    have p3 : m2 <+: m3 := by rw [hm3]; exact ⟨_, rfl⟩
    have z3 : m3[m2.length]? = some ⟨zs.map (Value.int .i64), 2, 1, 2⟩ := by rw [hm3]; simp
    rw [← hm3]
    have p03 := p02.trans p3
    simp -dsimp -implicitDefEqProofs [withO_of (hbx _ (pre_refl _)), hk, mkRow4, hO, optV, optM, hq, fun l => withO_of (hbx _ (pre_app p03 l)), withO_of (hbx _ p03)]
    obtain ⟨_, m4, c4, i4, j4, rfl, p4, gi4, gj4, r4, t4⟩ := toMarket_e x ad bd m3 (q1.pre' (p0.trans p03)) (q2.pre' (p0.trans p03)) hn1 hn2
    simp only [mkRow4] at c4
    refine callsTo Try.cal20 c4 ?_
    simp -dsimp -implicitDefEqProofs [withO_of (hbx _ (pre_refl _)), hk, mkRow4, hO, optV, optM, hq, fun l => withO_of (hbx _ (pre_app p03 l)), withO_of (hbx _ p03)]
    obtain ⟨m5, hm5⟩ : ∃ m5, m5 = m4 ++ [(⟨mkRow4 x (some ⟨i4, 0, none⟩) (some ⟨j4, 0, none⟩), 35, 4, 1⟩ : AObj)] := ⟨_, rfl⟩
    have p5 : m4 <+: m5 := by rw [hm5]; exact ⟨_, rfl⟩
    have b5 : ∀ mm, m5 <+: mm → mm[m4.length]? = some ⟨mkRow4 x (some ⟨i4, 0, none⟩) (some ⟨j4, 0, none⟩), 35, 4, 1⟩ := fun mm hp => prefix_get hp (by rw [hm5]; simp)
    have l5 : m4.length < m5.length := by rw [hm5]; simp
    simp only [mkRow4] at hm5 b5
    rw [← hm5]
    have p35 := p4.trans p5
    have p05 := p03.trans p35
    obtain ⟨_, m6, c6, rfl, p6, o6⟩ := toInt64S_e ys b m5 (hs.pre' (p0.trans p05)) hs'
    refine callsTo Try.cal21 c6 ?_
    simp -dsimp -implicitDefEqProofs [withO_of (hbx _ (pre_refl _)), hk, mkRow4, hO, optV, optM, hq, fun l => withO_of (hbx _ (pre_app p03 l)), withO_of (hbx _ p03)]
    have p46 := p5.trans p6
    have l6 := lt_of_get o6
    simp -dsimp -implicitDefEqProofs [withO_of (hbx _ (pre_refl _)), hk, mkRow4, hO, optV, optM, hq, fun l => withO_of (hbx _ (pre_app p03 l)), withO_of (hbx _ p03), withO_of (b5 _ p6), withO_of (hbx _ (p05.trans p6)), fun l => withO_of (b5 _ (pre_app p6 l)), fun l => withO_of (hbx _ (pre_app (p05.trans p6) l))]
    have hI := implSale_c n x ys _ _ _ _ (RdI.of_get (prefix_get p46 r4) (by simp) rfl rfl) (RdI.of_get (prefix_get p46 t4) (by simp) rfl rfl) (RdI.of_get (xs := ys) o6 (by simp) rfl rfl) hn1 hn2 hs'
    rw [hO] at hI
    simp only [optV, optM, mkRow4] at hI
    refine callsTo Try.cal26 hI ?_
    simp -dsimp -implicitDefEqProofs [withO_of (hbx _ (pre_refl _)), hk, mkRow4, hO, optV, optM, hq, fun l => withO_of (hbx _ (pre_app p03 l)), withO_of (hbx _ p03), withO_of (b5 _ p6), withO_of (hbx _ (p05.trans p6)), fun l => withO_of (b5 _ (pre_app p6 l)), fun l => withO_of (hbx _ (pre_app (p05.trans p6) l))]
    obtain ⟨m7, hm7⟩ : ∃ m7, m7 = m6 ++ [(⟨zs.map (Value.int .i64), 2, 1, 2⟩ : AObj)] := ⟨_, rfl⟩
    have p7 : m6 <+: m7 := by rw [hm7]; exact ⟨_, rfl⟩
    have z7 : m7[m6.length]? = some ⟨zs.map (Value.int .i64), 2, 1, 2⟩ := by rw [hm7]; simp
    rw [← hm7]
    have p07 := p05.trans (p6.trans p7)
    have p47 := p46.trans p7
    have z73 := prefix_get (p35.trans (p6.trans p7)) z3
    refine callsTo Try.cal24 (eqInt64S_c zs zs _ _ _ (RdI.of_get (xs := zs) z7 (by simp) rfl rfl) (RdI.of_get (xs := zs) z73 (by simp) rfl rfl) hz) ?_
    simp -dsimp -implicitDefEqProofs [withO_of (hbx _ (pre_refl _)), hk, mkRow4, hO, optV, optM, hq, fun l => withO_of (hbx _ (pre_app p03 l)), withO_of (hbx _ p03), withO_of (b5 _ p6), withO_of (hbx _ (p05.trans p6)), fun l => withO_of (b5 _ (pre_app p6 l)), fun l => withO_of (hbx _ (pre_app (p05.trans p6) l)), withO_of (b5 _ (p6.trans p7)), withO_of (hbx _ p07)]
    obtain ⟨_, m8, c8, i8, j8, rfl, p8, gi8, gj8, r8, t8⟩ := toMarket_e x ad bd m7 (q1.pre' (p0.trans p07)) (q2.pre' (p0.trans p07)) hn1 hn2
    simp only [mkRow4] at c8
    refine callsTo Try.cal20 c8 ?_
    simp -dsimp -implicitDefEqProofs [withO_of (hbx _ (pre_refl _)), hk, mkRow4, hO, optV, optM, hq, fun l => withO_of (hbx _ (pre_app p03 l)), withO_of (hbx _ p03), withO_of (b5 _ p6), withO_of (hbx _ (p05.trans p6)), fun l => withO_of (b5 _ (pre_app p6 l)), fun l => withO_of (hbx _ (pre_app (p05.trans p6) l)), withO_of (b5 _ (p6.trans p7)), withO_of (hbx _ p07)]
    refine need_intro (.inl p8) ?_
    have hE := eqMarket_c x x (some ⟨i4, 0, none⟩) (some ⟨j4, 0, none⟩) (some ⟨i8, 0, none⟩) (some ⟨j8, 0, none⟩) m8 (RdI.of_get (prefix_get (p47.trans p8) r4) (by simp) rfl rfl) (RdI.of_get (prefix_get (p47.trans p8) t4) (by simp) rfl rfl) (RdI.of_get r8 (by simp) rfl rfl) (RdI.of_get t8 (by simp) rfl rfl) hn1 hn2
    simp only [mkRow4] at hE
    refine callsTo Try.cal23 hE ?_
    simp -dsimp -implicitDefEqProofs [withO_of (hbx _ (pre_refl _)), hk, mkRow4, hO, optV, optM, hq, fun l => withO_of (hbx _ (pre_app p03 l)), withO_of (hbx _ p03), withO_of (b5 _ p6), withO_of (hbx _ (p05.trans p6)), fun l => withO_of (b5 _ (pre_app p6 l)), fun l => withO_of (hbx _ (pre_app (p05.trans p6) l)), withO_of (b5 _ (p6.trans p7)), withO_of (hbx _ p07)]
    obtain ⟨_, m9, c9, rfl, p9, o9⟩ := toInt64S_e ys b m8 (hs.pre' (p0.trans (p07.trans p8))) hs'
    refine callsTo Try.cal21 c9 ?_
    simp -dsimp -implicitDefEqProofs [withO_of (hbx _ (pre_refl _)), hk, mkRow4, hO, optV, optM, hq, fun l => withO_of (hbx _ (pre_app p03 l)), withO_of (hbx _ p03), withO_of (b5 _ p6), withO_of (hbx _ (p05.trans p6)), fun l => withO_of (b5 _ (pre_app p6 l)), fun l => withO_of (hbx _ (pre_app (p05.trans p6) l)), withO_of (b5 _ (p6.trans p7)), withO_of (hbx _ p07)]
    have p79 := p8.trans p9
    have p69 := p7.trans p79
    refine callsTo Try.cal24 (eqInt64S_c ys ys _ _ _ (RdI.of_get (xs := ys) (prefix_get p69 o6) (by simp) rfl rfl) (RdI.of_get (xs := ys) o9 (by simp) rfl rfl) hs') ?_
    simp -dsimp -implicitDefEqProofs [withO_of (hbx _ (pre_refl _)), hk, mkRow4, hO, optV, optM, hq, fun l => withO_of (hbx _ (pre_app p03 l)), withO_of (hbx _ p03), withO_of (b5 _ p6), withO_of (hbx _ (p05.trans p6)), fun l => withO_of (b5 _ (pre_app p6 l)), fun l => withO_of (hbx _ (pre_app (p05.trans p6) l)), withO_of (b5 _ (p6.trans p7)), withO_of (hbx _ p07)]
    obtain ⟨_, m10, c10, rfl, f10⟩ := markMarket_c x i4 j4 1 m9 (prefix_get (p47.trans p79) r4) (prefix_get (p47.trans p79) t4) gj4 hn1 hn2 (by decide)
    simp only [mkRow4] at c10
    simp -dsimp -implicitDefEqProofs [withO_of (hbx _ (pre_refl _)), hk, mkRow4, hO, optV, optM, hq, fun l => withO_of (hbx _ (pre_app p03 l)), withO_of (hbx _ p03), withO_of (b5 _ p6), withO_of (hbx _ (p05.trans p6)), fun l => withO_of (b5 _ (pre_app p6 l)), fun l => withO_of (hbx _ (pre_app (p05.trans p6) l)), withO_of (b5 _ (p6.trans p7)), withO_of (hbx _ p07), withO_of (b5 _ (p6.trans p69))]
    refine callsTo Try.cal27 c10 ?_
    simp -dsimp -implicitDefEqProofs [withO_of (hbx _ (pre_refl _)), hk, mkRow4, hO, optV, optM, hq, fun l => withO_of (hbx _ (pre_app p03 l)), withO_of (hbx _ p03), withO_of (b5 _ p6), withO_of (hbx _ (p05.trans p6)), fun l => withO_of (b5 _ (pre_app p6 l)), fun l => withO_of (hbx _ (pre_app (p05.trans p6) l)), withO_of (b5 _ (p6.trans p7)), withO_of (hbx _ p07), withO_of (b5 _ (p6.trans p69))]
    have li4 := lt_of_get r4
    have lj4 := lt_of_get t4
    have l3 := p4.length_le
    have y10 : m10[m5.length]? = some ⟨ys.map (Value.int .i64), 2, 1, 1⟩ := f10 _ _ (by omega) (by omega) (prefix_get p69 o6)
    have pm10 : m0 <+: m10 := pre_of_get' fun i o hi => f10 i o (by have := lt_of_get hi; have := p03.length_le; omega) (by have := lt_of_get hi; have := p03.length_le; omega) (prefix_get (p07.trans p79) hi)
    obtain ⟨m11, hm11⟩ : ∃ m11, m11 = m10.set m5.length ⟨mkCells 1 ((1 : Int) + (x.2.2.1.length : Int) + (x.2.2.2.length : Int)) ys.length, 2, 1, 1⟩ := ⟨_, rfl⟩
    have cm11 := markInt64S_c ys ((1 : Int) + (x.2.2.1.length : Int) + (x.2.2.2.length : Int)) _ _ _ y10 rfl rfl (by simp) hs' (by omega)
    simp only at cm11
    rw [← hm11] at cm11
    have l05 := p05.length_le
    have pm11 : m0 <+: m11 := by rw [hm11]; exact pre_set pm10 l05 _
    refine callsTo Try.cal28 cm11 ?_
    simp -dsimp -implicitDefEqProofs [withO_of (hbx _ (pre_refl _)), hk, mkRow4, hO, optV, optM, hq, fun l => withO_of (hbx _ (pre_app p03 l)), withO_of (hbx _ p03), withO_of (b5 _ p6), withO_of (hbx _ (p05.trans p6)), fun l => withO_of (b5 _ (pre_app p6 l)), fun l => withO_of (hbx _ (pre_app (p05.trans p6) l)), withO_of (b5 _ (p6.trans p7)), withO_of (hbx _ p07), withO_of (b5 _ (p6.trans p69))]
    have l7 : m2.length < m3.length := lt_of_get z3
    have x11 : m11[m2.length]? = some ⟨zs.map (Value.int .i64), 2, 1, 2⟩ := by
      rw [hm11, List.getElem?_set_ne (by omega)]
      exact f10 _ _ (by omega) (by omega) (prefix_get p79 z73)
    have z11 : m11[m6.length]? = some ⟨zs.map (Value.int .i64), 2, 1, 2⟩ := by
      rw [hm11, List.getElem?_set_ne (by omega)]
      exact f10 _ _ (by omega) (by omega) (prefix_get p79 z7)
    refine callsTo Try.cal24 (eqInt64S_c zs zs _ _ _ (RdI.of_get (xs := zs) z11 (by simp) rfl rfl) (RdI.of_get (xs := zs) x11 (by simp) rfl rfl) hz) ?_
    simp -dsimp -implicitDefEqProofs [withO_of (hbx _ (pre_refl _)), hk, mkRow4, hO, optV, optM, hq, fun l => withO_of (hbx _ (pre_app p03 l)), withO_of (hbx _ p03), withO_of (b5 _ p6), withO_of (hbx _ (p05.trans p6)), fun l => withO_of (b5 _ (pre_app p6 l)), fun l => withO_of (hbx _ (pre_app (p05.trans p6) l)), withO_of (b5 _ (p6.trans p7)), withO_of (hbx _ p07), withO_of (b5 _ (p6.trans p69))]
    obtain ⟨m12, hm12⟩ : ∃ m12, m12 = m11.set m6.length ⟨mkCells 1 1 zs.length, 2, 1, 2⟩ := ⟨_, rfl⟩
    have cm12 := markInt64S_c zs 1 _ _ _ z11 rfl rfl (by simp) hz (by decide)
    simp only at cm12
    rw [← hm12] at cm12
    have w12 : m12[m6.length]? = some ⟨mkCells 1 1 zs.length, 2, 1, 2⟩ := by rw [hm12]; exact List.getElem?_set_self (List.getElem?_eq_some_iff.1 z11).1
    have x12 : m12[m2.length]? = some ⟨zs.map (Value.int .i64), 2, 1, 2⟩ := by rw [hm12, List.getElem?_set_ne (by omega)]; exact x11
    have pm12 : m0 <+: m12 := by rw [hm12]; exact pre_set pm11 (p05.trans p6).length_le _
    refine callsTo Try.cal28 cm12 ?_
    simp -dsimp -implicitDefEqProofs [withO_of (hbx _ (pre_refl _)), hk, mkRow4, hO, optV, optM, hq, fun l => withO_of (hbx _ (pre_app p03 l)), withO_of (hbx _ p03), withO_of (b5 _ p6), withO_of (hbx _ (p05.trans p6)), fun l => withO_of (b5 _ (pre_app p6 l)), fun l => withO_of (hbx _ (pre_app (p05.trans p6) l)), withO_of (b5 _ (p6.trans p7)), withO_of (hbx _ p07), withO_of (b5 _ (p6.trans p69))]
    refine callsTo Try.cal29 (heldInt64S_c zs.length 1 _ _ (RdMk.of_get zs.length w12 (by simp) rfl rfl) hz (by decide)) ?_
    simp -dsimp -implicitDefEqProofs [withO_of (hbx _ (pre_refl _)), hk, mkRow4, hO, optV, optM, hq, fun l => withO_of (hbx _ (pre_app p03 l)), withO_of (hbx _ p03), withO_of (b5 _ p6), withO_of (hbx _ (p05.trans p6)), fun l => withO_of (b5 _ (pre_app p6 l)), fun l => withO_of (hbx _ (pre_app (p05.trans p6) l)), withO_of (b5 _ (p6.trans p7)), withO_of (hbx _ p07), withO_of (b5 _ (p6.trans p69)), withO_of (hbx _ pm12)]
    obtain ⟨_, m13, c13, i13, j13, rfl, p13, gi13, gj13, r13, t13⟩ := toMarket_e x ad bd m12 (q1.pre' (p0.trans pm12)) (q2.pre' (p0.trans pm12)) hn1 hn2
    simp only [mkRow4] at c13
    refine callsTo Try.cal20 c13 ?_
    simp -dsimp -implicitDefEqProofs [withO_of (hbx _ (pre_refl _)), hk, mkRow4, hO, optV, optM, hq, fun l => withO_of (hbx _ (pre_app p03 l)), withO_of (hbx _ p03), withO_of (b5 _ p6), withO_of (hbx _ (p05.trans p6)), fun l => withO_of (b5 _ (pre_app p6 l)), fun l => withO_of (hbx _ (pre_app (p05.trans p6) l)), withO_of (b5 _ (p6.trans p7)), withO_of (hbx _ p07), withO_of (b5 _ (p6.trans p69)), withO_of (hbx _ pm12)]
    obtain ⟨_, m14, c14, rfl, p14, o14⟩ := toInt64S_e ys b m13 (hs.pre' (p0.trans (pm12.trans p13))) hs'
    refine callsTo Try.cal21 c14 ?_
    simp -dsimp -implicitDefEqProofs [withO_of (hbx _ (pre_refl _)), hk, mkRow4, hO, optV, optM, hq, fun l => withO_of (hbx _ (pre_app p03 l)), withO_of (hbx _ p03), withO_of (b5 _ p6), withO_of (hbx _ (p05.trans p6)), fun l => withO_of (b5 _ (pre_app p6 l)), fun l => withO_of (hbx _ (pre_app (p05.trans p6) l)), withO_of (b5 _ (p6.trans p7)), withO_of (hbx _ p07), withO_of (b5 _ (p6.trans p69)), withO_of (hbx _ pm12)]
    have hI2 := implSale_c n x ys _ _ _ _ (RdI.of_get (prefix_get p14 r13) (by simp) rfl rfl) (RdI.of_get (prefix_get p14 t13) (by simp) rfl rfl) (RdI.of_get (xs := ys) o14 (by simp) rfl rfl) hn1 hn2 hs'
    rw [hO] at hI2
    simp only [optV, optM, mkRow4] at hI2
    refine callsTo Try.cal26 hI2 ?_
    simp -dsimp -implicitDefEqProofs [withO_of (hbx _ (pre_refl _)), hk, mkRow4, hO, optV, optM, hq, fun l => withO_of (hbx _ (pre_app p03 l)), withO_of (hbx _ p03), withO_of (b5 _ p6), withO_of (hbx _ (p05.trans p6)), fun l => withO_of (b5 _ (pre_app p6 l)), fun l => withO_of (hbx _ (pre_app (p05.trans p6) l)), withO_of (b5 _ (p6.trans p7)), withO_of (hbx _ p07), withO_of (b5 _ (p6.trans p69)), withO_of (hbx _ pm12)]
    have p124 := p13.trans p14
    refine callsTo Try.cal24 (eqInt64S_c zs zs _ _ _ (RdI.of_get (xs := zs) (o := ⟨_, _, 1, 2⟩) (by simp; rfl) (by simp) rfl rfl) (RdI.of_get (xs := zs) (get_old (prefix_get p124 x12)) (by simp) rfl rfl) hz) ?_
    simp -dsimp -implicitDefEqProofs [withO_of (hbx _ (pre_refl _)), hk, mkRow4, hO, optV, optM, hq, fun l => withO_of (hbx _ (pre_app p03 l)), withO_of (hbx _ p03), withO_of (b5 _ p6), withO_of (hbx _ (p05.trans p6)), fun l => withO_of (b5 _ (pre_app p6 l)), fun l => withO_of (hbx _ (pre_app (p05.trans p6) l)), withO_of (b5 _ (p6.trans p7)), withO_of (hbx _ p07), withO_of (b5 _ (p6.trans p69)), withO_of (hbx _ pm12)]
    refine callsTo Try.cal29 (heldInt64S_c zs.length 1 _ _ (RdMk.of_get zs.length (get_old (prefix_get p124 w12)) (by simp) rfl rfl) hz (by decide)) ?_
    simp -dsimp -implicitDefEqProofs [withO_of (hbx _ (pre_refl _)), hk, mkRow4, hO, optV, optM, hq, fun l => withO_of (hbx _ (pre_app p03 l)), withO_of (hbx _ p03), withO_of (b5 _ p6), withO_of (hbx _ (p05.trans p6)), fun l => withO_of (b5 _ (pre_app p6 l)), fun l => withO_of (hbx _ (pre_app (p05.trans p6) l)), withO_of (b5 _ (p6.trans p7)), withO_of (hbx _ p07), withO_of (b5 _ (p6.trans p69)), withO_of (hbx _ pm12)]
    exact GC.dropP (pre_app (p0.trans (pm12.trans p124)) _) rfl rfl


set_option maxRecDepth 100000 in
theorem fnExactSaleAtLifted (os : Os) (started : os.Started) (H : Type) (enc : TypeId × Value → H) :
    ReturnsInHanded {} Try.checked os 5 .any (Rows.fnExactSaleAtSpec.pre6 enc Try.prog Try.f5 Rows.fnExactSaleAtRow.domain false) (Rows.fnExactSaleAtSpec.post enc Try.prog Try.f5 false true false false) :=
  lawLifted (C := Try.checked) [.one I64, .agg [I64, I64, .sl [I64], .sl [I64]], .one (.sl [I64])] 3 4 (by kernel_rfl) started (by kernel_rfl) Try.func5
    (ChangeSpec.witness6 (enc := enc) (C := Try.checked) false ⟨#[], #[.int .i64 0,.agg #[.int .i64 0,.int .i64 0,.slice none 0 0,.slice none 0 0],.slice none 0 0], []⟩ 8 (by kernel_rfl) (by kernel_rfl) (by kernel_rfl) (by kernel_rfl))
    (by kernel_rfl) (by kernel_rfl) (by kernel_rfl) rfl (by kernel_rfl) rfl (fun ds h => match ds, h with | [_, _, _], _ => rfl) fun m vs h => by
      obtain ⟨u0, u1, u2, rfl, hv0, hv1, hv2⟩ := h.three
      obtain ⟨n, rfl, _⟩ := CV.int hv0
      obtain ⟨x, ad, bd, rfl, q1, q2, hl1, hl2⟩ := AV.mkt hv1
      obtain ⟨b, ys, rfl, hms, hs, _⟩ := CV.sl1 hv2
      exact ⟨_, lawSaleAt_c n x ad bd ys b m q1 q2 hl1 hl2 hs hms⟩

theorem fnExactSaleAtHolds : Rows.FnExactSaleAtSaid :=
  OpenClaim.holds_of_wide 5 Try.f5 rfl rfl rfl rfl rfl rfl rfl ⟨rfl, rfl, rfl, rfl, rfl⟩ rfl rfl rfl rfl rfl (by kernel_rfl) Try.func5 (by kernel_rfl)
    (of_decide_eq_true (by kernel_rfl)) (by unfold Func.isWrapper; first | (rw [if_pos (by decide +kernel)]; kernel_rfl) | (rw [if_neg (by decide +kernel)]; exact ⟨rfl, rfl⟩))
    (fun os started H enc _ => fnExactSaleAtLifted os started H enc)
end Go.Proofs.Ytciekhcdkfhcoaa
