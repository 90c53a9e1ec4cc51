/-
  'FnExactBestMarkets': for all arguments the program's BestMarkets returns what the reference's returns, leaves its arguments as they are and returns memory of its own. Conditions: none.
-/
import Derived.Test.YtciekhcdkfhcoaaMkM
import Derived.Test.YtciekhcdkfhcoaaMkD
set_option linter.unusedSimpArgs false
set_option linter.unusedVariables false
set_option linter.unusedSectionVars false
namespace Go.Proofs.Ytciekhcdkfhcoaa
open Go.Abs Go.RowKit

set_option maxHeartbeats 1600000 in
theorem lawBestMarkets_c (n : Int) (xs : List Mk) (a : Option Addr) (ys : List Int) (b : Option Addr) (m : Mem) (hr : RdM m a xs) (hm : xs.length ≤ maxLen) (ht : ∀ x ∈ xs, x.2.2.1.length ≤ maxLen ∧ x.2.2.2.length ≤ maxLen) (hs : RdI m b ys) (hms : ys.length ≤ maxLen) : ACalls Try.prog 10 [.int .i64 n, .slice a xs.length xs.length, .slice b ys.length ys.length] m (.bool true) m := by
  refine acalls_of_vc Try.func10 rfl Try.fol (by kernel_rfl) ?_
  simp only [Try.f10]
  simp -dsimp -implicitDefEqProofs
  refine ⟨fun _ => GC.refl _ _ _, fun hbs => ?_⟩
  have hs' : ys.length ≤ 1048576 := by simp at hbs; omega
  refine callsTo Try.cal13 (szMarketS_c xs a _ _ hr hm ht (by decide)) ?_
  simp -dsimp -implicitDefEqProofs
  refine ⟨fun _ => GC.refl _ _ _, fun hb => ?_⟩
  obtain ⟨hb1, he⟩ := leftI_ok hb
  rw [he]
  have hn : xs.length ≤ 1048576 := by omega
  have hl : xs.length + sumMk xs ≤ 1048576 := by omega
  have hu : ∀ x ∈ xs, x.2.2.1.length ≤ 1048576 ∧ x.2.2.2.length ≤ 1048576 := fun x hx => by have := sumMk_mem hx; omega
  have hk : ¬ ((1 : Int) + 2 * (xs.length : Int) + (sumMk xs : Int) + (ys.length : Int) < 0) := by omega
  obtain ⟨_, m1, c1, rfl, p1, o1⟩ := toMarketS_c xs a m hr hn hu
  refine callsTo Try.cal15 (c1) ?_
  simp -dsimp -implicitDefEqProofs
  obtain ⟨_, m2, c2, rfl, p2, o2⟩ := toInt64S_e ys b m1 (hs.pre' p1) hs'
  refine callsTo Try.cal21 (c2) ?_
  simp -dsimp -implicitDefEqProofs
  cases hO : bestM n xs ys with
  | none =>
    refine callsTo Try.cal39 (specBestM_c n xs ys _ _ _ (o1.rd.pre p2) (RdI.of_get (xs := ys) o2 (by simp) rfl rfl) hn hu hs') ?_
    simp -dsimp -implicitDefEqProofs [hO, optV, optM, hk]
    have p12 : m <+: m2 := p1.trans p2
    obtain ⟨_, m3, c3, rfl, p3, o3⟩ := toMarketS_c xs a m2 (hr.pre p12) hn hu
    refine callsTo Try.cal15 (c3) ?_
    simp -dsimp -implicitDefEqProofs [hO, optV, optM, hk]
    obtain ⟨_, m4, c4, rfl, p4, o4⟩ := toInt64S_e ys b m3 (hs.pre' (p12.trans p3)) hs'
    refine callsTo Try.cal21 (c4) ?_
    simp -dsimp -implicitDefEqProofs [hO, optV, optM, hk]
    have p14 : m <+: m4 := p12.trans (p3.trans p4)
    refine callsTo Try.cal40 (implBestM_c n xs ys _ _ _ (o3.rd.pre p4) (RdI.of_get (xs := ys) o4 (by simp) rfl rfl) hn hu hs') ?_
    simp -dsimp -implicitDefEqProofs [hO, optV, optM, hk]
    refine callsTo Try.cal24 (eqInt64S_c [] [] _ _ _ (RdI.nil _ _) (RdI.nil _ _) (by simp)) ?_
    simp -dsimp -implicitDefEqProofs [hO, optV, optM, hk]
    obtain ⟨_, m5, c5, rfl, p5, o5⟩ := toMarketS_c xs a m4 (hr.pre p14) hn hu
    refine callsTo Try.cal15 (c5) ?_
    simp -dsimp -implicitDefEqProofs [hO, optV, optM, hk]
    refine callsTo Try.cal17 (eqMarketS_c xs xs _ _ _ (o3.rd.pre (p4.trans p5)) o5.rd hn hu) ?_
    simp -dsimp -implicitDefEqProofs [hO, optV, optM, hk]
    obtain ⟨_, m6, c6, rfl, p6, o6⟩ := toInt64S_e ys b m5 (hs.pre' (p14.trans p5)) hs'
    refine callsTo Try.cal21 (c6) ?_
    simp -dsimp -implicitDefEqProofs [hO, optV, optM, hk]
    refine callsTo Try.cal24 (eqInt64S_c ys ys _ _ _ (RdI.of_get (xs := ys) (prefix_get (p5.trans p6) o4) (by simp) rfl rfl) (RdI.of_get (xs := ys) o6 (by simp) rfl rfl) hs') ?_
    simp -dsimp -implicitDefEqProofs [hO, optV, optM, hk]
    obtain ⟨_, m7, c7, rfl, f7⟩ := markMarketS_c xs m3 m6 _ _ 1 o3 (p4.trans (p5.trans p6)) hl (by decide)
    refine callsTo Try.cal32 (c7) ?_
    simp -dsimp -implicitDefEqProofs [hO, optV, optM, hk]
    have y7 : m7[m3.length]? = some ⟨ys.map (Value.int .i64), 2, 1, 1⟩ := (f7.2 _ (.inr (Nat.le_refl _))).trans (prefix_get (p5.trans p6) o4)
    refine callsTo Try.cal28 (markInt64S_c ys _ _ _ _ y7 rfl rfl (by simp) hs' (by omega)) ?_
    simp -dsimp -implicitDefEqProofs [hO, optV, optM, hk]
    refine callsTo Try.cal24 (eqInt64S_c [] [] _ _ _ (RdI.nil _ _) (RdI.nil _ _) (by simp)) ?_
    simp -dsimp -implicitDefEqProofs [hO, optV, optM, hk]
    refine callsTo Try.cal28 (markInt64S_nil _ _ _) ?_
    simp -dsimp -implicitDefEqProofs [hO, optV, optM, hk]
    refine callsTo Try.cal29 (heldInt64S_c 0 1 _ _ (RdMk.nil 1 1 _ _) (by simp) (by decide)) ?_
    simp -dsimp -implicitDefEqProofs [hO, optV, optM, hk]
    have pm7 : m <+: m7 := f7.pre (p14.trans (p5.trans p6)) p12.length_le
    have pm8 : ∀ o, m <+: m7.set m3.length o := fun o => pre_set pm7 (p12.trans p3).length_le _
    refine callsToE Try.cal15 (toMarketS_c xs a _ (hr.pre (pm8 _)) hn hu) ?_
    rintro _ m8 ⟨rfl, p8, o8⟩
    simp only [List.length_set] at o8
    simp -dsimp -implicitDefEqProofs [hO, optV, optM, hk]
    have pm8' := (pm8 _).trans p8
    obtain ⟨_, m9, c9, rfl, p9, o9⟩ := toInt64S_e ys b m8 (hs.pre' pm8') hs'
    refine callsTo Try.cal21 (c9) ?_
    simp -dsimp -implicitDefEqProofs [hO, optV, optM, hk]
    refine callsTo Try.cal40 (implBestM_c n xs ys _ _ _ (o8.rd.pre p9) (RdI.of_get (xs := ys) o9 (by simp) rfl rfl) hn hu hs') ?_
    simp -dsimp -implicitDefEqProofs [hO, optV, optM, hk]
    refine callsTo Try.cal24 (eqInt64S_c [] [] _ _ _ (RdI.nil _ _) (RdI.nil _ _) (by simp)) ?_
    simp -dsimp -implicitDefEqProofs [hO, optV, optM, hk]
    refine callsTo Try.cal29 (heldInt64S_c 0 1 _ _ (RdMk.nil 1 1 _ _) (by simp) (by decide)) ?_
    simp -dsimp -implicitDefEqProofs [hO, optV, optM, hk]
    exact GC.dropP (pm8'.trans p9) rfl rfl
  | some zs =>
    have hz : zs.length ≤ 1048576 := bestM_length hO
    have hq : ¬ ((1 : Int) + (zs.length : Int) < 0) := by omega
    refine callsTo Try.cal39 (specBestM_c n xs ys _ _ _ (o1.rd.pre p2) (RdI.of_get (xs := ys) o2 (by simp) rfl rfl) hn hu hs') ?_
    simp -dsimp -implicitDefEqProofs [hO, optV, optM, hk, hq]
    have p12 : m <+: m2 := p1.trans p2
    refine callsToE Try.cal15 (toMarketS_c xs a _ (hr.pre (pre_app p12 _)) hn hu) ?_
    rintro _ m3 ⟨rfl, p3, o3⟩
    have z3 : m3[m2.length]? = some ⟨zs.map (Value.int .i64), 2, 1, 2⟩ := prefix_get p3 (by simp)
    have p3' : m2 <+: m3 := pre_of p3
    have l3 : m2.length < m3.length := (List.getElem?_eq_some_iff.1 z3).1
    simp only [List.length_append, List.length_cons, List.length_nil, Nat.zero_add] at o3
    simp -dsimp -implicitDefEqProofs [hO, optV, optM, hk, hq]
    obtain ⟨_, m4, c4, rfl, p4, o4⟩ := toInt64S_e ys b m3 (hs.pre' (p12.trans p3')) hs'
    refine callsTo Try.cal21 (c4) ?_
    simp -dsimp -implicitDefEqProofs [hO, optV, optM, hk, hq]
    have p14 : m <+: m4 := p12.trans (p3'.trans p4)
    have l4 : m3.length < m4.length := (List.getElem?_eq_some_iff.1 o4).1
    refine callsTo Try.cal40 (implBestM_c n xs ys _ _ _ (o3.rd.pre p4) (RdI.of_get (xs := ys) o4 (by simp) rfl rfl) hn hu hs') ?_
    simp -dsimp -implicitDefEqProofs [hO, optV, optM, hk, hq]
    refine callsTo Try.cal24 (eqInt64S_c zs zs _ _ _ (RdI.of_get (xs := zs) (o := ⟨_, _, 1, 2⟩) (by simp; rfl) (by simp) rfl rfl) (RdI.of_get (xs := zs) (get_old (prefix_get p4 z3)) (by simp) rfl rfl) hz) ?_
    simp -dsimp -implicitDefEqProofs [hO, optV, optM, hk, hq]
    refine callsToE Try.cal15 (toMarketS_c xs a _ (hr.pre (pre_app p14 _)) hn hu) ?_
    rintro _ m5 ⟨rfl, p5, o5⟩
    have z5 : m5[m4.length]? = some ⟨zs.map (Value.int .i64), 2, 1, 2⟩ := prefix_get p5 (by simp)
    have p5' : m4 <+: m5 := pre_of p5
    simp only [List.length_append, List.length_cons, List.length_nil, Nat.zero_add] at o5
    simp -dsimp -implicitDefEqProofs [hO, optV, optM, hk, hq]
    refine callsTo Try.cal17 (eqMarketS_c xs xs _ _ _ (o3.rd.pre (p4.trans p5')) o5.rd hn hu) ?_
    simp -dsimp -implicitDefEqProofs [hO, optV, optM, hk, hq]
    obtain ⟨_, m6, c6, rfl, p6, o6⟩ := toInt64S_e ys b m5 (hs.pre' (p14.trans p5')) hs'
    refine callsTo Try.cal21 (c6) ?_
    simp -dsimp -implicitDefEqProofs [hO, optV, optM, hk, hq]
    refine callsTo Try.cal24 (eqInt64S_c ys ys _ _ _ (RdI.of_get (xs := ys) (prefix_get (p5'.trans p6) o4) (by simp) rfl rfl) (RdI.of_get (xs := ys) o6 (by simp) rfl rfl) hs') ?_
    simp -dsimp -implicitDefEqProofs [hO, optV, optM, hk, hq]
    obtain ⟨_, m7, c7, rfl, f7⟩ := markMarketS_c xs m3 m6 _ _ 1 o3 (p4.trans (p5'.trans p6)) hl (by decide)
    refine callsTo Try.cal32 (c7) ?_
    simp -dsimp -implicitDefEqProofs [hO, optV, optM, hk, hq]
    have y7 : m7[m3.length]? = some ⟨ys.map (Value.int .i64), 2, 1, 1⟩ := (f7.2 _ (.inr (Nat.le_refl _))).trans (prefix_get (p5'.trans p6) o4)
    have x7 : m7[m2.length]? = some ⟨zs.map (Value.int .i64), 2, 1, 2⟩ := (f7.2 _ (.inl (by omega))).trans (prefix_get (p4.trans (p5'.trans p6)) z3)
    have z7 : m7[m4.length]? = some ⟨zs.map (Value.int .i64), 2, 1, 2⟩ := (f7.2 _ (.inr (by omega))).trans (prefix_get p6 z5)
    have pm7 : m <+: m7 := f7.pre (p14.trans (p5'.trans p6)) (by have := p12.length_le; omega)
    obtain ⟨m8, hm8⟩ : ∃ m8, m8 = m7.set m3.length ⟨mkCells 1 ((1 : Int) + 2 * (xs.length : Int) + (sumMk xs : Int)) ys.length, 2, 1, 1⟩ := ⟨_, rfl⟩
    have x8 : m8[m2.length]? = some ⟨zs.map (Value.int .i64), 2, 1, 2⟩ := by rw [hm8, List.getElem?_set_ne (by omega)]; exact x7
    have z8 : m8[m4.length]? = some ⟨zs.map (Value.int .i64), 2, 1, 2⟩ := by rw [hm8, List.getElem?_set_ne (by omega)]; exact z7
    have pm8 : m <+: m8 := by rw [hm8]; exact pre_set pm7 (p12.trans p3').length_le _
    have cm8 := markInt64S_c ys ((1 : Int) + 2 * (xs.length : Int) + (sumMk xs : Int)) _ _ _ y7 rfl rfl (by simp) hs' (by omega)
    simp only at cm8
    rw [← hm8] at cm8
    refine callsTo Try.cal28 (cm8) ?_
    simp -dsimp -implicitDefEqProofs [hO, optV, optM, hk, hq]
    refine callsTo Try.cal24 (eqInt64S_c zs zs _ _ _ (RdI.of_get (xs := zs) z8 (by simp) rfl rfl) (RdI.of_get (xs := zs) x8 (by simp) rfl rfl) hz) ?_
    simp -dsimp -implicitDefEqProofs [hO, optV, optM, hk, hq]
    obtain ⟨m9, hm9⟩ : ∃ m9, m9 = m8.set m4.length ⟨mkCells 1 1 zs.length, 2, 1, 2⟩ := ⟨_, rfl⟩
    have cm9 := markInt64S_c zs 1 _ _ _ z8 rfl rfl (by simp) hz (by decide)
    simp only at cm9
    rw [← hm9] at cm9
    have w9 : m9[m4.length]? = some ⟨mkCells 1 1 zs.length, 2, 1, 2⟩ := by rw [hm9]; exact List.getElem?_set_self (List.getElem?_eq_some_iff.1 z8).1
    have x9 : m9[m2.length]? = some ⟨zs.map (Value.int .i64), 2, 1, 2⟩ := by rw [hm9, List.getElem?_set_ne (by omega)]; exact x8
    have pm9 : m <+: m9 := by rw [hm9]; exact pre_set pm8 p14.length_le _
    refine callsTo Try.cal28 (cm9) ?_
    simp -dsimp -implicitDefEqProofs [hO, optV, optM, hk, hq]
    refine callsTo Try.cal29 (heldInt64S_c zs.length 1 _ _ (RdMk.of_get zs.length w9 (by simp) rfl rfl) hz (by decide)) ?_
    simp -dsimp -implicitDefEqProofs [hO, optV, optM, hk, hq]
    obtain ⟨_, m10, c10, rfl, p10, o10⟩ := toMarketS_c xs a m9 (hr.pre pm9) hn hu
    refine callsTo Try.cal15 (c10) ?_
    simp -dsimp -implicitDefEqProofs [hO, optV, optM, hk, hq]
    obtain ⟨_, m11, c11, rfl, p11, o11⟩ := toInt64S_e ys b m10 (hs.pre' (pm9.trans p10)) hs'
    refine callsTo Try.cal21 (c11) ?_
    simp -dsimp -implicitDefEqProofs [hO, optV, optM, hk, hq]
    refine callsTo Try.cal40 (implBestM_c n xs ys _ _ _ (o10.rd.pre p11) (RdI.of_get (xs := ys) o11 (by simp) rfl rfl) hn hu hs') ?_
    simp -dsimp -implicitDefEqProofs [hO, optV, optM, hk, hq]
    refine callsTo Try.cal24 (eqInt64S_c zs zs _ _ _ (RdI.of_get (xs := zs) (o := ⟨_, _, 1, 2⟩) (by simp; rfl) (by simp) rfl rfl) (RdI.of_get (xs := zs) (get_old (prefix_get (p10.trans p11) x9)) (by simp) rfl rfl) hz) ?_
    simp -dsimp -implicitDefEqProofs [hO, optV, optM, hk, hq]
    refine callsTo Try.cal29 (heldInt64S_c zs.length 1 _ _ (RdMk.of_get zs.length (get_old (prefix_get (p10.trans p11) w9)) (by simp) rfl rfl) hz (by decide)) ?_
    simp -dsimp -implicitDefEqProofs [hO, optV, optM, hk, hq]
    exact GC.dropP (pre_app (pm9.trans (p10.trans p11)) _) rfl rfl


set_option maxRecDepth 100000 in
theorem fnExactBestMarketsLifted (os : Os) (started : os.Started) (H : Type) (enc : TypeId × Value → H) :
    ReturnsInHanded {} Try.checked os 10 .any (Rows.fnExactBestMarketsSpec.pre6 enc Try.prog Try.f10 Rows.fnExactBestMarketsRow.domain false) (Rows.fnExactBestMarketsSpec.post enc Try.prog Try.f10 false true false false) :=
  lawLifted (C := Try.checked) [.one I64, .one (.sl [I64, I64, .sl [I64], .sl [I64]]), .one (.sl [I64])] 3 4 (by kernel_rfl) started (by kernel_rfl) Try.func10
    (ChangeSpec.witness6 (enc := enc) (C := Try.checked) false ⟨#[], #[.int .i64 0,.slice none 0 0,.slice none 0 0], []⟩ 8 (by kernel_rfl) (by kernel_rfl) (by kernel_rfl) (by kernel_rfl))
    (by kernel_rfl) (by kernel_rfl) (by kernel_rfl) rfl (by kernel_rfl) rfl (fun ds h => match ds, h with | [_, _, _], _ => rfl) fun m vs h => by
      obtain ⟨u0, u1, u2, rfl, hv0, hv1, hv2⟩ := h.three
      obtain ⟨n, rfl, _⟩ := CV.int hv0
      obtain ⟨a, xs, rfl, hl1, ht1, hq1⟩ := CV.slM hv1
      obtain ⟨b, ys, rfl, hl2, hq2, _⟩ := CV.sl1 hv2
      exact ⟨_, lawBestMarkets_c n xs a ys b m hq1 hl1 ht1 hq2 hl2⟩

theorem fnExactBestMarketsHolds : Rows.FnExactBestMarketsSaid :=
  OpenClaim.holds_of_wide 10 Try.f10 rfl rfl rfl rfl rfl rfl rfl ⟨rfl, rfl, rfl, rfl, rfl⟩ rfl rfl rfl rfl rfl (by kernel_rfl) Try.func10 (by kernel_rfl)
    (of_decide_eq_true (by kernel_rfl)) (by unfold Func.isWrapper; first | (rw [if_pos (by decide +kernel)]; kernel_rfl) | (rw [if_neg (by decide +kernel)]; exact ⟨rfl, rfl⟩))
    (fun os started H enc _ => fnExactBestMarketsLifted os started H enc)
end Go.Proofs.Ytciekhcdkfhcoaa
