/-
  'FnExactBestPrices': for all arguments the program's BestPrices returns what the reference's returns, leaves its arguments as they are and returns memory of its own. Conditions: none.
-/
import Derived.Test.YtciekhcdkfhcoaaMkC
import Derived.Test.YtciekhcdkfhcoaaMkD
set_option linter.unusedSimpArgs false
set_option linter.unusedVariables false
set_option linter.unusedSectionVars false
namespace Go.Proofs.Ytciekhcdkfhcoaa
open Go.Abs Go.RowKit

theorem lawBestPrices_c (n : Int) (xs : List Mk) (a : Option Addr) (m : Mem) (hr : RdM m a xs) (hm : xs.length ≤ maxLen) (ht : ∀ x ∈ xs, x.2.2.1.length ≤ maxLen ∧ x.2.2.2.length ≤ maxLen) : ACalls Try.prog 6 [.int .i64 n, .slice a xs.length xs.length] m (.bool true) m := by
  refine acalls_of_vc Try.func6 rfl Try.fol (by kernel_rfl) ?_
  simp only [Try.f6]
  simp -dsimp -implicitDefEqProofs
  refine callsTo Try.cal13 (szMarketS_c xs a _ _ hr hm ht (by decide)) ?_
  simp -dsimp -implicitDefEqProofs
  refine ⟨fun _ => GC.refl _ _ _, fun hb => ?_⟩
  obtain ⟨hb1, he⟩ := leftI_ok hb
  rw [he]
  have hn : xs.length ≤ 1048576 := by omega
  have hl : xs.length + sumMk xs ≤ 1048576 := by omega
  have hu : ∀ x ∈ xs, x.2.2.1.length ≤ 1048576 ∧ x.2.2.2.length ≤ 1048576 := fun x hx => by have := sumMk_mem hx; omega
  have hk : ¬ ((1 : Int) + 2 * (xs.length : Int) + (sumMk xs : Int) < 0) := by omega
  obtain ⟨_, m1, c1, rfl, p1, o1⟩ := toMarketS_c xs a m hr hn hu
  refine callsTo Try.cal15 (c1) ?_
  simp -dsimp -implicitDefEqProofs
  cases hO : bestO n xs with
  | none =>
    refine callsTo Try.cal30 (specBest_c n xs _ _ o1.rd hn hu) ?_
    simp -dsimp -implicitDefEqProofs [hO, optV, optM, hk]
    obtain ⟨_, m2, c2, rfl, p2, o2⟩ := toMarketS_c xs a m1 (hr.pre p1) hn hu
    refine callsTo Try.cal15 (c2) ?_
    simp -dsimp -implicitDefEqProofs [hO, optV, optM, hk]
    refine callsTo Try.cal31 (implBest_c n xs _ _ o2.rd hn hu) ?_
    simp -dsimp -implicitDefEqProofs [hO, optV, optM, hk]
    refine callsTo Try.cal24 (eqInt64S_c [] [] _ _ _ (RdI.nil _ _) (RdI.nil _ _) (by simp)) ?_
    simp -dsimp -implicitDefEqProofs [hO, optV, optM, hk]
    obtain ⟨_, m3, c3, rfl, p3, o3⟩ := toMarketS_c xs a m2 (hr.pre (p1.trans p2)) hn hu
    refine callsTo Try.cal15 (c3) ?_
    simp -dsimp -implicitDefEqProofs [hO, optV, optM, hk]
    refine callsTo Try.cal17 (eqMarketS_c xs xs _ _ _ (o2.rd.pre p3) o3.rd hn hu) ?_
    simp -dsimp -implicitDefEqProofs [hO, optV, optM, hk]
    obtain ⟨_, m4, c4, rfl, f4⟩ := markMarketS_c xs m2 m3 _ _ 1 o2 p3 hl (by decide)
    refine callsTo Try.cal32 (c4) ?_
    simp -dsimp -implicitDefEqProofs [hO, optV, optM, hk]
    refine callsTo Try.cal24 (eqInt64S_c [] [] _ _ _ (RdI.nil _ _) (RdI.nil _ _) (by simp)) ?_
    simp -dsimp -implicitDefEqProofs [hO, optV, optM, hk]
    refine callsTo Try.cal28 (markInt64S_nil _ _ _) ?_
    simp -dsimp -implicitDefEqProofs [hO, optV, optM, hk]
    refine callsTo Try.cal29 (heldInt64S_c 0 1 _ _ (RdMk.nil 1 1 _ _) (by simp) (by decide)) ?_
    simp -dsimp -implicitDefEqProofs [hO, optV, optM, hk]
    have pm4 : m <+: m4 := f4.pre (p1.trans (p2.trans p3)) p1.length_le
    obtain ⟨_, m6, c6, rfl, p6, o6⟩ := toMarketS_c xs a m4 (hr.pre pm4) hn hu
    refine callsTo Try.cal15 (c6) ?_
    simp -dsimp -implicitDefEqProofs [hO, optV, optM, hk]
    refine callsTo Try.cal31 (implBest_c n xs _ _ o6.rd hn hu) ?_
    simp -dsimp -implicitDefEqProofs [hO, optV, optM, hk]
    refine callsTo Try.cal24 (eqInt64S_c [] [] _ _ _ (RdI.nil _ _) (RdI.nil _ _) (by simp)) ?_
    simp -dsimp -implicitDefEqProofs [hO, optV, optM, hk]
    refine callsTo Try.cal29 (heldInt64S_c 0 1 _ _ (RdMk.nil 1 1 _ _) (by simp) (by decide)) ?_
    simp -dsimp -implicitDefEqProofs [hO, optV, optM, hk]
    exact GC.dropP (pm4.trans p6) rfl rfl
  | some zs =>
    have hz : zs.length ≤ 1048576 := bestO_length hO
    have hq : ¬ ((1 : Int) + (zs.length : Int) < 0) := by omega
    refine callsTo Try.cal30 (specBest_c n xs _ _ o1.rd hn hu) ?_
    simp -dsimp -implicitDefEqProofs [hO, optV, optM, hk, hq]
    refine callsToE Try.cal15 (toMarketS_c xs a _ (hr.pre (pre_app p1 _)) hn hu) ?_
    rintro _ m2 ⟨rfl, p2, o2⟩
    have z2 : m2[m1.length]? = some ⟨zs.map (Value.int .i64), 2, 1, 2⟩ := prefix_get p2 (by simp)
    have p2' : m1 <+: m2 := pre_of p2
    simp only [List.length_append, List.length_cons, List.length_nil, Nat.zero_add] at o2
    simp -dsimp -implicitDefEqProofs [hO, optV, optM, hk, hq]
    refine callsTo Try.cal31 (implBest_c n xs _ _ o2.rd hn hu) ?_
    simp -dsimp -implicitDefEqProofs [hO, optV, optM, hk, hq]
    refine callsTo Try.cal24 (eqInt64S_c zs zs _ _ _ (RdI.of_get (xs := zs) (o := ⟨_, _, 1, 2⟩) (by simp; rfl) (by simp) rfl rfl) (RdI.of_get (xs := zs) (get_old z2) (by simp) rfl rfl) hz) ?_
    simp -dsimp -implicitDefEqProofs [hO, optV, optM, hk, hq]
    refine callsToE Try.cal15 (toMarketS_c xs a _ (hr.pre (pre_app (p1.trans p2') _)) hn hu) ?_
    rintro _ m3 ⟨rfl, p3, o3⟩
    have z3 : m3[m2.length]? = some ⟨zs.map (Value.int .i64), 2, 1, 2⟩ := prefix_get p3 (by simp)
    have p3' : m2 <+: m3 := pre_of p3
    simp only [List.length_append, List.length_cons, List.length_nil, Nat.zero_add] at o3
    simp -dsimp -implicitDefEqProofs [hO, optV, optM, hk, hq]
    refine callsTo Try.cal17 (eqMarketS_c xs xs _ _ _ (o2.rd.pre p3') o3.rd hn hu) ?_
    simp -dsimp -implicitDefEqProofs [hO, optV, optM, hk, hq]
    obtain ⟨_, m4, c4, rfl, f4⟩ := markMarketS_c xs m2 m3 _ _ 1 o2 p3' hl (by decide)
    refine callsTo Try.cal32 (c4) ?_
    simp -dsimp -implicitDefEqProofs [hO, optV, optM, hk, hq]
    have y4 : m4[m1.length]? = some ⟨zs.map (Value.int .i64), 2, 1, 2⟩ := (f4.2 _ (.inl (by omega))).trans (prefix_get p3' z2)
    have z4 : m4[m2.length]? = some ⟨zs.map (Value.int .i64), 2, 1, 2⟩ := (f4.2 _ (.inr (Nat.le_refl _))).trans z3
    refine callsTo Try.cal24 (eqInt64S_c zs zs _ _ _ (RdI.of_get (xs := zs) z4 (by simp) rfl rfl) (RdI.of_get (xs := zs) y4 (by simp) rfl rfl) hz) ?_
    simp -dsimp -implicitDefEqProofs [hO, optV, optM, hk, hq]
    refine callsTo Try.cal28 (markInt64S_c zs 1 _ _ _ z4 rfl rfl (by simp) hz (by decide)) ?_
    simp -dsimp -implicitDefEqProofs [hO, optV, optM, hk, hq]
    have hne : m2.length ≠ m1.length := by
      have := p2.length_le
      simp at this
      omega
    have w5 : (m4.set m2.length ⟨mkCells 1 1 zs.length, 2, 1, 2⟩)[m2.length]? = some ⟨mkCells 1 1 zs.length, 2, 1, 2⟩ := List.getElem?_set_self (List.getElem?_eq_some_iff.1 z4).1
    have y5 : (m4.set m2.length ⟨mkCells 1 1 zs.length, 2, 1, 2⟩)[m1.length]? = some ⟨zs.map (Value.int .i64), 2, 1, 2⟩ := by rw [List.getElem?_set_ne hne]; exact y4
    refine callsTo Try.cal29 (heldInt64S_c zs.length 1 _ _ (RdMk.of_get zs.length w5 (by simp) rfl rfl) hz (by decide)) ?_
    simp -dsimp -implicitDefEqProofs [hO, optV, optM, hk, hq]
    have pm4 : m <+: m4 := f4.pre (p1.trans (p2'.trans p3')) (by have := p1.length_le; omega)
    have pm5 : m <+: m4.set m2.length ⟨mkCells 1 1 zs.length, 2, 1, 2⟩ := pre_set pm4 (p1.trans p2').length_le _
    refine callsToE Try.cal15 (toMarketS_c xs a _ (hr.pre pm5) hn hu) ?_
    rintro _ m6 ⟨rfl, p6, o6⟩
    simp only [List.length_set] at o6
    simp -dsimp -implicitDefEqProofs [hO, optV, optM, hk, hq]
    refine callsTo Try.cal31 (implBest_c n xs _ _ o6.rd hn hu) ?_
    simp -dsimp -implicitDefEqProofs [hO, optV, optM, hk, hq]
    refine callsTo Try.cal24 (eqInt64S_c zs zs _ _ _ (RdI.of_get (xs := zs) (o := ⟨_, _, 1, 2⟩) (by simp; rfl) (by simp) rfl rfl) (RdI.of_get (xs := zs) (get_old (prefix_get p6 y5)) (by simp) rfl rfl) hz) ?_
    simp -dsimp -implicitDefEqProofs [hO, optV, optM, hk, hq]
    refine callsTo Try.cal29 (heldInt64S_c zs.length 1 _ _ (RdMk.of_get zs.length (get_old (prefix_get p6 w5)) (by simp) rfl rfl) hz (by decide)) ?_
    simp -dsimp -implicitDefEqProofs [hO, optV, optM, hk, hq]
    exact GC.dropP (pre_app (pm5.trans p6) _) rfl rfl


set_option maxRecDepth 100000 in
theorem fnExactBestPricesLifted (os : Os) (started : os.Started) (H : Type) (enc : TypeId × Value → H) :
    ReturnsInHanded {} Try.checked os 6 .any (Rows.fnExactBestPricesSpec.pre6 enc Try.prog Try.f6 Rows.fnExactBestPricesRow.domain false) (Rows.fnExactBestPricesSpec.post enc Try.prog Try.f6 false true false false) :=
  lawLifted (C := Try.checked) [.one I64, .one (.sl [I64, I64, .sl [I64], .sl [I64]])] 3 4 (by kernel_rfl) started (by kernel_rfl) Try.func6
    (ChangeSpec.witness6 (enc := enc) (C := Try.checked) false ⟨#[], #[.int .i64 0,.slice none 0 0], []⟩ 8 (by kernel_rfl) (by kernel_rfl) (by kernel_rfl) (by kernel_rfl))
    (by kernel_rfl) (by kernel_rfl) (by kernel_rfl) rfl (by kernel_rfl) rfl (fun ds h => match ds, h with | [_, _], _ => rfl) fun m vs h => by
      obtain ⟨u0, u1, rfl, hv0, hv1⟩ := h.two
      obtain ⟨n, rfl, _⟩ := CV.int hv0
      obtain ⟨a, xs, rfl, hl1, ht1, hq1⟩ := CV.slM hv1
      exact ⟨_, lawBestPrices_c n xs a m hq1 hl1 ht1⟩

theorem fnExactBestPricesHolds : Rows.FnExactBestPricesSaid :=
  OpenClaim.holds_of_wide 6 Try.f6 rfl rfl rfl rfl rfl rfl rfl ⟨rfl, rfl, rfl, rfl, rfl⟩ rfl rfl rfl rfl rfl (by kernel_rfl) Try.func6 (by kernel_rfl)
    (of_decide_eq_true (by kernel_rfl)) (by unfold Func.isWrapper; first | (rw [if_pos (by decide +kernel)]; kernel_rfl) | (rw [if_neg (by decide +kernel)]; exact ⟨rfl, rfl⟩))
    (fun os started H enc _ => fnExactBestPricesLifted os started H enc)
end Go.Proofs.Ytciekhcdkfhcoaa
