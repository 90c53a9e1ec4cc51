/-
  Markets, part 8: a market as an argument of a law. Conditions: none.
-/
import Derived.Test.YtciekhcdkfhcoaaMkG
import Derived.Test.YtciekhcdkfhcoaaMkD
set_option linter.unusedSimpArgs false
set_option linter.unusedVariables false
set_option linter.unusedSectionVars false
namespace Go.Proofs.Ytciekhcdkfhcoaa
open Go.Abs Go.RowKit

theorem pre_of_get' {m m' : Mem} (h : ∀ (i : Nat) o, m[i]? = some o → m'[i]? = some o) : m <+: m' :=
  List.prefix_iff_getElem?.2 fun i hi => h i _ (List.getElem?_eq_getElem hi)
theorem AV.mkt {f : Nat} {m : Mem} {v : Value} (h : AV f m (.agg [I64, I64, .sl [I64], .sl [I64]]) v) : ∃ x : Mk, ∃ ad bd, v = .agg (mkRow4 x ad bd).toArray ∧ RdI m ad x.2.2.1 ∧ RdI m bd x.2.2.2 ∧ x.2.2.1.length ≤ maxLen ∧ x.2.2.2.length ≤ maxLen := by
  obtain ⟨cs, rfl, hl, hc⟩ := h
  obtain ⟨a, b, c, d, rfl⟩ := list4 hl
  obtain ⟨x, rfl, hx⟩ := CV.int (hc 0 _ _ rfl rfl)
  obtain ⟨y, rfl, hy⟩ := CV.int (hc 1 _ _ rfl rfl)
  obtain ⟨p, us, rfl, hu, hu2, _⟩ := CV.sl1 (hc 2 _ _ rfl rfl)
  obtain ⟨q, ws, rfl, hw, hw2, _⟩ := CV.sl1 (hc 3 _ _ rfl rfl)
  exact ⟨(x, y, us, ws), p, q, rfl, hu2, hw2, hu, hw⟩
def ToMk (x : Mk) (m : Mem) (v : Value) (m' : Mem) : Prop := ∃ j1 j2, v = .agg (mkRow4 x (some ⟨j1, 0, none⟩) (some ⟨j2, 0, none⟩)).toArray ∧ m <+: m' ∧ m.length ≤ j1 ∧ j1 < j2 ∧
      m'[j1]? = some ⟨x.2.2.1.map (Value.int .i64), 2, 1, 1⟩ ∧ m'[j2]? = some ⟨x.2.2.2.map (Value.int .i64), 2, 1, 1⟩
theorem toMarket_e (x : Mk) (ad bd : Option Addr) (m : Mem) (h1 : RdI m ad x.2.2.1) (h2 : RdI m bd x.2.2.2) (hn1 : x.2.2.1.length ≤ 1048576) (hn2 : x.2.2.2.length ≤ 1048576) :
    ∃ v m', ACalls Try.prog 20 [.agg (mkRow4 x ad bd).toArray] m v m' ∧ ToMk x m v m' := by
  refine ecalls_of_vc Try.func20 rfl Try.fol (by kernel_rfl) ?_
  simp only [Try.f20, mkRow4]
  simp -dsimp -implicitDefEqProofs
  refine callsTo Try.cal21 (toInt64S_c x.2.2.1 ad _ (h1.ext _) hn1) ?_
  simp -dsimp -implicitDefEqProofs
  refine callsTo Try.cal21 (toInt64S_c x.2.2.2 bd _ (h2.ext _) hn2) ?_
  simp -dsimp -implicitDefEqProofs
  exact ⟨_, _, GC.refl _ _ _, m.length + 3, m.length + 4, rfl, pre_app (pre_refl m) _, by omega, by omega, by simp, by simp⟩
def MarkPost (j1 j2 : Nat) (c : Int) (m : Mem) (v : Value) (m' : Mem) : Prop := v = .int .i64 c ∧ ∀ (i : Nat) o, i ≠ j1 → i ≠ j2 → m[i]? = some o → m'[i]? = some o
theorem markMarket_c (x : Mk) (j1 j2 : Nat) (b : Int) (m : Mem) (h1 : m[j1]? = some ⟨x.2.2.1.map (Value.int .i64), 2, 1, 1⟩) (h2 : m[j2]? = some ⟨x.2.2.2.map (Value.int .i64), 2, 1, 1⟩) (hne : j1 < j2) (hn1 : x.2.2.1.length ≤ 1048576) (hn2 : x.2.2.2.length ≤ 1048576) (hb : 0 ≤ b ∧ b ≤ 1000000) :
    ∃ v m', ACalls Try.prog 27 [.agg (mkRow4 x (some ⟨j1, 0, none⟩) (some ⟨j2, 0, none⟩)).toArray, .int .i64 b] m v m' ∧ MarkPost j1 j2 (b + x.2.2.1.length + x.2.2.2.length) m v m' := by
  have l1 := lt_of_get h1
  have l2 := lt_of_get h2
  have hg2 : ((m ++ [(⟨mkRow4 x (some ⟨j1, 0, none⟩) (some ⟨j2, 0, none⟩), 35, 4, 1⟩ : AObj)]).set j1 ⟨mkCells 1 b x.2.2.1.length, 2, 1, 1⟩)[j2]? = some ⟨x.2.2.2.map (Value.int .i64), 2, 1, 1⟩ := by
    rw [List.getElem?_set_ne (by omega)]; exact get_old h2
  have hbx : ((m ++ [(⟨mkRow4 x (some ⟨j1, 0, none⟩) (some ⟨j2, 0, none⟩), 35, 4, 1⟩ : AObj)]).set j1 ⟨mkCells 1 b x.2.2.1.length, 2, 1, 1⟩)[m.length]? = some ⟨mkRow4 x (some ⟨j1, 0, none⟩) (some ⟨j2, 0, none⟩), 35, 4, 1⟩ := by
    rw [List.getElem?_set_ne (by omega)]; simp
  simp only [mkRow4] at hg2 hbx
  refine ecalls_of_vc Try.func27 rfl Try.fol (by kernel_rfl) ?_
  simp only [Try.f27, mkRow4]
  simp -dsimp -implicitDefEqProofs
  refine callsTo Try.cal28 (markInt64S_c x.2.2.1 b j1 _ _ (get_old h1) rfl rfl (by simp) hn1 (by omega)) ?_
  simp -dsimp -implicitDefEqProofs [withO_of hbx]
  refine callsTo Try.cal28 (markInt64S_c x.2.2.2 (b + x.2.2.1.length) j2 _ _ hg2 rfl rfl (by simp) hn2 (by omega)) ?_
  simp -dsimp -implicitDefEqProofs [withO_of hbx]
  refine ⟨_, _, GC.refl _ _ _, rfl, fun i o h1 h2 h3 => ?_⟩
  rw [List.getElem?_set_ne (Ne.symm h2), List.getElem?_set_ne (Ne.symm h1)]
  exact get_old h3
end Go.Proofs.Ytciekhcdkfhcoaa
