/-
  'FnExactSameKinds': for every two lists of kinds the program's SameKinds returns what the reference's returns. Conditions: none.
-/
import Derived.Test.YtielbajlpnplaaaKinA
namespace Go.Proofs.Ytielbajlpnplaaa
open Go.Abs Go.RowKit

theorem specSame_c (xs ys : List I2) (a b : Option Addr) (m : Mem) (hr : RdG v2 2 m a xs) (hs : RdG v2 2 m b ys) (hn : xs.length ≤ 1048576) :
    ACalls Try.prog 24 [.slice a xs.length xs.length, .slice b ys.length ys.length] m (.bool (decide (xs = ys))) m := by
  refine acalls_of_vc Try.func24 rfl Try.fol (by kernel_rfl) ?_
  simp only [Try.f24]
  simp -dsimp -implicitDefEqProofs
  refine ⟨fun h => GC.eq ?_, fun h => ?_⟩
  · have : xs ≠ ys := by rintro rfl; simp at h
    simp [this]
  have hxy : xs.length = ys.length := by simp at h; omega
  refine loopT (fun c σ m' => ∃ k : Nat, c = xs.length - k ∧ k ≤ xs.length ∧ m' = m ∧ σ 0 = some (.slice a xs.length xs.length) ∧ σ 1 = some (.slice b ys.length ys.length) ∧ σ 5 = some (.int .i64 k) ∧ xs.take k = ys.take k) _
    ⟨0, rfl, Nat.zero_le _, rfl, by simp, by simp, by simp, by simp⟩ ?_
  rintro _ σ m' ⟨k, rfl, hk, rfl, s0, s1, si, ht⟩
  by_cases hlt : k < xs.length
  · have hlt' : k < ys.length := by omega
    obtain ⟨id, off, o, rfl, hm, hkd, hsz, hl, hrow, hc0, hc1⟩ := R2.at_ hr hlt
    obtain ⟨id', off', o', rfl, hm', hkd', hsz', hl', hrow', hc0', hc1'⟩ := R2.at_ hs hlt'
    simp -dsimp -implicitDefEqProofs [s0, s1, si, hlt, hlt', withO_of hm, hkd, hsz, hl, hrow, withO_of hm', hkd', hsz', hl', hrow', v2, litsEq, litEq]
    refine ⟨fun g => GC.eq ?_, fun g => ?_⟩
    · have hne : xs[k] ≠ ys[k] := by intro e; rw [e] at g; simp at g
      have : xs ≠ ys := by rintro rfl; exact hne rfl
      simp [this]
    · have he : xs[k] = ys[k] := by simp at g; exact Prod.ext g.1 g.2
      refine invT (xs.length - (k + 1)) (by omega) ⟨k + 1, rfl, by omega, rfl, by simp [s0], by simp [s1], ?_, take_succ_eq hlt hlt' ht he⟩
      simp
      exact wrapI (by omega) (by omega)
  · simp -dsimp -implicitDefEqProofs [s0, s1, si, hlt]
    refine GC.eq ?_
    rw [List.take_of_length_le (by omega), List.take_of_length_le (by omega)] at ht
    simp [ht]
theorem equal_c (xs ys : List I2) (a b : Option Addr) (m : Mem) (hr : RdG v2 2 m a xs) (hs : RdG v2 2 m b ys) (hn : xs.length ≤ 1048576) :
    ACalls Try.prog 44 [.slice a xs.length xs.length, .slice b ys.length ys.length] m (.bool (decide (xs = ys))) m := by
  refine acalls_of_vc Try.func44 rfl Try.fol (by kernel_rfl) ?_
  simp only [Try.f44]
  simp -dsimp -implicitDefEqProofs
  refine ⟨fun h => GC.eq ?_, fun h => ?_⟩
  · have : xs ≠ ys := by rintro rfl; simp at h
    simp [this]
  have hxy : xs.length = ys.length := by simp at h; omega
  refine loopT (fun c σ m' => ∃ k : Nat, c = xs.length - k ∧ k ≤ xs.length ∧ m' = m ∧ σ 0 = some (.slice a xs.length xs.length) ∧ σ 1 = some (.slice b ys.length ys.length) ∧ σ 12 = some (.int .i64 xs.length) ∧ σ 13 = some (.int .i64 k) ∧ xs.take k = ys.take k) _
    ⟨0, rfl, Nat.zero_le _, rfl, by simp, by simp, by simp, by simp, by simp⟩ ?_
  rintro _ σ m' ⟨k, rfl, hk, rfl, s0, s1, s12, si, ht⟩
  by_cases hlt : k < xs.length
  · have hlt' : k < ys.length := by omega
    obtain ⟨id, off, o, rfl, hm, hkd, hsz, hl, hrow, hc0, hc1⟩ := R2.at_ hr hlt
    obtain ⟨id', off', o', rfl, hm', hkd', hsz', hl', hrow', hc0', hc1'⟩ := R2.at_ hs hlt'
    simp -dsimp -implicitDefEqProofs [s0, s1, s12, si, hlt, hlt', withO_of hm, hkd, hsz, hl, hrow, withO_of hm', hkd', hsz', hl', hrow', v2, litsEq, litEq]
    refine ⟨fun g => GC.eq ?_, fun g => ?_⟩
    · have hne : xs[k] ≠ ys[k] := by intro e; rw [e] at g; simp at g
      have : xs ≠ ys := by rintro rfl; exact hne rfl
      simp [this]
    · have he : xs[k] = ys[k] := by simp at g; exact Prod.ext g.1 g.2
      refine invT (xs.length - (k + 1)) (by omega) ⟨k + 1, rfl, by omega, rfl, by simp [s0], by simp [s1], by simp [s12], ?_, take_succ_eq hlt hlt' ht he⟩
      simp
      exact wrapI (by omega) (by omega)
  · simp -dsimp -implicitDefEqProofs [s0, s1, s12, si, hlt]
    refine GC.eq ?_
    rw [List.take_of_length_le (by omega), List.take_of_length_le (by omega)] at ht
    simp [ht]
theorem implSame_c (xs ys : List I2) (a b : Option Addr) (m : Mem) (hr : RdG v2 2 m a xs) (hs : RdG v2 2 m b ys) (hn : xs.length ≤ 1048576) :
    ACalls Try.prog 25 [.slice a xs.length xs.length, .slice b ys.length ys.length] m (.bool (decide (xs = ys))) m := by
  refine acalls_of_vc Try.func25 rfl Try.fol (by kernel_rfl) ?_
  simp only [Try.f25]
  simp -dsimp -implicitDefEqProofs
  refine callsTo Try.cal44 (equal_c xs ys a b _ hr hs hn) ?_
  simp -dsimp -implicitDefEqProofs
  exact GC.refl _ _ _

theorem lawSame_c (xs ys : List I2) (a b : Option Addr) (m : Mem) (hr : RdG v2 2 m a xs) (hs : RdG v2 2 m b ys) (hn : xs.length ≤ maxLen) (hn' : ys.length ≤ maxLen) : ACalls Try.prog 8 [.slice a xs.length xs.length, .slice b ys.length ys.length] m (.bool true) m := by
  have hg : ∀ x, (v2 x).length = 2 := fun _ => rfl
  refine acalls_of_vc Try.func8 rfl Try.fol (by kernel_rfl) ?_
  simp only [Try.f8]
  simp -dsimp -implicitDefEqProofs
  refine callsTo Try.cal19 (szKindS_c a _ _ _ hn (by decide)) ?_
  simp -dsimp -implicitDefEqProofs
  refine ⟨fun _ => GC.refl _ _ _, fun g => ?_⟩
  obtain ⟨hl, he⟩ := leftI_ok g
  rw [he]
  refine callsTo Try.cal19 (szKindS_c b _ _ _ hn' (by omega)) ?_
  simp -dsimp -implicitDefEqProofs
  refine ⟨fun _ => GC.refl _ _ _, fun g' => ?_⟩
  have hl' := (leftI_ok g').1
  refine callsTo Try.cal21 (toKindS_c xs a _ hr (by omega)) ?_
  simp -dsimp -implicitDefEqProofs
  refine callsTo Try.cal21 (toKindS_c ys b _ (hs.ext _) (by omega)) ?_
  simp -dsimp -implicitDefEqProofs
  refine callsTo Try.cal24 (specSame_c xs ys _ _ _ (RdG.of_get hg (o := ⟨_, _, 2, 1⟩) xs (by simp; rfl) (by simp) rfl rfl) (RdG.of_get hg (o := ⟨_, _, 2, 1⟩) ys (by simp; rfl) (by simp) rfl rfl) (by omega)) ?_
  simp -dsimp -implicitDefEqProofs
  refine callsTo Try.cal21 (toKindS_c xs a _ (hr.ext _) (by omega)) ?_
  simp -dsimp -implicitDefEqProofs
  refine callsTo Try.cal21 (toKindS_c ys b _ (hs.ext _) (by omega)) ?_
  simp -dsimp -implicitDefEqProofs
  refine callsTo Try.cal25 (implSame_c xs ys _ _ _ (RdG.of_get hg (o := ⟨_, _, 2, 1⟩) xs (by simp; rfl) (by simp) rfl rfl) (RdG.of_get hg (o := ⟨_, _, 2, 1⟩) ys (by simp; rfl) (by simp) rfl rfl) (by omega)) ?_
  simp -dsimp -implicitDefEqProofs
  refine callsTo Try.cal21 (toKindS_c xs a _ (hr.ext _) (by omega)) ?_
  simp -dsimp -implicitDefEqProofs
  refine callsTo Try.cal23 (eqKindS_c xs xs _ _ _ (RdG.of_get hg (o := ⟨_, _, 2, 1⟩) xs (by simp; rfl) (by simp) rfl rfl) (RdG.of_get hg (o := ⟨_, _, 2, 1⟩) xs (by simp; rfl) (by simp) rfl rfl) (by omega)) ?_
  simp -dsimp -implicitDefEqProofs
  refine callsTo Try.cal21 (toKindS_c ys b _ (hs.ext _) (by omega)) ?_
  simp -dsimp -implicitDefEqProofs
  refine callsTo Try.cal23 (eqKindS_c ys ys _ _ _ (RdG.of_get hg (o := ⟨_, _, 2, 1⟩) ys (by simp; rfl) (by simp) rfl rfl) (RdG.of_get hg (o := ⟨_, _, 2, 1⟩) ys (by simp; rfl) (by simp) rfl rfl) (by omega)) ?_
  simp -dsimp -implicitDefEqProofs
  exact GC.dropEq rfl rfl

set_option maxRecDepth 100000 in
theorem fnExactSameKindsLifted (os : Os) (started : os.Started) (H : Type) (enc : TypeId × Value → H) :
    ReturnsInHanded {} Try.checked os 8 .any (Rows.fnExactSameKindsSpec.pre6 enc Try.prog Try.f8 Rows.fnExactSameKindsRow.domain false) (Rows.fnExactSameKindsSpec.post enc Try.prog Try.f8 false true false false) :=
  lawLifted (C := Try.checked) [.one (.sl [I64, I64]), .one (.sl [I64, I64])] 3 4 (by kernel_rfl) started (by kernel_rfl) Try.func8
    (ChangeSpec.witness6 (enc := enc) (C := Try.checked) false ⟨#[], #[.slice none 0 0,.slice none 0 0], []⟩ 8 (by kernel_rfl) (by kernel_rfl) (by kernel_rfl) (by kernel_rfl))
    (by kernel_rfl) (by kernel_rfl) (by kernel_rfl) rfl (by kernel_rfl) rfl (fun ds h => match ds, h with | [_, _], _ => rfl) fun m vs h => by
      obtain ⟨u, v, rfl, hu, hv⟩ := h.two
      obtain ⟨a, xs, rfl, hl, hr, _⟩ := CV.sl2 hu
      obtain ⟨b, ys, rfl, hl', hs, _⟩ := CV.sl2 hv
      exact ⟨_, lawSame_c xs ys a b m hr hs hl hl'⟩

theorem fnExactSameKindsHolds : Rows.FnExactSameKindsSaid :=
  OpenClaim.holds_of_wide 8 Try.f8 rfl rfl rfl rfl rfl rfl rfl ⟨rfl, rfl, rfl, rfl, rfl⟩ rfl rfl rfl rfl rfl (by kernel_rfl) Try.func8 (by kernel_rfl)
    (of_decide_eq_true (by kernel_rfl)) (by unfold Func.isWrapper; first | (rw [if_pos (by decide +kernel)]; kernel_rfl) | (rw [if_neg (by decide +kernel)]; exact ⟨rfl, rfl⟩))
    (fun os started H enc _ => fnExactSameKindsLifted os started H enc)
end Go.Proofs.Ytielbajlpnplaaa
