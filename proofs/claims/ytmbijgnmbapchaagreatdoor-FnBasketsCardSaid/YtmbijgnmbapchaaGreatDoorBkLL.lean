/-
  Baskets, part 38: whether baskets are the same, both ways, in general. Conditions: none.
-/
import Derived.Test.YtmbijgnmbapchaaGreatDoorBkA
set_option linter.unusedSimpArgs false
set_option linter.unusedVariables false
set_option linter.unusedSectionVars false
namespace Go.Proofs.YtmbijgnmbapchaaGreatDoor
open Go.Abs Go.RowKit

theorem take_ne {α : Type} {xs ys : List α} {k : Nat} (h : k < xs.length) (h' : k < ys.length) (hne : ¬ xs[k] = ys[k]) : ¬ xs = ys := by
  rintro rfl; exact hne rfl
theorem equalL_c (xs ys : List LyT) (a b : Option Addr) (m : Mem) (hr : RdG vl 2 m a xs) (hs : RdG vl 2 m b ys) (hn : xs.length ≤ 1048576) :
    ACalls Tryz.prog 34 [.slice a xs.length xs.length, .slice b ys.length ys.length] m (.bool (decide (xs = ys))) m := by
  refine acalls_of_vc Tryz.func34 rfl Tryz.fol (by kernel_rfl) ?_
  simp only [Tryz.f34]
  simp -dsimp -implicitDefEqProofs
  refine ⟨fun h => GC.eq ?_, fun h => ?_⟩
  · have : xs ≠ ys := by rintro rfl; simp at h
    simp [this]
  have hxy : xs.length = ys.length := by simp at h; omega
  refine loopN xs.length (fun k σ m' => m' = m ∧ (σ 0 = some (.slice a xs.length xs.length) ∧ σ 1 = some (.slice b ys.length ys.length) ∧ σ 12 = some (.int .i64 xs.length) ∧ σ 13 = some (.int .i64 k)) ∧ xs.take k = ys.take k) ⟨rfl, by simp, by simp⟩ ?_
  rintro k σ m' hk ⟨rfl, ⟨s0, s1, s12, s13⟩, ht⟩
  by_cases hlt : k < xs.length
  · have hlt' : k < ys.length := by omega
    obtain ⟨id, off, o, rfl, hm, hkd, hsz, hl, hrow, _⟩ := RL.at_ hr hlt
    obtain ⟨id', off', o', rfl, hm', hkd', hsz', hl', hrow', _⟩ := RL.at_ hs hlt'
    have hw : IntKind.i64.wrap ((k : Int) + 1) = k + 1 := wrapI (by omega) (by omega)
    have hne := take_ne hlt hlt'
    have hsu := take_succ_eq hlt hlt' ht
    obtain ⟨⟨x1, x2⟩, hx⟩ : ∃ p, p = xs[k] := ⟨_, rfl⟩
    obtain ⟨⟨y1, y2⟩, hy⟩ : ∃ p, p = ys[k] := ⟨_, rfl⟩
    rw [← hx] at hrow hne hsu
    rw [← hy] at hrow' hne hsu
    simp only [vl] at hrow hrow'
    simp -dsimp -implicitDefEqProofs [s0, s1, s12, s13, hlt, hlt', withO_of hm, hkd, hsz, hl, hrow, withO_of hm', hkd', hsz', hl', hrow', hw, Abs.litsEq, Abs.litEq, bytes_beq]
    refine sp2 (fun g => GC.eq ?_) (fun g => ?_)
    · have : ¬ xs = ys := hne (fun e => by injection e with e1 e2; subst e1; subst e2; simp at g)
      simp [this]
    · have e : ((x1, x2) : LyT) = (y1, y2) := by simp at g; rw [g.1, g.2]
      exact next_ hlt ⟨rfl, by simp [s0, s1, s12, hw], hsu e⟩
  · simp -dsimp -implicitDefEqProofs [s0, s1, s12, s13, hlt]
    refine GC.eq ?_
    rw [List.take_of_length_le (by omega), List.take_of_length_le (by omega)] at ht
    simp [ht]
theorem implSame_c (st st' : Int) (ls ls' : List LyT) (b b' : ByteArray) (A A' : Option Addr) (m : Mem) (hr : RdG vl 2 m A ls) (hr' : RdG vl 2 m A' ls') (hn : ls.length ≤ 1048576) :
    ACalls Tryz.prog 14 [.agg (bkC st A ls.length b).toArray, .agg (bkC st' A' ls'.length b').toArray] m (.bool (decide (st = st' ∧ ls = ls' ∧ b = b'))) m := by
  obtain ⟨m1, hm1⟩ : ∃ m1 : Mem, m1 = m ++ [⟨[.int .i64 st, .slice A ls.length ls.length, .string b], 27, 3, 1⟩, ⟨[.int .i64 st', .slice A' ls'.length ls'.length, .string b'], 27, 3, 1⟩] := ⟨_, rfl⟩
  have hm1' := hm1.symm
  have hp1 : m <+: m1 := by rw [hm1]; exact ⟨_, rfl⟩
  have t1 : m1[m.length]? = some ⟨[.int .i64 st, .slice A ls.length ls.length, .string b], 27, 3, 1⟩ := by rw [hm1]; simp
  have t2 : m1[m.length + 1]? = some ⟨[.int .i64 st', .slice A' ls'.length ls'.length, .string b'], 27, 3, 1⟩ := by rw [hm1]; simp
  have hE := equalL_c ls ls' A A' m1 (hr.pre hp1) (hr'.pre hp1) hn
  by_cases hs : st = st'
  · have e1 : (st == st') = true := by simpa using hs
    by_cases hl : ls = ls'
    · have hd : decide (ls = ls') = true := decide_eq_true hl
      rw [hd] at hE
      refine acalls_of_vc Tryz.func14 rfl Tryz.fol (by kernel_rfl) ?_
      simp only [Tryz.f14, bkC]
      simp -dsimp -implicitDefEqProofs [hm1', withO_of t1, withO_of t2, e1, bytes_beq]
      refine callsTo Tryz.cal34 hE ?_
      simp -dsimp -implicitDefEqProofs [hm1', withO_of t1, withO_of t2, e1, bytes_beq]
      exact GC.dropP hp1 (by simp [hs, hl]) rfl
    · have hd : decide (ls = ls') = false := decide_eq_false hl
      rw [hd] at hE
      refine acalls_of_vc Tryz.func14 rfl Tryz.fol (by kernel_rfl) ?_
      simp only [Tryz.f14, bkC]
      simp -dsimp -implicitDefEqProofs [hm1', withO_of t1, withO_of t2, e1, bytes_beq]
      refine callsTo Tryz.cal34 hE ?_
      simp -dsimp -implicitDefEqProofs [hm1', withO_of t1, withO_of t2, e1, bytes_beq]
      exact GC.dropP hp1 (by simp [hl]) rfl
  · have e1 : (st == st') = false := beq_eq_false_iff_ne.2 hs
    refine acalls_of_vc Tryz.func14 rfl Tryz.fol (by kernel_rfl) ?_
    simp only [Tryz.f14, bkC]
    simp -dsimp -implicitDefEqProofs [hm1', withO_of t1, withO_of t2, e1, bytes_beq]
    exact GC.dropP hp1 (by simp [hs]) rfl
theorem specSame_c (st st' : Int) (ls ls' : List LyT) (b b' : ByteArray) (A A' : Option Addr) (m : Mem) (hr : RdG vl 2 m A ls) (hr' : RdG vl 2 m A' ls') (hn : ls.length ≤ 1048576) :
    ACalls Tryz.prog 12 [.agg (bkC st A ls.length b).toArray, .agg (bkC st' A' ls'.length b').toArray] m (.bool (decide (st = st' ∧ ls = ls' ∧ b = b'))) m := by
  obtain ⟨m1, hm1⟩ : ∃ m1 : Mem, m1 = m ++ [⟨[.int .i64 st, .slice A ls.length ls.length, .string b], 27, 3, 1⟩, ⟨[.int .i64 st', .slice A' ls'.length ls'.length, .string b'], 27, 3, 1⟩] := ⟨_, rfl⟩
  have hm1' := hm1.symm
  have hp1 : m <+: m1 := by rw [hm1]; exact ⟨_, rfl⟩
  have t1 : m1[m.length]? = some ⟨[.int .i64 st, .slice A ls.length ls.length, .string b], 27, 3, 1⟩ := by rw [hm1]; simp
  have t2 : m1[m.length + 1]? = some ⟨[.int .i64 st', .slice A' ls'.length ls'.length, .string b'], 27, 3, 1⟩ := by rw [hm1]; simp
  have hr1 := hr.pre hp1
  have hr2 := hr'.pre hp1
  refine acalls_of_vc Tryz.func12 rfl Tryz.fol (by kernel_rfl) ?_
  simp only [Tryz.f12, bkC]
  simp -dsimp -implicitDefEqProofs [hm1', withO_of t1, withO_of t2, bytes_beq]
  refine ⟨fun g => GC.dropP hp1 (by have : ¬ st = st' := by simpa using g
                                    simp [this]) rfl, fun g => ⟨fun g2 => GC.dropP hp1 (by have : ¬ b = b' := by simpa using g2
                                                                                           simp [this]) rfl, fun g2 => ⟨fun g3 => GC.dropP hp1 (by have : ¬ ls = ls' := by rintro rfl; simp at g3
                                                                                                                                                   simp [this]) rfl, fun g3 => ?_⟩⟩⟩
  have hst : st = st' := by simpa using g
  have hb : b = b' := by simpa using g2
  have hxy : ls.length = ls'.length := by simp at g3; omega
  refine loopN ls.length (fun k σ m' => m' = m1 ∧ (σ 2 = some (.pointer (some ⟨m.length, 0, none⟩)) ∧ σ 3 = some (.pointer (some ⟨m.length + 1, 0, none⟩)) ∧ σ 5 = some (.int .i64 k)) ∧ ls.take k = ls'.take k) ⟨rfl, ⟨by simp, by simp, by simp⟩, by simp⟩ ?_
  rintro k σ m' hk ⟨hmm, ⟨s2, s3, s5⟩, ht⟩
  have hmm := hmm.symm
  subst hmm
  by_cases hlt : k < ls.length
  · have hlt' : k < ls'.length := by omega
    obtain ⟨lid, loff, lo, rfl, hlm, hlk, hlsz, hll, hlrow, hlc0, hlc1⟩ := RL.at_ hr1 hlt
    obtain ⟨rid, roff, ro, rfl, hrm, hrk, hrsz, hrl, hrrow, hrc0, hrc1⟩ := RL.at_ hr2 hlt'
    have hw : IntKind.i64.wrap ((k : Int) + 1) = k + 1 := wrapI (by omega) (by omega)
    have hne := take_ne hlt hlt'
    have hsu := take_succ_eq hlt hlt' ht
    obtain ⟨⟨x1, x2⟩, hx⟩ : ∃ p, p = ls[k] := ⟨_, rfl⟩
    obtain ⟨⟨y1, y2⟩, hy⟩ : ∃ p, p = ls'[k] := ⟨_, rfl⟩
    rw [← hx] at hlrow hne hsu
    rw [← hy] at hrrow hne hsu
    simp only [vl] at hlrow hrrow
    simp -dsimp -implicitDefEqProofs [s2, s3, s5, hlt, hlt', withO_of t1, withO_of t2, withO_of hlm, hlk, hlsz, hll, hlrow, withO_of hrm, hrk, hrsz, hrl, hrrow, hw, Abs.litsEq, Abs.litEq, bytes_beq]
    refine sp2 (fun g => GC.dropP hp1 ?_ rfl) (fun g => ?_)
    · have : ¬ ls = ls' := hne (fun e => by injection e with e1 e2; subst e1; subst e2; simp at g)
      simp [this]
    · have e : ((x1, x2) : LyT) = (y1, y2) := by simp at g; rw [g.1, g.2]
      exact next_ hlt ⟨rfl, ⟨by simp [s2], by simp [s3], by simp [hw]⟩, hsu e⟩
  · simp -dsimp -implicitDefEqProofs [s2, s3, s5, hlt, withO_of t1, withO_of t2]
    rw [List.take_of_length_le (by omega), List.take_of_length_le (by omega)] at ht
    exact GC.dropP hp1 (by simp [hst, hb, ht]) rfl
end Go.Proofs.YtmbijgnmbapchaaGreatDoor
