/-
  Baskets, part 19: rounds of a basket, and the layer at a round. Conditions: none.
-/
import Derived.Test.YtmbijgnmbapchaaDoorBkE
set_option linter.unusedSimpArgs false
set_option linter.unusedVariables false
set_option linter.unusedSectionVars false
namespace Go.Proofs.YtmbijgnmbapchaaDoor
open Go.Abs Go.RowKit

/-- The rounds of the first layers. -/
def sumR (ls : List LyT) : Int := (ls.map (·.2)).sum
theorem sumR_snoc (ls : List LyT) (p : LyT) : sumR (ls ++ [p]) = sumR ls + p.2 := by simp [sumR]
theorem sumR_succ {ls : List LyT} {k : Nat} (h : k < ls.length) : sumR (ls.take (k + 1)) = sumR (ls.take k) + ls[k].2 := by
  rw [List.take_add_one, List.getElem?_eq_getElem h, Option.toList_some, sumR_snoc]
/-- Layers as they are in a basket that holds. -/
def GoodL (ls : List LyT) : Prop := ls.length ≤ 40 ∧ ∀ p ∈ ls, strokeB p.1 = true ∧ 1 ≤ p.2 ∧ p.2 ≤ 100
theorem okB_good {st : Int} {ls : List LyT} {b : ByteArray} (h : okB st ls b = true) : GoodL ls ∧ (ls ≠ [] → 3 ≤ st ∧ st ≤ 60) := by
  by_cases h0 : st = 0
  · subst h0
    have : ls = [] := by
      have h' := h
      simp [okB] at h'
      exact h'.1
    subst this
    exact ⟨⟨by simp, by simp⟩, fun h => absurd rfl h⟩
  · have hin : inB st 3 60 = true := by
      cases hc : inB st 3 60
      · simp [okB, h0, hc] at h
      · rfl
    have h2 := okB_lays (ls := ls) (b := b) (.inr hin)
    rw [h] at h2
    have h3 : laysTo st ls ls.length = true := by
      have := h2.symm
      simp only [Bool.and_eq_true] at this
      exact this.1
    refine ⟨⟨laysTo_le h3, fun p hp => ?_⟩, fun _ => by simpa [inB] using hin⟩
    obtain ⟨i, hi, rfl⟩ := List.getElem_of_mem hp
    have h4 : layerK st i B0 ls[i] = 0 := by
      unfold laysTo at h3
      rw [List.all_eq_true] at h3
      have := h3 i (by simpa using hi)
      rw [getL hi] at this
      simpa using this
    unfold layerK at h4
    split at h4
    · cases h4
    · rename_i g1
      split at h4
      · cases h4
      · rename_i g2
        have g2' : inB ls[i].2 1 100 = true := by simpa using g2
        exact ⟨by simpa using g1, by simpa [inB] using g2'⟩
theorem GoodL.take {ls : List LyT} (h : GoodL ls) (k : Nat) : GoodL (ls.take k) := ⟨by have := List.length_take_le k ls; have := h.1; have := List.length_take_le' k ls; omega, fun p hp => h.2 p (List.mem_of_mem_take hp)⟩
theorem sumR_le : ∀ {ls : List LyT}, (∀ p ∈ ls, 1 ≤ p.2 ∧ p.2 ≤ 100) → 0 ≤ sumR ls ∧ sumR ls ≤ 100 * (ls.length : Int)
  | [], _ => by simp [sumR]
  | p :: ls, h => by
    have h1 := h p (by simp)
    have h2 := sumR_le (ls := ls) fun q hq => h q (by simp [hq])
    have e : sumR (p :: ls) = p.2 + sumR ls := by simp [sumR]
    rw [e, List.length_cons]
    omega
theorem GoodL.sum {ls : List LyT} (h : GoodL ls) : 0 ≤ sumR ls ∧ sumR ls ≤ 4000 := by
  have := sumR_le (ls := ls) fun p hp => (h.2 p hp).2
  have := h.1
  omega
theorem l17Rounds_c (st : Int) (ls : List LyT) (b : ByteArray) (A : Option Addr) (xi : Nat) (ty : TypeId) (kd : Nat) (m : Mem) (hx : m[xi]? = some ⟨bkC st A ls.length b, ty, 3, kd⟩) (hk : kd ≤ 2) (hr : RdG vl 2 m A ls) (hg : GoodL ls) :
    ACalls Tryd.prog 77 [.pointer (some ⟨xi, 0, none⟩)] m (.int .i64 (sumR ls)) m := by
  simp only [bkC] at hx
  have hx' := fun l => withO_of (get_old (l := l) hx)
  refine acalls_of_vc Tryd.func77 rfl Tryd.fol (by kernel_rfl) ?_
  simp only [Tryd.f77]
  simp -dsimp -implicitDefEqProofs [withO_of hx, hk]
  refine loopN ls.length (fun k σ m' => m' = m ∧ σ 0 = some (.pointer (some ⟨xi, 0, none⟩)) ∧ σ 3 = some (.int .i64 (sumR (ls.take k))) ∧ σ 4 = some (.int .i64 k)) ⟨rfl, by simp, by simp [sumR], by simp⟩ ?_
  rintro k σ m' hk' ⟨rfl, s0, s3, s4⟩
  by_cases hlt : k < ls.length
  · obtain ⟨lid, loff, lo, rfl, hlm, hlk, hlsz, hll, hlrow, hlc0, hlc1⟩ := RL.at_ hr hlt
    have hs1 := (hg.take (k + 1)).sum
    have hg40 := hg.1
    have hw : IntKind.i64.wrap ((k : Int) + 1) = k + 1 := wrapI (by omega) (by omega)
    have hw2 : IntKind.i64.wrap (sumR (ls.take k) + ls[k].2) = sumR (ls.take (k + 1)) := by rw [← sumR_succ hlt]; exact wrapI (by omega) (by omega)
    simp -dsimp -implicitDefEqProofs [s0, s3, s4, hlt, withO_of hx, hk, withO_of hlm, hlk, hlsz, withC_of hlc1, hw, hw2]
    exact next_ hlt ⟨rfl, by simp [s0], by simp, by simp [hw]⟩
  · simp -dsimp -implicitDefEqProofs [s0, s3, s4, hlt, withO_of hx, hk]
    rw [List.take_of_length_le (by omega)]
    exact GC.refl _ _ _
def roundsBV (st : Int) (ls : List LyT) (b : ByteArray) : Value := .tuple #[.int .i64 (if okB st ls b then sumR ls else 0), .int .i64 (if okB st ls b then 0 else 1)]
theorem specRoundsB_c (st : Int) (ls : List LyT) (b : ByteArray) (A : Option Addr) (m : Mem) (hr : RdG vl 2 m A ls) (hn : ls.length ≤ 1048576) (hs : ∀ p ∈ ls, p.1.size ≤ maxLen) (hb : b.size ≤ maxLen) :
    ACalls Tryd.prog 34 [.agg (bkC st A ls.length b).toArray] m (roundsBV st ls b) m := by
  obtain ⟨m1, hm1⟩ : ∃ m1 : Mem, m1 = m ++ [⟨bkC st A ls.length b, 29, 3, 1⟩] := ⟨_, rfl⟩
  have hm1' := hm1.symm
  have t1 : m1[m.length]? = some ⟨bkC st A ls.length b, 29, 3, 1⟩ := by rw [hm1]; simp
  have hr1 : RdG vl 2 m1 A ls := by rw [hm1]; exact hr.ext _
  have e1 := l17Ok_c st ls b A m.length _ m1 t1 (by simp) rfl hr1 hn hs hb
  simp only [bkC] at hm1'
  refine acalls_of_vc Tryd.func34 rfl Tryd.fol (by kernel_rfl) ?_
  simp only [Tryd.f34, bkC]
  simp -dsimp -implicitDefEqProofs [hm1']
  refine callsTo Tryd.cal56 e1 ?_
  simp -dsimp -implicitDefEqProofs [hm1']
  cases hok : okB st ls b
  · simp -dsimp -implicitDefEqProofs [hm1']
    exact GC.dropP (by rw [hm1]; exact ⟨_, rfl⟩) (by simp [roundsBV, hok]) rfl
  · simp -dsimp -implicitDefEqProofs [hm1']
    refine callsTo Tryd.cal77 (l17Rounds_c st ls b A m.length _ 1 m1 t1 (by decide) hr1 (okB_good hok).1) ?_
    simp -dsimp -implicitDefEqProofs [hm1']
    exact GC.dropP (by rw [hm1]; exact ⟨_, rfl⟩) (by simp [roundsBV, hok]) rfl
theorem implRoundsB_c (st : Int) (ls : List LyT) (b : ByteArray) (A : Option Addr) (m : Mem) (hr : RdG vl 2 m A ls) (hn : ls.length ≤ 1048576) (hs : ∀ p ∈ ls, p.1.size ≤ maxLen) (hb : b.size ≤ maxLen) :
    ACalls Tryd.prog 33 [.agg (bkC st A ls.length b).toArray] m (roundsBV st ls b) m := by
  obtain ⟨m1, hm1⟩ : ∃ m1 : Mem, m1 = m ++ [⟨bkC st A ls.length b, 29, 3, 1⟩] := ⟨_, rfl⟩
  have hm1' := hm1.symm
  have t1 : m1[m.length]? = some ⟨bkC st A ls.length b, 29, 3, 1⟩ := by rw [hm1]; simp
  have hr1 : RdG vl 2 m1 A ls := by rw [hm1]; exact hr.ext _
  have e1 := validBasket_c st ls b A m1 hr1 hn hs hb
  simp only [bkC] at hm1' e1 t1
  refine acalls_of_vc Tryd.func33 rfl Tryd.fol (by kernel_rfl) ?_
  simp only [Tryd.f33, bkC]
  simp -dsimp -implicitDefEqProofs [hm1', withO_of t1]
  refine callsTo Tryd.cal59 e1 ?_
  simp -dsimp -implicitDefEqProofs [hm1', withO_of t1]
  cases hok : okB st ls b
  · simp -dsimp -implicitDefEqProofs [hm1', withO_of t1]
    exact GC.dropP (by rw [hm1]; exact ⟨_, rfl⟩) (by simp [roundsBV, hok]) rfl
  · have hg := (okB_good hok).1
    simp -dsimp -implicitDefEqProofs [hm1', withO_of t1]
    refine loopN ls.length (fun k σ m' => m1 <+: m' ∧ σ 4 = some (.int .i64 (sumR (ls.take k))) ∧ σ 11 = some (.slice A ls.length ls.length) ∧ σ 12 = some (.int .i64 ls.length) ∧ σ 13 = some (.int .i64 k)) ⟨pre_refl _, by simp [sumR], by simp, by simp, by simp⟩ ?_
    rintro k σ m' hk' ⟨hp, s4, s11, s12, s13⟩
    by_cases hlt : k < ls.length
    · obtain ⟨lid, loff, lo, rfl, hlm, hlk, hlsz, hll, hlrow, hlc0, hlc1⟩ := RL.at_ (hr1.pre hp) hlt
      have hs1 := (hg.take (k + 1)).sum
      have hg40 := hg.1
      have hw : IntKind.i64.wrap ((k : Int) + 1) = k + 1 := wrapI (by omega) (by omega)
      have hw2 : IntKind.i64.wrap (sumR (ls.take k) + ls[k].2) = sumR (ls.take (k + 1)) := by rw [← sumR_succ hlt]; exact wrapI (by omega) (by omega)
      simp -dsimp -implicitDefEqProofs [s4, s11, s12, s13, hlt, withO_of hlm, fun l => withO_of (get_old (l := l) hlm), hlk, hlsz, hll, hlrow, vl, madeL, hw, hw2]
      exact next_ hlt ⟨hp.trans ⟨_, rfl⟩, by simp, by simp [s11], by simp [s12], by simp [hw]⟩
    · simp -dsimp -implicitDefEqProofs [s4, s11, s12, s13, hlt]
      rw [List.take_of_length_le (by omega)]
      exact GC.dropP (List.IsPrefix.trans (by rw [hm1]; exact ⟨_, rfl⟩) hp) (by simp [roundsBV, hok]) rfl
end Go.Proofs.YtmbijgnmbapchaaDoor
namespace Go.Proofs.YtmbijgnmbapchaaDoor
open Go.Abs Go.RowKit

def AtP (st : Int) (ls : List LyT) (b : ByteArray) (n : Int) (v : Value) : Prop :=
  (okB st ls b = false ∧ v = .tuple #[.int .i64 0, .int .i64 1]) ∨ (okB st ls b = true ∧ (n < 0 ∨ sumR ls ≤ n) ∧ v = .tuple #[.int .i64 0, .int .i64 2]) ∨
  ∃ i : Nat, okB st ls b = true ∧ i < ls.length ∧ sumR (ls.take i) ≤ n ∧ n < sumR (ls.take (i + 1)) ∧ v = .tuple #[.int .i64 i, .int .i64 0]
def AtQ (st : Int) (ls : List LyT) (b : ByteArray) (n : Int) (m : Mem) (v : Value) (m' : Mem) : Prop := AtP st ls b n v ∧ m <+: m'
theorem specAt_c (st : Int) (ls : List LyT) (b : ByteArray) (A : Option Addr) (n : Int) (m : Mem) (hr : RdG vl 2 m A ls) (hn : ls.length ≤ 1048576) (hs : ∀ p ∈ ls, p.1.size ≤ maxLen) (hb : b.size ≤ maxLen) (hnn : -1000 ≤ n ∧ n ≤ 1000) :
    ∃ v m', ACalls Tryd.prog 31 [.agg (bkC st A ls.length b).toArray, .int .i64 n] m v m' ∧ AtQ st ls b n m v m' := by
  obtain ⟨m1, hm1⟩ : ∃ m1 : Mem, m1 = m ++ [⟨bkC st A ls.length b, 29, 3, 1⟩] := ⟨_, rfl⟩
  have hm1' := hm1.symm
  have hp1 : m <+: m1 := by rw [hm1]; exact ⟨_, rfl⟩
  have t1 : m1[m.length]? = some ⟨bkC st A ls.length b, 29, 3, 1⟩ := by rw [hm1]; simp
  have hr1 : RdG vl 2 m1 A ls := by rw [hm1]; exact hr.ext _
  have e1 := l17Ok_c st ls b A m.length _ m1 t1 (by simp) rfl hr1 hn hs hb
  have t1' := t1
  simp only [bkC] at hm1' t1'
  refine ecalls_of_vc Tryd.func31 rfl Tryd.fol (by kernel_rfl) ?_
  simp only [Tryd.f31, bkC]
  simp -dsimp -implicitDefEqProofs [hm1']
  refine callsTo Tryd.cal56 e1 ?_
  simp -dsimp -implicitDefEqProofs [hm1']
  cases hok : okB st ls b
  · simp -dsimp -implicitDefEqProofs [hm1']
    exact ⟨_, _, GC.refl _ _ _, .inl ⟨hok, rfl⟩, hp1⟩
  · have hg := (okB_good hok).1
    have hg40 := hg.1
    have hsum := hg.sum
    have hw1 : IntKind.i64.wrap (sumR ls - 1) = sumR ls - 1 := wrapI (by omega) (by omega)
    simp -dsimp -implicitDefEqProofs [hm1', hw1]
    refine callsTo Tryd.cal77 (l17Rounds_c st ls b A m.length _ 1 m1 t1 (by decide) hr1 hg) ?_
    simp -dsimp -implicitDefEqProofs [hm1', hw1]
    refine callsTo Tryd.cal62 (l00In_c _ _ _ _) ?_
    simp -dsimp -implicitDefEqProofs [hm1', hw1]
    cases hin : inB n 0 (sumR ls - 1)
    · simp -dsimp -implicitDefEqProofs [hm1', hw1]
      refine ⟨_, _, GC.refl _ _ _, ?_, hp1⟩
      exact .inr (.inl ⟨hok, by simp [inB] at hin; omega, rfl⟩)
    · have hin' : 0 ≤ n ∧ n ≤ sumR ls - 1 := by simpa [inB] using hin
      simp -dsimp -implicitDefEqProofs [hm1', hw1]
      refine loopN ls.length (fun k σ m' => m' = m1 ∧ sumR (ls.take k) ≤ n ∧ σ 1 = some (.int .i64 (n - sumR (ls.take k))) ∧ σ 2 = some (.pointer (some ⟨m.length, 0, none⟩)) ∧ σ 6 = some (.int .i64 k)) ⟨rfl, by simp [sumR]; omega, by simp [sumR], by simp, by simp⟩ ?_
      rintro k σ m' hk' ⟨hmm, hle, s1, s2, s6⟩
      have hmm := hmm.symm
      subst hmm
      have hlt : k < ls.length := by
        rcases Nat.lt_or_ge k ls.length with h | h
        · exact h
        · rw [List.take_of_length_le h] at hle; omega
      obtain ⟨lid, loff, lo, rfl, hlm, hlk, hlsz, hll, hlrow, hlc0, hlc1⟩ := RL.at_ hr1 hlt
      have hs0 := (hg.take k).sum
      have hs1 := (hg.take (k + 1)).sum
      have hss := sumR_succ hlt
      obtain ⟨c, hc⟩ : ∃ c, c = sumR (ls.take k) := ⟨_, rfl⟩
      obtain ⟨y, hy⟩ : ∃ y, y = ls[k].2 := ⟨_, rfl⟩
      rw [← hy] at hss hlc1
      rw [← hc] at hss hs0 hle s1
      have hw : IntKind.i64.wrap ((k : Int) + 1) = k + 1 := wrapI (by omega) (by omega)
      have hw2 : IntKind.i64.wrap (n - c - y) = n - sumR (ls.take (k + 1)) := by rw [wrapI (by omega) (by omega)]; omega
      by_cases hge : y ≤ n - c
      · simp -dsimp -implicitDefEqProofs [s1, s2, s6, hlt, withO_of t1', withO_of hlm, hlk, hlsz, withC_of hlc1, hw, hw2, hge]
        exact next_ hlt ⟨rfl, by omega, by simp [hw2], by simp [s2], by simp [hw]⟩
      · simp -dsimp -implicitDefEqProofs [s1, s2, s6, hlt, withO_of t1', withO_of hlm, hlk, hlsz, withC_of hlc1, hw, hw2, hge]
        refine ⟨_, _, GC.refl _ _ _, ?_, hp1⟩
        exact .inr (.inr ⟨k, hok, hlt, by omega, by omega, rfl⟩)
theorem implAt_c (st : Int) (ls : List LyT) (b : ByteArray) (A : Option Addr) (n : Int) (m : Mem) (hr : RdG vl 2 m A ls) (hn : ls.length ≤ 1048576) (hs : ∀ p ∈ ls, p.1.size ≤ maxLen) (hb : b.size ≤ maxLen) (hnn : -1000 ≤ n ∧ n ≤ 1000) :
    ∃ v m', ACalls Tryd.prog 30 [.agg (bkC st A ls.length b).toArray, .int .i64 n] m v m' ∧ AtQ st ls b n m v m' := by
  obtain ⟨m1, hm1⟩ : ∃ m1 : Mem, m1 = m ++ [⟨bkC st A ls.length b, 29, 3, 1⟩] := ⟨_, rfl⟩
  have hm1' := hm1.symm
  have hp1 : m <+: m1 := by rw [hm1]; exact ⟨_, rfl⟩
  have t1 : m1[m.length]? = some ⟨bkC st A ls.length b, 29, 3, 1⟩ := by rw [hm1]; simp
  have hr1 : RdG vl 2 m1 A ls := by rw [hm1]; exact hr.ext _
  have e1 := validBasket_c st ls b A m1 hr1 hn hs hb
  simp only [bkC] at hm1' e1 t1
  refine ecalls_of_vc Tryd.func30 rfl Tryd.fol (by kernel_rfl) ?_
  simp only [Tryd.f30, bkC]
  simp -dsimp -implicitDefEqProofs [hm1', withO_of t1]
  refine callsTo Tryd.cal59 e1 ?_
  simp -dsimp -implicitDefEqProofs [hm1', withO_of t1]
  cases hok : okB st ls b
  · simp -dsimp -implicitDefEqProofs [hm1', withO_of t1]
    exact ⟨_, _, GC.refl _ _ _, .inl ⟨hok, rfl⟩, hp1⟩
  · have hg := (okB_good hok).1
    have hg40 := hg.1
    have hsum := hg.sum
    simp -dsimp -implicitDefEqProofs [hm1', withO_of t1]
    refine loopN ls.length (fun k σ m' => m1 <+: m' ∧ (n < 0 ∨ sumR (ls.take k) ≤ n) ∧ σ 1 = some (.int .i64 (n - sumR (ls.take k))) ∧ σ 12 = some (.slice A ls.length ls.length) ∧ σ 13 = some (.int .i64 ls.length) ∧ σ 14 = some (.int .i64 k)) ⟨pre_refl _, by simp [sumR]; omega, by simp [sumR], by simp, by simp, by simp⟩ ?_
    rintro k σ m' hk' ⟨hp, hle, s1, s12, s13, s14⟩
    by_cases hlt : k < ls.length
    · obtain ⟨lid, loff, lo, rfl, hlm, hlk, hlsz, hll, hlrow, hlc0, hlc1⟩ := RL.at_ (hr1.pre hp) hlt
      have hs0 := (hg.take k).sum
      have hs1 := (hg.take (k + 1)).sum
      have hss := sumR_succ hlt
      obtain ⟨c, hc⟩ : ∃ c, c = sumR (ls.take k) := ⟨_, rfl⟩
      rw [← hc] at hss hs0 hle s1
      have hw : IntKind.i64.wrap ((k : Int) + 1) = k + 1 := wrapI (by omega) (by omega)
      have hw2 : IntKind.i64.wrap (n - c - ls[k].2) = n - sumR (ls.take (k + 1)) := by rw [wrapI (by omega) (by omega)]; omega
      by_cases h0 : c ≤ n
      · by_cases hge : n - c < ls[k].2
        · simp -dsimp -implicitDefEqProofs [s1, s12, s13, s14, hlt, withO_of hlm, fun l => withO_of (get_old (l := l) hlm), hlk, hlsz, hll, hlrow, vl, madeL, hw, hw2, h0, hge]
          refine ⟨_, _, GC.refl _ _ _, ?_, hp1.trans (hp.trans ⟨_, rfl⟩)⟩
          exact .inr (.inr ⟨k, hok, hlt, by omega, by omega, rfl⟩)
        · simp -dsimp -implicitDefEqProofs [s1, s12, s13, s14, hlt, withO_of hlm, fun l => withO_of (get_old (l := l) hlm), hlk, hlsz, hll, hlrow, vl, madeL, hw, hw2, h0, hge]
          exact next_ hlt ⟨hp.trans ⟨_, rfl⟩, by omega, by simp [hw2], by simp [s12], by simp [s13], by simp [hw]⟩
      · simp -dsimp -implicitDefEqProofs [s1, s12, s13, s14, hlt, withO_of hlm, fun l => withO_of (get_old (l := l) hlm), hlk, hlsz, hll, hlrow, vl, madeL, hw, hw2, h0]
        exact next_ hlt ⟨hp.trans ⟨_, rfl⟩, by omega, by simp [hw2], by simp [s12], by simp [s13], by simp [hw]⟩
    · simp -dsimp -implicitDefEqProofs [s1, s12, s13, s14, hlt]
      rw [List.take_of_length_le (by omega)] at hle
      refine ⟨_, _, GC.refl _ _ _, ?_, hp1.trans hp⟩
      exact .inr (.inl ⟨hok, hle, rfl⟩)
end Go.Proofs.YtmbijgnmbapchaaDoor
