/-
  Baskets, part 6: the text of a basket. Conditions: none.
-/
import Derived.Test.YtmbijgnmbapchaaDoorBkE
import Derived.Test.YtmbijgnmbapchaaDoorDec
set_option linter.unusedSimpArgs false
set_option linter.unusedVariables false
set_option linter.unusedSectionVars false
namespace Go.Proofs.YtmbijgnmbapchaaDoor
open Go.Abs Go.RowKit

abbrev litS : ByteArray := ⟨#[115, 116, 97, 107, 101, 115, 32]⟩
abbrev litW : ByteArray := ⟨#[119, 101, 97, 118, 101, 32]⟩
abbrev litB : ByteArray := ⟨#[98, 111, 114, 100, 101, 114, 32]⟩
abbrev litN : ByteArray := ⟨#[10]⟩
abbrev litP : ByteArray := ⟨#[32]⟩
theorem size_S : litS.size = 7 := rfl
theorem size_W : litW.size = 6 := rfl
theorem size_B : litB.size = 7 := rfl
theorem size_N : litN.size = 1 := rfl
theorem size_P : litP.size = 1 := rfl
theorem b0_app (x : ByteArray) : (⟨#[]⟩ : ByteArray) ++ x = x := WideShapes.bytes_inj (by simp)
theorem b0_size : (⟨#[]⟩ : ByteArray).size = 0 := rfl
def sLine (st : Int) : ByteArray := (litS ++ decT st) ++ litN
def wLine (p : LyT) : ByteArray := (((litW ++ p.1) ++ litP) ++ decT p.2) ++ litN
def bLine (b : ByteArray) : ByteArray := (litB ++ b) ++ litN
/-- The text up to the k-th layer. -/
def textTo (st : Int) (ls : List LyT) : Nat → ByteArray
  | 0 => if 0 < st then sLine st else ⟨#[]⟩
  | k + 1 => textTo st ls k ++ wLine (ls.getD k (B0, 0))
theorem textTo_succ {st : Int} {ls : List LyT} {k : Nat} (h : k < ls.length) : textTo st ls (k + 1) = textTo st ls k ++ wLine ls[k] := by rw [textTo, getL h]
def textV (st : Int) (ls : List LyT) (b : ByteArray) : ByteArray := if b.size = 0 then textTo st ls ls.length else textTo st ls ls.length ++ bLine b
theorem sLine_size {st : Int} (h : in64 st) : (sLine st).size ≤ 28 := by
  have := decT_size h
  simp only [sLine, ByteArray.size_append, size_S, size_N]; omega
theorem wLine_size {p : LyT} (h : in64 p.2) : (wLine p).size ≤ p.1.size + 28 := by
  have := decT_size h
  simp only [wLine, ByteArray.size_append, size_W, size_N, size_P]; omega
theorem textTo_size {st : Int} {ls : List LyT} (h : in64 st) (hl : ∀ p ∈ ls, in64 p.2 ∧ p.1.size ≤ 1000) : ∀ k, k ≤ ls.length → (textTo st ls k).size ≤ 28 + 1028 * k
  | 0, _ => by
    simp only [textTo]
    split
    · have := sLine_size h; omega
    · simp [b0_size]
  | k + 1, hk => by
    have ih := textTo_size h hl k (by omega)
    have hp := hl _ (List.getElem_mem (show k < ls.length by omega))
    simp only [textTo, ByteArray.size_append, getL (show k < ls.length by omega)]
    have := wLine_size hp.1
    omega
theorem okB_small {st : Int} {ls : List LyT} {b : ByteArray} (h : okB st ls b = true) : ls.length ≤ 1000 ∧ (∀ p ∈ ls, p.1.size ≤ 1000) ∧ b.size ≤ 1000 := by
  unfold okB at h
  split at h
  · simp only [Bool.and_eq_true, decide_eq_true_eq] at h
    obtain ⟨rfl, hb⟩ := h
    exact ⟨by simp, by simp, by omega⟩
  · simp only [Bool.and_eq_true, Bool.or_eq_true, decide_eq_true_eq] at h
    obtain ⟨⟨h1, h2⟩, h3⟩ := h
    refine ⟨by have := laysTo_le h2; omega, fun p hp => ?_, ?_⟩
    · obtain ⟨i, hi, rfl⟩ := List.getElem_of_mem hp
      have := of_decide_eq_true (allTo_get h2 hi)
      rw [getL hi] at this
      unfold layerK at this
      split at this
      · omega
      · rename_i hs
        have : wordB [70, 66] 12 ls[i].1 = true := by simpa [strokeB] using hs
        simp [wordB] at this; omega
    · rcases h3 with h3 | h3
      · omega
      · unfold borderK at h3
        split at h3
        · omega
        · rename_i hs
          have : wordB [98, 102] 8 b = true := by simpa [bendsB] using hs
          simp [wordB] at this; omega
theorem l17Text_c (st : Int) (ls : List LyT) (b : ByteArray) (A : Option Addr) (xi : Nat) (o : AObj) (m : Mem) (hx : m[xi]? = some o) (hk : o.kind ≤ 2) (hc : o.cells = bkC st A ls.length b) (hr : RdG vl 2 m A ls) (hn : ls.length ≤ 1000) (hst : in64 st) (hs : ∀ p ∈ ls, in64 p.2 ∧ p.1.size ≤ 1000) (hb : b.size ≤ 1000) :
    ACalls Tryd.prog 57 [.pointer (some ⟨xi, 0, none⟩)] m (.string (textV st ls b)) m := by
  obtain ⟨cells, ty, sz, kd⟩ := o
  simp only at hk hc
  subst hc
  simp only [bkC] at hx
  have hbE := emptyE b
  have hd := decT_size hst
  by_cases hpos : 0 < st
  · refine acalls_of_vc Tryd.func57 rfl Tryd.fol (by kernel_rfl) ?_
    simp only [Tryd.f57]
    simp -dsimp -implicitDefEqProofs [withO_of hx, hk, hpos, ByteArray.size_append, size_S, size_N, size_W, size_P, size_B, b0_app, b0_size]
    refine callsTo Tryd.cal105 (l01Dec_c st hst _) ?_
    simp -dsimp -implicitDefEqProofs [withO_of hx, hk, hpos, ByteArray.size_append, size_S, size_N, size_W, size_P, size_B, b0_app, b0_size]
    refine ⟨by omega, by omega, ?_⟩
    refine loopN ls.length (fun k σ m' => m' = m ∧ σ 0 = some (.pointer (some ⟨xi, 0, none⟩)) ∧ σ 3 = some (.string (textTo st ls k)) ∧ σ 4 = some (.int .i64 k)) ⟨rfl, by simp, by simp [textTo, hpos, sLine], by simp⟩ ?_
    rintro k σ m' hk' ⟨rfl, s0, s3, s4⟩
    by_cases hlt : k < ls.length
    · have hw : IntKind.i64.wrap ((k : Int) + 1) = k + 1 := wrapI (by omega) (by omega)
      obtain ⟨id, off, ob, rfl, hmo, hkd, hsz, hlen, hrow, c0, c1⟩ := RL.at_ hr hlt
      obtain ⟨hp2, hp1⟩ := hs _ (List.getElem_mem hlt)
      have hdp := decT_size hp2
      have hts := textTo_size hst hs k hk'
      simp -dsimp -implicitDefEqProofs [s0, s3, s4, hlt, withO_of hx, hk, withO_of hmo, hkd, hsz, hlen, withC_of c0, withC_of c1, hw, ByteArray.size_append, size_S, size_N, size_W, size_P, size_B, b0_app, b0_size]
      refine ⟨by omega, by omega, ?_⟩
      refine callsTo Tryd.cal105 (l01Dec_c _ hp2 _) ?_
      simp -dsimp -implicitDefEqProofs [s0, s3, s4, hlt, withO_of hx, hk, withO_of hmo, hkd, hsz, hlen, withC_of c0, withC_of c1, hw, ByteArray.size_append, size_S, size_N, size_W, size_P, size_B, b0_app, b0_size]
      refine ⟨by omega, by omega, by omega, ?_⟩
      exact next_ hlt ⟨rfl, by simp [s0], by simp [textTo_succ hlt]; rfl, by simp [hw]⟩
    · obtain rfl : k = ls.length := by omega
      have hts := textTo_size hst hs ls.length (Nat.le_refl _)
      by_cases hbz : b.size = 0
      · simp -dsimp -implicitDefEqProofs [s0, s3, s4, withO_of hx, hk, hbE, hbz]
        exact GC.eq (by rw [textV, if_pos hbz])
      · simp -dsimp -implicitDefEqProofs [s0, s3, s4, withO_of hx, hk, hbE, hbz, ByteArray.size_append, size_S, size_N, size_W, size_P, size_B, b0_app, b0_size]
        refine ⟨by omega, by omega, by omega, ?_⟩
        exact GC.eq (by rw [textV, if_neg hbz]; rfl)
  · refine acalls_of_vc Tryd.func57 rfl Tryd.fol (by kernel_rfl) ?_
    simp only [Tryd.f57]
    simp -dsimp -implicitDefEqProofs [withO_of hx, hk, hpos, ByteArray.size_append, size_S, size_N, size_W, size_P, size_B, b0_app, b0_size]
    refine loopN ls.length (fun k σ m' => m' = m ∧ σ 0 = some (.pointer (some ⟨xi, 0, none⟩)) ∧ σ 3 = some (.string (textTo st ls k)) ∧ σ 4 = some (.int .i64 k)) ⟨rfl, by simp, by simp [textTo, hpos, sLine], by simp⟩ ?_
    rintro k σ m' hk' ⟨rfl, s0, s3, s4⟩
    by_cases hlt : k < ls.length
    · have hw : IntKind.i64.wrap ((k : Int) + 1) = k + 1 := wrapI (by omega) (by omega)
      obtain ⟨id, off, ob, rfl, hmo, hkd, hsz, hlen, hrow, c0, c1⟩ := RL.at_ hr hlt
      obtain ⟨hp2, hp1⟩ := hs _ (List.getElem_mem hlt)
      have hdp := decT_size hp2
      have hts := textTo_size hst hs k hk'
      simp -dsimp -implicitDefEqProofs [s0, s3, s4, hlt, withO_of hx, hk, withO_of hmo, hkd, hsz, hlen, withC_of c0, withC_of c1, hw, ByteArray.size_append, size_S, size_N, size_W, size_P, size_B, b0_app, b0_size]
      refine ⟨by omega, by omega, ?_⟩
      refine callsTo Tryd.cal105 (l01Dec_c _ hp2 _) ?_
      simp -dsimp -implicitDefEqProofs [s0, s3, s4, hlt, withO_of hx, hk, withO_of hmo, hkd, hsz, hlen, withC_of c0, withC_of c1, hw, ByteArray.size_append, size_S, size_N, size_W, size_P, size_B, b0_app, b0_size]
      refine ⟨by omega, by omega, by omega, ?_⟩
      exact next_ hlt ⟨rfl, by simp [s0], by simp [textTo_succ hlt]; rfl, by simp [hw]⟩
    · obtain rfl : k = ls.length := by omega
      have hts := textTo_size hst hs ls.length (Nat.le_refl _)
      by_cases hbz : b.size = 0
      · simp -dsimp -implicitDefEqProofs [s0, s3, s4, withO_of hx, hk, hbE, hbz]
        exact GC.eq (by rw [textV, if_pos hbz])
      · simp -dsimp -implicitDefEqProofs [s0, s3, s4, withO_of hx, hk, hbE, hbz, ByteArray.size_append, size_S, size_N, size_W, size_P, size_B, b0_app, b0_size]
        refine ⟨by omega, by omega, by omega, ?_⟩
        exact GC.eq (by rw [textV, if_neg hbz]; rfl)
theorem specText_c (st : Int) (ls : List LyT) (b : ByteArray) (A : Option Addr) (m : Mem) (hr : RdG vl 2 m A ls) (hn : ls.length ≤ 1048576) (hst : in64 st) (hs : ∀ p ∈ ls, in64 p.2 ∧ p.1.size ≤ maxLen) (hb : b.size ≤ maxLen) :
    ACalls Tryd.prog 9 [.agg (bkC st A ls.length b).toArray] m (.string (if okB st ls b then textV st ls b else ⟨#[]⟩)) m := by
  refine acalls_of_vc Tryd.func9 rfl Tryd.fol (by kernel_rfl) ?_
  simp only [Tryd.f9, bkC]
  simp -dsimp -implicitDefEqProofs
  refine callsTo Tryd.cal56 (l17Ok_c st ls b A m.length _ _ (get_len _ _) (by simp) rfl (hr.ext _) hn (fun p hp => (hs p hp).2) hb) ?_
  simp -dsimp -implicitDefEqProofs
  cases hok : okB st ls b
  · simp -dsimp -implicitDefEqProofs
    exact GC.dropEq rfl rfl
  · obtain ⟨h1, h2, h3⟩ := okB_small hok
    simp -dsimp -implicitDefEqProofs
    refine callsTo Tryd.cal57 (l17Text_c st ls b A m.length _ _ (get_len _ _) (by simp) rfl (hr.ext _) h1 hst (fun p hp => ⟨(hs p hp).1, h2 p hp⟩) h3) ?_
    simp -dsimp -implicitDefEqProofs
    exact GC.dropEq rfl rfl
theorem implText_c (st : Int) (ls : List LyT) (b : ByteArray) (A : Option Addr) (m : Mem) (hr : RdG vl 2 m A ls) (hn : ls.length ≤ 1048576) (hst : in64 st) (hs : ∀ p ∈ ls, in64 p.2 ∧ p.1.size ≤ maxLen) (hb : b.size ≤ maxLen) :
    ACalls Tryd.prog 11 [.agg (bkC st A ls.length b).toArray] m (.string (if okB st ls b then textV st ls b else ⟨#[]⟩)) m := by
  have hbE := emptyE b
  have hd := decT_size hst
  obtain ⟨m1, hm1⟩ : ∃ m1 : Mem, m1 = m ++ [⟨[.int .i64 st, .slice A ls.length ls.length, .string b], 29, 3, 1⟩] := ⟨_, rfl⟩
  have hp1 : m <+: m1 := by rw [hm1]; exact ⟨_, rfl⟩
  have hx : m1[m.length]? = some ⟨[.int .i64 st, .slice A ls.length ls.length, .string b], 29, 3, 1⟩ := by rw [hm1]; simp
  have hval := validBasket_c st ls b A m1 (hr.pre hp1) hn (fun p hp => (hs p hp).2) hb
  simp only [bkC] at hval
  refine acalls_of_vc Tryd.func11 rfl Tryd.fol (by kernel_rfl) ?_
  simp only [Tryd.f11, bkC]
  simp -dsimp -implicitDefEqProofs [hm1.symm, withO_of hx]
  refine callsTo Tryd.cal59 hval ?_
  simp -dsimp -implicitDefEqProofs [hm1.symm, withO_of hx]
  cases hok : okB st ls b
  · simp -dsimp -implicitDefEqProofs [hm1.symm, withO_of hx]
    exact GC.dropP hp1 (by simp) rfl
  obtain ⟨h1, h2, h3⟩ := okB_small hok
  have hs2 : ∀ p ∈ ls, in64 p.2 ∧ p.1.size ≤ 1000 := fun p hp => ⟨(hs p hp).1, h2 p hp⟩
  by_cases h0 : st = 0
  · subst h0
    simp -dsimp -implicitDefEqProofs [hm1.symm, withO_of hx]
    have : ls = [] ∧ b.size = 0 := by simpa [okB] using hok
    obtain ⟨rfl, hb0⟩ := this
    exact GC.dropP hp1 (by simp [textV, hb0, textTo]) rfl
  have hpos : 0 < st := by
    have : inB st 3 60 = true := by
      unfold okB at hok
      rw [if_neg h0] at hok
      simp only [Bool.and_eq_true] at hok
      exact hok.1.1
    simp [inB] at this; omega
  have h0' : (st == 0) = false := beq_eq_false_iff_ne.2 h0
  simp -dsimp -implicitDefEqProofs [withO_of hx, h0', ByteArray.size_append, size_S, size_N, size_W, size_P, size_B, b0_app, b0_size]
  refine callsTo Tryd.cal60 (implDecimal_c st hst _) ?_
  simp -dsimp -implicitDefEqProofs [withO_of hx, h0', ByteArray.size_append, size_S, size_N, size_W, size_P, size_B, b0_app, b0_size]
  refine ⟨by omega, by omega, ?_⟩
  refine loopN ls.length (fun k σ m' => m1 <+: m' ∧ σ 1 = some (.pointer (some ⟨m.length, 0, none⟩)) ∧ σ 3 = some (.string (textTo st ls k)) ∧ σ 21 = some (.slice A ls.length ls.length) ∧ σ 22 = some (.int .i64 ls.length) ∧ σ 23 = some (.int .i64 k)) ⟨pre_refl _, by simp, by simp [textTo, hpos, sLine], by simp, by simp, by simp⟩ ?_
  rintro k σ m' hk' ⟨hp, s1, s3, s21, s22, s23⟩
  have hxm := prefix_get hp hx
  by_cases hlt : k < ls.length
  · have hw : IntKind.i64.wrap ((k : Int) + 1) = k + 1 := wrapI (by omega) (by omega)
    obtain ⟨id, off, ob, rfl, hmo, hkd, hsz, hlen, hrow, c0, c1⟩ := RL.at_ (hr.pre (hp1.trans hp)) hlt
    obtain ⟨hp2, hp3⟩ := hs2 _ (List.getElem_mem hlt)
    have hdp := decT_size hp2
    have hts := textTo_size hst hs2 k hk'
    obtain ⟨m3, hm3⟩ : ∃ m3, m3 = m' ++ [(⟨[.string ls[k].1, .int .i64 ls[k].2], 56, 2, 1⟩ : AObj)] := ⟨_, rfl⟩
    have t3 : m3[m'.length]? = some ⟨[.string ls[k].1, .int .i64 ls[k].2], 56, 2, 1⟩ := by rw [hm3]; simp
    simp -dsimp -implicitDefEqProofs [s1, s3, s21, s22, s23, hlt, withO_of hmo, hkd, hsz, hlen, hrow, hw, vl, hm3.symm, withO_of t3, ByteArray.size_append, size_S, size_N, size_W, size_P, size_B, b0_app, b0_size]
    refine ⟨by omega, by omega, ?_⟩
    refine callsTo Tryd.cal60 (implDecimal_c _ hp2 _) ?_
    simp -dsimp -implicitDefEqProofs [s1, s3, s21, s22, s23, hlt, withO_of hmo, hkd, hsz, hlen, hrow, hw, vl, hm3.symm, withO_of t3, ByteArray.size_append, size_S, size_N, size_W, size_P, size_B, b0_app, b0_size]
    refine ⟨by omega, by omega, by omega, ?_⟩
    exact next_ hlt ⟨hp.trans ⟨_, hm3.symm⟩, by simp [s1], by simp [textTo_succ hlt]; rfl, by simp [s21], by simp [s22], by simp [hw]⟩
  · obtain rfl : k = ls.length := by omega
    have hts := textTo_size hst hs2 ls.length (Nat.le_refl _)
    by_cases hbz : b.size = 0
    · simp -dsimp -implicitDefEqProofs [s1, s3, s21, s22, s23, withO_of hxm, hbE, hbz]
      exact GC.dropP (hp1.trans hp) (by simp [textV, hbz]) rfl
    · simp -dsimp -implicitDefEqProofs [s1, s3, s21, s22, s23, withO_of hxm, hbE, hbz, ByteArray.size_append, size_S, size_N, size_W, size_P, size_B, b0_app, b0_size]
      refine ⟨by omega, by omega, by omega, ?_⟩
      exact GC.dropP (hp1.trans hp) (by simp [textV, hbz]; rfl) rfl
end Go.Proofs.YtmbijgnmbapchaaDoor
