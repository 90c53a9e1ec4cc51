/-
  Baskets, part 6: the text of a basket. Conditions: none.
-/
import Derived.Test.YtmbijgnmbapchaaGreatDoorBkE
import Derived.Test.YtmbijgnmbapchaaGreatDoorDec
import Derived.Test.YtmbijgnmbapchaaGreatDoorBkGG
set_option linter.unusedSimpArgs false
set_option linter.unusedVariables false
set_option linter.unusedSectionVars false
namespace Go.Proofs.YtmbijgnmbapchaaGreatDoor
open Go.Abs Go.RowKit

abbrev litS : ByteArray := ⟨#[115, 116, 97, 107, 101, 115, 32]⟩
abbrev litW : ByteArray := ⟨#[119, 101, 97, 118, 101, 32]⟩
abbrev litB : ByteArray := ⟨#[98, 111, 114, 100, 101, 114, 32]⟩
abbrev litN : ByteArray := ⟨#[10]⟩
abbrev litP : ByteArray := ⟨#[32]⟩
theorem size_S : litS.size = 7 := rfl
theorem size_W : litW.size = 6 := rfl
theorem size_B : litB.size = 7 := rfl
theorem size_N : litN.size = 1 := rfl
theorem size_P : litP.size = 1 := rfl
theorem b0_app (x : ByteArray) : (⟨#[]⟩ : ByteArray) ++ x = x := WideShapes.bytes_inj (by simp)
theorem b0_size : (⟨#[]⟩ : ByteArray).size = 0 := rfl
def sLine (st : Int) : ByteArray := (litS ++ decT st) ++ litN
def wLine (p : LyT) : ByteArray := (((litW ++ p.1) ++ litP) ++ decT p.2) ++ litN
def bLine (b : ByteArray) : ByteArray := (litB ++ b) ++ litN
/-- The text up to the k-th layer. -/
def textTo (st : Int) (ls : List LyT) : Nat → ByteArray
  | 0 => if 0 < st then sLine st else ⟨#[]⟩
  | k + 1 => textTo st ls k ++ wLine (ls.getD k (B0, 0))
theorem textTo_succ {st : Int} {ls : List LyT} {k : Nat} (h : k < ls.length) : textTo st ls (k + 1) = textTo st ls k ++ wLine ls[k] := by rw [textTo, getL h]
def textV (st : Int) (ls : List LyT) (b : ByteArray) : ByteArray := if b.size = 0 then textTo st ls ls.length else textTo st ls ls.length ++ bLine b
theorem sLine_size {st : Int} (h : in64 st) : (sLine st).size ≤ 28 := by
  have := decT_size h
  simp only [sLine, ByteArray.size_append, size_S, size_N]; omega
theorem wLine_size {p : LyT} (h : in64 p.2) : (wLine p).size ≤ p.1.size + 28 := by
  have := decT_size h
  simp only [wLine, ByteArray.size_append, size_W, size_N, size_P]; omega
theorem textTo_size {st : Int} {ls : List LyT} (h : in64 st) (hl : ∀ p ∈ ls, in64 p.2 ∧ p.1.size ≤ 1000) : ∀ k, k ≤ ls.length → (textTo st ls k).size ≤ 28 + 1028 * k
  | 0, _ => by
    simp only [textTo]
    split
    · have := sLine_size h; omega
    · simp [b0_size]
  | k + 1, hk => by
    have ih := textTo_size h hl k (by omega)
    have hp := hl _ (List.getElem_mem (show k < ls.length by omega))
    simp only [textTo, ByteArray.size_append, getL (show k < ls.length by omega)]
    have := wLine_size hp.1
    omega
theorem okB_small {st : Int} {ls : List LyT} {b : ByteArray} (h : okB st ls b = true) : ls.length ≤ 1000 ∧ (∀ p ∈ ls, p.1.size ≤ 1000) ∧ b.size ≤ 1000 := by
  unfold okB at h
  split at h
  · simp only [Bool.and_eq_true, decide_eq_true_eq] at h
    obtain ⟨rfl, hb⟩ := h
    exact ⟨by simp, by simp, by omega⟩
  · simp only [Bool.and_eq_true, Bool.or_eq_true, decide_eq_true_eq] at h
    obtain ⟨⟨h1, h2⟩, h3⟩ := h
    refine ⟨by have := laysTo_le h2; omega, fun p hp => ?_, ?_⟩
    · obtain ⟨i, hi, rfl⟩ := List.getElem_of_mem hp
      have := of_decide_eq_true (allTo_get h2 hi)
      rw [getL hi] at this
      unfold layerK at this
      split at this
      · omega
      · rename_i hs
        have : wordB [70, 66] 12 ls[i].1 = true := by simpa [strokeB] using hs
        simp [wordB] at this; omega
    · rcases h3 with h3 | h3
      · omega
      · unfold borderK at h3
        split at h3
        · omega
        · rename_i hs
          have : wordB [98, 102] 8 b = true := by simpa [bendsB] using hs
          simp [wordB] at this; omega
theorem l17Text_c (st : Int) (ls : List LyT) (b : ByteArray) (A : Option Addr) (xi : Nat) (o : AObj) (m : Mem) (hx : m[xi]? = some o) (hk : o.kind ≤ 2) (hc : o.cells = bkC st A ls.length b) (hr : RdG vl 2 m A ls) (hn : ls.length ≤ 1000) (hst : in64 st) (hs : ∀ p ∈ ls, in64 p.2 ∧ p.1.size ≤ 1000) (hb : b.size ≤ 1000) :
    ACalls Tryz.prog 33 [.pointer (some ⟨xi, 0, none⟩)] m (.string (textV st ls b)) m := by
  obtain ⟨cells, ty, sz, kd⟩ := o
  simp only at hk hc
  subst hc
  simp only [bkC] at hx
  have hbE := emptyE b
  have hd := decT_size hst
  by_cases hpos : 0 < st
  · refine acalls_of_vc Tryz.func33 rfl Tryz.fol (by kernel_rfl) ?_
    simp only [Tryz.f33]
    simp -dsimp -implicitDefEqProofs [withO_of hx, hk, hpos, ByteArray.size_append, size_S, size_N, size_W, size_P, size_B, b0_app, b0_size]
    refine callsTo Tryz.cal37 (l01Dec_c st hst _) ?_
    simp -dsimp -implicitDefEqProofs [withO_of hx, hk, hpos, ByteArray.size_append, size_S, size_N, size_W, size_P, size_B, b0_app, b0_size]
    refine ⟨by omega, by omega, ?_⟩
    refine loopN ls.length (fun k σ m' => m' = m ∧ σ 0 = some (.pointer (some ⟨xi, 0, none⟩)) ∧ σ 3 = some (.string (textTo st ls k)) ∧ σ 4 = some (.int .i64 k)) ⟨rfl, by simp, by simp [textTo, hpos, sLine], by simp⟩ ?_
    rintro k σ m' hk' ⟨rfl, s0, s3, s4⟩
    by_cases hlt : k < ls.length
    · have hw : IntKind.i64.wrap ((k : Int) + 1) = k + 1 := wrapI (by omega) (by omega)
      obtain ⟨id, off, ob, rfl, hmo, hkd, hsz, hlen, hrow, c0, c1⟩ := RL.at_ hr hlt
      obtain ⟨hp2, hp1⟩ := hs _ (List.getElem_mem hlt)
      have hdp := decT_size hp2
      have hts := textTo_size hst hs k hk'
      simp -dsimp -implicitDefEqProofs [s0, s3, s4, hlt, withO_of hx, hk, withO_of hmo, hkd, hsz, hlen, withC_of c0, withC_of c1, hw, ByteArray.size_append, size_S, size_N, size_W, size_P, size_B, b0_app, b0_size]
      refine ⟨by omega, by omega, ?_⟩
      refine callsTo Tryz.cal37 (l01Dec_c _ hp2 _) ?_
      simp -dsimp -implicitDefEqProofs [s0, s3, s4, hlt, withO_of hx, hk, withO_of hmo, hkd, hsz, hlen, withC_of c0, withC_of c1, hw, ByteArray.size_append, size_S, size_N, size_W, size_P, size_B, b0_app, b0_size]
      refine ⟨by omega, by omega, by omega, ?_⟩
      exact next_ hlt ⟨rfl, by simp [s0], by simp [textTo_succ hlt]; rfl, by simp [hw]⟩
    · obtain rfl : k = ls.length := by omega
      have hts := textTo_size hst hs ls.length (Nat.le_refl _)
      by_cases hbz : b.size = 0
      · simp -dsimp -implicitDefEqProofs [s0, s3, s4, withO_of hx, hk, hbE, hbz]
        exact GC.eq (by rw [textV, if_pos hbz])
      · simp -dsimp -implicitDefEqProofs [s0, s3, s4, withO_of hx, hk, hbE, hbz, ByteArray.size_append, size_S, size_N, size_W, size_P, size_B, b0_app, b0_size]
        refine ⟨by omega, by omega, by omega, ?_⟩
        exact GC.eq (by rw [textV, if_neg hbz]; rfl)
  · refine acalls_of_vc Tryz.func33 rfl Tryz.fol (by kernel_rfl) ?_
    simp only [Tryz.f33]
    simp -dsimp -implicitDefEqProofs [withO_of hx, hk, hpos, ByteArray.size_append, size_S, size_N, size_W, size_P, size_B, b0_app, b0_size]
    refine loopN ls.length (fun k σ m' => m' = m ∧ σ 0 = some (.pointer (some ⟨xi, 0, none⟩)) ∧ σ 3 = some (.string (textTo st ls k)) ∧ σ 4 = some (.int .i64 k)) ⟨rfl, by simp, by simp [textTo, hpos, sLine], by simp⟩ ?_
    rintro k σ m' hk' ⟨rfl, s0, s3, s4⟩
    by_cases hlt : k < ls.length
    · have hw : IntKind.i64.wrap ((k : Int) + 1) = k + 1 := wrapI (by omega) (by omega)
      obtain ⟨id, off, ob, rfl, hmo, hkd, hsz, hlen, hrow, c0, c1⟩ := RL.at_ hr hlt
      obtain ⟨hp2, hp1⟩ := hs _ (List.getElem_mem hlt)
      have hdp := decT_size hp2
      have hts := textTo_size hst hs k hk'
      simp -dsimp -implicitDefEqProofs [s0, s3, s4, hlt, withO_of hx, hk, withO_of hmo, hkd, hsz, hlen, withC_of c0, withC_of c1, hw, ByteArray.size_append, size_S, size_N, size_W, size_P, size_B, b0_app, b0_size]
      refine ⟨by omega, by omega, ?_⟩
      refine callsTo Tryz.cal37 (l01Dec_c _ hp2 _) ?_
      simp -dsimp -implicitDefEqProofs [s0, s3, s4, hlt, withO_of hx, hk, withO_of hmo, hkd, hsz, hlen, withC_of c0, withC_of c1, hw, ByteArray.size_append, size_S, size_N, size_W, size_P, size_B, b0_app, b0_size]
      refine ⟨by omega, by omega, by omega, ?_⟩
      exact next_ hlt ⟨rfl, by simp [s0], by simp [textTo_succ hlt]; rfl, by simp [hw]⟩
    · obtain rfl : k = ls.length := by omega
      have hts := textTo_size hst hs ls.length (Nat.le_refl _)
      by_cases hbz : b.size = 0
      · simp -dsimp -implicitDefEqProofs [s0, s3, s4, withO_of hx, hk, hbE, hbz]
        exact GC.eq (by rw [textV, if_pos hbz])
      · simp -dsimp -implicitDefEqProofs [s0, s3, s4, withO_of hx, hk, hbE, hbz, ByteArray.size_append, size_S, size_N, size_W, size_P, size_B, b0_app, b0_size]
        refine ⟨by omega, by omega, by omega, ?_⟩
        exact GC.eq (by rw [textV, if_neg hbz]; rfl)
theorem specText_c (st : Int) (ls : List LyT) (b : ByteArray) (A : Option Addr) (m : Mem) (hr : RdG vl 2 m A ls) (hn : ls.length ≤ 1048576) (hst : in64 st) (hs : ∀ p ∈ ls, in64 p.2 ∧ p.1.size ≤ maxLen) (hb : b.size ≤ maxLen) :
    ACalls Tryz.prog 13 [.agg (bkC st A ls.length b).toArray] m (.string (if okB st ls b then textV st ls b else ⟨#[]⟩)) m := by
  refine acalls_of_vc Tryz.func13 rfl Tryz.fol (by kernel_rfl) ?_
  simp only [Tryz.f13, bkC]
  simp -dsimp -implicitDefEqProofs
  refine callsTo Tryz.cal32 (l17Ok_c st ls b A m.length _ _ (get_len _ _) (by simp) rfl (hr.ext _) hn (fun p hp => (hs p hp).2) hb) ?_
  simp -dsimp -implicitDefEqProofs
  cases hok : okB st ls b
  · simp -dsimp -implicitDefEqProofs
    exact GC.dropEq rfl rfl
  · obtain ⟨h1, h2, h3⟩ := okB_small hok
    simp -dsimp -implicitDefEqProofs
    refine callsTo Tryz.cal33 (l17Text_c st ls b A m.length _ _ (get_len _ _) (by simp) rfl (hr.ext _) h1 hst (fun p hp => ⟨(hs p hp).1, h2 p hp⟩) h3) ?_
    simp -dsimp -implicitDefEqProofs
    exact GC.dropEq rfl rfl
theorem implText_c (st : Int) (ls : List LyT) (b : ByteArray) (A : Option Addr) (m : Mem) (hr : RdG vl 2 m A ls) (hn : ls.length ≤ 1048576) (hst : in64 st) (hs : ∀ p ∈ ls, in64 p.2 ∧ p.1.size ≤ maxLen) (hb : b.size ≤ maxLen) :
    ACalls Tryz.prog 9 [.agg (bkC st A ls.length b).toArray] m (.string (if okB st ls b then textV st ls b else ⟨#[]⟩)) m := by
  have hbE := emptyE b
  have hd := decT_size hst
  obtain ⟨m1, hm1⟩ : ∃ m1 : Mem, m1 = m ++ [⟨[.int .i64 st, .slice A ls.length ls.length, .string b], 27, 3, 1⟩] := ⟨_, rfl⟩
  have hp1 : m <+: m1 := by rw [hm1]; exact ⟨_, rfl⟩
  have hx : m1[m.length]? = some ⟨[.int .i64 st, .slice A ls.length ls.length, .string b], 27, 3, 1⟩ := by rw [hm1]; simp
  have hval := validBasket_c st ls b A m1 (hr.pre hp1) hn (fun p hp => (hs p hp).2) hb
  simp only [bkC] at hval
  refine acalls_of_vc Tryz.func9 rfl Tryz.fol (by kernel_rfl) ?_
  simp only [Tryz.f9, bkC]
  simp -dsimp -implicitDefEqProofs [hm1.symm, withO_of hx]
  refine callsTo Tryz.cal17 hval ?_
  simp -dsimp -implicitDefEqProofs [hm1.symm, withO_of hx]
  cases hok : okB st ls b
  · simp -dsimp -implicitDefEqProofs [hm1.symm, withO_of hx]
    exact GC.dropP hp1 (by simp) rfl
  obtain ⟨h1, h2, h3⟩ := okB_small hok
  have hs2 : ∀ p ∈ ls, in64 p.2 ∧ p.1.size ≤ 1000 := fun p hp => ⟨(hs p hp).1, h2 p hp⟩
  by_cases h0 : st = 0
  · subst h0
    simp -dsimp -implicitDefEqProofs [hm1.symm, withO_of hx]
    have : ls = [] ∧ b.size = 0 := by simpa [okB] using hok
    obtain ⟨rfl, hb0⟩ := this
    exact GC.dropP hp1 (by simp [textV, hb0, textTo]) rfl
  have hpos : 0 < st := by
    have : inB st 3 60 = true := by
      unfold okB at hok
      rw [if_neg h0] at hok
      simp only [Bool.and_eq_true] at hok
      exact hok.1.1
    simp [inB] at this; omega
  have h0' : (st == 0) = false := beq_eq_false_iff_ne.2 h0
  simp -dsimp -implicitDefEqProofs [withO_of hx, h0', ByteArray.size_append, size_S, size_N, size_W, size_P, size_B, b0_app, b0_size]
  refine callsTo Tryz.cal27 (implDecimal_c st hst _) ?_
  simp -dsimp -implicitDefEqProofs [withO_of hx, h0', ByteArray.size_append, size_S, size_N, size_W, size_P, size_B, b0_app, b0_size]
  refine ⟨by omega, by omega, ?_⟩
  refine loopN ls.length (fun k σ m' => m1 <+: m' ∧ σ 1 = some (.pointer (some ⟨m.length, 0, none⟩)) ∧ σ 3 = some (.string (textTo st ls k)) ∧ σ 21 = some (.slice A ls.length ls.length) ∧ σ 22 = some (.int .i64 ls.length) ∧ σ 23 = some (.int .i64 k)) ⟨pre_refl _, by simp, by simp [textTo, hpos, sLine], by simp, by simp, by simp⟩ ?_
  rintro k σ m' hk' ⟨hp, s1, s3, s21, s22, s23⟩
  have hxm := prefix_get hp hx
  by_cases hlt : k < ls.length
  · have hw : IntKind.i64.wrap ((k : Int) + 1) = k + 1 := wrapI (by omega) (by omega)
    obtain ⟨id, off, ob, rfl, hmo, hkd, hsz, hlen, hrow, c0, c1⟩ := RL.at_ (hr.pre (hp1.trans hp)) hlt
    obtain ⟨hp2, hp3⟩ := hs2 _ (List.getElem_mem hlt)
    have hdp := decT_size hp2
    have hts := textTo_size hst hs2 k hk'
    obtain ⟨m3, hm3⟩ : ∃ m3, m3 = m' ++ [(⟨[.string ls[k].1, .int .i64 ls[k].2], 54, 2, 1⟩ : AObj)] := ⟨_, rfl⟩
    have t3 : m3[m'.length]? = some ⟨[.string ls[k].1, .int .i64 ls[k].2], 54, 2, 1⟩ := by rw [hm3]; simp
    simp -dsimp -implicitDefEqProofs [s1, s3, s21, s22, s23, hlt, withO_of hmo, hkd, hsz, hlen, hrow, hw, vl, hm3.symm, withO_of t3, ByteArray.size_append, size_S, size_N, size_W, size_P, size_B, b0_app, b0_size]
    refine ⟨by omega, by omega, ?_⟩
    refine callsTo Tryz.cal27 (implDecimal_c _ hp2 _) ?_
    simp -dsimp -implicitDefEqProofs [s1, s3, s21, s22, s23, hlt, withO_of hmo, hkd, hsz, hlen, hrow, hw, vl, hm3.symm, withO_of t3, ByteArray.size_append, size_S, size_N, size_W, size_P, size_B, b0_app, b0_size]
    refine ⟨by omega, by omega, by omega, ?_⟩
    exact next_ hlt ⟨hp.trans ⟨_, hm3.symm⟩, by simp [s1], by simp [textTo_succ hlt]; rfl, by simp [s21], by simp [s22], by simp [hw]⟩
  · obtain rfl : k = ls.length := by omega
    have hts := textTo_size hst hs2 ls.length (Nat.le_refl _)
    by_cases hbz : b.size = 0
    · simp -dsimp -implicitDefEqProofs [s1, s3, s21, s22, s23, withO_of hxm, hbE, hbz]
      exact GC.dropP (hp1.trans hp) (by simp [textV, hbz]) rfl
    · simp -dsimp -implicitDefEqProofs [s1, s3, s21, s22, s23, withO_of hxm, hbE, hbz, ByteArray.size_append, size_S, size_N, size_W, size_P, size_B, b0_app, b0_size]
      refine ⟨by omega, by omega, by omega, ?_⟩
      exact GC.dropP (hp1.trans hp) (by simp [textV, hbz]; rfl) rfl
end Go.Proofs.YtmbijgnmbapchaaGreatDoor
namespace Go.Proofs.YtmbijgnmbapchaaGreatDoor
open Go.Abs Go.RowKit Go.Law

theorem ofDig {d : Nat} (h : d < 10) : (UInt8.ofNat (48 + d)).toNat = 48 + d := by
  rw [UInt8.toNat_ofNat']; omega
theorem dec_val (u : Nat) : valL (Go.Lib.decDigits u) = u ∧ (Go.Lib.decDigits u).all isDig = true ∧ 1 ≤ (Go.Lib.decDigits u).length := by
  induction u using Nat.strongRecOn with
  | ind u ih =>
    by_cases h10 : u < 10
    · rw [Go.Lib.decDigits_one h10]
      have hd := ofDig h10
      refine ⟨?_, ?_, Nat.le_refl _⟩
      · show 10 * 0 + ((UInt8.ofNat (48 + u)).toNat - 48) = u
        omega
      · rw [List.all_cons, List.all_nil, Bool.and_true]
        unfold isDig
        rw [hd, Bool.and_eq_true]
        exact ⟨decide_eq_true (by omega), decide_eq_true (by omega)⟩
    · rw [Go.Lib.decDigits, dif_neg h10]
      obtain ⟨h1, h2, h3⟩ := ih (u / 10) (by omega)
      have hd := ofDig (d := u % 10) (by omega)
      refine ⟨by rw [valL_snoc, h1, hd]; omega, ?_, by simp⟩
      rw [List.all_append, h2, List.all_cons, List.all_nil, Bool.and_true, Bool.true_and]
      unfold isDig
      rw [hd, Bool.and_eq_true]
      exact ⟨decide_eq_true (by omega), decide_eq_true (by omega)⟩
theorem dig_free {l : List UInt8} (h : l.all isDig = true) {c : UInt8} (hc : isDig c = false) : ∀ x ∈ l, x ≠ c := fun x hx e => by
  rw [List.all_eq_true] at h
  have := h x hx
  rw [e, hc] at this; cases this
theorem decT_data {n : Int} (h : 0 ≤ n) : (decT n).data.toList = Go.Lib.decDigits n.toNat := by
  have : ¬ n < 0 := by omega
  simp [decT, Go.Lib.itoa, this]
theorem decT_dig {n : Int} (h : 0 ≤ n) : (decT n).data.toList.all isDig = true := by rw [decT_data h]; exact (dec_val _).2.1
theorem strip_dec {n : Int} (h : 0 ≤ n) : stripB (decT n) = decT n := by
  unfold stripB
  rw [if_neg]
  intro e
  have hm : (45 : UInt8) ∈ (decT n).data.toList := by
    cases hl : (decT n).data.toList with
    | nil => rw [hl] at e; cases e
    | cons x l => rw [hl] at e; simp at e; simp [e]
  exact dig_free (decT_dig h) (c := 45) (by decide) _ hm rfl
theorem numB_dec {n : Int} (h0 : 0 ≤ n) (h1 : n < 1000000000000000000) : numB (decT n) = some n := by
  obtain ⟨v1, v2, v3⟩ := dec_val n.toNat
  have hs : signN (decT n) = n := by
    unfold signN
    rw [strip_dec h0, if_neg (Nat.lt_irrefl _), decT_data h0, v1]; omega
  have hz : (decT n).size = (Go.Lib.decDigits n.toNat).length := by rw [← bytes_size, decT_data h0]
  have hz2 : (Go.Lib.decDigits n.toNat).length ≤ 18 := by
    rw [Go.Lib.decDigits_length]
    exact nDigits_le 17 _ (by omega)
  unfold numB
  rw [strip_dec h0, if_neg (by
    rintro (h | h | h)
    · omega
    · omega
    · rw [decT_dig h0] at h; cases h), hs, if_pos rfl]
/-! ### Lines -/
def sL (st : Int) : List UInt8 := [115, 116, 97, 107, 101, 115] ++ 32 :: (decT st).data.toList
def wL (p : LyT) : List UInt8 := [119, 101, 97, 118, 101] ++ 32 :: (p.1.data.toList ++ 32 :: (decT p.2).data.toList)
def bL (b : ByteArray) : List UInt8 := [98, 111, 114, 100, 101, 114] ++ 32 :: b.data.toList
theorem sLine_data (st : Int) : (sLine st).data.toList = sL st ++ [10] := by simp [sLine, sL]
theorem wLine_data (p : LyT) : (wLine p).data.toList = wL p ++ [10] := by simp [wLine, wL]
theorem bLine_data (b : ByteArray) : (bLine b).data.toList = bL b ++ [10] := by simp [bLine, bL]
theorem textTo_data {st : Int} (h : 0 < st) (ls : List LyT) : ∀ k, k ≤ ls.length → (textTo st ls k).data.toList = ((sL st :: (ls.take k).map wL).map (· ++ [10])).flatten
  | 0, _ => by simp [textTo, h, sLine_data]
  | k + 1, hk => by
    have hlt : k < ls.length := hk
    have ih := textTo_data h ls k (by omega)
    rw [textTo_succ hlt, List.take_add_one, List.getElem?_eq_getElem hlt]
    simp only [ByteArray.data_append, Array.toList_append, ih, wLine_data, List.map_cons, List.map_append, List.map_nil, List.flatten_cons, List.flatten_append, List.flatten_nil, Option.toList_some, List.append_assoc, List.append_nil]
def linesL (st : Int) (ls : List LyT) (b : ByteArray) : List (List UInt8) := sL st :: (ls.map wL ++ if b.size = 0 then [] else [bL b])
theorem textV_data {st : Int} (h : 0 < st) (ls : List LyT) (b : ByteArray) : (textV st ls b).data.toList = ((linesL st ls b).map (· ++ [10])).flatten := by
  have ih := textTo_data h ls ls.length (Nat.le_refl _)
  rw [List.take_length] at ih
  unfold textV linesL
  split
  · rw [ih]; simp
  · simp only [ByteArray.data_append, Array.toList_append, ih, bLine_data]; simp
theorem pieces_lines (c : UInt8) : ∀ L : List (List UInt8), (∀ l ∈ L, ∀ x ∈ l, x ≠ c) → piecesL c ((L.map (· ++ [c])).flatten) = L ++ [[]]
  | [], _ => rfl
  | l :: L, h => by
    have ih := pieces_lines c L fun l hl => h l (by simp [hl])
    have e : ((l :: L).map (· ++ [c])).flatten = l ++ c :: ((L.map (· ++ [c])).flatten) := by simp
    rw [e, piecesL_app c l _ (h l (by simp)), ih]; rfl
def txt (l : List UInt8) : ByteArray := ⟨l.toArray⟩
theorem txt_data (s : ByteArray) : txt s.data.toList = s := by simp [txt]
theorem word_free {cs : List UInt8} {n : Nat} {s : ByteArray} (h : wordB cs n s = true) {c : UInt8} (hc : cs.contains c = false) : ∀ x ∈ s.data.toList, x ≠ c := fun x hx e => by
  unfold wordB allIn at h
  simp only [Bool.and_eq_true] at h
  have := List.all_eq_true.1 h.2 x hx
  rw [e, hc] at this; cases this
theorem word_pos {cs : List UInt8} {n : Nat} {s : ByteArray} (h : wordB cs n s = true) : 1 ≤ s.size := by
  unfold wordB at h
  simp only [Bool.and_eq_true, decide_eq_true_eq] at h
  exact h.1.1
theorem wordsOf_cons {x : ByteArray} {xs : List ByteArray} (h : ¬ x.size = 0) : wordsOf (x :: xs) = x :: wordsOf xs := by
  unfold wordsOf
  exact List.filter_cons_of_pos (by simpa using h)
theorem words_s {st : Int} (h : 0 ≤ st) : wordsOf (piecesB 32 (txt (sL st))) = [kwS, decT st] := by
  have e : piecesL 32 (sL st) = [[115, 116, 97, 107, 101, 115], (decT st).data.toList] := by
    unfold sL
    rw [piecesL_app 32 _ _ (by decide), piecesL_free 32 _ (dig_free (decT_dig h) (by decide))]
  have hp : 1 ≤ (decT st).size := by rw [← bytes_size, decT_data h]; exact (dec_val _).2.2
  have hp' : ¬ (decT st).size = 0 := by omega
  unfold piecesB txt
  simp only [e, List.map_cons, List.map_nil]
  have h2 : (⟨(decT st).data.toList.toArray⟩ : ByteArray) = decT st := txt_data _
  rw [h2]
  rw [wordsOf_cons (by decide), wordsOf_cons hp']; rfl
theorem words_w {p : LyT} (h : strokeB p.1 = true) (h2 : 0 ≤ p.2) : wordsOf (piecesB 32 (txt (wL p))) = [kwW, p.1, decT p.2] := by
  have e : piecesL 32 (wL p) = [[119, 101, 97, 118, 101], p.1.data.toList, (decT p.2).data.toList] := by
    unfold wL
    rw [piecesL_app 32 _ _ (by decide), piecesL_app 32 _ _ (word_free h (by decide)), piecesL_free 32 _ (dig_free (decT_dig h2) (by decide))]
  have hp : 1 ≤ (decT p.2).size := by rw [← bytes_size, decT_data h2]; exact (dec_val _).2.2
  have h3 : ¬ (decT p.2).size = 0 := by omega
  have h4 : ¬ p.1.size = 0 := by have := word_pos h; omega
  unfold piecesB txt
  simp only [e, List.map_cons, List.map_nil]
  have g1 : (⟨(decT p.2).data.toList.toArray⟩ : ByteArray) = decT p.2 := txt_data _
  have g2 : (⟨p.1.data.toList.toArray⟩ : ByteArray) = p.1 := txt_data _
  rw [g1, g2]
  rw [wordsOf_cons (by decide), wordsOf_cons h4, wordsOf_cons h3]; rfl
theorem words_b {b : ByteArray} (h : bendsB b = true) : wordsOf (piecesB 32 (txt (bL b))) = [kwB, b] := by
  have e : piecesL 32 (bL b) = [[98, 111, 114, 100, 101, 114], b.data.toList] := by
    unfold bL
    rw [piecesL_app 32 _ _ (by decide), piecesL_free 32 _ (word_free h (by decide))]
  have h4 : ¬ b.size = 0 := by have := word_pos h; omega
  unfold piecesB txt
  simp only [e, List.map_cons, List.map_nil]
  have g2 : (⟨b.data.toList.toArray⟩ : ByteArray) = b := txt_data _
  rw [g2]
  rw [wordsOf_cons (by decide), wordsOf_cons h4]; rfl
theorem words_0 : wordsOf (piecesB 32 (txt [])) = [] := by decide
theorem layerK_facts {st : Int} {k : Nat} {b : ByteArray} {p : LyT} (h : layerK st k b p = 0) : strokeB p.1 = true ∧ 1 ≤ p.2 ∧ p.2 ≤ 100 := by
  unfold layerK at h
  split at h
  · omega
  · split at h
    · omega
    · rename_i g1 g2
      simp [inB] at g2
      exact ⟨by simpa using g1, g2⟩
theorem borderK_facts {st : Int} {b w : ByteArray} (h : borderK st b w = 0) : bendsB w = true := by
  unfold borderK at h
  split at h
  · omega
  · rename_i g; simpa using g
theorem lines_free {st : Int} {ls : List LyT} {b : ByteArray} (h0 : 0 ≤ st) (h1 : ∀ p ∈ ls, strokeB p.1 = true ∧ 0 ≤ p.2) (h2 : b.size = 0 ∨ bendsB b = true) : ∀ l ∈ linesL st ls b, ∀ x ∈ l, x ≠ 10 := by
  intro l hl
  unfold linesL at hl
  have kw : ∀ (w r : List UInt8), (∀ x ∈ w, x ≠ 10) → (∀ x ∈ r, x ≠ 10) → ∀ x ∈ w ++ 32 :: r, x ≠ 10 := fun w r hw hr x hx => by
    rcases List.mem_append.1 hx with hx | hx
    · exact hw x hx
    · rcases List.mem_cons.1 hx with rfl | hx
      · decide
      · exact hr x hx
  rcases List.mem_cons.1 hl with rfl | hl
  · exact kw _ _ (by decide) (dig_free (decT_dig h0) (by decide))
  · rcases List.mem_append.1 hl with hl | hl
    · obtain ⟨p, hp, rfl⟩ := List.mem_map.1 hl
      obtain ⟨q1, q2⟩ := h1 p hp
      exact kw _ _ (by decide) (kw _ _ (word_free q1 (by decide)) (dig_free (decT_dig q2) (by decide)))
    · split at hl
      · cases hl
      · rename_i hb
        have : l = bL b := by simpa using hl
        subst this
        exact kw _ _ (by decide) (word_free (h2.resolve_left hb) (by decide))
theorem row_s {st n : Int} (h : stakesK st n = 0) (h2 : 0 ≤ n ∧ n ≤ 60) (ls : List LyT) (b : ByteArray) : rowF (st, ls, b) [kwS, decT n] = (0, n, ls, b) := by
  have hn := numB_dec h2.1 (show n < 1000000000000000000 by omega)
  unfold rowF
  rw [if_neg (by rintro (h | h); · cases h
                 · exact absurd h (show ¬ kwS.data.toList.head? = some 33 by decide)), if_neg (by show ¬ kwS = kwB; decide), if_pos (by rfl), if_pos (by rfl)]
  show stkF _ (numB (decT n)) = _
  rw [hn]
  simp only [stkF, h, if_true]
theorem row_w {st : Int} {ls : List LyT} {b : ByteArray} {p : LyT} (h : layerK st ls.length b p = 0) : rowF (st, ls, b) [kwW, p.1, decT p.2] = (0, st, ls ++ [p], b) := by
  obtain ⟨h1, h2, h3⟩ := layerK_facts h
  have hn := numB_dec (show 0 ≤ p.2 by omega) (show p.2 < 1000000000000000000 by omega)
  unfold rowF
  rw [if_neg (by rintro (h | h); · cases h
                 · exact absurd h (show ¬ kwW.data.toList.head? = some 33 by decide)), if_neg (by show ¬ kwW = kwB; decide), if_neg (by show ¬ kwW = kwS; decide), if_pos (by rfl), if_pos (by rfl)]
  show lyF _ p.1 (numB (decT p.2)) = _
  rw [hn]
  simp only [lyF, h, if_true]
theorem row_b {st : Int} {ls : List LyT} {b w : ByteArray} (h : borderK st b w = 0) : rowF (st, ls, b) [kwB, w] = (0, st, ls, w) := by
  unfold rowF
  rw [if_neg (by rintro (h | h); · cases h
                 · exact absurd h (show ¬ kwB.data.toList.head? = some 33 by decide)), if_pos (by rfl), if_pos (by rfl)]
  show boF _ w = _
  simp only [boF, h, if_true]
theorem run_succ (rows : List ByteArray) (k : Nat) (h : k < rows.length) {s s' : Bk} {ws : List ByteArray} (h1 : runTo rows k = (s, [])) (h2 : wordsOf (piecesB 32 rows[k]) = ws) (h3 : rowF s ws = (0, s')) : runTo rows (k + 1) = (s', []) := by
  simp only [runTo, h1, getB h, h2, h3, addR]
  simp
/-- The text of a valid basket is read back, without reports. -/
theorem read_text {st : Int} {ls : List LyT} {b : ByteArray} (hok : okB st ls b = true) (hst : st ≠ 0) : readB (textV st ls b) = ((st, ls, b), []) := by
  rcases BkOk.st (s := (st, ls, b)) hok with ⟨h, _⟩ | ⟨h1, h2, h3, h4⟩
  · exact absurd h hst
  simp only at h1 h2 h3 h4
  have hly : ∀ k (hk : k < ls.length), layerK st k B0 ls[k] = 0 := fun k hk => by
    have := of_decide_eq_true (allTo_get h3 hk)
    rwa [getL hk] at this
  have hb4 : b.size = 0 ∨ bendsB b = true := h4.imp id borderK_facts
  have hfree := lines_free (st := st) (ls := ls) (b := b) (by omega) (fun p hp => by
    obtain ⟨i, hi, rfl⟩ := List.getElem_of_mem hp
    obtain ⟨q1, q2, _⟩ := layerK_facts (hly i hi)
    exact ⟨q1, by omega⟩) hb4
  have hrows : piecesB 10 (textV st ls b) = (linesL st ls b ++ [[]]).map txt := by
    unfold piecesB
    rw [textV_data (by omega), pieces_lines 10 _ hfree]; rfl
  unfold readB
  rw [hrows]
  obtain ⟨rows, hR⟩ : ∃ rows, rows = (linesL st ls b ++ [[]]).map txt := ⟨_, rfl⟩
  rw [← hR]
  have hlen : rows.length = ls.length + 2 + (if b.size = 0 then 0 else 1) := by
    rw [hR]; unfold linesL; split <;> simp
  have get : ∀ (k : Nat) (l : List UInt8) (hk : k < rows.length), (linesL st ls b ++ [[]])[k]? = some l → rows[k] = txt l := fun k l hk h => by
    have e : rows[k]? = some (txt l) := by rw [hR, List.getElem?_map, h]; rfl
    rw [List.getElem?_eq_getElem hk] at e
    exact Option.some.inj e
  have hz : 0 < rows.length := by omega
  have r1 : runTo rows 1 = ((st, [], B0), []) := by
    refine run_succ rows 0 hz (s := (0, [], B0)) rfl (ws := [kwS, decT st]) ?_ ?_
    · rw [get 0 (sL st) hz (by simp [linesL])]; exact words_s (by omega)
    · refine row_s ?_ (by omega) _ _
      have : inB st 3 60 = true := by simp [inB]; omega
      simp [stakesK, this]
  have rk : ∀ k, k ≤ ls.length → runTo rows (k + 1) = ((st, ls.take k, B0), []) := by
    intro k
    induction k with
    | zero => intro _; rw [r1]; simp
    | succ k ih =>
      intro hk
      have hlt : k < ls.length := hk
      have hkr : k + 1 < rows.length := by omega
      obtain ⟨q1, q2, q3⟩ := layerK_facts (hly k hlt)
      refine run_succ rows (k + 1) hkr (ih (by omega)) (ws := [kwW, ls[k].1, decT ls[k].2]) ?_ ?_
      · rw [get (k + 1) (wL ls[k]) hkr (by
          unfold linesL
          rw [List.cons_append, List.getElem?_cons_succ, List.append_assoc, List.getElem?_append_left (by simp; omega), List.getElem?_map, List.getElem?_eq_getElem hlt]; rfl)]
        exact words_w q1 (by omega)
      · rw [List.take_add_one, List.getElem?_eq_getElem hlt]
        have hl : (ls.take k).length = k := by simp; omega
        exact row_w (by rw [hl]; exact hly k hlt)
  have rl := rk ls.length (Nat.le_refl _)
  rw [List.take_length] at rl
  by_cases hb : b.size = 0
  · have hbe : b = B0 := by
      have := isEmptyE b
      have : b = ByteArray.empty := by rw [this]; exact hb
      rw [this]; rfl
    rw [if_pos hb] at hlen
    rw [hlen]
    have hkr : ls.length + 1 < rows.length := by omega
    refine run_succ rows (ls.length + 1) hkr rl (ws := []) ?_ ?_
    · rw [get _ [] hkr (by unfold linesL; rw [if_pos hb]; simp)]; exact words_0
    · rw [hbe]; rfl
  · rw [if_neg hb] at hlen
    rw [hlen]
    have hkr : ls.length + 1 < rows.length := by omega
    have hkr2 : ls.length + 2 < rows.length := by omega
    have h5 := h4.resolve_left hb
    refine run_succ rows (ls.length + 2) hkr2 (s := (st, ls, b)) ?_ (ws := []) ?_ ?_
    · refine run_succ rows (ls.length + 1) hkr rl (ws := [kwB, b]) ?_ (row_b h5)
      rw [get _ (bL b) hkr (by unfold linesL; rw [if_neg hb]; simp)]; exact words_b (borderK_facts h5)
    · rw [get _ [] hkr2 (by unfold linesL; rw [if_neg hb]; simp)]; exact words_0
    · rfl
end Go.Proofs.YtmbijgnmbapchaaGreatDoor
namespace Go.Proofs.YtmbijgnmbapchaaGreatDoor
open Go.Abs Go.RowKit Go.Law

abbrev litRow : ByteArray := ⟨#[114, 111, 119, 32]⟩
abbrev litCol : ByteArray := ⟨#[58, 32]⟩
theorem size_Row : litRow.size = 4 := rfl
theorem size_Col : litCol.size = 2 := rfl
def kindL : List ByteArray := [⟨#[119, 111, 114, 100]⟩, ⟨#[99, 111, 117, 110, 116]⟩, ⟨#[110, 117, 109, 98, 101, 114]⟩, ⟨#[115, 116, 114, 111, 107, 101]⟩, ⟨#[111, 114, 100, 101, 114]⟩, ⟨#[116, 119, 105, 99, 101]⟩, ⟨#[102, 117, 108, 108]⟩]
def kindW (k : Int) : ByteArray := kindL.getD (k.toNat - 1) B0
/-- The text of a report. -/
def repT (p : I2) : ByteArray := if inB p.1 1 3001 && inB p.2 1 7 then ((litRow ++ decT p.1) ++ litCol) ++ kindW p.2 else ⟨#[]⟩
theorem kind_ways {q : Int} (h : inB q 1 7 = true) : q = 1 ∨ q = 2 ∨ q = 3 ∨ q = 4 ∨ q = 5 ∨ q = 6 ∨ q = 7 := by
  simp [inB] at h; omega
theorem kindW_size {q : Int} (h : inB q 1 7 = true) : (kindW q).size ≤ 10 := by
  rcases kind_ways h with rfl | rfl | rfl | rfl | rfl | rfl | rfl <;> decide
theorem kind_S {q : Int} (h : inB q 1 7 = true) : (([.string ⟨#[]⟩, .string ⟨#[119, 111, 114, 100]⟩, .string ⟨#[99, 111, 117, 110, 116]⟩, .string ⟨#[110, 117, 109, 98, 101, 114]⟩, .string ⟨#[115, 116, 114, 111, 107, 101]⟩, .string ⟨#[111, 114, 100, 101, 114]⟩, .string ⟨#[116, 119, 105, 99, 101]⟩, .string ⟨#[102, 117, 108, 108]⟩] : List Value))[q.toNat]? = some (.string (kindW q)) := by
  rcases kind_ways h with rfl | rfl | rfl | rfl | rfl | rfl | rfl <;> rfl
theorem kind_I {q : Int} (h : inB q 1 7 = true) : (([.string ⟨#[119, 111, 114, 100]⟩, .string ⟨#[99, 111, 117, 110, 116]⟩, .string ⟨#[110, 117, 109, 98, 101, 114]⟩, .string ⟨#[115, 116, 114, 111, 107, 101]⟩, .string ⟨#[111, 114, 100, 101, 114]⟩, .string ⟨#[116, 119, 105, 99, 101]⟩, .string ⟨#[102, 117, 108, 108]⟩] : List Value))[q.toNat - 1]? = some (.string (kindW q)) := by
  rcases kind_ways h with rfl | rfl | rfl | rfl | rfl | rfl | rfl <;> rfl
theorem specRep_c (p : I2) (m : Mem) : ACalls Tryz.prog 16 [.agg (v2 p).toArray] m (.string (repT p)) m := by
  obtain ⟨r, q⟩ := p
  obtain ⟨m0, hm0⟩ : ∃ m0 : Mem, m0 = m ++ [⟨[.int .i64 r, .int .i64 q], 36, 2, 1⟩, ⟨[.string ⟨#[]⟩, .string ⟨#[119, 111, 114, 100]⟩, .string ⟨#[99, 111, 117, 110, 116]⟩, .string ⟨#[110, 117, 109, 98, 101, 114]⟩, .string ⟨#[115, 116, 114, 111, 107, 101]⟩, .string ⟨#[111, 114, 100, 101, 114]⟩, .string ⟨#[116, 119, 105, 99, 101]⟩, .string ⟨#[102, 117, 108, 108]⟩], 9, 1, 1⟩] := ⟨_, rfl⟩
  have hm0' := hm0.symm
  have hp0 : m <+: m0 := by rw [hm0]; exact ⟨_, rfl⟩
  have t0 : m0[m.length]? = some ⟨[.int .i64 r, .int .i64 q], 36, 2, 1⟩ := by rw [hm0]; simp
  have t1 : m0[m.length + 1]? = some ⟨[.string ⟨#[]⟩, .string ⟨#[119, 111, 114, 100]⟩, .string ⟨#[99, 111, 117, 110, 116]⟩, .string ⟨#[110, 117, 109, 98, 101, 114]⟩, .string ⟨#[115, 116, 114, 111, 107, 101]⟩, .string ⟨#[111, 114, 100, 101, 114]⟩, .string ⟨#[116, 119, 105, 99, 101]⟩, .string ⟨#[102, 117, 108, 108]⟩], 9, 1, 1⟩ := by rw [hm0]; simp
  refine acalls_of_vcF [4] Tryz.func16 rfl Tryz.fol (by kernel_rfl) ?_
  simp only [Tryz.f16, v2]
  simp -dsimp -implicitDefEqProofs [hm0', withO_of t0]
  refine callsTo Tryz.cal36 (l00In_c _ _ _ _) ?_
  simp -dsimp -implicitDefEqProofs [hm0', withO_of t0]
  cases h1 : inB r 1 3001
  · simp -dsimp -implicitDefEqProofs [hm0', withO_of t0]
    exact GC.dropP hp0 (by simp [repT, h1]) rfl
  simp -dsimp -implicitDefEqProofs [hm0', withO_of t0]
  refine callsTo Tryz.cal36 (l00In_c _ _ _ _) ?_
  simp -dsimp -implicitDefEqProofs [hm0', withO_of t0]
  cases h2 : inB q 1 7
  · simp -dsimp -implicitDefEqProofs [hm0', withO_of t0]
    exact GC.dropP hp0 (by simp [repT, h1, h2]) rfl
  have hc := kind_S h2
  have hin : in64 r := by simp [inB] at h1; unfold in64; omega
  have hd := decT_size hin
  have hks := kindW_size h2
  have hq : 0 ≤ q ∧ q < 8 := by simp [inB] at h2; omega
  simp -dsimp -implicitDefEqProofs [hm0', withO_of t0]
  refine regF [[], [], [], [], [], [], [], [2], [2], [2], [], []] 0 (by kernel_rfl) (by kernel_rfl) ?_
  simp -dsimp -implicitDefEqProofs [hm0', withO_of t0, withO_of t1, hq, withC_of hc, ByteArray.size_append, size_Row, size_Col]
  refine callsTo Tryz.cal37 (l01Dec_c r hin _) ?_
  simp -dsimp -implicitDefEqProofs [hm0', withO_of t0, withO_of t1, hq, withC_of hc, ByteArray.size_append, size_Row, size_Col]
  exact ⟨by omega, by omega, by omega, GC.dropP hp0 (by simp [repT, h1, h2]) rfl⟩
theorem infA : tinf Tryz.prog 62 = some (7, 112, some (.agg #[.string ⟨#[]⟩, .string ⟨#[]⟩, .string ⟨#[]⟩, .string ⟨#[]⟩, .string ⟨#[]⟩, .string ⟨#[]⟩, .string ⟨#[]⟩])) := by kernel_rfl
theorem plcA : placesOf Tryz.prog 62 = some [(0, 1), (1, 1), (2, 1), (3, 1), (4, 1), (5, 1), (6, 1)] := by kernel_rfl
theorem arrA : arrElem Tryz.prog 62 = some (7, 9) := by kernel_rfl
theorem aggA : aggB Tryz.prog 62 = some true := by kernel_rfl
theorem implRep_c (p : I2) (m : Mem) : ACalls Tryz.prog 15 [.agg (v2 p).toArray] m (.string (repT p)) m := by
  obtain ⟨r, q⟩ := p
  obtain ⟨m0, hm0⟩ : ∃ m0 : Mem, m0 = m ++ [⟨[.int .i64 r, .int .i64 q], 36, 2, 1⟩, ⟨[.string ⟨#[119, 111, 114, 100]⟩, .string ⟨#[99, 111, 117, 110, 116]⟩, .string ⟨#[110, 117, 109, 98, 101, 114]⟩, .string ⟨#[115, 116, 114, 111, 107, 101]⟩, .string ⟨#[111, 114, 100, 101, 114]⟩, .string ⟨#[116, 119, 105, 99, 101]⟩, .string ⟨#[102, 117, 108, 108]⟩], 62, 7, 1⟩] := ⟨_, rfl⟩
  have hm0' := hm0.symm
  have hp0 : m <+: m0 := by rw [hm0]; exact ⟨_, rfl⟩
  have t0 : m0[m.length]? = some ⟨[.int .i64 r, .int .i64 q], 36, 2, 1⟩ := by rw [hm0]; simp
  have t1 : m0[m.length + 1]? = some ⟨[.string ⟨#[119, 111, 114, 100]⟩, .string ⟨#[99, 111, 117, 110, 116]⟩, .string ⟨#[110, 117, 109, 98, 101, 114]⟩, .string ⟨#[115, 116, 114, 111, 107, 101]⟩, .string ⟨#[111, 114, 100, 101, 114]⟩, .string ⟨#[116, 119, 105, 99, 101]⟩, .string ⟨#[102, 117, 108, 108]⟩], 62, 7, 1⟩ := by rw [hm0]; simp
  refine acalls_of_vcF [4] Tryz.func15 rfl Tryz.fol (by kernel_rfl) ?_
  simp only [Tryz.f15, v2]
  simp -dsimp -implicitDefEqProofs [infA, plcA, arrA, aggA, hm0', withO_of t0]
  refine callsTo Tryz.cal35 (within_c _ _ _ _) ?_
  simp -dsimp -implicitDefEqProofs [infA, plcA, arrA, aggA, hm0', withO_of t0]
  cases h1 : inB r 1 3001
  · simp -dsimp -implicitDefEqProofs [infA, plcA, arrA, aggA, hm0', withO_of t0]
    exact GC.dropP hp0 (by simp [repT, h1]) rfl
  simp -dsimp -implicitDefEqProofs [infA, plcA, arrA, aggA, hm0', withO_of t0]
  refine callsTo Tryz.cal35 (within_c _ _ _ _) ?_
  simp -dsimp -implicitDefEqProofs [infA, plcA, arrA, aggA, hm0', withO_of t0]
  cases h2 : inB q 1 7
  · simp -dsimp -implicitDefEqProofs [infA, plcA, arrA, aggA, hm0', withO_of t0]
    exact GC.dropP hp0 (by simp [repT, h1, h2]) rfl
  have hc := kind_I h2
  have hin : in64 r := by simp [inB] at h1; unfold in64; omega
  have hd := decT_size hin
  have hks := kindW_size h2
  have hq : 1 ≤ q ∧ q ≤ 7 := by simp [inB] at h2; omega
  have hw : IntKind.i64.wrap (q - 1) = q - 1 := wrapI (by omega) (by omega)
  have hq1 : 1 ≤ q := hq.1
  have hq7 : q - 1 < 7 := by omega
  simp -dsimp -implicitDefEqProofs [infA, plcA, arrA, aggA, hm0', withO_of t0]
  refine regF [[], [], [], [], [], [], [2], [], [2], [2], [], []] 0 (by kernel_rfl) (by kernel_rfl) ?_
  simp -dsimp -implicitDefEqProofs [infA, plcA, arrA, aggA, hm0', withO_of t0, withO_of t1, hw, hq1, hq7, withC_of hc, ByteArray.size_append, size_Row, size_Col]
  refine callsTo Tryz.cal27 (implDecimal_c r hin _) ?_
  simp -dsimp -implicitDefEqProofs [infA, plcA, arrA, aggA, hm0', withO_of t0, withO_of t1, hw, hq1, hq7, withC_of hc, ByteArray.size_append, size_Row, size_Col]
  exact ⟨by omega, by omega, by omega, GC.dropP hp0 (by simp [repT, h1, h2]) rfl⟩
/-- A report's text has bytes. -/
theorem repT_some {p : I2} (h1 : 1 ≤ p.1 ∧ p.1 ≤ 3001) (h2 : 1 ≤ p.2 ∧ p.2 ≤ 7) : ¬ (repT p).size = 0 := by
  have e1 : inB p.1 1 3001 = true := by simp [inB, h1]
  have e2 : inB p.2 1 7 = true := by simp [inB, h2]
  unfold repT
  rw [e1, e2]
  simp only [Bool.and_self, if_true, ByteArray.size_append, size_Row]
  omega
end Go.Proofs.YtmbijgnmbapchaaGreatDoor
