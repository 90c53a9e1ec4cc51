/-
  Baskets, part 5: which baskets are valid, the program's code. Conditions: none.
-/
import Derived.Test.YtmbijgnmbapchaaDoorBkD
set_option linter.unusedSimpArgs false
set_option linter.unusedVariables false
set_option linter.unusedSectionVars false
namespace Go.Proofs.YtmbijgnmbapchaaDoor
open Go.Abs Go.RowKit

theorem laysTo_le {st : Int} {ls : List LyT} {k : Nat} (h : laysTo st ls k = true) : k ≤ 40 := by
  cases k with
  | zero => omega
  | succ i =>
    have := allTo_get h (show i < i + 1 by omega)
    have := (layerK_zero (of_decide_eq_true this)).2
    omega
theorem okB_lays {st : Int} {ls : List LyT} {b : ByteArray} (h : st = 0 ∨ inB st 3 60 = true) : okB st ls b = (laysTo st ls ls.length && (decide (b.size = 0) || decide (borderK st B0 b = 0))) := by
  rcases h with rfl | h
  · unfold okB
    rw [if_pos rfl]
    by_cases hl : ls = []
    · subst hl
      have : borderK 0 B0 b ≠ 0 := by unfold borderK; split <;> simp
      simp [laysTo, this]
    · have : laysTo 0 ls ls.length = false := by
        have hpos : 0 < ls.length := List.length_pos_iff.2 hl
        refine allTo_false hpos ?_
        simp only [decide_eq_false_iff_not]
        intro e
        exact (layerK_zero e).1 rfl
      simp [hl, this]
  · have h0 : st ≠ 0 := by rintro rfl; simp [inB] at h
    simp [okB, h0, h]
theorem validBasket_c (st : Int) (ls : List LyT) (b : ByteArray) (A : Option Addr) (m : Mem) (hr : RdG vl 2 m A ls) (hn : ls.length ≤ 1048576) (hs : ∀ p ∈ ls, p.1.size ≤ maxLen) (hb : b.size ≤ maxLen) :
    ACalls Tryd.prog 59 [.agg (bkC st A ls.length b).toArray] m (.bool (okB st ls b)) m := by
  have hbE := emptyE b
  obtain ⟨m1, hm1⟩ : ∃ m1 : Mem, m1 = m ++ [⟨[.int .i64 st, .slice A ls.length ls.length, .string b], 29, 3, 1⟩, ⟨[.int .i64 0, .slice none 0 0, .string ⟨#[]⟩], 29, 3, 1⟩] := ⟨_, rfl⟩
  have hp1 : m <+: m1 := by rw [hm1]; exact ⟨_, rfl⟩
  have hx : m1[m.length]? = some ⟨[.int .i64 st, .slice A ls.length ls.length, .string b], 29, 3, 1⟩ := by rw [hm1]; simp
  have t1 : m1[m.length + 1]? = some ⟨[.int .i64 0, .slice none 0 0, .string ⟨#[]⟩], 29, 3, 1⟩ := by rw [hm1]; simp
  have hB1 : BkAt m1 (m.length + 1) (m.length + 1) 0 [] B0 := ⟨none, t1, .inl ⟨rfl, rfl, rfl⟩⟩
  have hset := set_self t1
  have hl1 : m1.length = m.length + 2 := by rw [hm1]; simp
  obtain ⟨mB, hmB⟩ : ∃ mB, mB = m ++ [(⟨[.int .i64 st, .slice A ls.length ls.length, .string b], 29, 3, 1⟩ : AObj)] := ⟨_, rfl⟩
  have hmBl : mB.length = m.length + 1 := by rw [hmB]; simp
  have hpB : m <+: mB := by rw [hmB]; exact ⟨_, rfl⟩
  have hpB1 : mB <+: m1 := by rw [hmB, hm1]; exact ⟨[⟨[.int .i64 0, .slice none 0 0, .string ⟨#[]⟩], 29, 3, 1⟩], by simp⟩
  have hxB : mB[m.length]? = some ⟨[.int .i64 st, .slice A ls.length ls.length, .string b], 29, 3, 1⟩ := by rw [hmB]; simp
  by_cases h0 : st = 0
  · subst h0
    have hokB := okB_lays (st := 0) (ls := ls) (b := b) (.inl rfl)
    have hst : (0 : Int) = 0 ∨ 3 ≤ (0 : Int) ∧ (0 : Int) ≤ 60 := .inl rfl
    refine acalls_of_vc Tryd.func59 rfl Tryd.fol (by kernel_rfl) ?_
    simp only [Tryd.f59, bkC]
    simp -dsimp -implicitDefEqProofs [hm1.symm, withO_of hx, withO_of t1, hset]
    refine loopN ls.length (fun k σ m' => mB <+: m' ∧ (∃ j, mB.length ≤ j ∧ BkAt m' (m.length + 1) j 0 (ls.take k) B0) ∧ laysTo 0 ls k = true ∧ σ 1 = some (.pointer (some ⟨m.length, 0, none⟩)) ∧ σ 3 = some (.pointer (some ⟨m.length + 1, 0, none⟩)) ∧ σ 17 = some (.slice A ls.length ls.length) ∧ σ 18 = some (.int .i64 ls.length) ∧ σ 19 = some (.int .i64 k))
      ⟨hpB1, ⟨m.length + 1, by omega, by simpa using hB1⟩, rfl, by simp, by simp, by simp, by simp, by simp⟩ ?_
    rintro k σ m' hk' ⟨hp, ⟨j, hj, hB⟩, hok, s1, s3, s17, s18, s19⟩
    have hxm := prefix_get hp hxB
    have hml := hp.length_le
    by_cases hlt : k < ls.length
    · have hw : IntKind.i64.wrap ((k : Int) + 1) = k + 1 := wrapI (by omega) (by omega)
      obtain ⟨id, off, ob, rfl, hmo, hkd, hsz, hlen, hrow, _⟩ := RL.at_ (hr.pre (hpB.trans hp)) hlt
      have hk40 := laysTo_le hok
      have hkk : (ls.take k).length = k := by simp; omega
      obtain ⟨m3, hm3⟩ : ∃ m3, m3 = m' ++ [(⟨[.string ls[k].1, .int .i64 ls[k].2], 56, 2, 1⟩ : AObj)] := ⟨_, rfl⟩
      have hp3 : m' <+: m3 := by rw [hm3]; exact ⟨_, rfl⟩
      have t3 : m3[m'.length]? = some ⟨[.string ls[k].1, .int .i64 ls[k].2], 56, 2, 1⟩ := by rw [hm3]; simp
      have hB3 : BkAt m3 (m.length + 1) j 0 (ls.take k) B0 := hB.rest (RestS.of_pre (S := []) hp3) (by simp) (by simp)
      obtain ⟨v4, m4, hc4, rfl, hr4, j4, hj4, hB4⟩ := addLayer_c (m.length + 1) j 0 ls[k] (ls.take k) B0 m3 hB3 (hs _ (List.getElem_mem hlt)) (by omega)
      rw [hkk] at hc4 hB4
      have hp4 : mB <+: m4 := restPre hr4 (hp.trans hp3) (by omega) hj
      have hl3 := hp3.length_le
      simp -dsimp -implicitDefEqProofs [s1, s3, s17, s18, s19, hlt, withO_of hmo, hkd, hsz, hlen, hrow, hw, vl, hm3.symm, withO_of t3]
      refine callsTo Tryd.cal108 hc4 ?_
      simp -dsimp -implicitDefEqProofs [s1, s3, s17, s18, s19, hlt, withO_of hmo, hkd, hsz, hlen, hrow, hw, vl, hm3.symm, withO_of t3]
      by_cases hz : layerK 0 k B0 ls[k] = 0
      · rw [if_pos hz] at hB4
        have hz' : (layerK 0 k B0 ls[k] != 0) = false := by simp [hz]
        simp -dsimp -implicitDefEqProofs [s1, s3, s17, s18, s19, hlt, withO_of hmo, hkd, hsz, hlen, hrow, hw, vl, hm3.symm, withO_of t3, hz']
        exact next_ hlt ⟨hp4, ⟨j4, by omega, by rw [List.take_add_one, List.getElem?_eq_getElem hlt]; exact hB4⟩, allTo_succ hok (by rw [getL hlt]; simpa using hz), by simp [s1], by simp [s3], by simp [s17], by simp [s18], by simp [hw]⟩
      · have hz' : (layerK 0 k B0 ls[k] != 0) = true := by simpa using hz
        simp -dsimp -implicitDefEqProofs [s1, s3, s17, s18, s19, hlt, withO_of hmo, hkd, hsz, hlen, hrow, hw, vl, hm3.symm, withO_of t3, hz']
        exact GC.dropP (hpB.trans hp4) (by
          have : laysTo 0 ls ls.length = false := allTo_false hlt (by rw [getL hlt]; simpa using hz)
          simp [hokB, this]) rfl
    · obtain rfl : k = ls.length := by omega
      rw [List.take_of_length_le (Nat.le_refl _)] at hB
      by_cases hbz : b.size = 0
      · simp -dsimp -implicitDefEqProofs [s1, s3, s17, s18, s19, withO_of hxm, hbE, hbz]
        exact GC.dropP (hpB.trans hp) (by simp [hokB, hok, hbz]) rfl
      · obtain ⟨v3, m3, hc3, rfl, hr3, j3, hj3, hB3⟩ := setBorder_c (m.length + 1) j 0 b ls B0 m' hB hb hst
        have hp3 : mB <+: m3 := restPre hr3 hp (by omega) hj
        simp -dsimp -implicitDefEqProofs [s1, s3, s17, s18, s19, withO_of hxm, hbE, hbz]
        refine callsTo Tryd.cal109 hc3 ?_
        simp -dsimp -implicitDefEqProofs [s1, s3, s17, s18, s19, withO_of hxm, hbE, hbz]
        exact GC.dropP (hpB.trans hp3) (by
          simp [hokB, hok, hbz]
          rfl) rfl
  · have h0' : (st != 0) = true := by simpa using h0
    obtain ⟨v2, m2, hc2, rfl, hr2, j2, hj2, hB2⟩ := setStakes_c (m.length + 1) (m.length + 1) 0 st [] B0 m1 hB1 (by omega)
    have hp2 : mB <+: m2 := restPre hr2 hpB1 (by omega) (by omega)
    refine acalls_of_vc Tryd.func59 rfl Tryd.fol (by kernel_rfl) ?_
    simp only [Tryd.f59, bkC]
    simp -dsimp -implicitDefEqProofs [hm1.symm, withO_of hx, withO_of t1, hset, h0']
    refine callsTo Tryd.cal107 hc2 ?_
    simp -dsimp -implicitDefEqProofs [hm1.symm, withO_of hx, withO_of t1, hset, h0']
    cases hin : inB st 3 60
    · have e : stakesK 0 st = 3 := by simp [stakesK, hin]
      simp -dsimp -implicitDefEqProofs [hm1.symm, withO_of hx, withO_of t1, hset, h0', e]
      exact GC.dropP (hpB.trans hp2) (by simp [okB, h0, hin]) rfl
    have e : stakesK 0 st = 0 := by simp [stakesK, hin]
    rw [if_pos e] at hB2
    have hokB := okB_lays (st := st) (ls := ls) (b := b) (.inr hin)
    have hst : st = 0 ∨ 3 ≤ st ∧ st ≤ 60 := .inr (by simpa [inB] using hin)
    have hx2 := prefix_get hp2 hxB
    simp -dsimp -implicitDefEqProofs [withO_of hx2, e]
    refine loopN ls.length (fun k σ m' => mB <+: m' ∧ (∃ j, mB.length ≤ j ∧ BkAt m' (m.length + 1) j st (ls.take k) B0) ∧ laysTo st ls k = true ∧ σ 1 = some (.pointer (some ⟨m.length, 0, none⟩)) ∧ σ 3 = some (.pointer (some ⟨m.length + 1, 0, none⟩)) ∧ σ 17 = some (.slice A ls.length ls.length) ∧ σ 18 = some (.int .i64 ls.length) ∧ σ 19 = some (.int .i64 k))
      ⟨hp2, ⟨j2, by omega, by simpa using hB2⟩, rfl, by simp, by simp, by simp, by simp, by simp⟩ ?_
    rintro k σ m' hk' ⟨hp, ⟨j, hj, hB⟩, hok, s1, s3, s17, s18, s19⟩
    have hxm := prefix_get hp hxB
    have hml := hp.length_le
    by_cases hlt : k < ls.length
    · have hw : IntKind.i64.wrap ((k : Int) + 1) = k + 1 := wrapI (by omega) (by omega)
      obtain ⟨id, off, ob, rfl, hmo, hkd, hsz, hlen, hrow, _⟩ := RL.at_ (hr.pre (hpB.trans hp)) hlt
      have hk40 := laysTo_le hok
      have hkk : (ls.take k).length = k := by simp; omega
      obtain ⟨m3, hm3⟩ : ∃ m3, m3 = m' ++ [(⟨[.string ls[k].1, .int .i64 ls[k].2], 56, 2, 1⟩ : AObj)] := ⟨_, rfl⟩
      have hp3 : m' <+: m3 := by rw [hm3]; exact ⟨_, rfl⟩
      have t3 : m3[m'.length]? = some ⟨[.string ls[k].1, .int .i64 ls[k].2], 56, 2, 1⟩ := by rw [hm3]; simp
      have hB3 : BkAt m3 (m.length + 1) j st (ls.take k) B0 := hB.rest (RestS.of_pre (S := []) hp3) (by simp) (by simp)
      obtain ⟨v4, m4, hc4, rfl, hr4, j4, hj4, hB4⟩ := addLayer_c (m.length + 1) j st ls[k] (ls.take k) B0 m3 hB3 (hs _ (List.getElem_mem hlt)) (by omega)
      rw [hkk] at hc4 hB4
      have hp4 : mB <+: m4 := restPre hr4 (hp.trans hp3) (by omega) hj
      have hl3 := hp3.length_le
      simp -dsimp -implicitDefEqProofs [s1, s3, s17, s18, s19, hlt, withO_of hmo, hkd, hsz, hlen, hrow, hw, vl, hm3.symm, withO_of t3]
      refine callsTo Tryd.cal108 hc4 ?_
      simp -dsimp -implicitDefEqProofs [s1, s3, s17, s18, s19, hlt, withO_of hmo, hkd, hsz, hlen, hrow, hw, vl, hm3.symm, withO_of t3]
      by_cases hz : layerK st k B0 ls[k] = 0
      · rw [if_pos hz] at hB4
        have hz' : (layerK st k B0 ls[k] != 0) = false := by simp [hz]
        simp -dsimp -implicitDefEqProofs [s1, s3, s17, s18, s19, hlt, withO_of hmo, hkd, hsz, hlen, hrow, hw, vl, hm3.symm, withO_of t3, hz']
        exact next_ hlt ⟨hp4, ⟨j4, by omega, by rw [List.take_add_one, List.getElem?_eq_getElem hlt]; exact hB4⟩, allTo_succ hok (by rw [getL hlt]; simpa using hz), by simp [s1], by simp [s3], by simp [s17], by simp [s18], by simp [hw]⟩
      · have hz' : (layerK st k B0 ls[k] != 0) = true := by simpa using hz
        simp -dsimp -implicitDefEqProofs [s1, s3, s17, s18, s19, hlt, withO_of hmo, hkd, hsz, hlen, hrow, hw, vl, hm3.symm, withO_of t3, hz']
        exact GC.dropP (hpB.trans hp4) (by
          have : laysTo st ls ls.length = false := allTo_false hlt (by rw [getL hlt]; simpa using hz)
          simp [hokB, this]) rfl
    · obtain rfl : k = ls.length := by omega
      rw [List.take_of_length_le (Nat.le_refl _)] at hB
      by_cases hbz : b.size = 0
      · simp -dsimp -implicitDefEqProofs [s1, s3, s17, s18, s19, withO_of hxm, hbE, hbz]
        exact GC.dropP (hpB.trans hp) (by simp [hokB, hok, hbz]) rfl
      · obtain ⟨v3, m3, hc3, rfl, hr3, j3, hj3, hB3⟩ := setBorder_c (m.length + 1) j st b ls B0 m' hB hb hst
        have hp3 : mB <+: m3 := restPre hr3 hp (by omega) hj
        simp -dsimp -implicitDefEqProofs [s1, s3, s17, s18, s19, withO_of hxm, hbE, hbz]
        refine callsTo Tryd.cal109 hc3 ?_
        simp -dsimp -implicitDefEqProofs [s1, s3, s17, s18, s19, withO_of hxm, hbE, hbz]
        exact GC.dropP (hpB.trans hp3) (by
          simp [hokB, hok, hbz]
          rfl) rfl
end Go.Proofs.YtmbijgnmbapchaaDoor
