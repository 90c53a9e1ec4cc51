/-
  Baskets, part 4: which baskets are valid. Conditions: none.
-/
import Derived.Test.YtmbijgnmbapchaaDoorBkC
set_option linter.unusedSimpArgs false
set_option linter.unusedVariables false
set_option linter.unusedSectionVars false
namespace Go.Proofs.YtmbijgnmbapchaaDoor
open Go.Abs Go.RowKit

abbrev B0 : ByteArray := ⟨#[]⟩
/-- The first k layers can be woven, one after the other. -/
def laysTo (st : Int) (ls : List LyT) (k : Nat) : Bool := (List.range k).all fun i => decide (layerK st i B0 (ls.getD i (B0, 0)) = 0)
def okB (st : Int) (ls : List LyT) (b : ByteArray) : Bool :=
  if st = 0 then decide (ls = []) && decide (b.size = 0) else inB st 3 60 && laysTo st ls ls.length && (decide (b.size = 0) || decide (borderK st B0 b = 0))
theorem getL {ls : List LyT} {k : Nat} (h : k < ls.length) : ls.getD k (B0, 0) = ls[k] := by simp [List.getD_eq_getElem?_getD, List.getElem?_eq_getElem h]
theorem layerK_zero {st : Int} {i : Nat} {p : LyT} (h : layerK st i B0 p = 0) : st ≠ 0 ∧ i < 40 := by
  unfold layerK at h
  repeat' split at h
  all_goals first | (exfalso; omega) | skip
  rename_i h1 h2 h3 h4
  exact ⟨fun e => h3 (.inl e), by omega⟩
theorem bkZero (m l : Mem) (i : Nat) (hi : (m ++ l)[i]? = some ⟨[.int .i64 0, .slice none 0 0, .string ⟨#[]⟩], 29, 3, 1⟩) : BkAt (m ++ l) i i 0 [] B0 := ⟨none, hi, .inl ⟨rfl, rfl, rfl⟩⟩
theorem restPre {m0 m m' : Mem} {id j : Nat} (h : RestS [id, j] m m') (hp : m0 <+: m) (h1 : m0.length ≤ id) (h2 : m0.length ≤ j) : m0 <+: m' :=
  h.base hp (by intro i hi; rcases List.mem_cons.1 hi with rfl | hi; · exact h1
                rcases List.mem_cons.1 hi with rfl | hi; · exact h2
                cases hi)
theorem l17Ok_c (st : Int) (ls : List LyT) (b : ByteArray) (A : Option Addr) (xi : Nat) (o : AObj) (m : Mem) (hx : m[xi]? = some o) (hk : o.kind ≤ 2) (hc : o.cells = bkC st A ls.length b) (hr : RdG vl 2 m A ls) (hn : ls.length ≤ 1048576) (hs : ∀ p ∈ ls, p.1.size ≤ maxLen) (hb : b.size ≤ maxLen) :
    ACalls Tryd.prog 56 [.pointer (some ⟨xi, 0, none⟩)] m (.bool (okB st ls b)) m := by
  obtain ⟨cells, ty, sz, kd⟩ := o
  simp only at hk hc
  subst hc
  simp only [bkC] at hx
  have hbE := emptyE b
  by_cases h0 : st = 0
  · subst h0
    by_cases hl : ls = []
    · subst hl
      refine acalls_of_vc Tryd.func56 rfl Tryd.fol (by kernel_rfl) ?_
      simp only [Tryd.f56]
      simp -dsimp -implicitDefEqProofs [fun l => withO_of (get_old (l := l) hx), hk, hbE]
      exact GC.dropEq (by simp [okB]) rfl
    · have hl' : ((ls.length : Int) == 0) = false := by
        refine beq_eq_false_iff_ne.2 fun e => hl (List.length_eq_zero_iff.1 (by omega))
      refine acalls_of_vc Tryd.func56 rfl Tryd.fol (by kernel_rfl) ?_
      simp only [Tryd.f56]
      simp -dsimp -implicitDefEqProofs [fun l => withO_of (get_old (l := l) hx), hk, hl']
      exact GC.dropEq (by simp [okB, hl]) rfl
  have h0' : (st == 0) = false := beq_eq_false_iff_ne.2 h0
  obtain ⟨m1, hm1⟩ : ∃ m1 : Mem, m1 = m ++ [⟨[.int .i64 0, .slice none 0 0, .string ⟨#[]⟩], 29, 3, 1⟩] := ⟨_, rfl⟩
  have hp1 : m <+: m1 := by rw [hm1]; exact ⟨_, rfl⟩
  have hB1 : BkAt m1 m.length m.length 0 [] B0 := by rw [hm1]; exact bkZero _ _ _ (by simp)
  obtain ⟨v2, m2, hc2, rfl, hr2, j2, hj2, hB2⟩ := l17Stakes_c m.length m.length 0 st [] B0 m1 hB1 (by omega)
  have t1 : m1[m.length]? = some ⟨[.int .i64 0, .slice none 0 0, .string ⟨#[]⟩], 29, 3, 1⟩ := by rw [hm1]; simp
  have hset := set_self t1
  have hx1 := prefix_get hp1 hx
  have hl1 : m1.length = m.length + 1 := by rw [hm1]; simp
  refine acalls_of_vc Tryd.func56 rfl Tryd.fol (by kernel_rfl) ?_
  simp only [Tryd.f56]
  simp -dsimp -implicitDefEqProofs [withO_of hx1, hk, h0', hm1.symm, withO_of t1, hset]
  refine callsTo Tryd.cal102 hc2 ?_
  simp -dsimp -implicitDefEqProofs [withO_of hx1, hk, h0', hm1.symm, withO_of t1, hset]
  have hp2 : m <+: m2 := restPre hr2 hp1 (Nat.le_refl _) (Nat.le_refl _)
  cases hin : inB st 3 60
  · have e : stakesK 0 st = 3 := by simp [stakesK, hin]
    simp -dsimp -implicitDefEqProofs [withO_of hx1, hk, h0', hm1.symm, withO_of t1, hset, e]
    exact GC.dropP hp2 (by simp [okB, h0, hin]) rfl
  have e : stakesK 0 st = 0 := by simp [stakesK, hin]
  rw [if_pos e] at hB2
  have hst : 3 ≤ st ∧ st ≤ 60 := by simpa [inB] using hin
  simp -dsimp -implicitDefEqProofs [withO_of hx1, hk, h0', hm1.symm, withO_of t1, hset, e]
  refine loopN ls.length (fun k σ m' => m <+: m' ∧ (∃ j, m.length ≤ j ∧ BkAt m' m.length j st (ls.take k) B0) ∧ laysTo st ls k = true ∧ σ 0 = some (.pointer (some ⟨xi, 0, none⟩)) ∧ σ 3 = some (.pointer (some ⟨m.length, 0, none⟩)) ∧ σ 4 = some (.int .i64 k))
    ⟨hp2, ⟨j2, by omega, by simpa using hB2⟩, rfl, by simp, by simp, by simp⟩ ?_
  rintro k σ m' hk' ⟨hp, ⟨j, hj, hB⟩, hok, s0, s3, s4⟩
  have hxm := prefix_get hp hx
  by_cases hlt : k < ls.length
  · have hw : IntKind.i64.wrap ((k : Int) + 1) = k + 1 := wrapI (by omega) (by omega)
    obtain ⟨id, off, ob, rfl, hmo, hkd, hsz, hlen, hrow, _⟩ := RL.at_ (hr.pre hp) hlt
    have hk40 : (ls.take k).length ≤ 40 := by
      have hle : ∀ i, i ≤ ls.length → laysTo st ls i = true → i ≤ 40 := fun i hi h => by
        cases i with
        | zero => omega
        | succ i =>
          have := allTo_get h (show i < i + 1 by omega)
          have := (layerK_zero (of_decide_eq_true this)).2
          omega
      have := hle k hk' hok
      simp; omega
    have hkk : (ls.take k).length = k := by simp; omega
    obtain ⟨v3, m3, hc3, rfl, hr3, j3, hj3, hB3⟩ := l17Layer_c m.length j st ls[k] (ls.take k) B0 m' hB (hs _ (List.getElem_mem hlt)) hk40
    rw [hkk] at hc3 hB3
    have hp3 : m <+: m3 := restPre hr3 hp (Nat.le_refl _) hj
    have hml := hp.length_le
    simp -dsimp -implicitDefEqProofs [s0, s3, s4, hlt, withO_of hxm, hk, withO_of hmo, hkd, hsz, hlen, hrow, hw]
    refine callsTo Tryd.cal103 hc3 ?_
    simp -dsimp -implicitDefEqProofs [s0, s3, s4, hlt, withO_of hxm, hk, withO_of hmo, hkd, hsz, hlen, hrow, hw]
    by_cases hz : layerK st k B0 ls[k] = 0
    · rw [if_pos hz] at hB3
      have hz' : (layerK st k B0 ls[k] != 0) = false := by simp [hz]
      simp -dsimp -implicitDefEqProofs [s0, s3, s4, hlt, withO_of hxm, hk, withO_of hmo, hkd, hsz, hlen, hrow, hw, hz']
      exact next_ hlt ⟨hp3, ⟨j3, by omega, by rw [List.take_add_one, List.getElem?_eq_getElem hlt]; exact hB3⟩, allTo_succ hok (by rw [getL hlt]; simpa using hz), by simp [s0], by simp [s3], by simp [hw]⟩
    · have hz' : (layerK st k B0 ls[k] != 0) = true := by simpa using hz
      simp -dsimp -implicitDefEqProofs [s0, s3, s4, hlt, withO_of hxm, hk, withO_of hmo, hkd, hsz, hlen, hrow, hw, hz']
      exact GC.dropP hp3 (by
        have : laysTo st ls ls.length = false := allTo_false hlt (by rw [getL hlt]; simpa using hz)
        simp [okB, h0, hin, this]) rfl
  · obtain rfl : k = ls.length := by omega
    rw [List.take_of_length_le (Nat.le_refl _)] at hB
    obtain ⟨v3, m3, hc3, rfl, hr3, j3, hj3, hB3⟩ := l17Border_c m.length j st b ls B0 m' hB hb (.inr hst)
    have hp3 : m <+: m3 := restPre hr3 hp (Nat.le_refl _) hj
    by_cases hbz : b.size = 0
    · simp -dsimp -implicitDefEqProofs [s0, s3, s4, withO_of hxm, hk, hbE, hbz]
      exact GC.dropP hp (by simp [okB, h0, hin, hok, hbz]) rfl
    · simp -dsimp -implicitDefEqProofs [s0, s3, s4, withO_of hxm, hk, hbE, hbz]
      refine callsTo Tryd.cal104 hc3 ?_
      simp -dsimp -implicitDefEqProofs [s0, s3, s4, withO_of hxm, hk, hbE, hbz]
      exact GC.dropP hp3 (by
        simp [okB, h0, hin, hok, hbz]
        rfl) rfl
end Go.Proofs.YtmbijgnmbapchaaDoor
