/-
  Baskets, part 13: marks of layers. Conditions: none.
-/
import Derived.Test.YtmbijgnmbapchaaDoorBkA
import Derived.Test.YtmbijgnmbapchaaDoorRest
set_option linter.unusedSimpArgs false
set_option linter.unusedVariables false
set_option linter.unusedSectionVars false
namespace Go.Proofs.YtmbijgnmbapchaaDoor
open Go.Abs Go.RowKit

theorem wrapB' {x : Int} (h1 : 0 ≤ x) (h2 : x < 256) : IntKind.u8.wrap x = x := by
  simp [IntKind.wrap, IntKind.bits, IntKind.signed]; omega
/-- The bytes of a number. -/
def dgs (u : Nat) : List Int := if u = 0 then [] else dgs (u / 10) ++ [48 + ((u % 10 : Nat) : Int)]
termination_by u
decreasing_by omega
theorem dgs_zero : dgs 0 = [] := by unfold dgs; rfl
theorem dgs_step {u : Nat} (h : u ≠ 0) : dgs u = dgs (u / 10) ++ [48 + ((u % 10 : Nat) : Int)] := by
  conv => lhs; unfold dgs
  rw [if_neg h]
/-- A mark. -/
def mkT (k : Nat) : ByteArray := ⟨#[109]⟩ ++ strOfNums (dgs k)
theorem strNums_app (a b : List Int) : strOfNums (a ++ b) = strOfNums a ++ strOfNums b := by
  refine WideShapes.bytes_inj ?_
  simp [strOfNums]
theorem strNums_size (a : List Int) : (strOfNums a).size = a.length := strOfNums_size a
theorem markText_c (k : Nat) (h : 1 ≤ k ∧ k ≤ 100000000) (m : Mem) : ACalls Tryd.prog 114 [.int .i64 k] m (.string (mkT k)) m := by
  have hk0 : ¬ (k : Int) ≤ 0 := by omega
  have hk1 : ¬ k = 0 := by omega
  refine acalls_of_vc Tryd.func114 rfl Tryd.fol (by kernel_rfl) ?_
  simp only [Tryd.f114]
  simp -dsimp -implicitDefEqProofs [hk0, hk1]
  refine loopT (fun c σ m' => ∃ (u : Nat) (ds : List Int), c = u ∧ m <+: m' ∧ σ 0 = some (.int .i64 u) ∧ σ 3 = some (.string (strOfNums ds)) ∧ dgs k = dgs u ++ ds ∧ ds.length ≤ 64 ∧ u * 2 ^ ds.length ≤ 2 ^ 60) _ ⟨k, [], rfl, pre_refl _, by simp, by simp; rfl, by simp, by simp, by simp; omega⟩ ?_
  rintro c σ m' ⟨u, ds, hcu, hp, s0, s3, hd, hl, hsz⟩
  subst hcu
  by_cases h0 : c = 0
  · subst h0
    rw [dgs_zero, List.nil_append] at hd
    have z1 : (⟨#[109]⟩ : ByteArray).size = 1 := rfl
    have z2 : 1 + ds.length ≤ 9223372036854775807 := by omega
    simp -dsimp -implicitDefEqProofs [s0, s3, strNums_size, z1, z2]
    exact GC.dropP hp (by rw [mkT, hd]) rfl
  · have hpos : (0 : Int) < (c : Int) := by omega
    have hpos2 : 0 < c := by omega
    have h63 : ds.length ≤ 60 := by
      have h1 : 1 * 2 ^ ds.length ≤ 2 ^ 60 := Nat.le_trans (Nat.mul_le_mul_right _ (by omega)) hsz
      rw [Nat.one_mul] at h1
      exact (Nat.pow_le_pow_iff_right (by decide)).1 h1
    have hcb : c ≤ 2 ^ 60 := by
      have : c * 1 ≤ c * 2 ^ ds.length := Nat.mul_le_mul_left _ (Nat.pow_pos (by decide))
      omega
    have hsz2 : c / 10 * 2 ^ (ds.length + 1) ≤ 2 ^ 60 := by
      refine Nat.le_trans ?_ hsz
      rw [Nat.pow_succ, Nat.mul_comm (2 ^ ds.length) 2, ← Nat.mul_assoc]
      exact Nat.mul_le_mul_right _ (by omega)
    obtain ⟨r, hr⟩ : ∃ r, r = c % 10 := ⟨_, rfl⟩
    obtain ⟨q, hq⟩ : ∃ q, q = c / 10 := ⟨_, rfl⟩
    have hmod : (c : Int).tmod 10 = (r : Int) := by rw [Int.tmod_eq_emod_of_nonneg (by omega)]; omega
    have hdiv : (c : Int).tdiv 10 = (q : Int) := by rw [Int.tdiv_eq_ediv_of_nonneg (by omega)]; omega
    have hw1 : IntKind.i64.wrap (48 + (r : Int)) = 48 + (r : Int) := wrapI (by omega) (by omega)
    have hw2 : IntKind.u8.wrap (48 + (r : Int)) = 48 + (r : Int) := wrapB' (by omega) (by omega)
    have hwq : IntKind.i64.wrap (q : Int) = (q : Int) := wrapI (by omega) (by omega)
    have hstep := dgs_step h0
    rw [← hr, ← hq] at hstep
    simp -dsimp -implicitDefEqProofs [s0, s3, hpos, hpos2, hmod, hdiv, hw1, hw2, hwq]
    refine strT [48 + (r : Int)] (by simp) ?_
    have z2 : 1 + ds.length ≤ 9223372036854775807 := by omega
    simp -dsimp -implicitDefEqProofs [s0, s3, hpos, hpos2, hmod, hdiv, hw1, hw2, hwq, strNums_size, z2]
    refine invT q (by omega) ⟨q, (48 + (r : Int)) :: ds, rfl, pre_app hp _, by simp, ?_, by rw [hd, hstep]; simp, by simp; omega, by rw [hq]; simpa using hsz2⟩
    simp
    exact (strNums_app [48 + (r : Int)] ds).symm
/-- The marks of n layers, from b on. -/
def mkLy (b n : Nat) : List LyT := (List.range n).map fun i => (mkT (b + 2 * i), ((b + 2 * i + 1 : Nat) : Int))
theorem mkLy_length (b n : Nat) : (mkLy b n).length = n := by simp [mkLy]
theorem mkLy_at {b n i : Nat} (h : i < n) : (mkLy b n)[i]'(by rw [mkLy_length]; exact h) = (mkT (b + 2 * i), ((b + 2 * i + 1 : Nat) : Int)) := by simp [mkLy]
theorem vl_length (p : LyT) : (vl p).length = 2 := rfl
theorem markLayerS_c (xs : List LyT) (b id : Nat) (o : AObj) (m : Mem) (hm : m[id]? = some o) (hc : o.cells = (xs.map vl).flatten) (hs : o.sz = 2) (hk : 1 ≤ o.kind ∧ o.kind ≤ 2) (hn : xs.length ≤ 1048576) (hb : 1 ≤ b ∧ b ≤ 10000000) :
    ACalls Tryd.prog 66 [.slice (some ⟨id, 0, none⟩) xs.length xs.length, .int .i64 b] m (.int .i64 ((b + 2 * xs.length : Nat) : Int)) (m.set id ⟨((mkLy b xs.length).map vl).flatten, o.elem, 2, o.kind⟩) := by
  obtain ⟨cells, ty, sz, kd⟩ := o
  simp only at hc hs hk
  subst hc; subst hs
  have hnl := mkLy_length b xs.length
  refine acalls_of_vc Tryd.func66 rfl Tryd.fol (by kernel_rfl) ?_
  simp only [Tryd.f66]
  simp -dsimp -implicitDefEqProofs
  refine loopN xs.length (fun k σ m' => m' = m.set id ⟨((overL (mkLy b xs.length) xs k).map vl).flatten, ty, 2, kd⟩ ∧ σ 0 = some (.slice (some ⟨id, 0, none⟩) xs.length xs.length) ∧ (∃ v : Nat, v = b + 2 * k ∧ σ 1 = some (.int .i64 v)) ∧ σ 5 = some (.int .i64 k)) ⟨?_, by simp, ⟨b, by omega, by simp⟩, by simp⟩ ?_
  · rw [overL_zero, set_self hm]
  rintro k σ m' hk' ⟨rfl, s0, ⟨v, hv, s1⟩, s5⟩
  have hol : (overL (mkLy b xs.length) xs k).length = xs.length := overL_length hnl k
  by_cases hlt : k < xs.length
  · have hltI : (k : Int) < (xs.length : Int) := by omega
    have hw : IntKind.i64.wrap ((k : Int) + 1) = (k : Int) + 1 := wrapI (by omega) (by omega)
    have hw1 : IntKind.i64.wrap ((v : Int) + 1) = (v : Int) + 1 := wrapI (by omega) (by omega)
    have hw2 : IntKind.i64.wrap ((v : Int) + 1 + 1) = (v : Int) + 1 + 1 := wrapI (by omega) (by omega)
    obtain ⟨t, ht⟩ : ∃ t, t = mkT v := ⟨_, rfl⟩
    have e1 := fun m => markText_c v (by omega) m
    simp only [← ht] at e1
    have hfl : (((overL (mkLy b xs.length) xs k).map vl).flatten).length = xs.length * 2 := by rw [flatten_length (sz := 2) (by intro r hr; obtain ⟨z, _, rfl⟩ := List.mem_map.1 hr; rfl), List.length_map, hol]
    have hkl : k < (overL (mkLy b xs.length) xs k).length := by omega
    obtain ⟨old, hold⟩ : ∃ old, old = (overL (mkLy b xs.length) xs k)[k] := ⟨_, rfl⟩
    have hset1 : (((overL (mkLy b xs.length) xs k).map vl).flatten).set (k * 2) (.string t) = ((((overL (mkLy b xs.length) xs k).set k (t, old.2)).map vl).flatten) := by
      have := set_rows (g := vl) (sz := 2) vl_length (xs := overL (mkLy b xs.length) xs k) (k := k) (j := 0) hkl (by decide) (y := .string t) (x := (t, old.2)) (by rw [← hold]; rfl)
      simpa using this
    have hkl2 : k < ((overL (mkLy b xs.length) xs k).set k (t, old.2)).length := by simpa using hkl
    have hset2 : ((((overL (mkLy b xs.length) xs k).set k (t, old.2)).map vl).flatten).set (k * 2 + 1) (.int .i64 ((v : Int) + 1)) = ((overL (mkLy b xs.length) xs (k + 1)).map vl).flatten := by
      have h1 := set_rows (g := vl) (sz := 2) vl_length (xs := (overL (mkLy b xs.length) xs k).set k (t, old.2)) (k := k) (j := 1) hkl2 (by decide) (y := .int .i64 ((v : Int) + 1)) (x := (t, (v : Int) + 1)) (by simp [vl])
      rw [h1, List.set_set]
      have h2 := overL_set hnl hlt
      rw [mkLy_at hlt, ← hv, ← ht] at h2
      rw [show ((v + 1 : Nat) : Int) = (v : Int) + 1 by omega] at h2
      rw [h2]
    have hfl2 : ((((overL (mkLy b xs.length) xs k).set k (t, old.2)).map vl).flatten).length = xs.length * 2 := by rw [← hset1, List.length_set, hfl]
    obtain ⟨D1, hD1⟩ : ∃ D1, D1 = ((((overL (mkLy b xs.length) xs k).set k (t, old.2)).map vl).flatten) := ⟨_, rfl⟩
    rw [← hD1] at hset1 hset2 hfl2
    have hkd2 := hk.2
    simp -dsimp -implicitDefEqProofs [s0, s1, s5, hlt, hltI, withO_of (get_set hm _), hk, hkd2, hw, hw1, hw2, hset1, hset2, hfl, hfl2, List.set_set]
    refine callsTo Tryd.cal114 (e1 _) ?_
    simp -dsimp -implicitDefEqProofs [s0, s1, s5, hlt, hltI, withO_of (get_set hm _), hk, hkd2, hw, hw1, hw2, hset1, hset2, hfl, hfl2, List.set_set]
    refine need_intro (by omega) ?_
    refine need_intro (by omega) ?_
    exact next_ hlt ⟨rfl, by simp [s0], ⟨v + 2, by omega, by simp [hw2]; omega⟩, by simp [hw]⟩
  · obtain rfl : k = xs.length := by omega
    simp -dsimp -implicitDefEqProofs [s0, s1, s5]
    rw [overL_all hnl]
    exact GC.eq (by rw [hv]; simp)
theorem markLayerS_nil (a : Option Addr) (b : Int) (m : Mem) : ACalls Tryd.prog 66 [.slice a 0 0, .int .i64 b] m (.int .i64 b) m := by
  refine acalls_of_vc Tryd.func66 rfl Tryd.fol (by kernel_rfl) ?_
  simp only [Tryd.f66]
  simp -dsimp -implicitDefEqProofs
  refine loopN 0 (fun k σ m' => m' = m ∧ σ 0 = some (.slice a 0 0) ∧ σ 1 = some (.int .i64 b) ∧ σ 5 = some (.int .i64 0)) ⟨rfl, by simp⟩ ?_
  rintro k σ m' hk ⟨rfl, s0, s1, s5⟩
  simp -dsimp -implicitDefEqProofs [s0, s1, s5]
  exact GC.refl _ _ _
theorem heldLayerS_c (n b : Nat) (a : Option Addr) (m : Mem) (hr : RdG vl 2 m a (mkLy b n)) (hn : n ≤ 1048576) (hb : 1 ≤ b ∧ b ≤ 10000000) :
    ACalls Tryd.prog 73 [.slice a n n, .int .i64 b] m (.int .i64 ((b + 2 * n : Nat) : Int)) m := by
  have hnl := mkLy_length b n
  refine acalls_of_vc Tryd.func73 rfl Tryd.fol (by kernel_rfl) ?_
  simp only [Tryd.f73]
  simp -dsimp -implicitDefEqProofs
  refine loopN n (fun k σ m' => m' = m ∧ σ 0 = some (.slice a n n) ∧ (∃ v : Nat, v = b + 2 * k ∧ σ 1 = some (.int .i64 v)) ∧ σ 5 = some (.int .i64 k)) ⟨rfl, by simp, ⟨b, by omega, by simp⟩, by simp⟩ ?_
  rintro k σ m' hk' ⟨rfl, s0, ⟨v, hv, s1⟩, s5⟩
  by_cases hlt : k < n
  · have hltI : (k : Int) < (n : Int) := by omega
    have hw : IntKind.i64.wrap ((k : Int) + 1) = (k : Int) + 1 := wrapI (by omega) (by omega)
    have hw1 : IntKind.i64.wrap ((v : Int) + 1) = (v : Int) + 1 := wrapI (by omega) (by omega)
    have hw2 : IntKind.i64.wrap ((v : Int) + 1 + 1) = (v : Int) + 1 + 1 := wrapI (by omega) (by omega)
    obtain ⟨id, off, o, rfl, hm, hkd, hsz, hlen, hrow, c0, c1⟩ := RL.at_ hr (i := k) (by omega)
    rw [mkLy_at hlt, ← hv] at c0 c1
    rw [show ((v + 1 : Nat) : Int) = (v : Int) + 1 by omega] at c1
    obtain ⟨t, ht⟩ : ∃ t, t = mkT v := ⟨_, rfl⟩
    have e1 := fun m => markText_c v (by omega) m
    simp only [← ht] at e1 c0
    simp -dsimp -implicitDefEqProofs [s0, s1, s5, hlt, hltI, withO_of hm, hkd, hsz, hlen, withC_of c0, withC_of c1, hw, hw1, hw2]
    refine callsTo Tryd.cal114 (e1 _) ?_
    simp -dsimp -implicitDefEqProofs [s0, s1, s5, hlt, hltI, withO_of hm, hkd, hsz, hlen, withC_of c0, withC_of c1, hw, hw1, hw2]
    exact next_ hlt ⟨rfl, by simp [s0], ⟨v + 2, by omega, by simp [hw2]; omega⟩, by simp [hw]⟩
  · obtain rfl : k = n := by omega
    simp -dsimp -implicitDefEqProofs [s0, s1, s5]
    exact GC.eq (by rw [hv]; simp)
/-- A basket's layers have been marked. -/
def BkMarked (b n id : Nat) (e : TypeId) (kd : Nat) (m : Mem) (v : Value) (m' : Mem) : Prop :=
  v = .int .i64 ((b + 2 * n : Nat) : Int) ∧ RestS [id] m m' ∧ m'[id]? = some ⟨((mkLy b n).map vl).flatten, e, 2, kd⟩
theorem markBasket_c (st : Int) (xs : List LyT) (bo : ByteArray) (b id : Nat) (e : TypeId) (kd : Nat) (m : Mem) (hm : m[id]? = some ⟨(xs.map vl).flatten, e, 2, kd⟩) (hk : 1 ≤ kd ∧ kd ≤ 2) (hn : xs.length ≤ 1048576) (hb : 1 ≤ b ∧ b ≤ 10000000) :
    ∃ v m', ACalls Tryd.prog 16 [.agg (bkC st (some ⟨id, 0, none⟩) xs.length bo).toArray, .int .i64 b] m v m' ∧ BkMarked b xs.length id e kd m v m' := by
  refine ecalls_of_vc Tryd.func16 rfl Tryd.fol (by kernel_rfl) ?_
  simp only [Tryd.f16, bkC]
  simp -dsimp -implicitDefEqProofs
  refine callsTo Tryd.cal66 (markLayerS_c xs b id _ _ (get_old hm) rfl rfl hk hn hb) ?_
  simp -dsimp -implicitDefEqProofs
  exact ⟨_, _, GC.refl _ _ _, by simp, (RestS.app _ _ _).trans (RestS.set _ (by simp) _), get_set (get_old hm) _⟩
/-- The same where there are no layers. -/
theorem markBasket_nil (st : Int) (A : Option Addr) (bo : ByteArray) (b : Nat) (m : Mem) : ACalls Tryd.prog 16 [.agg (bkC st A 0 bo).toArray, .int .i64 b] m (.int .i64 b) m := by
  refine acalls_of_vc Tryd.func16 rfl Tryd.fol (by kernel_rfl) ?_
  simp only [Tryd.f16, bkC]
  simp -dsimp -implicitDefEqProofs
  refine callsTo Tryd.cal66 (markLayerS_nil _ _ _) ?_
  simp -dsimp -implicitDefEqProofs
  exact GC.dropEq rfl rfl
theorem heldBasket_c (st : Int) (n : Nat) (bo : ByteArray) (b : Nat) (a : Option Addr) (m : Mem) (hr : RdG vl 2 m a (mkLy b n)) (hn : n ≤ 1048576) (hb : 1 ≤ b ∧ b ≤ 10000000) :
    ACalls Tryd.prog 23 [.agg (bkC st a n bo).toArray, .int .i64 b] m (.int .i64 ((b + 2 * n : Nat) : Int)) m := by
  refine acalls_of_vc Tryd.func23 rfl Tryd.fol (by kernel_rfl) ?_
  simp only [Tryd.f23, bkC]
  simp -dsimp -implicitDefEqProofs
  refine callsTo Tryd.cal73 (heldLayerS_c n b a _ (hr.ext _) hn hb) ?_
  simp -dsimp -implicitDefEqProofs
  have h0 : ¬ ((b : Int) + 2 * (n : Int) < 0) := by omega
  simp -dsimp -implicitDefEqProofs [h0]
  exact GC.dropEq (by simp) rfl
end Go.Proofs.YtmbijgnmbapchaaDoor
