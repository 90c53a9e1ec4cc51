/-
  Pots, part 10: the fewest piles. Conditions: none.
-/
import Derived.Test.YtnipgigpjhalkaaNestI
import Derived.Test.YtnipgigpjhalkaaNestC
set_option linter.unusedSimpArgs false
set_option linter.unusedVariables false
set_option linter.unusedSectionVars false
namespace Go.Proofs.Ytnipgigpjhalkaa
open Go.Abs Go.RowKit Go.Law

def InPost (xs : List I3) (m : Mem) (v : Value) (m' : Mem) : Prop :=
  ∃ ir, v = .slice (some ⟨ir, 0, none⟩) xs.length xs.length ∧ m <+: m' ∧ m.length ≤ ir ∧ m'[ir]? = some ⟨(kst (fitF xs) xs.length xs.length xs.length).right.map (Value.int .i64), 2, 1, 1⟩
theorem l19In_c (xs : List I3) (la : Option Addr) (m : Mem) (hr : RdG v3 3 m la xs) (hx : xs.length ≤ 1048576) (hb : ∀ x, la = some x → x.block < m.length) :
    ∃ v m', ACalls Try.prog 61 [.slice la xs.length xs.length] m v m' ∧ InPost xs m v m' := by
  refine ecalls_of_vc Try.func61 rfl Try.fol (by kernel_rfl) ?_
  simp only [Try.f61]
  simp -dsimp -implicitDefEqProofs
  refine need_intro (by omega) ?_
  obtain ⟨m1, hm1⟩ : ∃ m1, m1 = m ++ [(⟨negL xs.length 0, 2, 1, 1⟩ : AObj), ⟨[.slice la xs.length xs.length, .slice (some ⟨m.length, 0, none⟩) xs.length xs.length, .slice none 0 0], 88, 3, 1⟩] := ⟨_, rfl⟩
  have hm1' := hm1
  rw [negL_zero] at hm1'
  rw [← hm1']
  have hp1 : m <+: m1 := by rw [hm1]; exact ⟨_, rfl⟩
  have hl1 : m1.length = m.length + 2 := by rw [hm1]; simp
  have c0 : m1[m.length]? = some ⟨negL xs.length 0, 2, 1, 1⟩ := by rw [hm1]; simp
  have c1 : m1[m.length + 1]? = some ⟨[.slice la xs.length xs.length, .slice (some ⟨m.length, 0, none⟩) xs.length xs.length, .slice none 0 0], 88, 3, 1⟩ := by rw [hm1]; simp
  obtain ⟨L, hL⟩ : ∃ L, m.length = L := ⟨_, rfl⟩
  rw [hL] at c0 c1 hl1 ⊢
  refine loopN xs.length (fun b σ m' => (m'[L]? = some ⟨negL xs.length b, 2, 1, 1⟩ ∧ RestS [L] m1 m') ∧ (σ 0 = some (.slice la xs.length xs.length) ∧ σ 3 = some (.pointer (some ⟨L + 1, 0, none⟩))) ∧ σ 4 = some (.int .i64 b)) ⟨⟨c0, RestS.refl _ _⟩, by simp, by simp⟩ ?_
  rintro b σ m' hbn ⟨⟨e0, hrest⟩, ⟨s0, s3⟩, s4⟩
  have e1 := hrest.get _ _ (show L + 1 ∉ [L] by simp) c1
  by_cases hlt : b < xs.length
  · have hwb : IntKind.i64.wrap ((b : Int) + 1) = b + 1 := wrapI (by omega) (by omega)
    simp -dsimp -implicitDefEqProofs [s0, s3, s4, hlt, withO_of e0, withO_of e1, hwb, negL_length hbn]
    refine need_intro (by omega) ?_
    exact next_ hlt ⟨⟨by rw [negL_set hlt]; exact get_set e0 _, hrest.trans (RestS.set _ (by simp) _)⟩, by simp [s0, s3], by simp [hwb]⟩
  obtain ⟨n, hn⟩ : ∃ n, n = xs.length := ⟨_, rfl⟩
  obtain rfl : b = xs.length := by omega
  rw [negL_all] at e0
  simp -dsimp -implicitDefEqProofs [s0, s3, s4]
  refine loopN xs.length (fun i σ m6 => (RestS [L, L + 1] m' m6 ∧ (∃ v, m6[L + 1]? = some ⟨[.slice la xs.length xs.length, .slice (some ⟨L, 0, none⟩) xs.length xs.length, v], 88, 3, 1⟩) ∧ m6[L]? = some ⟨(kst (fitF xs) xs.length xs.length i).right.map (Value.int .i64), 2, 1, 1⟩) ∧
      (σ 0 = some (.slice la xs.length xs.length) ∧ σ 3 = some (.pointer (some ⟨L + 1, 0, none⟩))) ∧ σ 5 = some (.int .i64 i)) ⟨⟨RestS.refl _ _, ⟨_, e1⟩, e0⟩, by simp [s0, s3], by simp⟩ ?_
  clear s0 s3 s4
  rintro i σ m6 hi ⟨⟨hr6, ⟨vs, i1⟩, i2⟩, ⟨s0, s3⟩, s5⟩
  have hbase : m <+: m6 := hr6.base (hrest.base hp1 (by intro j hj; simp at hj; omega)) (by intro j hj; simp at hj; omega)
  by_cases hlt : i < xs.length
  · have hwb : IntKind.i64.wrap ((i : Int) + 1) = i + 1 := wrapI (by omega) (by omega)
    simp -dsimp -implicitDefEqProofs [s0, s3, s5, hlt, hwb, withO_of i1, fun l => withO_of (get_old (l := l) i1)]
    refine need_intro (by omega) ?_
    have hlen6 : L + 2 ≤ m6.length := by have := hr6.len; have := hrest.len; omega
    obtain ⟨m7, hm7⟩ : ∃ m7, m7 = (m6 ++ [(⟨List.replicate xs.length (.int .i64 0), 2, 1, 1⟩ : AObj)]).set (L + 1) ⟨[.slice la xs.length xs.length, .slice (some ⟨L, 0, none⟩) xs.length xs.length, .slice (some ⟨m6.length, 0, none⟩) xs.length xs.length], 88, 3, 1⟩ := ⟨_, rfl⟩
    rw [← hm7]
    have hl7 : m7.length = m6.length + 1 := by rw [hm7]; simp
    have hr7 : RestS [L, L + 1] m6 m7 := by rw [hm7]; exact (RestS.app _ _ _).trans (RestS.set _ (by simp) _)
    have y1 : m7[L + 1]? = some ⟨[.slice la xs.length xs.length, .slice (some ⟨L, 0, none⟩) xs.length xs.length, .slice (some ⟨m6.length, 0, none⟩) xs.length xs.length], 88, 3, 1⟩ := by rw [hm7]; exact get_set (get_old i1) _
    have y2 : m7[L]? = some ⟨(kst (fitF xs) xs.length xs.length i).right.map (Value.int .i64), 2, 1, 1⟩ := by rw [hm7, List.getElem?_set_ne (by omega)]; exact get_old i2
    have y3 : m7[m6.length]? = some ⟨(List.replicate xs.length false).map seenV, 2, 1, 1⟩ := by rw [hm7, List.getElem?_set_ne (by omega)]; simp [seenV]
    have hlax : ∀ x, la = some x → x.block ∉ [L, m6.length] := fun x hx => by have := hb x hx; simp; omega
    have hbase7 : m <+: m7 := hr7.base hbase (by intro j hj; simp at hj; omega)
    obtain ⟨v, m8, hcall, rfl, ⟨z1, z2⟩, hR8⟩ := place_c xs la hx (L + 1) L m6.length (by simp; omega) (by omega) hlax (xs.length + 1) i (kst (fitF xs) xs.length xs.length i) m7 (by simp only [kst]; rw [unseen_new]; omega) hlt (kst_ok _ _ _ i (by omega)) (hr.pre hbase7) ⟨_, y1⟩ ⟨y2, y3⟩
    rw [← (kst_succ (fitF xs) xs.length xs.length i).2.1] at z1
    have hlen8 := hR8.len
    have hJ : RestS [L, L + 1] m' m8 ∧ (∃ v, m8[L + 1]? = some ⟨[.slice la xs.length xs.length, .slice (some ⟨L, 0, none⟩) xs.length xs.length, v], 88, 3, 1⟩) ∧ m8[L]? = some ⟨(kst (fitF xs) xs.length xs.length (i + 1)).right.map (Value.int .i64), 2, 1, 1⟩ :=
      ⟨⟨by have := hr6.len; omega, fun j o h1 h2 => hR8.get j o (by have := lt_of_get h2; have := hr6.len; simp at h1 ⊢; omega) (hr7.get j o h1 (hr6.get j o h1 h2))⟩, ⟨_, hR8.get _ _ (by simp; omega) y1⟩, z1⟩
    refine callsTo Try.cal83 hcall ?_
    simp -dsimp -implicitDefEqProofs [s0, s3, s5, hlt, hwb, withO_of i1, fun l => withO_of (get_old (l := l) i1)]
    exact next_ hlt ⟨hJ, by simp [s0, s3], by simp [hwb]⟩
  obtain rfl : i = xs.length := by omega
  simp -dsimp -implicitDefEqProofs [s0, s3, s5, withO_of i1]
  exact ⟨_, _, GC.refl _ _ _, L, rfl, hbase, by omega, i2⟩
/-! ### How many are taken -/
def takenTo (r : List Int) (k : Nat) : Nat := ((List.range k).filter fun b => decide (0 ≤ r.getD b 0)).length
theorem takenTo_succ (r : List Int) (k : Nat) : takenTo r (k + 1) = takenTo r k + if 0 ≤ r.getD k 0 then 1 else 0 := by
  unfold takenTo
  rw [List.range_succ, List.filter_append, List.length_append]
  by_cases h : 0 ≤ r.getD k 0 <;> simp [h, -List.getD_eq_getElem?_getD]
theorem takenTo_le (r : List Int) (k : Nat) : takenTo r k ≤ k := by
  unfold takenTo
  exact Nat.le_trans (List.length_filter_le _ _) (by simp)
theorem taken_most (may : Nat → Nat → Bool) (n k : Nat) : takenTo (kst may n k n).right k = mostK may k n := by
  have h := kall_inv may k n (List.replicate n (-1))
  have hl := h.len
  have ht := h.taken_length
  unfold taken at ht
  rw [hl] at ht
  exact ht
def fewI (xs : List I3) : Int := (xs.length : Int) - mostK (fitF xs) xs.length xs.length
def fewV (xs : List I3) : Value := .tuple #[.int .i64 (if potsB xs then fewI xs else 0), .int .i64 (potsC xs)]
theorem specFew_c (xs : List I3) (la : Option Addr) (m : Mem) (hr : RdG v3 3 m la xs) (hx : xs.length ≤ 1048576) (hb : ∀ x, la = some x → x.block < m.length) :
    ACalls Try.prog 30 [.slice la xs.length xs.length] m (fewV xs) m := by
  refine acalls_of_vc Try.func30 rfl Try.fol (by kernel_rfl) ?_
  simp only [Try.f30]
  simp -dsimp -implicitDefEqProofs
  refine callsTo Try.cal59 (l19Ok_c xs la _ hr hx) ?_
  simp -dsimp -implicitDefEqProofs
  refine sp2 (fun g => ?_) (fun g => ?_)
  · simp at g
    exact GC.eq (by simp [fewV, g, potsC])
  simp at g
  refine callsToE Try.cal61 (l19In_c xs la _ hr hx hb) ?_
  rintro _ m1 ⟨ir, rfl, hp1, hir, ho⟩
  simp -dsimp -implicitDefEqProofs
  have hok := (kst_ok (fitF xs) xs.length xs.length xs.length (Nat.le_refl _)).right
  have hmost := taken_most (fitF xs) xs.length xs.length
  generalize (kst (fitF xs) xs.length xs.length xs.length).right = r at *
  refine loopN xs.length (fun i σ m2 => m2 = m1 ∧ σ 4 = some (.slice (some ⟨ir, 0, none⟩) xs.length xs.length) ∧ σ 5 = some (.int .i64 ((xs.length : Int) - takenTo r i)) ∧ σ 6 = some (.int .i64 i)) ⟨rfl, by simp, by simp [takenTo], by simp⟩ ?_
  rintro i σ m2 hi ⟨rfl, s4, s5, s6⟩
  by_cases hlt : i < xs.length
  · have hwb : IntKind.i64.wrap ((i : Int) + 1) = i + 1 := wrapI (by omega) (by omega)
    have hir' : i < r.length := by omega
    have hrc : (r.map (Value.int .i64))[i]? = some (.int .i64 r[i]) := by simp [hir']
    have htl := takenTo_le r (i + 1)
    have hts := takenTo_succ r i
    have hgi : r.getD i 0 = r[i] := getI hir'
    rw [hgi] at hts
    simp -dsimp -implicitDefEqProofs [s4, s5, s6, hlt, withO_of ho, withC_of hrc, hwb, hok]
    refine sp2 (fun g => ?_) (fun g => ?_)
    · simp at g
      rw [if_pos g] at hts
      have hwd : IntKind.i64.wrap ((xs.length : Int) - (takenTo r i : Int) - 1) = (xs.length : Int) - (takenTo r (i + 1) : Nat) := by rw [wrapI (by omega) (by omega)]; omega
      exact next_ hlt ⟨rfl, by simp [s4], by simp [hwd], by simp [hwb]⟩
    · simp at g
      rw [if_neg (by omega)] at hts
      exact next_ hlt ⟨rfl, by simp [s4], by simp [s5, hts], by simp [hwb]⟩
  · obtain rfl : i = xs.length := by omega
    simp -dsimp -implicitDefEqProofs [s4, s5, s6]
    exact GC.dropP hp1 (by simp [fewV, g, potsC, fewI, hmost]) rfl
theorem fewMay_c (xs : List I3) (la : Option Addr) (bx : Nat) (ty : TypeId) (m : Mem) (hb : m[bx]? = some ⟨[.slice la xs.length xs.length], ty, 1, 1⟩) (hr : RdG v3 3 m la xs) (a b : Nat) (ha : a < xs.length) (hb2 : b < xs.length) :
    ACalls Try.prog 63 ([.int .i64 (a : Int), .int .i64 (b : Int)] ++ [.pointer (some ⟨bx, 0, none⟩)]) m (.bool (fitF xs b a)) m := by
  obtain ⟨id, off, o, rfl, hm, hkd, hsz, hl, hrow, _⟩ := R3.at_ hr ha
  obtain ⟨id', off', o', ha', hm', hkd', hsz', hl', hrow', _⟩ := R3.at_ hr hb2
  injection ha' with ha'
  injection ha' with e1 e2
  subst e1 e2
  rw [hm] at hm'
  injection hm' with hm'
  subst hm'
  have hf : fitB xs[b] xs[a] = fitF xs b a := by rw [fitF, potAt_eq ha, potAt_eq hb2]
  refine acalls_of_vc Try.func63 rfl Try.fol (by kernel_rfl) ?_
  simp only [Try.f63]
  simp -dsimp -implicitDefEqProofs
  simp -dsimp -implicitDefEqProofs [withO_of hb, ha, hb2, withO_of hm, hkd, hsz, hl, hrow, hl', hrow']
  refine callsTo Try.cal57 (fitsIn_c xs[b] xs[a] _) ?_
  simp -dsimp -implicitDefEqProofs [withO_of hb, ha, hb2, withO_of hm, hkd, hsz, hl, hrow, hl', hrow']
  rw [hf]
  exact GC.refl _ _ _
theorem implFew_c (xs : List I3) (la : Option Addr) (m : Mem) (hr : RdG v3 3 m la xs) (hx : xs.length ≤ 1048576) :
    ACalls Try.prog 31 [.slice la xs.length xs.length] m (fewV xs) m := by
  refine acalls_of_vc Try.func31 rfl Try.fol (by kernel_rfl) ?_
  simp only [Try.f31]
  simp -dsimp -implicitDefEqProofs
  obtain ⟨m1, hm1⟩ : ∃ m1, m1 = m ++ [(⟨[.slice la xs.length xs.length], 34, 1, 1⟩ : AObj)] := ⟨_, rfl⟩
  rw [← hm1]
  have hp1 : m <+: m1 := by rw [hm1]; exact ⟨_, rfl⟩
  have c0 : m1[m.length]? = some ⟨[.slice la xs.length xs.length], 34, 1, 1⟩ := by rw [hm1]; simp
  refine callsTo Try.cal22 (validPots_c xs la _ (hr.pre hp1) hx) ?_
  simp -dsimp -implicitDefEqProofs [withO_of c0]
  refine sp2 (fun g => ?_) (fun g => ?_)
  · simp at g
    exact GC.dropP hp1 (by simp [fewV, g, potsC]) rfl
  simp at g
  refine callsToE Try.cal62 (matchAll_c (fun a b => fitF xs b a) xs.length xs.length hx hx 63 [.pointer (some ⟨m.length, 0, none⟩)] m1 Try.cal63 (fun m' hp a b ha hb => fewMay_c xs la _ _ m' (prefix_get hp c0) (hr.pre (hp1.trans hp)) a b ha hb)) ?_
  rintro _ m2 ⟨id, rfl, hp2⟩
  have hsw : mostK (fun a b => fitF xs b a) xs.length xs.length = mostK (fitF xs) xs.length xs.length := (kall_swap (fitF xs) xs.length xs.length _ _).symm
  have hle := mostK_le_left (fitF xs) xs.length xs.length
  have hwd : IntKind.i64.wrap ((xs.length : Int) - (mostK (fitF xs) xs.length xs.length : Int)) = fewI xs := wrapI (by omega) (by omega)
  simp -dsimp -implicitDefEqProofs [withO_of (prefix_get hp2 c0), hsw, hwd]
  exact GC.dropP (hp1.trans hp2) (by simp [fewV, g, potsC]) rfl
end Go.Proofs.Ytnipgigpjhalkaa
