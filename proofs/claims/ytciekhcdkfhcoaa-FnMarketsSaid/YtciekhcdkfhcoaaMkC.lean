/-
  Markets: the best prices. Conditions: none.
-/
import Derived.Test.YtciekhcdkfhcoaaMkB
set_option linter.unusedSimpArgs false
set_option linter.unusedVariables false
set_option linter.unusedSectionVars false
namespace Go.Proofs.Ytciekhcdkfhcoaa
open Go.Abs Go.RowKit

def priceAt (xs : List Mk) (k s : Nat) : Int := ((xs[k]?.map (·.2.2.2)).getD []).getD s 0
theorem priceAt_eq {xs : List Mk} {k s : Nat} (h : k < xs.length) (h' : s < xs[k].2.2.2.length) : priceAt xs k s = xs[k].2.2.2[s] := by
  simp [priceAt, List.getElem?_eq_getElem h, List.getElem?_eq_getElem h']
/-- The market with the best price among the first. -/
def bestTo (xs : List Mk) (s : Nat) : Nat → Nat
  | 0 => 0
  | k + 1 => if priceAt xs (bestTo xs s k) s < priceAt xs k s then k else bestTo xs s k
theorem bestTo_lt (xs : List Mk) (s : Nat) : ∀ k, 0 < k → bestTo xs s k < k
  | 0, h => by omega
  | k + 1, _ => by
    unfold bestTo
    split
    · omega
    · cases k with
      | zero => simp [bestTo]
      | succ k => have := bestTo_lt xs s (k + 1) (by omega); omega
theorem bestTo_one (xs : List Mk) (s : Nat) : bestTo xs s 1 = 0 := by simp [bestTo]
theorem bestTo_le (xs : List Mk) (s : Nat) (k : Nat) : bestTo xs s k ≤ k := by
  cases k with
  | zero => simp [bestTo]
  | succ k => exact Nat.le_of_lt (bestTo_lt xs s _ (by omega))
theorem bestTo_succ (xs : List Mk) (s k : Nat) : bestTo xs s (k + 1) = if priceAt xs (bestTo xs s k) s < priceAt xs k s then k else bestTo xs s k := rfl
def bestL (n : Nat) (xs : List Mk) : List Int := (List.range n).map fun s => (bestTo xs s xs.length : Int)
theorem bestL_length (n : Nat) (xs : List Mk) : (bestL n xs).length = n := by simp [bestL]
theorem bestL_succ (n : Nat) (xs : List Mk) : bestL (n + 1) xs = bestL n xs ++ [(bestTo xs n xs.length : Int)] := by simp [bestL, List.range_succ]
def bestC (n : Int) (xs : List Mk) : Int := if mksB n xs then (if xs.length = 0 then 3 else 0) else 1
def bestO (n : Int) (xs : List Mk) : Option (List Int) := if mksB n xs then (if xs.length = 0 then none else some (bestL n.toNat xs)) else none
theorem mksB_at {n : Int} {xs : List Mk} (h : mksB n xs = true) {i : Nat} (hi : i < xs.length) : mkB n xs[i] = true := by
  simp only [mksB, Bool.and_eq_true] at h
  have := allTo_get h.1 hi
  cases i with
  | zero => rw [mkAt_zero hi] at this; exact this
  | succ i => rw [mkAt_succ hi] at this; simp at this; exact this.1
theorem mksB_len {n : Int} {xs : List Mk} (h : mksB n xs = true) {i : Nat} (hi : i < xs.length) : (xs[i].2.2.1.length : Int) = n ∧ (xs[i].2.2.2.length : Int) = n := by
  have := mksB_at h hi
  simp only [mkB, countsB, Bool.and_eq_true, decide_eq_true_eq] at this
  exact ⟨this.1.2.2, this.2.2⟩
theorem mksB_n {n : Int} {xs : List Mk} (h : mksB n xs = true) : 1 ≤ n ∧ n ≤ 6 ∧ xs.length ≤ 10 := by
  simp only [mksB, Bool.and_eq_true, inB, decide_eq_true_eq] at h
  omega
theorem bestO_length {n : Int} {xs : List Mk} {zs : List Int} (h : bestO n xs = some zs) : zs.length ≤ 1048576 := by
  unfold bestO at h
  by_cases h1 : mksB n xs = true
  · rw [if_pos h1] at h
    have := mksB_n h1
    split at h
    · simp at h
    · simp at h; subst h; rw [bestL_length]; omega
  · rw [if_neg h1] at h; simp at h
theorem specBest_c (n : Int) (xs : List Mk) (a : Option Addr) (m : Mem) (hr : RdM m a xs) (hn : xs.length ≤ 1048576) (hn' : ∀ x ∈ xs, x.2.2.1.length ≤ 1048576 ∧ x.2.2.2.length ≤ 1048576) :
    ACalls Try.prog 30 [.int .i64 n, .slice a xs.length xs.length] m (.tuple #[optV m.length (bestO n xs), .int .i64 (bestC n xs)]) (m ++ optM 2 (bestO n xs)) := by
  refine acalls_of_vc Try.func30 rfl Try.fol (by kernel_rfl) ?_
  simp only [Try.f30]
  simp -dsimp -implicitDefEqProofs
  refine callsTo Try.cal49 (l21Ok_c n xs a _ hr hn hn') ?_
  simp -dsimp -implicitDefEqProofs
  refine ⟨fun g => ?_, fun g => ?_⟩
  · simp at g
    simp [bestO, bestC, g, optV, optM]
    exact GC.refl _ _ _
  simp at g
  refine ⟨fun g1 => ?_, fun g1 => ?_⟩
  · simp at g1
    subst g1
    simp [bestO, bestC, g, optV, optM]
    exact GC.refl _ _ _
  have g2 : xs ≠ [] := by simpa using g1
  have g2' : 0 < xs.length := List.length_pos_iff.2 g2
  obtain ⟨n1, n2, n3⟩ := mksB_n g
  obtain ⟨N, rfl⟩ : ∃ N : Nat, n = (N : Int) := ⟨n.toNat, by omega⟩
  refine loopN N (fun s σ m' => ∃ id ob, m <+: m' ∧ m.length ≤ id ∧ m'[id]? = some ob ∧ (ob.cells = (bestL s xs).map (Value.int .i64) ∧ ob.elem = 2 ∧ ob.sz = 1 ∧ 1 ≤ ob.kind ∧ ob.kind ≤ 2) ∧
      σ 0 = some (.int .i64 N) ∧ σ 1 = some (.slice a xs.length xs.length) ∧ σ 6 = some (.slice (some ⟨id, 0, none⟩) s s) ∧ σ 7 = some (.int .i64 s))
    ⟨m.length, ⟨[], 2, 1, 1⟩, pre_app (pre_refl m) _, Nat.le_refl _, by simp, by simp [bestL], by simp⟩ ?_
  rintro s σ m' hs ⟨id, ob, hp, hid, hob, ⟨ob1, ob2, ob3, ob4, ob5⟩, s0, s1, s6, s7⟩
  by_cases hlt : s < N
  · simp -dsimp -implicitDefEqProofs [s0, s1, s6, s7, hlt]
    refine loopN (xs.length - 1) (fun k σ m1 => m1 = m' ∧ σ 0 = some (.int .i64 N) ∧ σ 1 = some (.slice a xs.length xs.length) ∧ σ 6 = some (.slice (some ⟨id, 0, none⟩) s s) ∧ σ 7 = some (.int .i64 s) ∧
      σ 8 = some (.int .i64 (bestTo xs s (k + 1))) ∧ σ 9 = some (.int .i64 ((k : Int) + 1))) ⟨rfl, by simp [s0, s1, s6, s7, bestTo_one]⟩ ?_
    rintro k σ m1 hk ⟨rfl, s0, s1, s6, s7, s8, s9⟩
    by_cases hlt2 : k < xs.length - 1
    · have hk1 : k + 1 < xs.length := by omega
      have hb := bestTo_lt xs s (k + 1) (by omega)
      have hbl : bestTo xs s (k + 1) < xs.length := by omega
      obtain ⟨id1, off1, o1, ad1, bd1, rfl, hm1, hkd1, hsz1, hl1, hrow1, c0, c1, c2, c3, q1, q2⟩ := hr (k + 1) hk1
      obtain ⟨id2, off2, o2, ad2, bd2, ha2, hm2, hkd2, hsz2, hl2, hrow2, d0, d1, d2, d3, p1, p2⟩ := hr _ hbl
      simp at ha2
      obtain ⟨rfl, rfl⟩ := ha2
      rw [hm1] at hm2
      injection hm2 with hm2
      subst hm2
      have L1 : s < xs[k + 1].2.2.2.length := by have := (mksB_len g hk1).2; omega
      have L2 : s < xs[bestTo xs s (k + 1)].2.2.2.length := by have := (mksB_len g hbl).2; omega
      obtain ⟨i1, f1, b1, rfl, hi1, hik1, his1, hic1⟩ := q2.at_ L1
      obtain ⟨i2, f2, b2, rfl, hi2, hik2, his2, hic2⟩ := p2.at_ L2
      have hw : IntKind.i64.wrap ((k : Int) + 1 + 1) = k + 1 + 1 := wrapI (by omega) (by omega)
      have e1 : (k : Int) + 1 < (xs.length : Int) := by omega
      have e2 : (0 : Int) ≤ (k : Int) + 1 := by omega
      have e3 : ((k : Int) + 1).toNat = k + 1 := by omega
      have hm1' := prefix_get hp hm1
      have hi1' := prefix_get hp hi1
      have hi2' := prefix_get hp hi2
      have hpr1 := priceAt_eq hk1 L1
      have hpr2 := priceAt_eq hbl L2
      by_cases hc : xs[bestTo xs s (k + 1)].2.2.2[s] < xs[k + 1].2.2.2[s]
      · simp -dsimp -implicitDefEqProofs [s0, s1, s6, s7, s8, s9, e1, e2, e3, hk1, hbl, hlt2, withO_of hm1', hkd1, hsz1, withC_of c3, withC_of d3, withO_of hi1', withO_of hi2', hik1, hik2, his1, his2, withC_of hic1, withC_of hic2, L1, L2, hc, hw]
        have hbs : bestTo xs s (k + 1 + 1) = k + 1 := by rw [bestTo_succ, hpr1, hpr2, if_pos hc]
        exact next_ hlt2 ⟨rfl, by simp [s0, s1, s6, s7, hw, hbs]⟩
      · simp -dsimp -implicitDefEqProofs [s0, s1, s6, s7, s8, s9, e1, e2, e3, hk1, hbl, hlt2, withO_of hm1', hkd1, hsz1, withC_of c3, withC_of d3, withO_of hi1', withO_of hi2', hik1, hik2, his1, his2, withC_of hic1, withC_of hic2, L1, L2, hc, hw]
        have hbs : bestTo xs s (k + 1 + 1) = bestTo xs s (k + 1) := by rw [bestTo_succ, hpr1, hpr2, if_neg hc]
        exact next_ hlt2 ⟨rfl, by simp [s0, s1, s6, s7, s8, hw, hbs]⟩
    · have e1 : ¬ (k : Int) + 1 < (xs.length : Int) := by omega
      obtain rfl : k = xs.length - 1 := by omega
      have e2 : xs.length - 1 + 1 = xs.length := by omega
      rw [e2] at s8
      have hw : IntKind.i64.wrap ((s : Int) + 1) = s + 1 := wrapI (by omega) (by omega)
      simp -dsimp -implicitDefEqProofs [s0, s1, s6, s7, s8, s9, e1, hw]
      refine appTo_grow Try.sl29 Try.inf2 ⟨by decide, rfl⟩ (o := ob) (get_old hob) ⟨ob4, ob5⟩ ⟨ob3, ob2⟩ (by rw [ob1]; simp [bestL_length]) ⟨by omega, by omega⟩ (Src.obj (o := ⟨[.int .i64 (bestTo xs s xs.length)], _, 1, 1⟩) (by simp; rfl) (by simp) rfl rfl) ?_
      intro m2 id2 hg
      simp -dsimp -implicitDefEqProofs [s0, s1, s6, s7, s8, s9, e1, hw]
      refine next_ hlt ⟨id2, _, hg.pre m (pre_app hp _) hid, by rw [hg.at_]; simp; have := hp.length_le; omega, hg.new, ?_, ?_⟩
      · rw [bestL_succ]; simp [ob1]
      · simp [s0, s1, hw]
  · simp -dsimp -implicitDefEqProofs [s0, s1, s6, s7, hlt]
    obtain rfl : s = N := by omega
    have hO : bestO s xs = some (bestL s xs) := by simp [bestO, g, g2]
    have hC : bestC s xs = 0 := by simp [bestC, g, g2]
    rw [hO, hC]
    simp only [optV, optM, bestL_length]
    exact GC.keepTP (Fits.refl m) hp hob hid ob3.symm ob2.symm (by simp; omega) ob1.symm (by rw [ob1]; exact ints_lit _) rfl
/-- The prices' list under way: those told, the one at hand, the others. -/
def bestP (N : Nat) (xs : List Mk) (s : Nat) (v : Int) : List Int := bestL s xs ++ v :: List.replicate (N - s - 1) 0
theorem bestP_length {N s : Nat} {xs : List Mk} {v : Int} (h : s < N) : (bestP N xs s v).length = N := by simp [bestP, bestL_length]; omega
theorem bestP_get {N s : Nat} {xs : List Mk} {v : Int} : (bestP N xs s v)[s]? = some v := by
  unfold bestP
  rw [List.getElem?_append_right (by rw [bestL_length]; exact Nat.le_refl _), bestL_length, Nat.sub_self]; rfl
theorem bestP_set {N s : Nat} {xs : List Mk} {v w : Int} : (bestP N xs s v).set s w = bestP N xs s w := by
  unfold bestP
  rw [List.set_append_right _ _ (by rw [bestL_length]; exact Nat.le_refl _), bestL_length, Nat.sub_self]; rfl
theorem bestP_zero {N s : Nat} {xs : List Mk} (h : s < N) : bestL s xs ++ List.replicate (N - s) 0 = bestP N xs s 0 := by
  unfold bestP
  rw [show N - s = (N - s - 1) + 1 by omega, List.replicate_succ]; simp
theorem bestP_next {N s : Nat} {xs : List Mk} : bestP N xs s (bestTo xs s xs.length) = bestL (s + 1) xs ++ List.replicate (N - (s + 1)) 0 := by
  unfold bestP
  rw [bestL_succ, show N - s - 1 = N - (s + 1) by omega]; simp
theorem implBest_c (n : Int) (xs : List Mk) (a : Option Addr) (m : Mem) (hr : RdM m a xs) (hn : xs.length ≤ 1048576) (hn' : ∀ x ∈ xs, x.2.2.1.length ≤ 1048576 ∧ x.2.2.2.length ≤ 1048576) :
    ACalls Try.prog 31 [.int .i64 n, .slice a xs.length xs.length] m (.tuple #[optV m.length (bestO n xs), .int .i64 (bestC n xs)]) (m ++ optM 2 (bestO n xs)) := by
  refine acalls_of_vc Try.func31 rfl Try.fol (by kernel_rfl) ?_
  simp only [Try.f31]
  simp -dsimp -implicitDefEqProofs
  refine callsTo Try.cal16 (validMarkets_c n xs a _ hr hn hn') ?_
  simp -dsimp -implicitDefEqProofs
  refine ⟨fun g => ?_, fun g => ?_⟩
  · simp at g
    simp [bestO, bestC, g, optV, optM]
    exact GC.refl _ _ _
  simp at g
  refine ⟨fun g1 => ?_, fun g1 => ?_⟩
  · simp at g1
    subst g1
    simp [bestO, bestC, g, optV, optM]
    exact GC.refl _ _ _
  have g2 : xs ≠ [] := by simpa using g1
  have g2' : 0 < xs.length := List.length_pos_iff.2 g2
  obtain ⟨n1, n2, n3⟩ := mksB_n g
  obtain ⟨N, rfl⟩ : ∃ N : Nat, n = (N : Int) := ⟨n.toNat, by omega⟩
  simp -dsimp -implicitDefEqProofs
  refine need_intro (by omega) ?_
  refine loopN N (fun s σ m' => ∃ ob, m <+: m' ∧ m'[m.length]? = some ob ∧ (ob.cells = (bestL s xs ++ List.replicate (N - s) 0).map (Value.int .i64) ∧ ob.elem = 2 ∧ ob.sz = 1 ∧ ob.kind = 1) ∧
      σ 1 = some (.slice a xs.length xs.length) ∧ σ 6 = some (.slice (some ⟨m.length, 0, none⟩) N N) ∧ σ 20 = some (.int .i64 N) ∧ σ 21 = some (.int .i64 s))
    ⟨⟨List.replicate N (.int .i64 0), 2, 1, 1⟩, pre_app (pre_refl m) _, by simp, by simp [bestL], by simp⟩ ?_
  rintro s σ m' hs ⟨ob, hp, hob, ⟨ob1, ob2, ob3, ob4⟩, s1, s6, s20, s21⟩
  by_cases hlt : s < N
  · simp -dsimp -implicitDefEqProofs [s1, s6, s20, s21, hlt]
    rw [bestP_zero hlt] at ob1
    refine loopN xs.length (fun k σ m1 => ∃ ob, m <+: m1 ∧ m1[m.length]? = some ob ∧ (ob.cells = (bestP N xs s (bestTo xs s k)).map (Value.int .i64) ∧ ob.elem = 2 ∧ ob.sz = 1 ∧ ob.kind = 1) ∧
      σ 1 = some (.slice a xs.length xs.length) ∧ σ 6 = some (.slice (some ⟨m.length, 0, none⟩) N N) ∧ σ 20 = some (.int .i64 N) ∧ σ 21 = some (.int .i64 s) ∧ σ 7 = some (.int .i64 s) ∧
      σ 24 = some (.slice a xs.length xs.length) ∧ σ 25 = some (.int .i64 xs.length) ∧ σ 26 = some (.int .i64 k)) ⟨ob, hp, hob, ⟨by rw [ob1]; rfl, ob2, ob3, ob4⟩, by simp [s1, s6, s20, s21]⟩ ?_
    clear hob ob1 ob2 ob3 ob4 hp s1 s6 s20 s21
    rintro k σ m1 hk ⟨ob, hp, hob, ⟨ob1, ob2, ob3, ob4⟩, s1, s6, s20, s21, s7, s24, s25, s26⟩
    by_cases hlt2 : k < xs.length
    · have hbl : bestTo xs s k < xs.length := by have := bestTo_le xs s k; omega
      obtain ⟨id1, off1, o1, ad1, bd1, rfl, hm1, hkd1, hsz1, hl1, hrow1, c0, c1, c2, c3, q1, q2⟩ := hr k hlt2
      obtain ⟨id2, off2, o2, ad2, bd2, ha2, hm2, hkd2, hsz2, hl2, hrow2, d0, d1, d2, d3, p1, p2⟩ := hr _ hbl
      simp at ha2
      obtain ⟨rfl, rfl⟩ := ha2
      rw [hm1] at hm2
      injection hm2 with hm2
      subst hm2
      have L1 : s < xs[k].2.2.2.length := by have := (mksB_len g hlt2).2; omega
      have L2 : s < xs[bestTo xs s k].2.2.2.length := by have := (mksB_len g hbl).2; omega
      obtain ⟨i1, f1, b1, rfl, hi1, hik1, his1, hic1⟩ := q2.at_ L1
      obtain ⟨i2, f2, b2, rfl, hi2, hik2, his2, hic2⟩ := p2.at_ L2
      have hw : IntKind.i64.wrap ((k : Int) + 1) = k + 1 := wrapI (by omega) (by omega)
      have hm1' := prefix_get hp hm1
      have hi1' := prefix_get hp hi1
      have hi2' := prefix_get hp hi2
      have hpr1 := priceAt_eq hlt2 L1
      have hpr2 := priceAt_eq hbl L2
      have hcell : ob.cells[s]? = some (.int .i64 (bestTo xs s k)) := by rw [ob1, List.getElem?_map, bestP_get]; rfl
      have hlen : ob.cells.length = N := by rw [ob1, List.length_map, bestP_length hlt]
      have hko : ob.kind ≤ 2 := by omega
      have hk1 : 1 ≤ ob.kind := by omega
      by_cases hc : xs[bestTo xs s k].2.2.2[s] < xs[k].2.2.2[s]
      · simp -dsimp -implicitDefEqProofs [s1, s6, s20, s21, s7, s24, s25, s26, hlt, hlt2, hbl, fun l => withO_of (get_old (l := l) hm1'), withO_of hm1', hkd1, hsz1, hl1, hrow1, mkRow4, withC_of d3, fun l => withO_of (get_old (l := l) hi1'), fun l => withO_of (get_old (l := l) hi2'), hik1, hik2, his1, his2, withC_of hic1, withC_of hic2, fun l => withO_of (get_old (l := l) hob), hko, hk1, ob3, ob4, hlen, withC_of hcell, L1, L2, hc, hw]
        have hbs : bestTo xs s (k + 1) = k := by rw [bestTo_succ, hpr1, hpr2, if_pos hc]
        have hml : m.length < m1.length := (List.getElem?_eq_some_iff.1 hob).1
        refine need_intro (by omega) ?_
        exact next_ hlt2 ⟨_, pre_set (pre_app hp _) (Nat.le_refl _) _, List.getElem?_set_self (by simp; omega), ⟨by rw [hbs, ← bestP_set (v := (bestTo xs s k : Int)), List.map_set, ← ob1], ob2, rfl, rfl⟩, by simp [s1, s6, s20, s21, s7, s24, s25, hw]⟩
      · simp -dsimp -implicitDefEqProofs [s1, s6, s20, s21, s7, s24, s25, s26, hlt, hlt2, hbl, fun l => withO_of (get_old (l := l) hm1'), withO_of hm1', hkd1, hsz1, hl1, hrow1, mkRow4, withC_of d3, fun l => withO_of (get_old (l := l) hi1'), fun l => withO_of (get_old (l := l) hi2'), hik1, hik2, his1, his2, withC_of hic1, withC_of hic2, fun l => withO_of (get_old (l := l) hob), hko, hk1, ob3, ob4, hlen, withC_of hcell, L1, L2, hc, hw]
        have hbs : bestTo xs s (k + 1) = bestTo xs s k := by rw [bestTo_succ, hpr1, hpr2, if_neg hc]
        exact next_ hlt2 ⟨ob, pre_app hp _, get_old hob, by rw [hbs]; exact ⟨ob1, ob2, ob3, ob4⟩, by simp [s1, s6, s20, s21, s7, s24, s25, hw]⟩
    · obtain rfl : k = xs.length := by omega
      have hw : IntKind.i64.wrap ((s : Int) + 1) = s + 1 := wrapI (by omega) (by omega)
      simp -dsimp -implicitDefEqProofs [s1, s6, s20, s21, s7, s24, s25, s26, hlt, hw]
      exact next_ hlt ⟨ob, hp, hob, by rw [← bestP_next]; exact ⟨ob1, ob2, ob3, ob4⟩, by simp [s1, s6, s20, hw]⟩
  · simp -dsimp -implicitDefEqProofs [s1, s6, s20, s21, hlt]
    obtain rfl : s = N := by omega
    have hO : bestO s xs = some (bestL s xs) := by simp [bestO, g, g2]
    have hC : bestC s xs = 0 := by simp [bestC, g, g2]
    rw [hO, hC]
    simp only [optV, optM, bestL_length]
    rw [Nat.sub_self, List.replicate_zero, List.append_nil] at ob1
    exact GC.keepTP (Fits.refl m) hp hob (Nat.le_refl _) ob3.symm ob2.symm (.inr ⟨ob4, rfl⟩) ob1.symm (by rw [ob1]; exact ints_lit _) rfl
end Go.Proofs.Ytciekhcdkfhcoaa
