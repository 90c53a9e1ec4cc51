/-
  Markets: the baskets to make. Conditions: none.
-/
import Derived.Test.YtciekhcdkfhcoaaMkC
set_option linter.unusedSimpArgs false
set_option linter.unusedVariables false
set_option linter.unusedSectionVars false
namespace Go.Proofs.Ytciekhcdkfhcoaa
open Go.Abs Go.RowKit

abbrev w64 (x : Int) : Int := IntKind.i64.wrap x
def codeM (n : Int) (xs : List Mk) (ys : List Int) : Int := if mksB n xs then (if countsB ys n 1000 then 0 else 2) else 1
theorem codeM_zero {n : Int} {xs : List Mk} {ys : List Int} (h : codeM n xs ys = 0) : mksB n xs = true ∧ (ys.length : Int) = n := by
  unfold codeM at h
  by_cases h1 : mksB n xs = true
  · by_cases h2 : countsB ys n 1000 = true
    · simp only [countsB, Bool.and_eq_true, decide_eq_true_eq] at h2
      exact ⟨h1, h2.2⟩
    · simp [h1, h2] at h
  · simp [h1] at h
theorem l21Stock_c (n : Int) (ys : List Int) (b : Option Addr) (m : Mem) (hs : RdI m b ys) (hn : ys.length ≤ 1048576) : ACalls Try.prog 78 [.int .i64 n, .slice b ys.length ys.length] m (.bool (countsB ys n 1000)) m := by
  refine acalls_of_vc Try.func78 rfl Try.fol (by kernel_rfl) ?_
  simp only [Try.f78]
  simp -dsimp -implicitDefEqProofs
  refine callsTo Try.cal87 (l21Counts_c ys b _ _ _ hs hn) ?_
  simp -dsimp -implicitDefEqProofs
  exact GC.refl _ _ _
theorem l21Code_c (n : Int) (xs : List Mk) (ys : List Int) (a b : Option Addr) (m : Mem) (hr : RdM m a xs) (hs : RdI m b ys) (hn : xs.length ≤ 1048576) (hn' : ∀ x ∈ xs, x.2.2.1.length ≤ 1048576 ∧ x.2.2.2.length ≤ 1048576) (hn2 : ys.length ≤ 1048576) :
    ACalls Try.prog 58 [.int .i64 n, .slice a xs.length xs.length, .slice b ys.length ys.length] m (.int .i64 (codeM n xs ys)) m := by
  refine acalls_of_vc Try.func58 rfl Try.fol (by kernel_rfl) ?_
  simp only [Try.f58]
  simp -dsimp -implicitDefEqProofs
  refine callsTo Try.cal49 (l21Ok_c n xs a _ hr hn hn') ?_
  simp -dsimp -implicitDefEqProofs
  refine ⟨fun g => GC.eq (by simp at g; simp [codeM, g]), fun g => ?_⟩
  refine callsTo Try.cal78 (l21Stock_c n ys b _ hs hn2) ?_
  simp -dsimp -implicitDefEqProofs
  refine ⟨fun g' => GC.eq (by simp at g g'; simp [codeM, g, g']), fun g' => GC.eq (by simp at g g'; simp [codeM, g, g'])⟩
theorem isStock_c (n : Int) (ys : List Int) (b : Option Addr) (m : Mem) (hs : RdI m b ys) (hn : ys.length ≤ 1048576) : ACalls Try.prog 56 [.int .i64 n, .slice b ys.length ys.length] m (.bool (countsB ys n 1000)) m := by
  refine acalls_of_vc Try.func56 rfl Try.fol (by kernel_rfl) ?_
  simp only [Try.f56]
  simp -dsimp -implicitDefEqProofs
  refine callsTo Try.cal77 (eachWithin_c ys b _ _ _ _ hs (Nat.le_trans hn (by decide))) ?_
  simp -dsimp -implicitDefEqProofs
  exact GC.eq rfl
theorem marketsCode_c (n : Int) (xs : List Mk) (ys : List Int) (a b : Option Addr) (m : Mem) (hr : RdM m a xs) (hs : RdI m b ys) (hn : xs.length ≤ 1048576) (hn' : ∀ x ∈ xs, x.2.2.1.length ≤ 1048576 ∧ x.2.2.2.length ≤ 1048576) (hn2 : ys.length ≤ 1048576) :
    ACalls Try.prog 59 [.int .i64 n, .slice a xs.length xs.length, .slice b ys.length ys.length] m (.int .i64 (codeM n xs ys)) m := by
  refine acalls_of_vc Try.func59 rfl Try.fol (by kernel_rfl) ?_
  simp only [Try.f59]
  simp -dsimp -implicitDefEqProofs
  refine callsTo Try.cal16 (validMarkets_c n xs a _ hr hn hn') ?_
  simp -dsimp -implicitDefEqProofs
  refine ⟨fun g => GC.eq (by simp at g; simp [codeM, g]), fun g => ?_⟩
  refine callsTo Try.cal56 (isStock_c n ys b _ hs hn2) ?_
  simp -dsimp -implicitDefEqProofs
  refine ⟨fun g' => GC.eq (by simp at g g'; simp [codeM, g, g']), fun g' => GC.eq (by simp at g g'; simp [codeM, g, g'])⟩
def sellsAt (xs : List Mk) (k s : Nat) : Int := ((xs[k]?.map (·.2.2.1)).getD []).getD s 0
theorem sellsAt_eq {xs : List Mk} {k s : Nat} (h : k < xs.length) (h' : s < xs[k].2.2.1.length) : sellsAt xs k s = xs[k].2.2.1[s] := by
  simp [sellsAt, List.getElem?_eq_getElem h, List.getElem?_eq_getElem h']
def soldTo (xs : List Mk) (s : Nat) : Nat → Int
  | 0 => 0
  | k + 1 => w64 (soldTo xs s k + sellsAt xs k s)
theorem soldTo_succ (xs : List Mk) (s k : Nat) : soldTo xs s (k + 1) = w64 (soldTo xs s k + sellsAt xs k s) := rfl
def makeAt (xs : List Mk) (ys : List Int) (s : Nat) : Int := max 0 (w64 (soldTo xs s xs.length - ys.getD s 0))
def makeL (n : Nat) (xs : List Mk) (ys : List Int) : List Int := (List.range n).map (makeAt xs ys)
theorem makeL_length (n : Nat) (xs : List Mk) (ys : List Int) : (makeL n xs ys).length = n := by simp [makeL]
theorem makeL_succ (n : Nat) (xs : List Mk) (ys : List Int) : makeL (n + 1) xs ys = makeL n xs ys ++ [makeAt xs ys n] := by simp [makeL, List.range_succ]
def makeO (n : Int) (xs : List Mk) (ys : List Int) : Option (List Int) := if codeM n xs ys = 0 then some (makeL n.toNat xs ys) else none
theorem makeO_length {n : Int} {xs : List Mk} {ys zs : List Int} (h : makeO n xs ys = some zs) : zs.length ≤ 1048576 := by
  unfold makeO at h
  by_cases h1 : codeM n xs ys = 0
  · rw [if_pos h1] at h
    have := mksB_n (codeM_zero h1).1
    simp at h; subst h; rw [makeL_length]; omega
  · rw [if_neg h1] at h; simp at h
theorem specMake_c (n : Int) (xs : List Mk) (ys : List Int) (a b : Option Addr) (m : Mem) (hr : RdM m a xs) (hs : RdI m b ys) (hn : xs.length ≤ 1048576) (hn' : ∀ x ∈ xs, x.2.2.1.length ≤ 1048576 ∧ x.2.2.2.length ≤ 1048576) (hn2 : ys.length ≤ 1048576) :
    ACalls Try.prog 35 [.int .i64 n, .slice a xs.length xs.length, .slice b ys.length ys.length] m (.tuple #[optV m.length (makeO n xs ys), .int .i64 (codeM n xs ys)]) (m ++ optM 2 (makeO n xs ys)) := by
  refine acalls_of_vc Try.func35 rfl Try.fol (by kernel_rfl) ?_
  simp only [Try.f35]
  simp -dsimp -implicitDefEqProofs
  refine callsTo Try.cal58 (l21Code_c n xs ys a b _ hr hs hn hn' hn2) ?_
  simp -dsimp -implicitDefEqProofs
  refine ⟨fun g => ?_, fun g => ?_⟩
  · simp at g
    simp [makeO, g, optV, optM]
    exact GC.refl _ _ _
  simp at g
  obtain ⟨gv, gy⟩ := codeM_zero g
  obtain ⟨n1, n2, n3⟩ := mksB_n gv
  obtain ⟨N, rfl⟩ : ∃ N : Nat, n = (N : Int) := ⟨n.toNat, by omega⟩
  refine loopN N (fun s σ m' => ∃ id ob, m <+: m' ∧ m.length ≤ id ∧ m'[id]? = some ob ∧ (ob.cells = (makeL s xs ys).map (Value.int .i64) ∧ ob.elem = 2 ∧ ob.sz = 1 ∧ 1 ≤ ob.kind ∧ ob.kind ≤ 2) ∧
      σ 0 = some (.int .i64 N) ∧ σ 1 = some (.slice a xs.length xs.length) ∧ σ 2 = some (.slice b ys.length ys.length) ∧ σ 9 = some (.slice (some ⟨id, 0, none⟩) s s) ∧ σ 10 = some (.int .i64 s))
    ⟨m.length, ⟨[], 2, 1, 1⟩, pre_app (pre_refl m) _, Nat.le_refl _, by simp, by simp [makeL], by simp⟩ ?_
  rintro s σ m' hs' ⟨id, ob, hp, hid, hob, ⟨ob1, ob2, ob3, ob4, ob5⟩, s0, s1, s2, s9, s10⟩
  by_cases hlt : s < N
  · simp -dsimp -implicitDefEqProofs [s0, s1, s2, s9, s10, hlt]
    refine loopN xs.length (fun k σ m1 => m1 = m' ∧ σ 0 = some (.int .i64 N) ∧ σ 1 = some (.slice a xs.length xs.length) ∧ σ 2 = some (.slice b ys.length ys.length) ∧ σ 9 = some (.slice (some ⟨id, 0, none⟩) s s) ∧ σ 10 = some (.int .i64 s) ∧
      σ 11 = some (.int .i64 (soldTo xs s k)) ∧ σ 12 = some (.int .i64 k)) ⟨rfl, by simp [s0, s1, s2, s9, s10, soldTo]⟩ ?_
    rintro k σ m1 hk ⟨rfl, s0, s1, s2, s9, s10, s11, s12⟩
    by_cases hlt2 : k < xs.length
    · obtain ⟨id1, off1, o1, ad1, bd1, rfl, hm1, hkd1, hsz1, hl1, hrow1, c0, c1, c2, c3, q1, q2⟩ := hr k hlt2
      have L1 : s < xs[k].2.2.1.length := by have := (mksB_len gv hlt2).1; omega
      obtain ⟨i1, f1, b1, rfl, hi1, hik1, his1, hic1⟩ := q1.at_ L1
      have hw : IntKind.i64.wrap ((k : Int) + 1) = k + 1 := wrapI (by omega) (by omega)
      have hm1' := prefix_get hp hm1
      have hi1' := prefix_get hp hi1
      have hsl := sellsAt_eq hlt2 L1
      simp -dsimp -implicitDefEqProofs [s0, s1, s2, s9, s10, s11, s12, hlt2, withO_of hm1', hkd1, hsz1, withC_of c2, withO_of hi1', hik1, his1, withC_of hic1, L1, hw]
      exact next_ hlt2 ⟨rfl, by simp [s0, s1, s2, s9, s10, hw, soldTo_succ, hsl]⟩
    · obtain rfl : k = xs.length := by omega
      have L3 : s < ys.length := by omega
      obtain ⟨i3, f3, b3, rfl, hi3, hik3, his3, hic3⟩ := hs.at_ L3
      have hi3' := prefix_get hp hi3
      have hw : IntKind.i64.wrap ((s : Int) + 1) = s + 1 := wrapI (by omega) (by omega)
      have hmk : makeAt xs ys s = max 0 (w64 (soldTo xs s xs.length - ys[s])) := by rw [makeAt, getI L3]
      simp -dsimp -implicitDefEqProofs [s0, s1, s2, s9, s10, s11, s12, hlt, L3, withO_of hi3', hik3, his3, withC_of hic3, hw]
      refine callsTo Try.cal60 (l00Max_c _ _ _) ?_
      simp -dsimp -implicitDefEqProofs [s0, s1, s2, s9, s10, s11, s12, hlt, L3, withO_of hi3', hik3, his3, withC_of hic3, hw]
      refine appTo_grow Try.sl29 Try.inf2 ⟨by decide, rfl⟩ (o := ob) (get_old hob) ⟨ob4, ob5⟩ ⟨ob3, ob2⟩ (by rw [ob1]; simp [makeL_length]) ⟨by omega, by omega⟩ (Src.obj (o := ⟨[.int .i64 (makeAt xs ys s)], _, 1, 1⟩) (by rw [hmk]; simp; rfl) (by simp) rfl rfl) ?_
      intro m2 id2 hg
      simp -dsimp -implicitDefEqProofs [s0, s1, s2, s9, s10, s11, s12, hlt, L3, withO_of hi3', hik3, his3, withC_of hic3, hw]
      refine next_ hlt ⟨id2, _, hg.pre m (pre_app hp _) hid, by rw [hg.at_]; simp; have := hp.length_le; omega, hg.new, ?_, ?_⟩
      · rw [makeL_succ]; simp [ob1]
      · simp [s0, s1, s2, hw]
  · simp -dsimp -implicitDefEqProofs [s0, s1, s2, s9, s10, hlt]
    obtain rfl : s = N := by omega
    have hO : makeO s xs ys = some (makeL s xs ys) := by simp [makeO, g]
    rw [hO, g]
    simp only [optV, optM, makeL_length]
    exact GC.keepTP (Fits.refl m) hp hob hid ob3.symm ob2.symm (by simp; omega) ob1.symm (by rw [ob1]; exact ints_lit _) rfl
/-- The list under way: those told, the one at hand, the others. -/
def makeP (N : Nat) (xs : List Mk) (ys : List Int) (s : Nat) (v : Int) : List Int := makeL s xs ys ++ v :: List.replicate (N - s - 1) 0
theorem makeP_length {N s : Nat} {xs : List Mk} {ys : List Int} {v : Int} (h : s < N) : (makeP N xs ys s v).length = N := by simp [makeP, makeL_length]; omega
theorem makeP_get {N s : Nat} {xs : List Mk} {ys : List Int} {v : Int} : (makeP N xs ys s v)[s]? = some v := by
  unfold makeP
  rw [List.getElem?_append_right (by rw [makeL_length]; exact Nat.le_refl _), makeL_length, Nat.sub_self]; rfl
theorem makeP_set {N s : Nat} {xs : List Mk} {ys : List Int} {v w : Int} : (makeP N xs ys s v).set s w = makeP N xs ys s w := by
  unfold makeP
  rw [List.set_append_right _ _ (by rw [makeL_length]; exact Nat.le_refl _), makeL_length, Nat.sub_self]; rfl
theorem makeP_zero {N s : Nat} {xs : List Mk} {ys : List Int} (h : s < N) : makeL s xs ys ++ List.replicate (N - s) 0 = makeP N xs ys s 0 := by
  unfold makeP
  rw [show N - s = (N - s - 1) + 1 by omega, List.replicate_succ]; simp
theorem makeP_next {N s : Nat} {xs : List Mk} {ys : List Int} : makeP N xs ys s (makeAt xs ys s) = makeL (s + 1) xs ys ++ List.replicate (N - (s + 1)) 0 := by
  unfold makeP
  rw [makeL_succ, show N - s - 1 = N - (s + 1) by omega]; simp
theorem implMake_c (n : Int) (xs : List Mk) (ys : List Int) (a b : Option Addr) (m : Mem) (hr : RdM m a xs) (hs : RdI m b ys) (hn : xs.length ≤ 1048576) (hn' : ∀ x ∈ xs, x.2.2.1.length ≤ 1048576 ∧ x.2.2.2.length ≤ 1048576) (hn2 : ys.length ≤ 1048576) :
    ACalls Try.prog 36 [.int .i64 n, .slice a xs.length xs.length, .slice b ys.length ys.length] m (.tuple #[optV m.length (makeO n xs ys), .int .i64 (codeM n xs ys)]) (m ++ optM 2 (makeO n xs ys)) := by
  refine acalls_of_vc Try.func36 rfl Try.fol (by kernel_rfl) ?_
  simp only [Try.f36]
  simp -dsimp -implicitDefEqProofs
  refine callsTo Try.cal59 (marketsCode_c n xs ys a b _ hr hs hn hn' hn2) ?_
  simp -dsimp -implicitDefEqProofs
  refine ⟨fun g => ?_, fun g => ?_⟩
  · simp at g
    simp [makeO, g, optV, optM]
    exact GC.refl _ _ _
  simp at g
  obtain ⟨gv, gy⟩ := codeM_zero g
  obtain ⟨n1, n2, n3⟩ := mksB_n gv
  obtain ⟨N, rfl⟩ : ∃ N : Nat, n = (N : Int) := ⟨n.toNat, by omega⟩
  simp -dsimp -implicitDefEqProofs
  refine need_intro (by omega) ?_
  refine loopN N (fun s σ m' => ∃ ob, m <+: m' ∧ m'[m.length]? = some ob ∧ (ob.cells = (makeL s xs ys ++ List.replicate (N - s) 0).map (Value.int .i64) ∧ ob.elem = 2 ∧ ob.sz = 1 ∧ ob.kind = 1) ∧
      σ 1 = some (.slice a xs.length xs.length) ∧ σ 2 = some (.slice b ys.length ys.length) ∧ σ 9 = some (.slice (some ⟨m.length, 0, none⟩) N N) ∧ σ 23 = some (.int .i64 N) ∧ σ 24 = some (.int .i64 s))
    ⟨⟨List.replicate N (.int .i64 0), 2, 1, 1⟩, pre_app (pre_refl m) _, by simp, by simp [makeL], by simp⟩ ?_
  rintro s σ m' hs' ⟨ob, hp, hob, ⟨ob1, ob2, ob3, ob4⟩, s1, s2, s9, s23, s24⟩
  by_cases hlt : s < N
  · simp -dsimp -implicitDefEqProofs [s1, s2, s9, s23, s24, hlt]
    rw [makeP_zero hlt] at ob1
    refine loopN xs.length (fun k σ m1 => ∃ ob, m <+: m1 ∧ m1[m.length]? = some ob ∧ (ob.cells = (makeP N xs ys s (soldTo xs s k)).map (Value.int .i64) ∧ ob.elem = 2 ∧ ob.sz = 1 ∧ ob.kind = 1) ∧
      σ 1 = some (.slice a xs.length xs.length) ∧ σ 2 = some (.slice b ys.length ys.length) ∧ σ 9 = some (.slice (some ⟨m.length, 0, none⟩) N N) ∧ σ 23 = some (.int .i64 N) ∧ σ 24 = some (.int .i64 s) ∧ σ 10 = some (.int .i64 s) ∧
      σ 27 = some (.slice a xs.length xs.length) ∧ σ 28 = some (.int .i64 xs.length) ∧ σ 29 = some (.int .i64 k)) ⟨ob, hp, hob, ⟨by rw [ob1]; rfl, ob2, ob3, ob4⟩, by simp [s1, s2, s9, s23, s24]⟩ ?_
    clear hob ob1 ob2 ob3 ob4 hp s1 s2 s9 s23 s24
    rintro k σ m1 hk ⟨ob, hp, hob, ⟨ob1, ob2, ob3, ob4⟩, s1, s2, s9, s23, s24, s10, s27, s28, s29⟩
    have hcell : ob.cells[s]? = some (.int .i64 (soldTo xs s k)) := by rw [ob1, List.getElem?_map, makeP_get]; rfl
    have hlen : ob.cells.length = N := by rw [ob1, List.length_map, makeP_length hlt]
    have hko : ob.kind ≤ 2 := by omega
    have hk1 : 1 ≤ ob.kind := by omega
    have hml : m.length < m1.length := (List.getElem?_eq_some_iff.1 hob).1
    by_cases hlt2 : k < xs.length
    · obtain ⟨id1, off1, o1, ad1, bd1, rfl, hm1, hkd1, hsz1, hl1, hrow1, c0, c1, c2, c3, q1, q2⟩ := hr k hlt2
      have L1 : s < xs[k].2.2.1.length := by have := (mksB_len gv hlt2).1; omega
      obtain ⟨i1, f1, b1, rfl, hi1, hik1, his1, hic1⟩ := q1.at_ L1
      have hw : IntKind.i64.wrap ((k : Int) + 1) = k + 1 := wrapI (by omega) (by omega)
      have hm1' := prefix_get hp hm1
      have hi1' := prefix_get hp hi1
      have hsl := sellsAt_eq hlt2 L1
      simp -dsimp -implicitDefEqProofs [s1, s2, s9, s23, s24, s10, s27, s28, s29, hlt, hlt2, fun l => withO_of (get_old (l := l) hm1'), withO_of hm1', hkd1, hsz1, hl1, hrow1, mkRow4, fun l => withO_of (get_old (l := l) hi1'), hik1, his1, withC_of hic1, fun l => withO_of (get_old (l := l) hob), hko, hk1, ob3, ob4, hlen, withC_of hcell, L1, hw]
      refine need_intro (by omega) ?_
      refine need_intro (.inr (by kernel_rfl)) ?_
      exact next_ hlt2 ⟨_, pre_set (pre_app hp _) (Nat.le_refl _) _, List.getElem?_set_self (by simp; omega), ⟨by rw [soldTo_succ, hsl, ← makeP_set (v := soldTo xs s k), List.map_set, ← ob1], ob2, rfl, rfl⟩, by simp [s1, s2, s9, s23, s24, s10, s27, s28, hw]⟩
    · obtain rfl : k = xs.length := by omega
      have L3 : s < ys.length := by omega
      obtain ⟨i3, f3, b3, rfl, hi3, hik3, his3, hic3⟩ := hs.at_ L3
      have hi3' := prefix_get hp hi3
      have hw : IntKind.i64.wrap ((s : Int) + 1) = s + 1 := wrapI (by omega) (by omega)
      have hmk : makeAt xs ys s = max 0 (w64 (soldTo xs s xs.length - ys[s])) := by rw [makeAt, getI L3]
      simp -dsimp -implicitDefEqProofs [s1, s2, s9, s23, s24, s10, s27, s28, s29, hlt, L3, withO_of hi3', hik3, his3, withC_of hic3, withO_of hob, hko, hk1, ob3, ob4, hlen, withC_of hcell, hw]
      refine need_intro (by omega) ?_
      refine need_intro (.inr (by kernel_rfl)) ?_
      exact next_ hlt ⟨_, pre_set hp (Nat.le_refl _) _, List.getElem?_set_self hml, ⟨by rw [← makeP_next, hmk, ← makeP_set (v := soldTo xs s xs.length), List.map_set, ← ob1], ob2, rfl, rfl⟩, by simp [s1, s2, s9, s23, hw]⟩
  · simp -dsimp -implicitDefEqProofs [s1, s2, s9, s23, s24, hlt]
    obtain rfl : s = N := by omega
    have hO : makeO s xs ys = some (makeL s xs ys) := by simp [makeO, g]
    rw [hO, g]
    simp only [optV, optM, makeL_length]
    rw [Nat.sub_self, List.replicate_zero, List.append_nil] at ob1
    exact GC.keepTP (Fits.refl m) hp hob (Nat.le_refl _) ob3.symm ob2.symm (.inr ⟨ob4, rfl⟩) ob1.symm (by rw [ob1]; exact ints_lit _) rfl
end Go.Proofs.Ytciekhcdkfhcoaa
