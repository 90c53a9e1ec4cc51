/-
  Heaps, part 2: which heaps are valid, which are the same, the oldest year and the bundles of a sort. Conditions: none.
-/
import Derived.Test.YtlcefchlmdffeaaHeapA
set_option linter.unusedSimpArgs false
set_option linter.unusedVariables false
set_option linter.unusedSectionVars false
namespace Go.Proofs.Ytlcefchlmdffeaa
open Go.Abs Go.RowKit

abbrev w64 (x : Int) : Int := IntKind.i64.wrap x
def heapB (p : H3) : Bool := nameB p.1 && inB p.2.1 1800 2100 && inB p.2.2 1 1000
def IsH (m : Mem) (id off : Nat) (p : H3) : Prop := ∃ o, m[id]? = some o ∧ o.kind ≤ 2 ∧ o.cells[off]? = some (.string p.1) ∧ o.cells[off + 1]? = some (.int .i64 p.2.1) ∧ o.cells[off + 2]? = some (.int .i64 p.2.2)
theorem IsH.row {m : Mem} {id off : Nat} {xs : List H3} (h : RdG vh 3 m (some ⟨id, off, none⟩) xs) {i : Nat} (hi : i < xs.length) : IsH m id ((off + i) * 3) xs[i] := by
  obtain ⟨id', off', o', ha, hm, hk, _, _, _, h0, h1, h2⟩ := RH.at_ h hi
  simp at ha
  obtain ⟨rfl, rfl⟩ := ha
  exact ⟨o', hm, hk, h0, h1, h2⟩
theorem l23One_c (p : H3) (m : Mem) (id off : Nat) (hp : IsH m id off p) (hs : p.1.size ≤ maxLen) : ACalls Try.prog 29 [.pointer (some ⟨id, off, none⟩)] m (.bool (heapB p)) m := by
  obtain ⟨o, hm, hk, h0, h1, h2⟩ := hp
  refine acalls_of_vc Try.func29 rfl Try.fol (by kernel_rfl) ?_
  simp only [Try.f29]
  simp -dsimp -implicitDefEqProofs [withO_of hm, hk, withC_of h0, withC_of h1, withC_of h2]
  refine callsTo Try.cal34 (specName_c _ _ hs) ?_
  simp -dsimp -implicitDefEqProofs [withO_of hm, hk, withC_of h0, withC_of h1, withC_of h2]
  refine ⟨fun g1 => ?_, fun g1 => GC.eq (by simp [heapB, g1])⟩
  refine callsTo Try.cal35 (l00In_c _ _ _ _) ?_
  simp -dsimp -implicitDefEqProofs [withO_of hm, hk, withC_of h0, withC_of h1, withC_of h2]
  refine ⟨fun g2 => ?_, fun g2 => GC.eq (by simp [heapB, g1, g2])⟩
  refine callsTo Try.cal35 (l00In_c _ _ _ _) ?_
  simp -dsimp -implicitDefEqProofs [withO_of hm, hk, withC_of h0, withC_of h1, withC_of h2]
  exact GC.eq (by simp [heapB, g1, g2])
theorem isYear_c (n : Int) (m : Mem) : ACalls Try.prog 31 [.int .i64 n] m (.bool (inB n 1800 2100)) m := by
  refine acalls_of_vc Try.func31 rfl Try.fol (by kernel_rfl) ?_
  simp only [Try.f31]
  simp -dsimp -implicitDefEqProofs
  refine callsTo Try.cal32 (within_c _ _ _ _) ?_
  simp -dsimp -implicitDefEqProofs
  exact GC.refl _ _ _
theorem isHeap_c (p : H3) (m : Mem) (hs : p.1.size ≤ maxLen) : ACalls Try.prog 23 [.agg (vh p).toArray] m (.bool (heapB p)) m := by
  refine acalls_of_vc Try.func23 rfl Try.fol (by kernel_rfl) ?_
  simp only [Try.f23, vh]
  simp -dsimp -implicitDefEqProofs
  refine callsTo Try.cal26 (implName_c _ _ hs) ?_
  simp -dsimp -implicitDefEqProofs
  refine ⟨fun g1 => ?_, fun g1 => GC.dropEq (by simp [heapB, g1]) rfl⟩
  refine callsTo Try.cal31 (isYear_c _ _) ?_
  simp -dsimp -implicitDefEqProofs
  refine ⟨fun g2 => ?_, fun g2 => GC.dropEq (by simp [heapB, g1, g2]) rfl⟩
  refine callsTo Try.cal32 (within_c _ _ _ _) ?_
  simp -dsimp -implicitDefEqProofs
  exact GC.dropEq (by simp [heapB, g1, g2]) rfl

/-! ### Order -/
def cmpS (a b : ByteArray) : Int := Lib.compareBytes a.data.toList b.data.toList
theorem less_eq (a b : ByteArray) : Op.bytesLess a.toList b.toList = decide (cmpS a b < 0) := by rw [Lib.toList_data, Lib.toList_data, less_compare]; rfl
theorem cmpS_self (a : ByteArray) : cmpS a a = 0 := by
  unfold cmpS
  generalize a.data.toList = l
  induction l with
  | nil => rfl
  | cons x l ih => simp [Lib.compareBytes, ih]
def beforeB (p q : H3) : Bool := decide (cmpS p.1 q.1 < 0) || (decide (p.1 = q.1) && decide (p.2.1 < q.2.1))
def cmpI (p q : H3) : Int := if p.1 = q.1 then w64 (p.2.1 - q.2.1) else cmpS p.1 q.1
theorem cmp_before {p q : H3} (hp : heapB p = true) (hq : heapB q = true) : decide (0 ≤ cmpI p q) = !beforeB p q := by
  simp only [heapB, inB, Bool.and_eq_true, decide_eq_true_eq] at hp hq
  unfold cmpI beforeB
  by_cases h : p.1 = q.1
  · have h0 : cmpS p.1 q.1 = 0 := by rw [h]; exact cmpS_self _
    rw [if_pos h, h0]
    unfold w64
    rw [wrapI (by omega) (by omega)]
    by_cases h2 : p.2.1 < q.2.1
    · simp [h, h2] <;> omega
    · simp [h, h2] <;> omega
  · rw [if_neg h]
    by_cases h2 : cmpS p.1 q.1 < 0
    · simp [h2]
    · simp [h, h2]; omega
theorem l23Before_c (p q : H3) (m : Mem) (id off id' off' : Nat) (hp : IsH m id off p) (hq : IsH m id' off' q) : ACalls Try.prog 30 [.pointer (some ⟨id, off, none⟩), .pointer (some ⟨id', off', none⟩)] m (.bool (beforeB p q)) m := by
  obtain ⟨o, hm, hk, h0, h1, h2⟩ := hp
  obtain ⟨o', hm', hk', h0', h1', h2'⟩ := hq
  refine acalls_of_vc Try.func30 rfl Try.fol (by kernel_rfl) ?_
  simp only [Try.f30]
  simp -dsimp -implicitDefEqProofs [withO_of hm, hk, withC_of h0, withC_of h1, withO_of hm', hk', withC_of h0', withC_of h1', less_eq, bytes_beq]
  refine ⟨fun g1 => GC.eq (by simp at g1; simp [beforeB, g1]), fun g1 => ⟨fun g2 => GC.eq ?_, fun g2 => GC.eq ?_⟩⟩
  · simp at g1 g2; simp [beforeB, g2, cmpS_self]
  · simp at g1 g2; simp [beforeB, g2, show ¬ cmpS p.1 q.1 < 0 by omega]
set_option maxRecDepth 100000 in
theorem cmpString_calls (a b : ByteArray) (w : World) : Calls Try.prog 36 #[.string a, .string b] w fun e w' => e = .returned (.int .i64 (cmpS a b)) ∧ w' = w := by
  go_enter Try.func36, Try.ntmps36
  go_wp2
  rw [run_callFunc_extern Try.func39 (by kernel_rfl) (by kernel_rfl) (by kernel_rfl) (e := Extern.BytealgCompare.compare) (by kernel_rfl), Lib.run_compareString]
  simp only [Result.andThen]
  rw [Oper.upon_value]
  go_wp2
  go_ret
  exact ⟨rfl, rfl⟩
theorem cmpString_c (a b : ByteArray) (m : Mem) : ACalls Try.prog 36 [.string a, .string b] m (.int .i64 (cmpS a b)) m := acalls_of_lit rfl rfl fun w => cmpString_calls a b w
theorem compare_c (a b : ByteArray) (m : Mem) : ACalls Try.prog 33 [.string a, .string b] m (.int .i64 (cmpS a b)) m := by
  refine acalls_of_vc Try.func33 rfl Try.fol (by kernel_rfl) ?_
  simp only [Try.f33]
  simp -dsimp -implicitDefEqProofs
  refine callsTo Try.cal36 (cmpString_c a b _) ?_
  simp -dsimp -implicitDefEqProofs
  exact GC.refl _ _ _
theorem compareHeaps_c (p q : H3) (m : Mem) : ACalls Try.prog 24 [.agg (vh p).toArray, .agg (vh q).toArray] m (.int .i64 (cmpI p q)) m := by
  refine acalls_of_vc Try.func24 rfl Try.fol (by kernel_rfl) ?_
  simp only [Try.f24, vh]
  simp -dsimp -implicitDefEqProofs [bytes_beq]
  refine ⟨fun g => ?_, fun g => GC.dropEq ?_ rfl⟩
  · simp at g
    refine callsTo Try.cal33 (compare_c _ _ _) ?_
    simp -dsimp -implicitDefEqProofs [bytes_beq]
    exact GC.dropEq (by simp [cmpI, g]) rfl
  · simp at g; simp [cmpI, g]

/-! ### Valid heaps -/
def heapAt (xs : List H3) (k : Nat) : Bool :=
  match xs[k]? with
  | some p => heapB p && (match k with | 0 => true | k + 1 => match xs[k]? with | some q => beforeB q p | none => true)
  | none => true
def heapsB (xs : List H3) : Bool := (List.range xs.length).all (heapAt xs) && decide (xs.length ≤ 20)
theorem heapsB_false {xs : List H3} {k : Nat} (hk : k < xs.length) (h : heapAt xs k = false) : heapsB xs = false := by simp [heapsB, allTo_false hk h]
theorem heapAt_zero {xs : List H3} (h : 0 < xs.length) : heapAt xs 0 = heapB xs[0] := by simp [heapAt, List.getElem?_eq_getElem h]
theorem heapAt_succ {xs : List H3} {k : Nat} (h : k + 1 < xs.length) : heapAt xs (k + 1) = (heapB xs[k + 1] && beforeB xs[k] xs[k + 1]) := by
  simp [heapAt, List.getElem?_eq_getElem h, List.getElem?_eq_getElem (show k < xs.length by omega)]
theorem heapAt_heap {xs : List H3} {k : Nat} (h : k < xs.length) (h' : heapAt xs k = true) : heapB xs[k] = true := by
  cases k with
  | zero => rw [heapAt_zero h] at h'; exact h'
  | succ k => rw [heapAt_succ h] at h'; simp at h'; exact h'.1
theorem l23Ok_c (xs : List H3) (a : Option Addr) (m : Mem) (hr : RdG vh 3 m a xs) (hn : xs.length ≤ 1048576) (hs : ∀ x ∈ xs, x.1.size ≤ maxLen) : ACalls Try.prog 22 [.slice a xs.length xs.length] m (.bool (heapsB xs)) m := by
  refine acalls_of_vc Try.func22 rfl Try.fol (by kernel_rfl) ?_
  simp only [Try.f22]
  simp -dsimp -implicitDefEqProofs
  refine loopN xs.length (fun k σ m' => m' = m ∧ (σ 0 = some (.slice a xs.length xs.length) ∧ σ 3 = some (.int .i64 k)) ∧ (List.range k).all (heapAt xs) = true) ⟨rfl, by simp, by simp⟩ ?_
  rintro k σ m' hk ⟨rfl, ⟨s0, s3⟩, hok⟩
  by_cases hlt : k < xs.length
  · obtain ⟨id, off, o, rfl, hm, hkd, hsz, hl, hrow, _⟩ := RH.at_ hr hlt
    have hw : IntKind.i64.wrap ((k : Int) + 1) = k + 1 := wrapI (by omega) (by omega)
    have h1 := hs _ (List.getElem_mem hlt)
    cases k with
    | zero =>
      simp -dsimp -implicitDefEqProofs [s0, s3, hlt, withO_of hm, hkd, hsz, hw]
      refine callsTo Try.cal29 (l23One_c xs[0] _ _ _ (IsH.row hr hlt) h1) ?_
      simp -dsimp -implicitDefEqProofs [s0, s3, hlt, withO_of hm, hkd, hsz, hw]
      refine ⟨fun g => GC.eq (by rw [heapsB_false hlt (by rw [heapAt_zero hlt]; simpa using g)]), fun g => next_ hlt ⟨rfl, by simp [s0]; simpa using hw, allTo_succ hok (by rw [heapAt_zero hlt]; simpa using g)⟩⟩
    | succ k =>
      have hk' : k < xs.length := by omega
      have hw2 : IntKind.i64.wrap (k : Int) = k := wrapI (by omega) (by omega)
      have hw3 : IntKind.i64.wrap ((k : Int) + 1 + 1) = k + 1 + 1 := wrapI (by omega) (by omega)
      have d1 : (k : Int) + 1 < (xs.length : Int) := by omega
      have d2 : (0 : Int) ≤ (k : Int) + 1 := by omega
      have d3 : ((k : Int) + 1).toNat = k + 1 := by omega
      have d4 : (0 : Int) < (k : Int) + 1 := by omega
      simp -dsimp -implicitDefEqProofs [s0, s3, hlt, hk', withO_of hm, hkd, hsz, hw2, hw3, d1, d2, d3, d4]
      refine callsTo Try.cal29 (l23One_c xs[k + 1] _ _ _ (IsH.row hr hlt) h1) ?_
      simp -dsimp -implicitDefEqProofs [s0, s3, hlt, hk', withO_of hm, hkd, hsz, hw2, hw3, d1, d2, d3, d4]
      cases g1 : heapB xs[k + 1] with
      | false =>
        simp -dsimp -implicitDefEqProofs [s0, s3, hlt, hk', withO_of hm, hkd, hsz, hw2, hw3, d1, d2, d3, d4]
        exact GC.eq (by rw [heapsB_false hlt (by rw [heapAt_succ hlt, g1]; rfl)])
      | true =>
        simp -dsimp -implicitDefEqProofs [s0, s3, hlt, hk', withO_of hm, hkd, hsz, hw2, hw3, d1, d2, d3, d4]
        refine callsTo Try.cal30 (l23Before_c xs[k] xs[k + 1] _ _ _ _ _ (IsH.row hr hk') (IsH.row hr hlt)) ?_
        simp -dsimp -implicitDefEqProofs [s0, s3, hlt, hk', withO_of hm, hkd, hsz, hw2, hw3, d1, d2, d3, d4]
        refine ⟨fun g => GC.eq (by rw [heapsB_false hlt (by rw [heapAt_succ hlt, g1]; simpa using g)]), fun g => next_ hlt ⟨rfl, by simp [s0, hw3], allTo_succ hok (by rw [heapAt_succ hlt, g1]; simpa using g)⟩⟩
  · simp -dsimp -implicitDefEqProofs [s0, s3, hlt]
    obtain rfl : k = xs.length := by omega
    exact GC.eq (by simp only [heapsB, hok]; simp; omega)
theorem validHeaps_c (xs : List H3) (a : Option Addr) (m : Mem) (hr : RdG vh 3 m a xs) (hn : xs.length ≤ 1048576) (hs : ∀ x ∈ xs, x.1.size ≤ maxLen) : ACalls Try.prog 13 [.slice a xs.length xs.length] m (.bool (heapsB xs)) m := by
  refine acalls_of_vc Try.func13 rfl Try.fol (by kernel_rfl) ?_
  simp only [Try.f13]
  simp -dsimp -implicitDefEqProofs
  refine loopN xs.length (fun k σ m' => m <+: m' ∧ (σ 0 = some (.slice a xs.length xs.length) ∧ σ 5 = some (.slice a xs.length xs.length) ∧ σ 6 = some (.int .i64 xs.length) ∧ σ 7 = some (.int .i64 k)) ∧ (List.range k).all (heapAt xs) = true) ⟨pre_refl m, by simp, by simp⟩ ?_
  rintro k σ m' hk ⟨hp, ⟨s0, s5, s6, s7⟩, hok⟩
  by_cases hlt : k < xs.length
  · obtain ⟨id, off, o, rfl, hm, hkd, hsz, hl, hrow, _⟩ := RH.at_ hr hlt
    have hw : IntKind.i64.wrap ((k : Int) + 1) = k + 1 := wrapI (by omega) (by omega)
    have h1 := hs _ (List.getElem_mem hlt)
    have hm' := prefix_get hp hm
    cases k with
    | zero =>
      simp only [Nat.add_zero] at hl hrow
      simp -dsimp -implicitDefEqProofs [s0, s5, s6, s7, hlt, withO_of hm', fun l => withO_of (get_old (l := l) hm'), hkd, hsz, hl, hrow, vh, hw]
      refine callsTo Try.cal23 (isHeap_c xs[0] _ h1) ?_
      simp -dsimp -implicitDefEqProofs [s0, s5, s6, s7, hlt, withO_of hm', fun l => withO_of (get_old (l := l) hm'), hkd, hsz, hl, hrow, vh, hw]
      refine ⟨fun g => GC.dropP (pre_app hp _) (by rw [heapsB_false hlt (by rw [heapAt_zero hlt]; simpa using g)]) rfl, fun g => next_ hlt ⟨pre_app hp _, by simp [s0, s5, s6]; simpa using hw, allTo_succ hok (by rw [heapAt_zero hlt]; simpa using g)⟩⟩
    | succ k =>
      have hk' : k < xs.length := by omega
      obtain ⟨id2, off2, o2, ha2, hm2, hkd2, hsz2, hl2, hrow2, _⟩ := RH.at_ hr hk'
      simp at ha2
      obtain ⟨rfl, rfl⟩ := ha2
      rw [hm] at hm2
      injection hm2 with hm2
      subst hm2
      have hw2 : IntKind.i64.wrap (k : Int) = k := wrapI (by omega) (by omega)
      have hw3 : IntKind.i64.wrap ((k : Int) + 1 + 1) = k + 1 + 1 := wrapI (by omega) (by omega)
      have d1 : (k : Int) + 1 < (xs.length : Int) := by omega
      have d2 : (0 : Int) ≤ (k : Int) + 1 := by omega
      have d3 : ((k : Int) + 1).toNat = k + 1 := by omega
      simp -dsimp -implicitDefEqProofs [s0, s5, s6, s7, hlt, hk', withO_of hm', fun l => withO_of (get_old (l := l) hm'), hkd, hsz, hl, hl2, hrow, hrow2, vh, hw2, hw3, d1, d2, d3]
      refine callsTo Try.cal23 (isHeap_c xs[k + 1] _ h1) ?_
      simp -dsimp -implicitDefEqProofs [s0, s5, s6, s7, hlt, hk', withO_of hm', fun l => withO_of (get_old (l := l) hm'), hkd, hsz, hl, hl2, hrow, hrow2, vh, hw2, hw3, d1, d2, d3]
      cases g1 : heapB xs[k + 1] with
      | false =>
        simp -dsimp -implicitDefEqProofs [s0, s5, s6, s7, hlt, hk', withO_of hm', fun l => withO_of (get_old (l := l) hm'), hkd, hsz, hl, hl2, hrow, hrow2, vh, hw2, hw3, d1, d2, d3]
        exact GC.dropP (pre_app hp _) (by rw [heapsB_false hlt (by rw [heapAt_succ hlt, g1]; rfl)]) rfl
      | true =>
        have hpos : (0 : Int) < (k : Int) + 1 := by omega
        have hcb := cmp_before (heapAt_heap hk' (allTo_get hok (show k < k + 1 by omega))) g1
        simp -dsimp -implicitDefEqProofs [s0, s5, s6, s7, hlt, hk', withO_of hm', fun l => withO_of (get_old (l := l) hm'), hkd, hsz, hl, hl2, hrow, hrow2, vh, hw2, hw3, d1, d2, d3, hpos]
        refine callsTo Try.cal24 (compareHeaps_c xs[k] xs[k + 1] _) ?_
        simp -dsimp -implicitDefEqProofs [s0, s5, s6, s7, hlt, hk', withO_of hm', fun l => withO_of (get_old (l := l) hm'), hkd, hsz, hl, hl2, hrow, hrow2, vh, hw2, hw3, d1, d2, d3, hpos]
        rw [hcb]
        refine ⟨fun g => GC.dropP (pre_app hp _) (by rw [heapsB_false hlt (by rw [heapAt_succ hlt, g1]; simpa using g)]) rfl, fun g => next_ hlt ⟨pre_app hp _, by simp [s0, s5, s6, hw3], allTo_succ hok (by rw [heapAt_succ hlt, g1]; simpa using g)⟩⟩
  · simp -dsimp -implicitDefEqProofs [s0, s5, s6, s7, hlt]
    obtain rfl : k = xs.length := by omega
    exact GC.dropP hp (by simp only [heapsB, hok]; simp; omega) rfl
theorem specValidHeaps_c (xs : List H3) (a : Option Addr) (m : Mem) (hr : RdG vh 3 m a xs) (hn : xs.length ≤ 1048576) (hs : ∀ x ∈ xs, x.1.size ≤ maxLen) : ACalls Try.prog 12 [.slice a xs.length xs.length] m (.bool (heapsB xs)) m := by
  refine acalls_of_vc Try.func12 rfl Try.fol (by kernel_rfl) ?_
  simp only [Try.f12]
  simp -dsimp -implicitDefEqProofs
  refine callsTo Try.cal22 (l23Ok_c xs a _ hr hn hs) ?_
  simp -dsimp -implicitDefEqProofs
  exact GC.refl _ _ _

/-! ### The same heaps -/
theorem specSame_c (xs ys : List H3) (a b : Option Addr) (m : Mem) (hr : RdG vh 3 m a xs) (hs : RdG vh 3 m b ys) (hn : xs.length ≤ 1048576) :
    ACalls Try.prog 8 [.slice a xs.length xs.length, .slice b ys.length ys.length] m (.bool (decide (xs = ys))) m := by
  refine acalls_of_vc Try.func8 rfl Try.fol (by kernel_rfl) ?_
  simp only [Try.f8]
  simp -dsimp -implicitDefEqProofs
  refine ⟨fun h => GC.eq ?_, fun h => ?_⟩
  · have : xs ≠ ys := by rintro rfl; simp at h
    simp [this]
  have hxy : xs.length = ys.length := by simp at h; omega
  refine loopN xs.length (fun k σ m' => m' = m ∧ (σ 0 = some (.slice a xs.length xs.length) ∧ σ 1 = some (.slice b ys.length ys.length) ∧ σ 5 = some (.int .i64 k)) ∧ xs.take k = ys.take k) ⟨rfl, by simp, by simp⟩ ?_
  rintro k σ m' hk ⟨rfl, ⟨s0, s1, s5⟩, ht⟩
  by_cases hlt : k < xs.length
  · have hlt' : k < ys.length := by omega
    obtain ⟨id, off, o, rfl, hm, hkd, hsz, hl, hrow, _⟩ := RH.at_ hr hlt
    obtain ⟨id', off', o', rfl, hm', hkd', hsz', hl', hrow', _⟩ := RH.at_ hs hlt'
    have hw : IntKind.i64.wrap ((k : Int) + 1) = k + 1 := wrapI (by omega) (by omega)
    simp -dsimp -implicitDefEqProofs [s0, s1, s5, hlt, hlt', withO_of hm, hkd, hsz, hl, hrow, withO_of hm', hkd', hsz', hl', hrow', vh, litsEq, litEq, bytes_beq, hw]
    refine ⟨fun g => GC.eq ?_, fun g => ?_⟩
    · have hne : xs[k] ≠ ys[k] := by intro e; rw [e] at g; simp at g
      have : xs ≠ ys := by rintro rfl; exact hne rfl
      simp [this]
    · have he : xs[k] = ys[k] := by simp at g; exact Prod.ext g.1 (Prod.ext g.2.1 g.2.2)
      exact next_ hlt ⟨rfl, by simp [s0, s1, hw], take_succ_eq hlt hlt' ht he⟩
  · simp -dsimp -implicitDefEqProofs [s0, s1, s5, hlt]
    refine GC.eq ?_
    rw [List.take_of_length_le (by omega), List.take_of_length_le (by omega)] at ht
    simp [ht]
theorem equal_c (xs ys : List H3) (a b : Option Addr) (m : Mem) (hr : RdG vh 3 m a xs) (hs : RdG vh 3 m b ys) (hn : xs.length ≤ 1048576) :
    ACalls Try.prog 20 [.slice a xs.length xs.length, .slice b ys.length ys.length] m (.bool (decide (xs = ys))) m := by
  refine acalls_of_vc Try.func20 rfl Try.fol (by kernel_rfl) ?_
  simp only [Try.f20]
  simp -dsimp -implicitDefEqProofs
  refine ⟨fun h => GC.eq ?_, fun h => ?_⟩
  · have : xs ≠ ys := by rintro rfl; simp at h
    simp [this]
  have hxy : xs.length = ys.length := by simp at h; omega
  refine loopN xs.length (fun k σ m' => m' = m ∧ (σ 0 = some (.slice a xs.length xs.length) ∧ σ 1 = some (.slice b ys.length ys.length) ∧ σ 12 = some (.int .i64 xs.length) ∧ σ 13 = some (.int .i64 k)) ∧ xs.take k = ys.take k) ⟨rfl, by simp, by simp⟩ ?_
  rintro k σ m' hk ⟨rfl, ⟨s0, s1, s12, s13⟩, ht⟩
  by_cases hlt : k < xs.length
  · have hlt' : k < ys.length := by omega
    obtain ⟨id, off, o, rfl, hm, hkd, hsz, hl, hrow, _⟩ := RH.at_ hr hlt
    obtain ⟨id', off', o', rfl, hm', hkd', hsz', hl', hrow', _⟩ := RH.at_ hs hlt'
    have hw : IntKind.i64.wrap ((k : Int) + 1) = k + 1 := wrapI (by omega) (by omega)
    simp -dsimp -implicitDefEqProofs [s0, s1, s12, s13, hlt, hlt', withO_of hm, hkd, hsz, hl, hrow, withO_of hm', hkd', hsz', hl', hrow', vh, litsEq, litEq, bytes_beq, hw]
    refine ⟨fun g => GC.eq ?_, fun g => ?_⟩
    · have hne : xs[k] ≠ ys[k] := by intro e; rw [e] at g; simp at g
      have : xs ≠ ys := by rintro rfl; exact hne rfl
      simp [this]
    · have he : xs[k] = ys[k] := by simp at g; exact Prod.ext g.1 (Prod.ext g.2.1 g.2.2)
      exact next_ hlt ⟨rfl, by simp [s0, s1, s12, hw], take_succ_eq hlt hlt' ht he⟩
  · simp -dsimp -implicitDefEqProofs [s0, s1, s12, s13, hlt]
    refine GC.eq ?_
    rw [List.take_of_length_le (by omega), List.take_of_length_le (by omega)] at ht
    simp [ht]
theorem implSame_c (xs ys : List H3) (a b : Option Addr) (m : Mem) (hr : RdG vh 3 m a xs) (hs : RdG vh 3 m b ys) (hn : xs.length ≤ 1048576) :
    ACalls Try.prog 10 [.slice a xs.length xs.length, .slice b ys.length ys.length] m (.bool (decide (xs = ys))) m := by
  refine acalls_of_vc Try.func10 rfl Try.fol (by kernel_rfl) ?_
  simp only [Try.f10]
  simp -dsimp -implicitDefEqProofs
  refine callsTo Try.cal20 (equal_c xs ys a b _ hr hs hn) ?_
  simp -dsimp -implicitDefEqProofs
  exact GC.refl _ _ _

/-! ### Of a sort -/
def sortC (xs : List H3) (s : ByteArray) : Int := if heapsB xs then (if nameB s then 0 else 2) else 1
theorem l23Sort_c (xs : List H3) (s : ByteArray) (a : Option Addr) (m : Mem) (hr : RdG vh 3 m a xs) (hn : xs.length ≤ 1048576) (hs : ∀ x ∈ xs, x.1.size ≤ maxLen) (hs' : s.size ≤ maxLen) : ACalls Try.prog 25 [.slice a xs.length xs.length, .string s] m (.int .i64 (sortC xs s)) m := by
  refine acalls_of_vc Try.func25 rfl Try.fol (by kernel_rfl) ?_
  simp only [Try.f25]
  simp -dsimp -implicitDefEqProofs
  refine callsTo Try.cal22 (l23Ok_c xs a _ hr hn hs) ?_
  simp -dsimp -implicitDefEqProofs
  refine ⟨fun g => GC.eq (by simp at g; simp [sortC, g]), fun g => ?_⟩
  refine callsTo Try.cal34 (specName_c s _ hs') ?_
  simp -dsimp -implicitDefEqProofs
  refine ⟨fun g' => GC.eq (by simp at g g'; simp [sortC, g, g']), fun g' => GC.eq (by simp at g g'; simp [sortC, g, g'])⟩
/-- The first heap of that sort. -/
def yearO (xs : List H3) (s : ByteArray) : Option H3 := xs.find? fun p => decide (p.1 = s)
def yearA (xs : List H3) (s : ByteArray) : Int := if sortC xs s = 0 then (match yearO xs s with | some p => p.2.1 | none => 0) else 0
def yearC (xs : List H3) (s : ByteArray) : Int := if sortC xs s = 0 then (match yearO xs s with | some _ => 0 | none => 3) else sortC xs s
def yearV (xs : List H3) (s : ByteArray) : Value := .tuple #[.int .i64 (yearA xs s), .int .i64 (yearC xs s)]
theorem find_take_none {xs : List H3} {s : ByteArray} {k : Nat} (h : k < xs.length) (h1 : (xs.take k).find? (fun p => decide (p.1 = s)) = none) (h2 : ¬ xs[k].1 = s) : (xs.take (k + 1)).find? (fun p => decide (p.1 = s)) = none := by
  rw [List.take_add_one, List.getElem?_eq_getElem h, List.find?_append, h1]; simp [h2]
theorem find_some {xs : List H3} {s : ByteArray} {k : Nat} (h : k < xs.length) (h1 : (xs.take k).find? (fun p => decide (p.1 = s)) = none) (h2 : xs[k].1 = s) : yearO xs s = some xs[k] := by
  have : xs = xs.take k ++ xs[k] :: xs.drop (k + 1) := by rw [← List.drop_eq_getElem_cons h, List.take_append_drop]
  unfold yearO
  conv => lhs; rw [this]
  rw [List.find?_append, h1, Option.none_or, List.find?_cons_of_pos (by simp [h2])]
theorem specYear_c (xs : List H3) (s : ByteArray) (a : Option Addr) (m : Mem) (hr : RdG vh 3 m a xs) (hn : xs.length ≤ 1048576) (hs : ∀ x ∈ xs, x.1.size ≤ maxLen) (hs' : s.size ≤ maxLen) : ACalls Try.prog 14 [.slice a xs.length xs.length, .string s] m (yearV xs s) m := by
  refine acalls_of_vc Try.func14 rfl Try.fol (by kernel_rfl) ?_
  simp only [Try.f14]
  simp -dsimp -implicitDefEqProofs
  refine callsTo Try.cal25 (l23Sort_c xs s a _ hr hn hs hs') ?_
  simp -dsimp -implicitDefEqProofs
  refine ⟨fun g => GC.eq (by simp at g; simp [yearV, yearA, yearC, g]), fun g => ?_⟩
  simp at g
  refine loopN xs.length (fun k σ m' => m' = m ∧ (σ 0 = some (.slice a xs.length xs.length) ∧ σ 1 = some (.string s) ∧ σ 7 = some (.int .i64 k)) ∧ (xs.take k).find? (fun p => decide (p.1 = s)) = none) ⟨rfl, by simp, by simp⟩ ?_
  rintro k σ m' hk ⟨rfl, ⟨s0, s1, s7⟩, hno⟩
  by_cases hlt : k < xs.length
  · obtain ⟨id, off, o, rfl, hm, hkd, hsz, hl, hrow, hc0, hc1, hc2⟩ := RH.at_ hr hlt
    have hw : IntKind.i64.wrap ((k : Int) + 1) = k + 1 := wrapI (by omega) (by omega)
    by_cases h2 : xs[k].1 = s
    · simp -dsimp -implicitDefEqProofs [s0, s1, s7, hlt, withO_of hm, hkd, hsz, withC_of hc0, withC_of hc1, bytes_beq, h2]
      exact GC.eq (by simp [yearV, yearA, yearC, g, find_some hlt hno h2])
    · simp -dsimp -implicitDefEqProofs [s0, s1, s7, hlt, withO_of hm, hkd, hsz, withC_of hc0, withC_of hc1, bytes_beq, h2, hw]
      exact next_ hlt ⟨rfl, by simp [s0, s1, hw], find_take_none hlt hno h2⟩
  · simp -dsimp -implicitDefEqProofs [s0, s1, s7, hlt]
    rw [List.take_of_length_le (by omega)] at hno
    exact GC.eq (by simp [yearV, yearA, yearC, g, yearO, hno])
theorem implYear_c (xs : List H3) (s : ByteArray) (a : Option Addr) (m : Mem) (hr : RdG vh 3 m a xs) (hn : xs.length ≤ 1048576) (hs : ∀ x ∈ xs, x.1.size ≤ maxLen) (hs' : s.size ≤ maxLen) : ACalls Try.prog 15 [.slice a xs.length xs.length, .string s] m (yearV xs s) m := by
  refine acalls_of_vc Try.func15 rfl Try.fol (by kernel_rfl) ?_
  simp only [Try.f15]
  simp -dsimp -implicitDefEqProofs
  refine callsTo Try.cal13 (validHeaps_c xs a _ hr hn hs) ?_
  simp -dsimp -implicitDefEqProofs
  refine ⟨fun g => GC.eq (by simp at g; simp [yearV, yearA, yearC, sortC, g]), fun g => ?_⟩
  refine callsTo Try.cal26 (implName_c s _ hs') ?_
  simp -dsimp -implicitDefEqProofs
  refine ⟨fun g' => GC.eq (by simp at g g'; simp [yearV, yearA, yearC, sortC, g, g']), fun g' => ?_⟩
  have g : sortC xs s = 0 := by simp at g g'; simp [sortC, g, g']
  refine loopN xs.length (fun k σ m' => m <+: m' ∧ (σ 1 = some (.string s) ∧ σ 14 = some (.slice a xs.length xs.length) ∧ σ 15 = some (.int .i64 xs.length) ∧ σ 16 = some (.int .i64 k)) ∧ (xs.take k).find? (fun p => decide (p.1 = s)) = none) ⟨pre_refl m, by simp, by simp⟩ ?_
  rintro k σ m' hk ⟨hp, ⟨s1, s14, s15, s16⟩, hno⟩
  by_cases hlt : k < xs.length
  · obtain ⟨id, off, o, rfl, hm, hkd, hsz, hl, hrow, _⟩ := RH.at_ hr hlt
    have hw : IntKind.i64.wrap ((k : Int) + 1) = k + 1 := wrapI (by omega) (by omega)
    have hm' := prefix_get hp hm
    by_cases h2 : xs[k].1 = s
    · simp -dsimp -implicitDefEqProofs [s1, s14, s15, s16, hlt, withO_of hm', fun l => withO_of (get_old (l := l) hm'), hkd, hsz, hl, hrow, vh, bytes_beq, h2]
      exact GC.dropP (pre_app hp _) (by simp [yearV, yearA, yearC, g, find_some hlt hno h2]) (by simp [yearV, yearA, yearC, g, find_some hlt hno h2, litV, litB])
    · simp -dsimp -implicitDefEqProofs [s1, s14, s15, s16, hlt, withO_of hm', fun l => withO_of (get_old (l := l) hm'), hkd, hsz, hl, hrow, vh, bytes_beq, h2, hw]
      exact next_ hlt ⟨pre_app hp _, by simp [s1, s14, s15, hw], find_take_none hlt hno h2⟩
  · simp -dsimp -implicitDefEqProofs [s1, s14, s15, s16, hlt]
    rw [List.take_of_length_le (by omega)] at hno
    exact GC.dropP hp (by simp [yearV, yearA, yearC, g, yearO, hno]) (by simp [yearV, yearA, yearC, g, yearO, hno, litV, litB])
def bundW (xs : List H3) (s : ByteArray) : Int := xs.foldl (fun t p => if p.1 = s then w64 (t + p.2.2) else t) 0
def bundV (xs : List H3) (s : ByteArray) : Value := .tuple #[.int .i64 (if sortC xs s = 0 then bundW xs s else 0), .int .i64 (sortC xs s)]
theorem fold_take {α β : Type} (f : β → α → β) (a : β) {xs : List α} {k : Nat} (h : k < xs.length) : (xs.take (k + 1)).foldl f a = f ((xs.take k).foldl f a) xs[k] := by
  rw [List.take_add_one, List.getElem?_eq_getElem h, List.foldl_append]; rfl
theorem l23Sum_c (xs : List H3) (s : ByteArray) (a : Option Addr) (m : Mem) (hr : RdG vh 3 m a xs) (hn : xs.length ≤ 1048576) : ACalls Try.prog 27 [.slice a xs.length xs.length, .string s] m (.int .i64 (bundW xs s)) m := by
  refine acalls_of_vc Try.func27 rfl Try.fol (by kernel_rfl) ?_
  simp only [Try.f27]
  simp -dsimp -implicitDefEqProofs
  refine loopN xs.length (fun k σ m' => m' = m ∧ σ 0 = some (.slice a xs.length xs.length) ∧ σ 1 = some (.string s) ∧ σ 5 = some (.int .i64 (bundW (xs.take k) s)) ∧ σ 6 = some (.int .i64 k)) ⟨rfl, by simp [bundW]⟩ ?_
  rintro k σ m' hk ⟨rfl, s0, s1, s5, s6⟩
  by_cases hlt : k < xs.length
  · obtain ⟨id, off, o, rfl, hm, hkd, hsz, hl, hrow, hc0, hc1, hc2⟩ := RH.at_ hr hlt
    have hw : IntKind.i64.wrap ((k : Int) + 1) = k + 1 := wrapI (by omega) (by omega)
    by_cases h2 : xs[k].1 = s
    · simp -dsimp -implicitDefEqProofs [s0, s1, s5, s6, hlt, withO_of hm, hkd, hsz, withC_of hc0, withC_of hc2, bytes_beq, h2, hw]
      exact next_ hlt ⟨rfl, by simp [s0, s1, hw, bundW, fold_take _ _ hlt, h2]⟩
    · simp -dsimp -implicitDefEqProofs [s0, s1, s5, s6, hlt, withO_of hm, hkd, hsz, withC_of hc0, withC_of hc2, bytes_beq, h2, hw]
      exact next_ hlt ⟨rfl, by simp [s0, s1, s5, hw, bundW, fold_take _ _ hlt, h2]⟩
  · simp -dsimp -implicitDefEqProofs [s0, s1, s5, s6, hlt]
    rw [List.take_of_length_le (by omega)]
    exact GC.refl _ _ _
theorem specBund_c (xs : List H3) (s : ByteArray) (a : Option Addr) (m : Mem) (hr : RdG vh 3 m a xs) (hn : xs.length ≤ 1048576) (hs : ∀ x ∈ xs, x.1.size ≤ maxLen) (hs' : s.size ≤ maxLen) : ACalls Try.prog 16 [.slice a xs.length xs.length, .string s] m (bundV xs s) m := by
  refine acalls_of_vc Try.func16 rfl Try.fol (by kernel_rfl) ?_
  simp only [Try.f16]
  simp -dsimp -implicitDefEqProofs
  refine callsTo Try.cal25 (l23Sort_c xs s a _ hr hn hs hs') ?_
  simp -dsimp -implicitDefEqProofs
  refine ⟨fun g => GC.eq (by simp at g; simp [bundV, g]), fun g => ?_⟩
  simp at g
  refine callsTo Try.cal27 (l23Sum_c xs s a _ hr hn) ?_
  simp -dsimp -implicitDefEqProofs
  exact GC.eq (by simp [bundV, g])
theorem bundlesOf_c (xs : List H3) (s : ByteArray) (a : Option Addr) (m : Mem) (hr : RdG vh 3 m a xs) (hn : xs.length ≤ 1048576) : ACalls Try.prog 28 [.slice a xs.length xs.length, .string s] m (.tuple #[.int .i64 (bundW xs s), .bool (xs.any fun p => decide (p.1 = s))]) m := by
  refine acalls_of_vc Try.func28 rfl Try.fol (by kernel_rfl) ?_
  simp only [Try.f28]
  simp -dsimp -implicitDefEqProofs
  refine loopN xs.length (fun k σ m' => m <+: m' ∧ σ 1 = some (.string s) ∧ σ 6 = some (.int .i64 (bundW (xs.take k) s)) ∧ σ 7 = some (.bool ((xs.take k).any fun p => decide (p.1 = s))) ∧ σ 10 = some (.slice a xs.length xs.length) ∧ σ 11 = some (.int .i64 xs.length) ∧ σ 12 = some (.int .i64 k)) ⟨pre_refl m, by simp [bundW]⟩ ?_
  rintro k σ m' hk ⟨hp, s1, s6, s7, s10, s11, s12⟩
  by_cases hlt : k < xs.length
  · obtain ⟨id, off, o, rfl, hm, hkd, hsz, hl, hrow, _⟩ := RH.at_ hr hlt
    have hw : IntKind.i64.wrap ((k : Int) + 1) = k + 1 := wrapI (by omega) (by omega)
    have hm' := prefix_get hp hm
    have hany : ((xs.take (k + 1)).any fun p => decide (p.1 = s)) = (((xs.take k).any fun p => decide (p.1 = s)) || decide (xs[k].1 = s)) := by
      rw [List.take_add_one, List.getElem?_eq_getElem hlt, List.any_append]; simp
    by_cases h2 : xs[k].1 = s
    · simp -dsimp -implicitDefEqProofs [s1, s6, s7, s10, s11, s12, hlt, withO_of hm', fun l => withO_of (get_old (l := l) hm'), hkd, hsz, hl, hrow, vh, bytes_beq, h2, hw]
      exact next_ hlt ⟨pre_app hp _, by rw [hany]; simp [s1, s10, s11, hw, bundW, fold_take _ _ hlt, h2]⟩
    · simp -dsimp -implicitDefEqProofs [s1, s6, s7, s10, s11, s12, hlt, withO_of hm', fun l => withO_of (get_old (l := l) hm'), hkd, hsz, hl, hrow, vh, bytes_beq, h2, hw]
      exact next_ hlt ⟨pre_app hp _, by rw [hany]; simp [s1, s6, s7, s10, s11, hw, bundW, fold_take _ _ hlt, h2]⟩
  · simp -dsimp -implicitDefEqProofs [s1, s6, s7, s10, s11, s12, hlt]
    rw [List.take_of_length_le (by omega)]
    exact GC.dropP hp rfl rfl
theorem implBund_c (xs : List H3) (s : ByteArray) (a : Option Addr) (m : Mem) (hr : RdG vh 3 m a xs) (hn : xs.length ≤ 1048576) (hs : ∀ x ∈ xs, x.1.size ≤ maxLen) (hs' : s.size ≤ maxLen) : ACalls Try.prog 17 [.slice a xs.length xs.length, .string s] m (bundV xs s) m := by
  refine acalls_of_vc Try.func17 rfl Try.fol (by kernel_rfl) ?_
  simp only [Try.f17]
  simp -dsimp -implicitDefEqProofs
  refine callsTo Try.cal13 (validHeaps_c xs a _ hr hn hs) ?_
  simp -dsimp -implicitDefEqProofs
  refine ⟨fun g => GC.eq (by simp at g; simp [bundV, sortC, g]), fun g => ?_⟩
  refine callsTo Try.cal26 (implName_c s _ hs') ?_
  simp -dsimp -implicitDefEqProofs
  refine ⟨fun g' => GC.eq (by simp at g g'; simp [bundV, sortC, g, g']), fun g' => ?_⟩
  have g : sortC xs s = 0 := by simp at g g'; simp [sortC, g, g']
  refine callsTo Try.cal28 (bundlesOf_c xs s a _ hr hn) ?_
  simp -dsimp -implicitDefEqProofs
  exact GC.eq (by simp [bundV, g])
end Go.Proofs.Ytlcefchlmdffeaa
