/-
  Markets: which are valid. Conditions: none.
-/
import Derived.Test.YtciekhcdkfhcoaaMkA
set_option linter.unusedSimpArgs false
set_option linter.unusedVariables false
set_option linter.unusedSectionVars false
namespace Go.Proofs.Ytciekhcdkfhcoaa
open Go.Abs Go.RowKit

def countsB (xs : List Int) (k hi : Int) : Bool := xs.all (inB · 0 hi) && decide ((xs.length : Int) = k)
def mkB (k : Int) (x : Mk) : Bool := inB x.1 0 1000 && inB x.2.1 0 100000 && countsB x.2.2.1 k 1000 && countsB x.2.2.2 k 100000
def mkAt (k : Int) (xs : List Mk) (i : Nat) : Bool :=
  match xs[i]? with
  | some p => mkB k p && (match i with | 0 => true | i + 1 => match xs[i]? with | some q => decide (q.1 < p.1) | none => true)
  | none => true
def mksB (k : Int) (xs : List Mk) : Bool := (List.range xs.length).all (mkAt k xs) && (inB k 1 6 && decide (xs.length ≤ 10))
theorem mksB_false {n : Int} {xs : List Mk} {k : Nat} (hk : k < xs.length) (h : mkAt n xs k = false) : mksB n xs = false := by simp [mksB, allTo_false hk h]
theorem mkAt_zero {n : Int} {xs : List Mk} (h : 0 < xs.length) : mkAt n xs 0 = mkB n xs[0] := by simp [mkAt, List.getElem?_eq_getElem h]
theorem mkAt_succ {n : Int} {xs : List Mk} {k : Nat} (h : k + 1 < xs.length) : mkAt n xs (k + 1) = (mkB n xs[k + 1] && decide (xs[k].1 < xs[k + 1].1)) := by
  simp [mkAt, List.getElem?_eq_getElem h, List.getElem?_eq_getElem (show k < xs.length by omega)]
theorem l21Counts_c (xs : List Int) (a : Option Addr) (k hi : Int) (m : Mem) (hr : RdI m a xs) (hn : xs.length ≤ 1048576) : ACalls Try.prog 87 [.slice a xs.length xs.length, .int .i64 k, .int .i64 hi] m (.bool (countsB xs k hi)) m := by
  refine acalls_of_vc Try.func87 rfl Try.fol (by kernel_rfl) ?_
  simp only [Try.f87]
  simp -dsimp -implicitDefEqProofs
  refine loopN xs.length (fun i σ m' => m' = m ∧ (σ 0 = some (.slice a xs.length xs.length) ∧ σ 1 = some (.int .i64 k) ∧ σ 2 = some (.int .i64 hi) ∧ σ 7 = some (.int .i64 i)) ∧ (xs.take i).all (inB · 0 hi) = true) ⟨rfl, by simp, by simp⟩ ?_
  rintro i σ m' hi' ⟨rfl, ⟨s0, s1, s2, s7⟩, hok⟩
  by_cases hlt : i < xs.length
  · obtain ⟨id, off, o, rfl, hm, hkd, hsz, hc⟩ := hr.at_ hlt
    have hw : IntKind.i64.wrap ((i : Int) + 1) = i + 1 := wrapI (by omega) (by omega)
    simp -dsimp -implicitDefEqProofs [s0, s1, s2, s7, hlt, withO_of hm, hkd, hsz, withC_of hc, hw]
    refine callsTo Try.cal80 (l00In_c _ _ _ _) ?_
    simp -dsimp -implicitDefEqProofs [s0, s1, s2, s7, hlt, withO_of hm, hkd, hsz, withC_of hc, hw]
    refine ⟨fun g => GC.eq ?_, fun g => next_ hlt ⟨rfl, by simp [s0, s1, s2, hw], ?_⟩⟩
    · have : xs.all (inB · 0 hi) = false := List.all_eq_false.2 ⟨xs[i], List.getElem_mem _, by simpa using g⟩
      simp [countsB, this]
    · rw [List.take_add_one, List.getElem?_eq_getElem hlt, List.all_append, hok]; simpa using g
  · simp -dsimp -implicitDefEqProofs [s0, s1, s2, s7, hlt]
    rw [List.take_of_length_le (by omega)] at hok
    exact GC.eq (by simp only [countsB, hok]; simp; rfl)
def IsMk (m : Mem) (id off : Nat) (x : Mk) : Prop := ∃ o a b, m[id]? = some o ∧ o.kind ≤ 2 ∧ o.cells[off]? = some (.int .i64 x.1) ∧ o.cells[off + 1]? = some (.int .i64 x.2.1) ∧
  o.cells[off + 2]? = some (.slice a x.2.2.1.length x.2.2.1.length) ∧ o.cells[off + 3]? = some (.slice b x.2.2.2.length x.2.2.2.length) ∧ RdI m a x.2.2.1 ∧ RdI m b x.2.2.2
theorem RdM.row {m : Mem} {id off : Nat} {xs : List Mk} (h : RdM m (some ⟨id, off, none⟩) xs) {i : Nat} (hi : i < xs.length) : IsMk m id ((off + i) * 4) xs[i] := by
  obtain ⟨id', off', o', ad, bd, ha, hm, hk, _, _, _, h0, h1, h2, h3, q1, q2⟩ := h i hi
  simp at ha
  obtain ⟨rfl, rfl⟩ := ha
  exact ⟨o', ad, bd, hm, hk, h0, h1, h2, h3, q1, q2⟩
theorem l21One_c (x : Mk) (k : Int) (m : Mem) (id off : Nat) (hp : IsMk m id off x) (hn1 : x.2.2.1.length ≤ 1048576) (hn2 : x.2.2.2.length ≤ 1048576) : ACalls Try.prog 75 [.int .i64 k, .pointer (some ⟨id, off, none⟩)] m (.bool (mkB k x)) m := by
  obtain ⟨o, a, b, hm, hk, h0, h1, h2, h3, q1, q2⟩ := hp
  refine acalls_of_vc Try.func75 rfl Try.fol (by kernel_rfl) ?_
  simp only [Try.f75]
  simp -dsimp -implicitDefEqProofs [withO_of hm, hk, withC_of h0, withC_of h1, withC_of h2, withC_of h3]
  refine callsTo Try.cal80 (l00In_c _ _ _ _) ?_
  simp -dsimp -implicitDefEqProofs [withO_of hm, hk, withC_of h0, withC_of h1, withC_of h2, withC_of h3]
  refine ⟨fun g1 => ?_, fun g1 => GC.eq (by simp [mkB, g1])⟩
  refine callsTo Try.cal80 (l00In_c _ _ _ _) ?_
  simp -dsimp -implicitDefEqProofs [withO_of hm, hk, withC_of h0, withC_of h1, withC_of h2, withC_of h3]
  refine ⟨fun g2 => ?_, fun g2 => GC.eq (by simp [mkB, g1, g2])⟩
  refine callsTo Try.cal87 (l21Counts_c x.2.2.1 a _ _ _ q1 hn1) ?_
  simp -dsimp -implicitDefEqProofs [withO_of hm, hk, withC_of h0, withC_of h1, withC_of h2, withC_of h3]
  refine ⟨fun g3 => ?_, fun g3 => GC.eq (by simp [mkB, g1, g2, g3])⟩
  refine callsTo Try.cal87 (l21Counts_c x.2.2.2 b _ _ _ q2 hn2) ?_
  simp -dsimp -implicitDefEqProofs [withO_of hm, hk, withC_of h0, withC_of h1, withC_of h2, withC_of h3]
  exact GC.eq (by simp [mkB, g1, g2, g3])
theorem l21Kinds_c (k : Int) (m : Mem) : ACalls Try.prog 76 [.int .i64 k] m (.bool (inB k 1 6)) m := by
  refine acalls_of_vc Try.func76 rfl Try.fol (by kernel_rfl) ?_
  simp only [Try.f76]
  simp -dsimp -implicitDefEqProofs
  refine callsTo Try.cal80 (l00In_c _ _ _ _) ?_
  simp -dsimp -implicitDefEqProofs
  exact GC.refl _ _ _
theorem l21Ok_c (n : Int) (xs : List Mk) (a : Option Addr) (m : Mem) (hr : RdM m a xs) (hn : xs.length ≤ 1048576) (hn' : ∀ x ∈ xs, x.2.2.1.length ≤ 1048576 ∧ x.2.2.2.length ≤ 1048576) : ACalls Try.prog 49 [.int .i64 n, .slice a xs.length xs.length] m (.bool (mksB n xs)) m := by
  refine acalls_of_vc Try.func49 rfl Try.fol (by kernel_rfl) ?_
  simp only [Try.f49]
  simp -dsimp -implicitDefEqProofs
  refine loopN xs.length (fun k σ m' => m' = m ∧ (σ 0 = some (.int .i64 n) ∧ σ 1 = some (.slice a xs.length xs.length) ∧ σ 5 = some (.int .i64 k)) ∧ (List.range k).all (mkAt n xs) = true) ⟨rfl, by simp, by simp⟩ ?_
  rintro k σ m' hk ⟨rfl, ⟨s0, s1, s5⟩, hok⟩
  by_cases hlt : k < xs.length
  · obtain ⟨id, off, o, ad, bd, rfl, hm, hkd, hsz, hl, hrow, c0, _⟩ := hr k hlt
    have hw : IntKind.i64.wrap ((k : Int) + 1) = k + 1 := wrapI (by omega) (by omega)
    have hle := hn' _ (List.getElem_mem hlt)
    cases k with
    | zero =>
      simp -dsimp -implicitDefEqProofs [s0, s1, s5, hlt, withO_of hm, hkd, hsz, hw]
      refine callsTo Try.cal75 (l21One_c xs[0] _ _ _ _ (RdM.row hr hlt) hle.1 hle.2) ?_
      simp -dsimp -implicitDefEqProofs [s0, s1, s5, hlt, withO_of hm, hkd, hsz, hw]
      refine ⟨fun g => GC.eq (by rw [mksB_false hlt (by rw [mkAt_zero hlt]; simpa using g)]), fun g => next_ hlt ⟨rfl, by simp [s0, s1]; simpa using hw, allTo_succ hok (by rw [mkAt_zero hlt]; simpa using g)⟩⟩
    | succ k =>
      have hk' : k < xs.length := by omega
      obtain ⟨id2, off2, o2, ad2, bd2, ha2, hm2, hkd2, hsz2, hl2, hrow2, d0, _⟩ := hr k hk'
      simp at ha2
      obtain ⟨rfl, rfl⟩ := ha2
      rw [hm] at hm2
      injection hm2 with hm2
      subst hm2
      have hw2 : IntKind.i64.wrap (k : Int) = k := wrapI (by omega) (by omega)
      have hw3 : IntKind.i64.wrap ((k : Int) + 1 + 1) = k + 1 + 1 := wrapI (by omega) (by omega)
      have d1 : (k : Int) + 1 < (xs.length : Int) := by omega
      have d2 : (0 : Int) ≤ (k : Int) + 1 := by omega
      have d3 : ((k : Int) + 1).toNat = k + 1 := by omega
      have d4 : (0 : Int) < (k : Int) + 1 := by omega
      simp -dsimp -implicitDefEqProofs [s0, s1, s5, hlt, hk', withO_of hm, hkd, hsz, withC_of c0, withC_of d0, hw2, hw3, d1, d2, d3, d4]
      refine callsTo Try.cal75 (l21One_c xs[k + 1] _ _ _ _ (RdM.row hr hlt) hle.1 hle.2) ?_
      simp -dsimp -implicitDefEqProofs [s0, s1, s5, hlt, hk', withO_of hm, hkd, hsz, withC_of c0, withC_of d0, hw2, hw3, d1, d2, d3, d4]
      cases g1 : mkB n xs[k + 1] with
      | false =>
        simp -dsimp -implicitDefEqProofs [s0, s1, s5, hlt, hk', withO_of hm, hkd, hsz, withC_of c0, withC_of d0, hw2, hw3, d1, d2, d3, d4]
        exact GC.eq (by rw [mksB_false hlt (by rw [mkAt_succ hlt, g1]; rfl)])
      | true =>
        simp -dsimp -implicitDefEqProofs [s0, s1, s5, hlt, hk', withO_of hm, hkd, hsz, withC_of c0, withC_of d0, hw2, hw3, d1, d2, d3, d4]
        refine ⟨fun g => GC.eq (by rw [mksB_false hlt (by rw [mkAt_succ hlt, g1]; simpa using g)]), fun g => next_ hlt ⟨rfl, by simp [s0, s1, hw3], allTo_succ hok (by rw [mkAt_succ hlt, g1]; simpa using g)⟩⟩
  · simp -dsimp -implicitDefEqProofs [s0, s1, s5, hlt]
    obtain rfl : k = xs.length := by omega
    refine callsTo Try.cal76 (l21Kinds_c _ _) ?_
    simp -dsimp -implicitDefEqProofs [s0, s1, s5, hlt]
    refine ⟨fun g => GC.eq ?_, fun g => GC.eq ?_⟩
    · simp only [mksB, hok, g]; simp; omega
    · simp only [mksB, hok]; simp [g]
theorem isMarket_c (x : Mk) (k : Int) (ad bd : Option Addr) (m : Mem) (q1 : RdI m ad x.2.2.1) (q2 : RdI m bd x.2.2.2) (hn1 : x.2.2.1.length ≤ 1048576) (hn2 : x.2.2.2.length ≤ 1048576) :
    ACalls Try.prog 50 [.int .i64 k, .agg (mkRow4 x ad bd).toArray] m (.bool (inB k 1 6 && mkB k x)) m := by
  refine acalls_of_vc Try.func50 rfl Try.fol (by kernel_rfl) ?_
  simp only [Try.f50, mkRow4]
  simp -dsimp -implicitDefEqProofs
  refine callsTo Try.cal51 (within_c _ _ _ _) ?_
  simp -dsimp -implicitDefEqProofs
  refine ⟨fun g0 => ?_, fun g0 => GC.dropEq (by simp [g0]) rfl⟩
  refine callsTo Try.cal51 (within_c _ _ _ _) ?_
  simp -dsimp -implicitDefEqProofs
  refine ⟨fun g1 => ?_, fun g1 => GC.dropEq (by simp [mkB, g1]) rfl⟩
  refine callsTo Try.cal51 (within_c _ _ _ _) ?_
  simp -dsimp -implicitDefEqProofs
  refine ⟨fun g2 => ?_, fun g2 => GC.dropEq (by simp [mkB, g2]) rfl⟩
  refine callsTo Try.cal77 (eachWithin_c x.2.2.1 ad _ _ _ _ (q1.ext _) (Nat.le_trans hn1 (by decide))) ?_
  simp -dsimp -implicitDefEqProofs
  refine ⟨fun g3 => ?_, fun g3 => GC.dropEq (by simp only [mkB, countsB, g3]; simp) rfl⟩
  refine callsTo Try.cal77 (eachWithin_c x.2.2.2 bd _ _ _ _ (q2.ext _) (Nat.le_trans hn2 (by decide))) ?_
  simp -dsimp -implicitDefEqProofs
  exact GC.dropEq (by simp only [mkB, countsB, g0, g1, g2, g3]; simp) rfl
theorem validMarkets_c (n : Int) (xs : List Mk) (a : Option Addr) (m : Mem) (hr : RdM m a xs) (hn : xs.length ≤ 1048576) (hn' : ∀ x ∈ xs, x.2.2.1.length ≤ 1048576 ∧ x.2.2.2.length ≤ 1048576) : ACalls Try.prog 16 [.int .i64 n, .slice a xs.length xs.length] m (.bool (mksB n xs)) m := by
  refine acalls_of_vc Try.func16 rfl Try.fol (by kernel_rfl) ?_
  simp only [Try.f16]
  simp -dsimp -implicitDefEqProofs
  refine loopN xs.length (fun k σ m' => m <+: m' ∧ (σ 0 = some (.int .i64 n) ∧ σ 1 = some (.slice a xs.length xs.length) ∧ σ 7 = some (.slice a xs.length xs.length) ∧ σ 8 = some (.int .i64 xs.length) ∧ σ 9 = some (.int .i64 k)) ∧ (List.range k).all (mkAt n xs) = true ∧ (0 < k → inB n 1 6 = true)) ⟨pre_refl m, by simp, by simp, by simp⟩ ?_
  rintro k σ m' hk ⟨hp, ⟨s0, s1, s7, s8, s9⟩, hok, hin⟩
  by_cases hlt : k < xs.length
  · obtain ⟨id, off, o, ad, bd, rfl, hm, hkd, hsz, hl, hrow, c0, _, _, _, q1, q2⟩ := hr k hlt
    have hw : IntKind.i64.wrap ((k : Int) + 1) = k + 1 := wrapI (by omega) (by omega)
    have hle := hn' _ (List.getElem_mem hlt)
    have hm' := prefix_get hp hm
    cases k with
    | zero =>
      simp only [Nat.add_zero] at hl hrow
      simp -dsimp -implicitDefEqProofs [s0, s1, s7, s8, s9, hlt, withO_of hm', fun l => withO_of (get_old (l := l) hm'), hkd, hsz, hl, hrow, mkRow4, hw]
      refine callsTo Try.cal50 (isMarket_c xs[0] n ad bd _ ((q1.pre' hp).ext _) ((q2.pre' hp).ext _) hle.1 hle.2) ?_
      simp -dsimp -implicitDefEqProofs [s0, s1, s7, s8, s9, hlt, withO_of hm', fun l => withO_of (get_old (l := l) hm'), hkd, hsz, hl, hrow, mkRow4, hw]
      cases g0 : inB n 1 6 with
      | false =>
        simp -dsimp -implicitDefEqProofs [s0, s1, s7, s8, s9, hlt, withO_of hm', fun l => withO_of (get_old (l := l) hm'), hkd, hsz, hl, hrow, mkRow4, hw]
        exact GC.dropP (pre_app hp _) (by simp [mksB, g0]) rfl
      | true =>
        simp -dsimp -implicitDefEqProofs [s0, s1, s7, s8, s9, hlt, withO_of hm', fun l => withO_of (get_old (l := l) hm'), hkd, hsz, hl, hrow, mkRow4, hw]
        refine ⟨fun g => GC.dropP (pre_app hp _) (by rw [mksB_false hlt (by rw [mkAt_zero hlt]; simpa using g)]) rfl, fun g => next_ hlt ⟨pre_app hp _, by simp [s0, s1, s7, s8]; simpa using hw, allTo_succ hok (by rw [mkAt_zero hlt]; simpa using g), fun _ => rfl⟩⟩
    | succ k =>
      have hk' : k < xs.length := by omega
      obtain ⟨id2, off2, o2, ad2, bd2, ha2, hm2, hkd2, hsz2, hl2, hrow2, d0, _⟩ := hr k hk'
      simp at ha2
      obtain ⟨rfl, rfl⟩ := ha2
      rw [hm] at hm2
      injection hm2 with hm2
      subst hm2
      have hw2 : IntKind.i64.wrap (k : Int) = k := wrapI (by omega) (by omega)
      have hw3 : IntKind.i64.wrap ((k : Int) + 1 + 1) = k + 1 + 1 := wrapI (by omega) (by omega)
      have d1 : (k : Int) + 1 < (xs.length : Int) := by omega
      have d2 : (0 : Int) ≤ (k : Int) + 1 := by omega
      have d3 : ((k : Int) + 1).toNat = k + 1 := by omega
      have d4 : (0 : Int) < (k : Int) + 1 := by omega
      have g0 := hin (by omega)
      simp -dsimp -implicitDefEqProofs [s0, s1, s7, s8, s9, hlt, hk', withO_of hm', fun l => withO_of (get_old (l := l) hm'), hkd, hsz, hl, hrow, mkRow4, withC_of c0, withC_of d0, hw2, hw3, d1, d2, d3, d4, g0]
      refine callsTo Try.cal50 (isMarket_c xs[k + 1] n ad bd _ ((q1.pre' hp).ext _) ((q2.pre' hp).ext _) hle.1 hle.2) ?_
      simp -dsimp -implicitDefEqProofs [s0, s1, s7, s8, s9, hlt, hk', withO_of hm', fun l => withO_of (get_old (l := l) hm'), hkd, hsz, hl, hrow, mkRow4, withC_of c0, withC_of d0, hw2, hw3, d1, d2, d3, d4, g0]
      cases g1 : mkB n xs[k + 1] with
      | false =>
        simp -dsimp -implicitDefEqProofs [s0, s1, s7, s8, s9, hlt, hk', withO_of hm', fun l => withO_of (get_old (l := l) hm'), hkd, hsz, hl, hrow, mkRow4, withC_of c0, withC_of d0, hw2, hw3, d1, d2, d3, d4, g0]
        exact GC.dropP (pre_app hp _) (by rw [mksB_false hlt (by rw [mkAt_succ hlt, g1]; rfl)]) rfl
      | true =>
        simp -dsimp -implicitDefEqProofs [s0, s1, s7, s8, s9, hlt, hk', withO_of hm', fun l => withO_of (get_old (l := l) hm'), hkd, hsz, hl, hrow, mkRow4, withC_of c0, withC_of d0, hw2, hw3, d1, d2, d3, d4, g0]
        refine ⟨fun g => GC.dropP (pre_app hp _) (by rw [mksB_false hlt (by rw [mkAt_succ hlt, g1]; simpa using g)]) rfl, fun g => next_ hlt ⟨pre_app hp _, by simp [s0, s1, s7, s8, hw3], allTo_succ hok (by rw [mkAt_succ hlt, g1]; simpa using g), fun _ => g0⟩⟩
  · simp -dsimp -implicitDefEqProofs [s0, s1, s7, s8, s9, hlt]
    obtain rfl : k = xs.length := by omega
    refine callsTo Try.cal51 (within_c _ _ _ _) ?_
    simp -dsimp -implicitDefEqProofs [s0, s1, s7, s8, s9, hlt]
    refine ⟨fun g => GC.dropP hp ?_ rfl, fun g => GC.dropP hp ?_ rfl⟩
    · simp only [mksB, hok, g]; simp; omega
    · simp only [mksB, hok]; simp [g]
theorem specValidMarkets_c (n : Int) (xs : List Mk) (a : Option Addr) (m : Mem) (hr : RdM m a xs) (hn : xs.length ≤ 1048576) (hn' : ∀ x ∈ xs, x.2.2.1.length ≤ 1048576 ∧ x.2.2.2.length ≤ 1048576) : ACalls Try.prog 14 [.int .i64 n, .slice a xs.length xs.length] m (.bool (mksB n xs)) m := by
  refine acalls_of_vc Try.func14 rfl Try.fol (by kernel_rfl) ?_
  simp only [Try.f14]
  simp -dsimp -implicitDefEqProofs
  refine callsTo Try.cal49 (l21Ok_c n xs a _ hr hn hn') ?_
  simp -dsimp -implicitDefEqProofs
  exact GC.refl _ _ _
end Go.Proofs.Ytciekhcdkfhcoaa
