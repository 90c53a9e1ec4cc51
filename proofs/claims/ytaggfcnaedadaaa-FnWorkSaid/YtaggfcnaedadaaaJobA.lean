/-
  Jobs, part 1: which jobs and skills are valid, who makes them, and the hours of all workers. Conditions: none.
-/
import Derived.Test.YtaggfcnaedadaaaRowJob
set_option linter.unusedSimpArgs false
set_option linter.unusedVariables false
set_option linter.unusedSectionVars false
namespace Go.Proofs.Ytaggfcnaedadaaa
open Go.Abs Go.RowKit

abbrev w64 (x : Int) : Int := IntKind.i64.wrap x
def jobB (p : I2) : Bool := inB p.1 1 100 && inB p.2 0 5
def jobsB (js : List I2) (ss : List Int) : Bool := js.all jobB && ss.all (inB · 0 5) && decide (js.length ≤ 7) && inB ss.length 1 4
theorem l20Skill_c (n : Int) (m : Mem) : ACalls Try.prog 70 [.int .i64 n] m (.bool (inB n 0 5)) m := by
  refine acalls_of_vc Try.func70 rfl Try.fol (by kernel_rfl) ?_
  simp only [Try.f70]
  simp -dsimp -implicitDefEqProofs
  refine callsTo Try.cal49 (l00In_c _ _ _ _) ?_
  simp -dsimp -implicitDefEqProofs
  exact GC.refl _ _ _
theorem jobsB_false {js : List I2} {ss : List Int} {k : Nat} (h : k < js.length) (h' : jobB js[k] = false) : jobsB js ss = false := by simp [jobsB, all_false_of h h']
theorem l20Ok_c (js : List I2) (ss : List Int) (a b : Option Addr) (m : Mem) (hr : RdG v2 2 m a js) (hs : RdI m b ss) (hn : js.length ≤ 1048576) (hn' : ss.length ≤ 1048576) :
    ACalls Try.prog 44 [.slice a js.length js.length, .slice b ss.length ss.length] m (.bool (jobsB js ss)) m := by
  refine acalls_of_vc Try.func44 rfl Try.fol (by kernel_rfl) ?_
  simp only [Try.f44]
  simp -dsimp -implicitDefEqProofs
  refine loopN js.length (fun k σ m' => m' = m ∧ (σ 0 = some (.slice a js.length js.length) ∧ σ 1 = some (.slice b ss.length ss.length) ∧ σ 5 = some (.int .i64 k)) ∧ (js.take k).all jobB = true) ⟨rfl, by simp, by simp⟩ ?_
  rintro k σ m' hk ⟨rfl, ⟨s0, s1, s5⟩, hok⟩
  by_cases hlt : k < js.length
  · obtain ⟨id, off, o, rfl, hm, hkd, hsz, hl, hrow, hc0, hc1⟩ := R2.at_ hr hlt
    have hw : IntKind.i64.wrap ((k : Int) + 1) = k + 1 := wrapI (by omega) (by omega)
    simp -dsimp -implicitDefEqProofs [s0, s1, s5, hlt, withO_of hm, hkd, hsz, withC_of hc0, withC_of hc1, hw]
    refine callsTo Try.cal49 (l00In_c _ _ _ _) ?_
    simp -dsimp -implicitDefEqProofs [s0, s1, s5, hlt, withO_of hm, hkd, hsz, withC_of hc0, withC_of hc1, hw]
    cases g1 : inB js[k].1 1 100 with
    | false =>
      simp -dsimp -implicitDefEqProofs [s0, s1, s5, hlt, withO_of hm, hkd, hsz, withC_of hc0, withC_of hc1, hw]
      exact GC.eq (by rw [jobsB_false hlt (by simp only [jobB, g1]; rfl)])
    | true =>
      simp -dsimp -implicitDefEqProofs [s0, s1, s5, hlt, withO_of hm, hkd, hsz, withC_of hc0, withC_of hc1, hw]
      refine callsTo Try.cal70 (l20Skill_c _ _) ?_
      simp -dsimp -implicitDefEqProofs [s0, s1, s5, hlt, withO_of hm, hkd, hsz, withC_of hc0, withC_of hc1, hw]
      refine ⟨fun g => GC.eq (by rw [jobsB_false hlt (by simp only [jobB, g1]; simpa using g)]), fun g => next_ hlt ⟨rfl, by simp [s0, s1, hw], all_take_succ hlt hok (by simp only [jobB, g1]; simpa using g)⟩⟩
  · simp -dsimp -implicitDefEqProofs [s0, s1, s5, hlt]
    rw [List.take_of_length_le (by omega)] at hok
    refine loopN ss.length (fun k σ m1 => m1 = m' ∧ (σ 0 = some (.slice a js.length js.length) ∧ σ 1 = some (.slice b ss.length ss.length) ∧ σ 6 = some (.int .i64 k)) ∧ (ss.take k).all (inB · 0 5) = true) ⟨rfl, by simp [s0, s1], by simp⟩ ?_
    rintro i σ1 m1 hi ⟨rfl, ⟨t0, t1, t6⟩, hok1⟩
    by_cases hli : i < ss.length
    · obtain ⟨id, off, o, rfl, hm, hkd, hsz, hc⟩ := hs.at_ hli
      have hw : IntKind.i64.wrap ((i : Int) + 1) = i + 1 := wrapI (by omega) (by omega)
      simp -dsimp -implicitDefEqProofs [t0, t1, t6, hli, withO_of hm, hkd, hsz, withC_of hc, hw]
      refine callsTo Try.cal70 (l20Skill_c _ _) ?_
      simp -dsimp -implicitDefEqProofs [t0, t1, t6, hli, withO_of hm, hkd, hsz, withC_of hc, hw]
      refine ⟨fun g => GC.eq ?_, fun g => next_ hli ⟨rfl, by simp [t0, t1, hw], all_take_succ hli hok1 (by simpa using g)⟩⟩
      have : ss.all (inB · 0 5) = false := all_false_of hli (by simpa using g)
      simp only [jobsB, this]; simp
    · simp -dsimp -implicitDefEqProofs [t0, t1, t6, hli]
      rw [List.take_of_length_le (by omega)] at hok1
      refine ⟨fun g => ?_, fun g => GC.eq ?_⟩
      · refine callsTo Try.cal49 (l00In_c _ _ _ _) ?_
        simp -dsimp -implicitDefEqProofs [t0, t1, t6, hli]
        exact GC.eq (by simp only [jobsB, hok, hok1]; simp at g; simp; omega)
      · simp at g; simp only [jobsB, hok, hok1]; simp [show ¬ js.length ≤ 7 by omega]
theorem validJobs_c (js : List I2) (ss : List Int) (a b : Option Addr) (m : Mem) (hr : RdG v2 2 m a js) (hs : RdI m b ss) (hn : js.length ≤ 1048576) (hn' : ss.length ≤ 1048576) :
    ACalls Try.prog 18 [.slice a js.length js.length, .slice b ss.length ss.length] m (.bool (jobsB js ss)) m := by
  refine acalls_of_vc Try.func18 rfl Try.fol (by kernel_rfl) ?_
  simp only [Try.f18]
  simp -dsimp -implicitDefEqProofs
  refine loopN js.length (fun k σ m' => m <+: m' ∧ (σ 0 = some (.slice a js.length js.length) ∧ σ 1 = some (.slice b ss.length ss.length) ∧ σ 7 = some (.slice a js.length js.length) ∧ σ 8 = some (.int .i64 js.length) ∧ σ 9 = some (.int .i64 k)) ∧ (js.take k).all jobB = true) ⟨pre_refl m, by simp, by simp⟩ ?_
  rintro k σ m' hk ⟨hp, ⟨s0, s1, s7, s8, s9⟩, hok⟩
  by_cases hlt : k < js.length
  · obtain ⟨id, off, o, rfl, hm, hkd, hsz, hl, hrow, hc0, hc1⟩ := R2.at_ hr hlt
    have hw : IntKind.i64.wrap ((k : Int) + 1) = k + 1 := wrapI (by omega) (by omega)
    have hm' := prefix_get hp hm
    simp -dsimp -implicitDefEqProofs [s0, s1, s7, s8, s9, hlt, withO_of hm', fun l => withO_of (get_old (l := l) hm'), hkd, hsz, hl, hrow, v2, hw]
    refine callsTo Try.cal46 (within_c _ _ _ _) ?_
    simp -dsimp -implicitDefEqProofs [s0, s1, s7, s8, s9, hlt, withO_of hm', fun l => withO_of (get_old (l := l) hm'), hkd, hsz, hl, hrow, v2, hw]
    cases g1 : inB js[k].1 1 100 with
    | false =>
      simp -dsimp -implicitDefEqProofs [s0, s1, s7, s8, s9, hlt, withO_of hm', fun l => withO_of (get_old (l := l) hm'), hkd, hsz, hl, hrow, v2, hw]
      exact GC.dropP (pre_app hp _) (by rw [jobsB_false hlt (by simp only [jobB, g1]; rfl)]) rfl
    | true =>
      simp -dsimp -implicitDefEqProofs [s0, s1, s7, s8, s9, hlt, withO_of hm', fun l => withO_of (get_old (l := l) hm'), hkd, hsz, hl, hrow, v2, hw]
      refine callsTo Try.cal46 (within_c _ _ _ _) ?_
      simp -dsimp -implicitDefEqProofs [s0, s1, s7, s8, s9, hlt, withO_of hm', fun l => withO_of (get_old (l := l) hm'), hkd, hsz, hl, hrow, v2, hw]
      refine ⟨fun g => GC.dropP (pre_app hp _) (by rw [jobsB_false hlt (by simp only [jobB, g1]; simpa using g)]) rfl, fun g => next_ hlt ⟨pre_app hp _, by simp [s0, s1, s7, s8, hw], all_take_succ hlt hok (by simp only [jobB, g1]; simpa using g)⟩⟩
  · simp -dsimp -implicitDefEqProofs [s0, s1, s7, s8, s9, hlt]
    rw [List.take_of_length_le (by omega)] at hok
    by_cases c1 : js.length ≤ 7
    · by_cases c2 : 1 ≤ ss.length
      · by_cases c3 : ss.length ≤ 4
        · have d1 : (js.length : Int) ≤ 7 := by omega
          have d2 : (1 : Int) ≤ ss.length := by omega
          have d3 : (ss.length : Int) ≤ 4 := by omega
          simp -dsimp -implicitDefEqProofs [s0, s1, s7, s8, s9, d1, d2, d3]
          refine callsTo Try.cal47 (eachWithin_c ss b _ _ _ _ (hs.pre hp) (Nat.le_trans hn' (by decide))) ?_
          simp -dsimp -implicitDefEqProofs [s0, s1, s7, s8, s9, d1, d2, d3]
          refine GC.dropP hp ?_ rfl
          cases hss : ss.all (inB · 0 5) <;> simp only [jobsB, hok, hss] <;> simp [inB, d2, d3, c1]
        · have d1 : (js.length : Int) ≤ 7 := by omega
          have d2 : (1 : Int) ≤ ss.length := by omega
          have d3 : ¬ (ss.length : Int) ≤ 4 := by omega
          simp -dsimp -implicitDefEqProofs [s0, s1, s7, s8, s9, d1, d2, d3]
          exact GC.dropP hp (by simp [jobsB, inB, d3]) rfl
      · have d1 : (js.length : Int) ≤ 7 := by omega
        have d2 : ¬ (1 : Int) ≤ ss.length := by omega
        simp -dsimp -implicitDefEqProofs [s0, s1, s7, s8, s9, d1, d2]
        exact GC.dropP hp (by simp [jobsB, inB, d2]) rfl
    · have d1 : ¬ (js.length : Int) ≤ 7 := by omega
      simp -dsimp -implicitDefEqProofs [s0, s1, s7, s8, s9, d1]
      exact GC.dropP hp (by simp [jobsB, c1]) rfl
theorem specValidJobs_c (js : List I2) (ss : List Int) (a b : Option Addr) (m : Mem) (hr : RdG v2 2 m a js) (hs : RdI m b ss) (hn : js.length ≤ 1048576) (hn' : ss.length ≤ 1048576) :
    ACalls Try.prog 15 [.slice a js.length js.length, .slice b ss.length ss.length] m (.bool (jobsB js ss)) m := by
  refine acalls_of_vc Try.func15 rfl Try.fol (by kernel_rfl) ?_
  simp only [Try.f15]
  simp -dsimp -implicitDefEqProofs
  refine callsTo Try.cal44 (l20Ok_c js ss a b _ hr hs hn hn') ?_
  simp -dsimp -implicitDefEqProofs
  exact GC.refl _ _ _
theorem jobsB_parts {js : List I2} {ss : List Int} (h : jobsB js ss = true) : js.all jobB = true ∧ ss.all (inB · 0 5) = true ∧ js.length ≤ 7 ∧ 1 ≤ ss.length ∧ ss.length ≤ 4 := by
  simp only [jobsB, Bool.and_eq_true, decide_eq_true_eq, inB] at h
  exact ⟨h.1.1.1, h.1.1.2, h.1.2, by omega, by omega⟩

/-! ### Greatest, sums -/
def maxTo (xs : List Int) (b : Int) : Int := xs.foldl max b
theorem fold_take {α β : Type} (f : β → α → β) (a : β) {xs : List α} {k : Nat} (h : k < xs.length) : (xs.take (k + 1)).foldl f a = f ((xs.take k).foldl f a) xs[k] := by
  rw [List.take_add_one, List.getElem?_eq_getElem h, List.foldl_append]; rfl
theorem l20End_c (xs : List Int) (a : Option Addr) (m : Mem) (hr : RdI m a xs) (hn : xs.length ≤ 1048576) : ACalls Try.prog 54 [.slice a xs.length xs.length] m (.int .i64 (maxTo xs 0)) m := by
  refine acalls_of_vc Try.func54 rfl Try.fol (by kernel_rfl) ?_
  simp only [Try.f54]
  simp -dsimp -implicitDefEqProofs
  refine loopN xs.length (fun k σ m' => m' = m ∧ σ 0 = some (.slice a xs.length xs.length) ∧ σ 3 = some (.int .i64 (maxTo (xs.take k) 0)) ∧ σ 4 = some (.int .i64 k)) ⟨rfl, by simp [maxTo]⟩ ?_
  rintro k σ m' hk ⟨rfl, s0, s3, s4⟩
  by_cases hlt : k < xs.length
  · obtain ⟨id, off, o, rfl, hm, hkd, hsz, hc⟩ := hr.at_ hlt
    have hw : IntKind.i64.wrap ((k : Int) + 1) = k + 1 := wrapI (by omega) (by omega)
    simp -dsimp -implicitDefEqProofs [s0, s3, s4, hlt, withO_of hm, hkd, hsz, withC_of hc, hw]
    refine callsTo Try.cal51 (l00Max_c _ _ _) ?_
    simp -dsimp -implicitDefEqProofs [s0, s3, s4, hlt, withO_of hm, hkd, hsz, withC_of hc, hw]
    exact next_ hlt ⟨rfl, by simp [s0, hw, maxTo, fold_take _ _ hlt]⟩
  · simp -dsimp -implicitDefEqProofs [s0, s3, s4, hlt]
    rw [List.take_of_length_le (by omega)]
    exact GC.refl _ _ _
theorem max_c (x : Int) (xs : List Int) (a : Option Addr) (m : Mem) (hr : RdI m a (x :: xs)) (hn : xs.length + 1 ≤ 1048576) : ACalls Try.prog 57 [.slice a (xs.length + 1) (xs.length + 1)] m (.int .i64 (maxTo xs x)) m := by
  obtain ⟨id, off, o, rfl, hm, hkd, hsz, hc⟩ := hr.at_ (i := 0) (by simp)
  have hc0 : o.cells[off]? = some (.int .i64 x) := by simpa using hc
  have d0 : ¬ ((xs.length : Int) + 1 < 1) := by omega
  have d1 : (0 : Int) < (xs.length : Int) + 1 := by omega
  refine acalls_of_vc Try.func57 rfl Try.fol (by kernel_rfl) ?_
  simp only [Try.f57]
  simp -dsimp -implicitDefEqProofs [withO_of hm, hkd, hsz, withC_of hc0, d0, d1]
  refine loopN xs.length (fun k σ m' => m' = m ∧ σ 0 = some (.slice (some ⟨id, off, none⟩) (xs.length + 1) (xs.length + 1)) ∧ σ 3 = some (.int .i64 (maxTo (xs.take k) x)) ∧ σ 4 = some (.int .i64 ((k : Int) + 1))) ⟨rfl, by simp [maxTo]⟩ ?_
  rintro k σ m' hk ⟨rfl, s0, s3, s4⟩
  by_cases hlt : k < xs.length
  · obtain ⟨id', off', o', ha', hm', hkd', hsz', hc'⟩ := hr.at_ (i := k + 1) (by simp; omega)
    simp at ha'
    obtain ⟨rfl, rfl⟩ := ha'
    rw [hm] at hm'
    injection hm' with hm'
    subst hm'
    simp at hc'
    have hc1 : o.cells[off + (k + 1)]? = some (.int .i64 xs[k]) := hc'
    have hw : IntKind.i64.wrap ((k : Int) + 1 + 1) = k + 1 + 1 := wrapI (by omega) (by omega)
    have d3 : (k : Int) + 1 < (xs.length : Int) + 1 := by omega
    have d4 : (0 : Int) ≤ (k : Int) + 1 := by omega
    have d5 : ((k : Int) + 1).toNat = k + 1 := by omega
    simp -dsimp -implicitDefEqProofs [withO_of hm, hkd, hsz, withC_of hc0, d0, d1, s0, s3, s4, hlt, withC_of hc1, hw, d3, d4, d5]
    exact next_ hlt ⟨rfl, by simp [s0, hw, maxTo, fold_take _ _ hlt]⟩
  · have d3 : ¬ ((k : Int) + 1 < (xs.length : Int) + 1) := by omega
    simp -dsimp -implicitDefEqProofs [s0, s3, s4, d3]
    rw [List.take_of_length_le (by omega)]
    exact GC.refl _ _ _
theorem maxTo_comm (xs : List Int) : ∀ b c : Int, maxTo xs (max b c) = max b (maxTo xs c) := by
  unfold maxTo
  induction xs with
  | nil => intro b c; rfl
  | cons x xs ih => intro b c; rw [List.foldl_cons, List.foldl_cons, Int.max_assoc, ih]
theorem maxTo_zero {x : Int} {xs : List Int} (hx : 0 ≤ x) : maxTo (x :: xs) 0 = maxTo xs x := by
  show maxTo xs (max 0 x) = _
  rw [Int.max_eq_right hx]
def sumW (xs : List Int) : Int := xs.foldl (fun s x => w64 (s + x)) 0
theorem l00Sum_c (xs : List Int) (a : Option Addr) (m : Mem) (hr : RdI m a xs) (hn : xs.length ≤ 1048576) : ACalls Try.prog 59 [.slice a xs.length xs.length] m (.int .i64 (sumW xs)) m := by
  refine acalls_of_vc Try.func59 rfl Try.fol (by kernel_rfl) ?_
  simp only [Try.f59]
  simp -dsimp -implicitDefEqProofs
  refine loopN xs.length (fun k σ m' => m' = m ∧ σ 0 = some (.slice a xs.length xs.length) ∧ σ 3 = some (.int .i64 (sumW (xs.take k))) ∧ σ 4 = some (.int .i64 k)) ⟨rfl, by simp [sumW]⟩ ?_
  rintro k σ m' hk ⟨rfl, s0, s3, s4⟩
  by_cases hlt : k < xs.length
  · obtain ⟨id, off, o, rfl, hm, hkd, hsz, hc⟩ := hr.at_ hlt
    have hw : IntKind.i64.wrap ((k : Int) + 1) = k + 1 := wrapI (by omega) (by omega)
    simp -dsimp -implicitDefEqProofs [s0, s3, s4, hlt, withO_of hm, hkd, hsz, withC_of hc, hw]
    exact next_ hlt ⟨rfl, by simp [s0, hw, sumW, fold_take _ _ hlt]⟩
  · simp -dsimp -implicitDefEqProofs [s0, s3, s4, hlt]
    rw [List.take_of_length_le (by omega)]
    exact GC.refl _ _ _
theorem sumOf_c (xs : List Int) (a : Option Addr) (m : Mem) (hr : RdI m a xs) (hn : xs.length ≤ 1048576) : ACalls Try.prog 60 [.slice a xs.length xs.length] m (.int .i64 (sumW xs)) m := by
  refine acalls_of_vc Try.func60 rfl Try.fol (by kernel_rfl) ?_
  simp only [Try.f60]
  simp -dsimp -implicitDefEqProofs
  refine loopN xs.length (fun k σ m' => m' = m ∧ σ 6 = some (.slice a xs.length xs.length) ∧ σ 7 = some (.int .i64 xs.length) ∧ σ 3 = some (.int .i64 (sumW (xs.take k))) ∧ σ 8 = some (.int .i64 k)) ⟨rfl, by simp [sumW]⟩ ?_
  rintro k σ m' hk ⟨rfl, s6, s7, s3, s8⟩
  by_cases hlt : k < xs.length
  · obtain ⟨id, off, o, rfl, hm, hkd, hsz, hc⟩ := hr.at_ hlt
    have hw : IntKind.i64.wrap ((k : Int) + 1) = k + 1 := wrapI (by omega) (by omega)
    simp -dsimp -implicitDefEqProofs [s6, s7, s3, s8, hlt, withO_of hm, hkd, hsz, withC_of hc, hw]
    exact next_ hlt ⟨rfl, by simp [s6, s7, hw, sumW, fold_take _ _ hlt]⟩
  · simp -dsimp -implicitDefEqProofs [s6, s7, s3, s8, hlt]
    rw [List.take_of_length_le (by omega)]
    exact GC.refl _ _ _
end Go.Proofs.Ytaggfcnaedadaaa
