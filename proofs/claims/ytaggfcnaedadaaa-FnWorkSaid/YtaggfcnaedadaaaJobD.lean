/-
  Jobs, part 4: baskets that nobody can make, and those that a worker can make. Conditions: none.
-/
import Derived.Test.YtaggfcnaedadaaaJobB
set_option linter.unusedSimpArgs false
set_option linter.unusedVariables false
set_option linter.unusedSectionVars false
namespace Go.Proofs.Ytaggfcnaedadaaa
open Go.Abs Go.RowKit

/-- The first k baskets with a greater skill than that. -/
def overTo (js : List I2) (b : Int) (k : Nat) : List Int := ((List.range k).filter fun i => decide (b < (jobAt js i).2)).map fun (i : Nat) => (i : Int)
def missL (js : List I2) (ss : List Int) : List Int := overTo js (maxTo ss 0) js.length
theorem overTo_succ {js : List I2} {b : Int} {k : Nat} (h : k < js.length) : overTo js b (k + 1) = if b < js[k].2 then overTo js b k ++ [(k : Int)] else overTo js b k := by
  unfold overTo
  rw [List.range_succ, List.filter_append, List.map_append]
  by_cases hf : b < js[k].2 <;> simp [jobAt_eq h, hf]
theorem overTo_length (js : List I2) (b : Int) (k : Nat) : (overTo js b k).length ≤ k := by
  unfold overTo
  rw [List.length_map]
  exact Nat.le_trans (List.length_filter_le _ _) (by simp)
theorem overTo_lt {js : List I2} {b : Int} {k : Nat} : ∀ x ∈ overTo js b k, 0 ≤ x ∧ x < k := by
  intro x hx
  obtain ⟨i, hi, rfl⟩ := List.mem_map.1 hx
  have := List.mem_range.1 (List.mem_filter.1 hi).1
  omega
theorem l20Missing_c (js : List I2) (ss : List Int) (a b : Option Addr) (m : Mem) (hr : RdG v2 2 m a js) (hs : RdI m b ss) (hn : js.length ≤ 1048576) (hn' : ss.length ≤ 1048576) :
    ACalls Try.prog 50 [.slice a js.length js.length, .slice b ss.length ss.length] m (.slice (some ⟨m.length, 0, none⟩) (missL js ss).length (missL js ss).length) (m ++ [⟨(missL js ss).map (Value.int .i64), 2, 1, 2⟩]) := by
  refine acalls_of_vc Try.func50 rfl Try.fol (by kernel_rfl) ?_
  simp only [Try.f50]
  simp -dsimp -implicitDefEqProofs
  refine callsTo Try.cal54 (l20End_c ss b _ hs hn') ?_
  simp -dsimp -implicitDefEqProofs
  refine loopN js.length (fun k σ m' => ∃ id ob, m <+: m' ∧ m.length ≤ id ∧ m'[id]? = some ob ∧ (ob.cells = (overTo js (maxTo ss 0) k).map (Value.int .i64) ∧ ob.elem = 2 ∧ ob.sz = 1 ∧ 1 ≤ ob.kind ∧ ob.kind ≤ 2) ∧
      σ 0 = some (.slice a js.length js.length) ∧ σ 5 = some (.int .i64 (maxTo ss 0)) ∧ σ 6 = some (.slice (some ⟨id, 0, none⟩) (overTo js (maxTo ss 0) k).length (overTo js (maxTo ss 0) k).length) ∧ σ 7 = some (.int .i64 k))
    ⟨m.length, ⟨[], 2, 1, 1⟩, pre_app (pre_refl m) _, Nat.le_refl _, by simp, by simp [overTo], by simp [overTo]⟩ ?_
  rintro k σ m' hk ⟨id, ob, hp, hid, hob, ⟨ob1, ob2, ob3, ob4, ob5⟩, s0, s5, s6, s7⟩
  by_cases hlt : k < js.length
  · have hw : IntKind.i64.wrap ((k : Int) + 1) = k + 1 := wrapI (by omega) (by omega)
    obtain ⟨idx, offx, ox, rfl, hm, hkd, hsz, hl, hrow, hc0, hc1⟩ := R2.at_ hr hlt
    have hm' := prefix_get hp hm
    by_cases hf : maxTo ss 0 < js[k].2
    · have hlen := overTo_length js (maxTo ss 0) k
      simp -dsimp -implicitDefEqProofs [s0, s5, s6, s7, hlt, withO_of hm', hkd, hsz, withC_of hc1, hf, hw]
      refine appTo_grow Try.sl23 Try.inf2 ⟨by decide, rfl⟩ (o := ob) (get_old hob) ⟨ob4, ob5⟩ ⟨ob3, ob2⟩ (by rw [ob1]; simp) ⟨by omega, by omega⟩ (Src.obj (o := ⟨[.int .i64 k], _, 1, 1⟩) (by simp; rfl) (by simp) rfl rfl) ?_
      intro m2 id2 hg
      simp -dsimp -implicitDefEqProofs [s0, s5, s6, s7, hlt, withO_of hm', hkd, hsz, withC_of hc1, hf, hw]
      refine next_ hlt ⟨id2, _, hg.pre m (pre_app hp _) hid, by rw [hg.at_]; simp; have := hp.length_le; omega, hg.new, ?_, ?_⟩
      · rw [overTo_succ hlt]; simp [hf, ob1]
      · simp [s0, s5, overTo_succ hlt, hf, hw]
    · simp -dsimp -implicitDefEqProofs [s0, s5, s6, s7, hlt, withO_of hm', hkd, hsz, withC_of hc1, hf, hw]
      exact next_ hlt ⟨id, ob, hp, hid, hob, by rw [overTo_succ hlt, if_neg hf]; exact ⟨ob1, ob2, ob3, ob4, ob5⟩, by simp [s0, s5, s6, overTo_succ hlt, hf, hw]⟩
  · simp -dsimp -implicitDefEqProofs [s0, s5, s6, s7, hlt]
    obtain rfl : k = js.length := by omega
    exact GC.keepSP (Fits.refl m) hp hob hid ob3.symm ob2.symm (by simp; omega) ob1.symm (by rw [ob1]; exact ints_lit _)
theorem missing_c (js : List I2) (ss : List Int) (a b : Option Addr) (m : Mem) (hr : RdG v2 2 m a js) (hs : RdI m b ss) (hn : js.length ≤ 1048576) (hn' : ss.length ≤ 1048576) (hv : jobsB js ss = true) :
    ACalls Try.prog 52 [.slice a js.length js.length, .slice b ss.length ss.length] m (.slice (some ⟨m.length, 0, none⟩) (missL js ss).length (missL js ss).length) (m ++ [⟨(missL js ss).map (Value.int .i64), 2, 1, 2⟩]) := by
  obtain ⟨_, hss, _, hpos, _⟩ := jobsB_parts hv
  have hmx : ∀ m1, RdI m1 b ss → ACalls Try.prog 57 [.slice b ss.length ss.length] m1 (.int .i64 (maxTo ss 0)) m1 := by
    intro m1 h1
    match ss, hpos, hss, hn', h1 with
    | y :: ys, _, hss, hn', h1 =>
      have hy : 0 ≤ y := by
        have := List.all_eq_true.1 hss y (by simp)
        simp [inB] at this; omega
      rw [maxTo_zero hy]
      exact max_c y ys b m1 h1 (by simpa using hn')
  refine acalls_of_vc Try.func52 rfl Try.fol (by kernel_rfl) ?_
  simp only [Try.f52]
  simp -dsimp -implicitDefEqProofs
  refine callsTo Try.cal57 (hmx _ (hs.ext _)) ?_
  simp -dsimp -implicitDefEqProofs
  refine loopN js.length (fun k σ m' => ∃ id ob, m <+: m' ∧ m.length ≤ id ∧ m'[id]? = some ob ∧ (ob.cells = (overTo js (maxTo ss 0) k).map (Value.int .i64) ∧ ob.elem = 2 ∧ ob.sz = 1 ∧ 1 ≤ ob.kind ∧ ob.kind ≤ 2) ∧
      σ 6 = some (.int .i64 (maxTo ss 0)) ∧ σ 5 = some (.slice (some ⟨id, 0, none⟩) (overTo js (maxTo ss 0) k).length (overTo js (maxTo ss 0) k).length) ∧ σ 12 = some (.slice a js.length js.length) ∧ σ 13 = some (.int .i64 js.length) ∧ σ 14 = some (.int .i64 k))
    ⟨m.length, ⟨[], 2, 1, 1⟩, pre_app (pre_refl m) _, Nat.le_refl _, by simp, by simp [overTo], by simp [overTo]⟩ ?_
  rintro k σ m' hk ⟨id, ob, hp, hid, hob, ⟨ob1, ob2, ob3, ob4, ob5⟩, s6, s5, s12, s13, s14⟩
  by_cases hlt : k < js.length
  · have hw : IntKind.i64.wrap ((k : Int) + 1) = k + 1 := wrapI (by omega) (by omega)
    obtain ⟨idx, offx, ox, rfl, hm, hkd, hsz, hl, hrow, hc0, hc1⟩ := R2.at_ hr hlt
    have hm' := prefix_get hp hm
    by_cases hf : maxTo ss 0 < js[k].2
    · have hlen := overTo_length js (maxTo ss 0) k
      simp -dsimp -implicitDefEqProofs [s6, s5, s12, s13, s14, hlt, withO_of hm', fun l => withO_of (get_old (l := l) hm'), hkd, hsz, hl, hrow, v2, hf, hw]
      refine appTo_grow Try.sl23 Try.inf2 ⟨by decide, rfl⟩ (o := ob) (get_old hob) ⟨ob4, ob5⟩ ⟨ob3, ob2⟩ (by rw [ob1]; simp) ⟨by omega, by omega⟩ (Src.obj (o := ⟨[.int .i64 k], _, 1, 1⟩) (by simp; rfl) (by simp) rfl rfl) ?_
      intro m2 id2 hg
      simp -dsimp -implicitDefEqProofs [s6, s5, s12, s13, s14, hlt, withO_of hm', fun l => withO_of (get_old (l := l) hm'), hkd, hsz, hl, hrow, v2, hf, hw]
      refine next_ hlt ⟨id2, _, hg.pre m (pre_app hp _) hid, by rw [hg.at_]; simp; have := hp.length_le; omega, hg.new, ?_, ?_⟩
      · rw [overTo_succ hlt]; simp [hf, ob1]
      · simp [s6, s12, s13, overTo_succ hlt, hf, hw]
    · simp -dsimp -implicitDefEqProofs [s6, s5, s12, s13, s14, hlt, withO_of hm', fun l => withO_of (get_old (l := l) hm'), hkd, hsz, hl, hrow, v2, hf, hw]
      exact next_ hlt ⟨id, ob, pre_app hp _, hid, get_old hob, by rw [overTo_succ hlt, if_neg hf]; exact ⟨ob1, ob2, ob3, ob4, ob5⟩, by simp [s6, s5, s12, s13, overTo_succ hlt, hf, hw]⟩
  · simp -dsimp -implicitDefEqProofs [s6, s5, s12, s13, s14, hlt]
    obtain rfl : k = js.length := by omega
    exact GC.keepSP (Fits.refl m) hp hob hid ob3.symm ob2.symm (by simp; omega) ob1.symm (by rw [ob1]; exact ints_lit _)
def missO (js : List I2) (ss : List Int) : Option (List Int) := if jobsB js ss then some (missL js ss) else none
def missC (js : List I2) (ss : List Int) : Int := if jobsB js ss then 0 else 1
theorem missO_length {js : List I2} {ss zs : List Int} (h : missO js ss = some zs) : zs.length ≤ js.length := by
  unfold missO at h
  split at h
  · injection h with h; subst h; exact overTo_length _ _ _
  · cases h
theorem miss_rd (js : List I2) (ss : List Int) (m j : Mem) : RdI (m ++ ⟨(missL js ss).map (Value.int .i64), 2, 1, 2⟩ :: j) (some ⟨m.length, 0, none⟩) (missL js ss) := RdI.of_get (o := ⟨_, _, 1, 2⟩) (by simp; rfl) (by simp) rfl rfl
/-- The greatest skill of the first k of these baskets. -/
def skillTo (js : List I2) (zs : List Int) : Nat → Int
  | 0 => 0
  | k + 1 => max (skillTo js zs k) (jobAt js (ixAt zs k)).2
def leastI (js : List I2) (ss : List Int) : Int := skillTo js (missL js ss) (missL js ss).length
def leastV (js : List I2) (ss : List Int) : Value := .tuple #[.int .i64 (if missC js ss = 0 then leastI js ss else 0), .int .i64 (missC js ss)]
section
variable (js : List I2) (ss : List Int) (a b : Option Addr) (m : Mem) (hr : RdG v2 2 m a js) (hs : RdI m b ss) (hn : js.length ≤ 1048576) (hn' : ss.length ≤ 1048576)
include hr hs hn hn'
theorem specMissing_c : ACalls Try.prog 28 [.slice a js.length js.length, .slice b ss.length ss.length] m (.tuple #[optV m.length (missO js ss), .int .i64 (missC js ss)]) (m ++ optM 2 (missO js ss)) := by
  refine acalls_of_vc Try.func28 rfl Try.fol (by kernel_rfl) ?_
  simp only [Try.f28]
  simp -dsimp -implicitDefEqProofs
  refine callsTo Try.cal44 (l20Ok_c js ss a b _ hr hs hn hn') ?_
  simp -dsimp -implicitDefEqProofs
  refine ⟨fun g => ?_, fun g => ?_⟩
  · simp at g
    simp [missO, missC, g, optV, optM]
    exact GC.refl _ _ _
  simp at g
  refine callsTo Try.cal50 (l20Missing_c js ss a b _ hr hs hn hn') ?_
  simp -dsimp -implicitDefEqProofs
  simp only [missO, missC, g, if_true, optV, optM]
  exact GC.refl _ _ _
theorem implMissing_c : ACalls Try.prog 29 [.slice a js.length js.length, .slice b ss.length ss.length] m (.tuple #[optV m.length (missO js ss), .int .i64 (missC js ss)]) (m ++ optM 2 (missO js ss)) := by
  refine acalls_of_vc Try.func29 rfl Try.fol (by kernel_rfl) ?_
  simp only [Try.f29]
  simp -dsimp -implicitDefEqProofs
  refine callsTo Try.cal18 (validJobs_c js ss a b _ hr hs hn hn') ?_
  simp -dsimp -implicitDefEqProofs
  refine ⟨fun g => ?_, fun g => ?_⟩
  · simp at g
    simp [missO, missC, g, optV, optM]
    exact GC.refl _ _ _
  simp at g
  refine callsTo Try.cal52 (missing_c js ss a b _ hr hs hn hn' g) ?_
  simp -dsimp -implicitDefEqProofs
  simp only [missO, missC, g, if_true, optV, optM]
  exact GC.refl _ _ _
theorem specLeast_c : ACalls Try.prog 26 [.slice a js.length js.length, .slice b ss.length ss.length] m (leastV js ss) m := by
  refine acalls_of_vc Try.func26 rfl Try.fol (by kernel_rfl) ?_
  simp only [Try.f26]
  simp -dsimp -implicitDefEqProofs
  refine callsTo Try.cal44 (l20Ok_c js ss a b _ hr hs hn hn') ?_
  simp -dsimp -implicitDefEqProofs
  refine ⟨fun g => GC.eq (by simp at g; simp [leastV, missC, g]), fun g => ?_⟩
  simp at g
  refine callsTo Try.cal50 (l20Missing_c js ss a b _ hr hs hn hn') ?_
  simp -dsimp -implicitDefEqProofs
  refine loopN (missL js ss).length (fun k σ m' => m' = m ++ [⟨(missL js ss).map (Value.int .i64), 2, 1, 2⟩] ∧ σ 0 = some (.slice a js.length js.length) ∧ σ 6 = some (.slice (some ⟨m.length, 0, none⟩) (missL js ss).length (missL js ss).length) ∧ σ 7 = some (.int .i64 (skillTo js (missL js ss) k)) ∧ σ 8 = some (.int .i64 k)) ⟨rfl, by simp [skillTo]⟩ ?_
  rintro k σ m' hk ⟨rfl, s0, s6, s7, s8⟩
  by_cases hlt : k < (missL js ss).length
  · have hml := overTo_length js (maxTo ss 0) js.length
    have hbd := overTo_lt _ (List.getElem_mem hlt)
    have i1 : (missL js ss)[k] = (ixAt (missL js ss) k : Int) := by unfold ixAt; rw [getI hlt]; omega
    have l1 : ixAt (missL js ss) k < js.length := by unfold ixAt; rw [getI hlt]; omega
    have hcz := ints_get hlt
    rw [i1] at hcz
    obtain ⟨idx, offx, ox, rfl, hm, hkd, hsz, hl, hrow, hc0, hc1⟩ := R2.at_ hr l1
    have hw : IntKind.i64.wrap ((k : Int) + 1) = k + 1 := wrapI (by unfold missL at hlt; omega) (by unfold missL at hlt; omega)
    simp -dsimp -implicitDefEqProofs [s0, s6, s7, s8, hlt, l1, withC_of hcz, fun l => withO_of (get_old (l := l) hm), hkd, hsz, withC_of hc1, hw]
    refine callsTo Try.cal51 (l00Max_c _ _ _) ?_
    simp -dsimp -implicitDefEqProofs [s0, s6, s7, s8, hlt, l1, withC_of hcz, fun l => withO_of (get_old (l := l) hm), hkd, hsz, withC_of hc1, hw]
    exact next_ hlt ⟨rfl, by simp [s0, s6, hw, skillTo, jobAt_eq l1]⟩
  · simp -dsimp -implicitDefEqProofs [s0, s6, s7, s8, hlt]
    obtain rfl : k = (missL js ss).length := by omega
    exact GC.dropEq (by simp [leastV, missC, g, leastI]) rfl
theorem implLeast_c : ACalls Try.prog 27 [.slice a js.length js.length, .slice b ss.length ss.length] m (leastV js ss) m := by
  refine acalls_of_vc Try.func27 rfl Try.fol (by kernel_rfl) ?_
  simp only [Try.f27]
  simp -dsimp -implicitDefEqProofs
  refine callsTo Try.cal18 (validJobs_c js ss a b _ hr hs hn hn') ?_
  simp -dsimp -implicitDefEqProofs
  refine ⟨fun g => GC.eq (by simp at g; simp [leastV, missC, g]), fun g => ?_⟩
  simp at g
  refine callsTo Try.cal52 (missing_c js ss a b _ hr hs hn hn' g) ?_
  simp -dsimp -implicitDefEqProofs
  refine loopN (missL js ss).length (fun k σ m' => m' = m ++ [⟨(missL js ss).map (Value.int .i64), 2, 1, 2⟩] ∧ σ 0 = some (.slice a js.length js.length) ∧ σ 15 = some (.slice (some ⟨m.length, 0, none⟩) (missL js ss).length (missL js ss).length) ∧ σ 16 = some (.int .i64 (missL js ss).length) ∧ σ 6 = some (.int .i64 (skillTo js (missL js ss) k)) ∧ σ 17 = some (.int .i64 k)) ⟨rfl, by simp [skillTo]⟩ ?_
  rintro k σ m' hk ⟨rfl, s0, s15, s16, s6, s17⟩
  by_cases hlt : k < (missL js ss).length
  · have hml := overTo_length js (maxTo ss 0) js.length
    have hbd := overTo_lt _ (List.getElem_mem hlt)
    have i1 : (missL js ss)[k] = (ixAt (missL js ss) k : Int) := by unfold ixAt; rw [getI hlt]; omega
    have l1 : ixAt (missL js ss) k < js.length := by unfold ixAt; rw [getI hlt]; omega
    have hcz := ints_get hlt
    rw [i1] at hcz
    obtain ⟨idx, offx, ox, rfl, hm, hkd, hsz, hl, hrow, hc0, hc1⟩ := R2.at_ hr l1
    have hw : IntKind.i64.wrap ((k : Int) + 1) = k + 1 := wrapI (by unfold missL at hlt; omega) (by unfold missL at hlt; omega)
    simp -dsimp -implicitDefEqProofs [s0, s15, s16, s6, s17, hlt, l1, withC_of hcz, fun l => withO_of (get_old (l := l) hm), hkd, hsz, withC_of hc1, hw]
    exact next_ hlt ⟨rfl, by simp [s0, s15, s16, hw, skillTo, jobAt_eq l1]⟩
  · simp -dsimp -implicitDefEqProofs [s0, s15, s16, s6, s17, hlt]
    obtain rfl : k = (missL js ss).length := by omega
    exact GC.dropEq (by simp [leastV, missC, g, leastI]) rfl
end

/-! ### What a worker can make -/
def canTo (js : List I2) (b : Int) (k : Nat) : List Int := ((List.range k).filter fun i => decide ((jobAt js i).2 ≤ b)).map fun (i : Nat) => (i : Int)
theorem canTo_succ {js : List I2} {b : Int} {k : Nat} (h : k < js.length) : canTo js b (k + 1) = if js[k].2 ≤ b then canTo js b k ++ [(k : Int)] else canTo js b k := by
  unfold canTo
  rw [List.range_succ, List.filter_append, List.map_append]
  by_cases hf : js[k].2 ≤ b <;> simp [jobAt_eq h, hf]
theorem canTo_length (js : List I2) (b : Int) (k : Nat) : (canTo js b k).length ≤ k := by
  unfold canTo
  rw [List.length_map]
  exact Nat.le_trans (List.length_filter_le _ _) (by simp)
def forC (js : List I2) (ss : List Int) (w : Int) : Int := if jobsB js ss then (if inB w 0 ((ss.length : Int) - 1) then 0 else 2) else 1
def forO (js : List I2) (ss : List Int) (w : Int) : Option (List Int) := if forC js ss w = 0 then some (canTo js (ss.getD w.toNat 0) js.length) else none
theorem forO_length {js : List I2} {ss zs : List Int} {w : Int} (h : forO js ss w = some zs) : zs.length ≤ js.length := by
  unfold forO at h
  split at h
  · injection h with h; subst h; exact canTo_length _ _ _
  · cases h
section
variable (js : List I2) (ss : List Int) (w : Int) (a b : Option Addr) (m : Mem) (hr : RdG v2 2 m a js) (hs : RdI m b ss) (hn : js.length ≤ 1048576) (hn' : ss.length ≤ 1048576)
include hr hs hn hn'
theorem specFor_c : ACalls Try.prog 21 [.slice a js.length js.length, .slice b ss.length ss.length, .int .i64 w] m (.tuple #[optV m.length (forO js ss w), .int .i64 (forC js ss w)]) (m ++ optM 2 (forO js ss w)) := by
  have hws : IntKind.i64.wrap ((ss.length : Int) - 1) = (ss.length : Int) - 1 := wrapI (by omega) (by omega)
  refine acalls_of_vc Try.func21 rfl Try.fol (by kernel_rfl) ?_
  simp only [Try.f21]
  simp -dsimp -implicitDefEqProofs [hws]
  refine callsTo Try.cal44 (l20Ok_c js ss a b _ hr hs hn hn') ?_
  simp -dsimp -implicitDefEqProofs [hws]
  refine ⟨fun g => ?_, fun g => ?_⟩
  · simp at g
    simp [forO, forC, g, optV, optM]
    exact GC.refl _ _ _
  simp at g
  refine callsTo Try.cal49 (l00In_c _ _ _ _) ?_
  simp -dsimp -implicitDefEqProofs [hws]
  refine ⟨fun g1 => ?_, fun g1 => ?_⟩
  · simp at g1
    simp [forO, forC, g, g1, optV, optM]
    exact GC.refl _ _ _
  simp at g1
  obtain ⟨j, rfl⟩ : ∃ j : Nat, w = (j : Int) := ⟨w.toNat, by simp [inB] at g1; omega⟩
  have hjl : j < ss.length := by simp [inB] at g1; omega
  obtain ⟨ids, offs, os, rfl, hms, hkds, hszs, hcs⟩ := hs.at_ hjl
  refine loopN js.length (fun k σ m' => ∃ id ob, m <+: m' ∧ m.length ≤ id ∧ m'[id]? = some ob ∧ (ob.cells = (canTo js ss[j] k).map (Value.int .i64) ∧ ob.elem = 2 ∧ ob.sz = 1 ∧ 1 ≤ ob.kind ∧ ob.kind ≤ 2) ∧
      σ 0 = some (.slice a js.length js.length) ∧ σ 1 = some (.slice (some ⟨ids, offs, none⟩) ss.length ss.length) ∧ σ 2 = some (.int .i64 j) ∧ σ 8 = some (.slice (some ⟨id, 0, none⟩) (canTo js ss[j] k).length (canTo js ss[j] k).length) ∧ σ 9 = some (.int .i64 k))
    ⟨m.length, ⟨[], 2, 1, 1⟩, pre_app (pre_refl m) _, Nat.le_refl _, by simp, by simp [canTo], by simp [canTo]⟩ ?_
  rintro k σ m' hk ⟨id, ob, hp, hid, hob, ⟨ob1, ob2, ob3, ob4, ob5⟩, s0, s1, s2, s8, s9⟩
  by_cases hlt : k < js.length
  · have hw : IntKind.i64.wrap ((k : Int) + 1) = k + 1 := wrapI (by omega) (by omega)
    obtain ⟨idx, offx, ox, rfl, hm, hkd, hsz, hl, hrow, hc0, hc1⟩ := R2.at_ hr hlt
    have hm' := prefix_get hp hm
    have hms' := prefix_get hp hms
    by_cases hf : js[k].2 ≤ ss[j]
    · have hlen := canTo_length js ss[j] k
      simp -dsimp -implicitDefEqProofs [s0, s1, s2, s8, s9, hlt, hjl, withO_of hm', withO_of hms', hkd, hsz, hkds, hszs, withC_of hc1, withC_of hcs, hf, hw]
      refine appTo_grow Try.sl23 Try.inf2 ⟨by decide, rfl⟩ (o := ob) (get_old hob) ⟨ob4, ob5⟩ ⟨ob3, ob2⟩ (by rw [ob1]; simp) ⟨by omega, by omega⟩ (Src.obj (o := ⟨[.int .i64 k], _, 1, 1⟩) (by simp; rfl) (by simp) rfl rfl) ?_
      intro m2 id2 hg
      simp -dsimp -implicitDefEqProofs [s0, s1, s2, s8, s9, hlt, hjl, withO_of hm', withO_of hms', hkd, hsz, hkds, hszs, withC_of hc1, withC_of hcs, hf, hw]
      refine next_ hlt ⟨id2, _, hg.pre m (pre_app hp _) hid, by rw [hg.at_]; simp; have := hp.length_le; omega, hg.new, ?_, ?_⟩
      · rw [canTo_succ hlt]; simp [hf, ob1]
      · simp [s0, s1, s2, canTo_succ hlt, hf, hw]
    · simp -dsimp -implicitDefEqProofs [s0, s1, s2, s8, s9, hlt, hjl, withO_of hm', withO_of hms', hkd, hsz, hkds, hszs, withC_of hc1, withC_of hcs, hf, hw]
      exact next_ hlt ⟨id, ob, hp, hid, hob, by rw [canTo_succ hlt, if_neg hf]; exact ⟨ob1, ob2, ob3, ob4, ob5⟩, by simp [s0, s1, s2, s8, canTo_succ hlt, hf, hw]⟩
  · simp -dsimp -implicitDefEqProofs [s0, s1, s2, s8, s9, hlt]
    obtain rfl : k = js.length := by omega
    simp only [forO, forC, g, g1, if_true, optV, optM, Int.toNat_natCast, getI hjl]
    exact GC.keepTP (Fits.refl m) hp hob hid ob3.symm ob2.symm (by simp; omega) ob1.symm (by rw [ob1]; exact ints_lit _) rfl
theorem implFor_c : ACalls Try.prog 22 [.slice a js.length js.length, .slice b ss.length ss.length, .int .i64 w] m (.tuple #[optV m.length (forO js ss w), .int .i64 (forC js ss w)]) (m ++ optM 2 (forO js ss w)) := by
  have hws : IntKind.i64.wrap ((ss.length : Int) - 1) = (ss.length : Int) - 1 := wrapI (by omega) (by omega)
  refine acalls_of_vc Try.func22 rfl Try.fol (by kernel_rfl) ?_
  simp only [Try.f22]
  simp -dsimp -implicitDefEqProofs [hws]
  refine callsTo Try.cal18 (validJobs_c js ss a b _ hr hs hn hn') ?_
  simp -dsimp -implicitDefEqProofs [hws]
  refine ⟨fun g => ?_, fun g => ?_⟩
  · simp at g
    simp [forO, forC, g, optV, optM]
    exact GC.refl _ _ _
  simp at g
  refine callsTo Try.cal46 (within_c _ _ _ _) ?_
  simp -dsimp -implicitDefEqProofs [hws]
  refine ⟨fun g1 => ?_, fun g1 => ?_⟩
  · simp at g1
    simp [forO, forC, g, g1, optV, optM]
    exact GC.refl _ _ _
  simp at g1
  obtain ⟨j, rfl⟩ : ∃ j : Nat, w = (j : Int) := ⟨w.toNat, by simp [inB] at g1; omega⟩
  have hjl : j < ss.length := by simp [inB] at g1; omega
  obtain ⟨ids, offs, os, rfl, hms, hkds, hszs, hcs⟩ := hs.at_ hjl
  refine loopN js.length (fun k σ m' => ∃ id ob, m <+: m' ∧ m.length ≤ id ∧ m'[id]? = some ob ∧ (ob.cells = (canTo js ss[j] k).map (Value.int .i64) ∧ ob.elem = 2 ∧ ob.sz = 1 ∧ 1 ≤ ob.kind ∧ ob.kind ≤ 2) ∧
      σ 1 = some (.slice (some ⟨ids, offs, none⟩) ss.length ss.length) ∧ σ 2 = some (.int .i64 j) ∧ σ 8 = some (.slice (some ⟨id, 0, none⟩) (canTo js ss[j] k).length (canTo js ss[j] k).length) ∧ σ 22 = some (.slice a js.length js.length) ∧ σ 23 = some (.int .i64 js.length) ∧ σ 24 = some (.int .i64 k))
    ⟨m.length, ⟨[], 2, 1, 1⟩, pre_app (pre_refl m) _, Nat.le_refl _, by simp, by simp [canTo], by simp [canTo]⟩ ?_
  rintro k σ m' hk ⟨id, ob, hp, hid, hob, ⟨ob1, ob2, ob3, ob4, ob5⟩, s1, s2, s8, s22, s23, s24⟩
  by_cases hlt : k < js.length
  · have hw : IntKind.i64.wrap ((k : Int) + 1) = k + 1 := wrapI (by omega) (by omega)
    obtain ⟨idx, offx, ox, rfl, hm, hkd, hsz, hl, hrow, hc0, hc1⟩ := R2.at_ hr hlt
    have hm' := prefix_get hp hm
    have hms' := prefix_get hp hms
    by_cases hf : js[k].2 ≤ ss[j]
    · have hlen := canTo_length js ss[j] k
      simp -dsimp -implicitDefEqProofs [s1, s2, s8, s22, s23, s24, hlt, hjl, withO_of hm', withO_of hms', fun l => withO_of (get_old (l := l) hm'), fun l => withO_of (get_old (l := l) hms'), hkd, hsz, hkds, hszs, hl, hrow, v2, withC_of hcs, hf, hw]
      refine appTo_grow Try.sl23 Try.inf2 ⟨by decide, rfl⟩ (o := ob) (get_old hob) ⟨ob4, ob5⟩ ⟨ob3, ob2⟩ (by rw [ob1]; simp) ⟨by omega, by omega⟩ (Src.obj (o := ⟨[.int .i64 k], _, 1, 1⟩) (by simp; rfl) (by simp) rfl rfl) ?_
      intro m2 id2 hg
      simp -dsimp -implicitDefEqProofs [s1, s2, s8, s22, s23, s24, hlt, hjl, withO_of hm', withO_of hms', fun l => withO_of (get_old (l := l) hm'), fun l => withO_of (get_old (l := l) hms'), hkd, hsz, hkds, hszs, hl, hrow, v2, withC_of hcs, hf, hw]
      refine next_ hlt ⟨id2, _, hg.pre m (pre_app hp _) hid, by rw [hg.at_]; simp; have := hp.length_le; omega, hg.new, ?_, ?_⟩
      · rw [canTo_succ hlt]; simp [hf, ob1]
      · simp [s1, s2, s22, s23, canTo_succ hlt, hf, hw]
    · simp -dsimp -implicitDefEqProofs [s1, s2, s8, s22, s23, s24, hlt, hjl, withO_of hm', withO_of hms', fun l => withO_of (get_old (l := l) hm'), fun l => withO_of (get_old (l := l) hms'), hkd, hsz, hkds, hszs, hl, hrow, v2, withC_of hcs, hf, hw]
      exact next_ hlt ⟨id, ob, pre_app hp _, hid, get_old hob, by rw [canTo_succ hlt, if_neg hf]; exact ⟨ob1, ob2, ob3, ob4, ob5⟩, by simp [s1, s2, s8, s22, s23, canTo_succ hlt, hf, hw]⟩
  · simp -dsimp -implicitDefEqProofs [s1, s2, s8, s22, s23, s24, hlt]
    obtain rfl : k = js.length := by omega
    simp only [forO, forC, g, g1, if_true, optV, optM, Int.toNat_natCast, getI hjl]
    exact GC.keepTP (Fits.refl m) hp hob hid ob3.symm ob2.symm (by simp; omega) ob1.symm (by rw [ob1]; exact ints_lit _) rfl
end
end Go.Proofs.Ytaggfcnaedadaaa
