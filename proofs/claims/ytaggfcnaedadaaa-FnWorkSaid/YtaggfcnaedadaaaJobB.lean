/-
  Jobs, part 2: who makes them, the hours of all workers, and the baskets that can be made. Conditions: none.
-/
import Derived.Test.YtaggfcnaedadaaaJobA
set_option linter.unusedSimpArgs false
set_option linter.unusedVariables false
set_option linter.unusedSectionVars false
namespace Go.Proofs.Ytaggfcnaedadaaa
open Go.Abs Go.RowKit

def jobAt (js : List I2) (i : Nat) : I2 := js.getD i (0, 0)
def clashAt (js : List I2) (ss who : List Int) (i : Nat) : Bool := !decide (ss.getD (ixAt who i) 0 < (jobAt js i).2)
def whoI (js : List I2) (ss who : List Int) : Int :=
  if who.all (inB · 0 ((ss.length : Int) - 1)) && decide (who.length = js.length) then (if (List.range js.length).all (clashAt js ss who) then 0 else 9) else 2
def whoC (js : List I2) (ss who : List Int) : Int := if jobsB js ss then whoI js ss who else 1
theorem jobAt_eq {xs : List I2} {k : Nat} (h : k < xs.length) : jobAt xs k = xs[k] := by simp [jobAt, List.getD_eq_getElem?_getD, List.getElem?_eq_getElem h]
theorem who_ix {n : Nat} {who : List Int} (h : who.all (inB · 0 ((n : Int) - 1)) = true) {i : Nat} (hi : i < who.length) : who[i] = (ixAt who i : Int) ∧ ixAt who i < n := by
  have := List.all_eq_true.1 h _ (List.getElem_mem hi)
  simp only [Bool.and_eq_true, inB, decide_eq_true_eq] at this
  unfold ixAt
  rw [getI hi]
  omega

theorem l20Code_c (js : List I2) (ss who : List Int) (a b c : Option Addr) (m : Mem) (hr : RdG v2 2 m a js) (hs : RdI m b ss) (hw' : RdI m c who) (hn : js.length ≤ 1048576) (hn' : ss.length ≤ 1048576) (hn2 : who.length ≤ 1048576) :
    ACalls Try.prog 53 [.slice a js.length js.length, .slice b ss.length ss.length, .slice c who.length who.length] m (.int .i64 (whoC js ss who)) m := by
  have hws : IntKind.i64.wrap ((ss.length : Int) - 1) = (ss.length : Int) - 1 := wrapI (by omega) (by omega)
  refine acalls_of_vc Try.func53 rfl Try.fol (by kernel_rfl) ?_
  simp only [Try.f53]
  simp -dsimp -implicitDefEqProofs
  refine callsTo Try.cal44 (l20Ok_c js ss a b _ hr hs hn hn') ?_
  simp -dsimp -implicitDefEqProofs
  refine ⟨fun g => GC.eq (by simp at g; simp [whoC, g]), fun g0 => ?_⟩
  simp at g0
  refine loopN who.length (fun k σ m' => m' = m ∧ (σ 0 = some (.slice a js.length js.length) ∧ σ 1 = some (.slice b ss.length ss.length) ∧ σ 2 = some (.slice c who.length who.length) ∧ σ 7 = some (.int .i64 k)) ∧ (who.take k).all (inB · 0 ((ss.length : Int) - 1)) = true) ⟨rfl, by simp, by simp⟩ ?_
  rintro k σ m' hk ⟨rfl, ⟨s0, s1, s2, s7⟩, hok⟩
  by_cases hlt : k < who.length
  · obtain ⟨id, off, o, rfl, hm, hkd, hsz, hc⟩ := hw'.at_ hlt
    have hw : IntKind.i64.wrap ((k : Int) + 1) = k + 1 := wrapI (by omega) (by omega)
    simp -dsimp -implicitDefEqProofs [s0, s1, s2, s7, hlt, withO_of hm, hkd, hsz, withC_of hc, hw, hws]
    refine callsTo Try.cal49 (l00In_c _ _ _ _) ?_
    simp -dsimp -implicitDefEqProofs [s0, s1, s2, s7, hlt, withO_of hm, hkd, hsz, withC_of hc, hw, hws]
    refine ⟨fun g => GC.eq ?_, fun g => next_ hlt ⟨rfl, by simp [s0, s1, s2, hw], all_take_succ hlt hok (by simpa using g)⟩⟩
    have : who.all (inB · 0 ((ss.length : Int) - 1)) = false := all_false_of hlt (by simpa using g)
    simp only [whoC, whoI, g0, this]; rfl
  · simp -dsimp -implicitDefEqProofs [s0, s1, s2, s7, hlt]
    rw [List.take_of_length_le (by omega)] at hok
    refine ⟨fun g => GC.eq ?_, fun g => ?_⟩
    · have : ¬ who.length = js.length := by simp at g; omega
      simp [whoC, whoI, g0, this]
    · have hle : who.length = js.length := by simp at g; omega
      refine loopN who.length (fun k σ m1 => m1 = m' ∧ (σ 0 = some (.slice a js.length js.length) ∧ σ 1 = some (.slice b ss.length ss.length) ∧ σ 2 = some (.slice c who.length who.length) ∧ σ 8 = some (.int .i64 k)) ∧ (List.range k).all (clashAt js ss who) = true) ⟨rfl, by simp [s0, s1, s2], by simp⟩ ?_
      rintro i σ1 m1 hi ⟨rfl, ⟨t0, t1, t2, t8⟩, hok1⟩
      by_cases hli : i < who.length
      · have hlj : i < js.length := by omega
        obtain ⟨i1, l1⟩ := who_ix hok hli
        obtain ⟨id, off, o, rfl, hm, hkd, hsz, hc⟩ := hw'.at_ hli
        rw [i1] at hc
        obtain ⟨ids, offs, os, rfl, hms, hkds, hszs, hcs⟩ := hs.at_ l1
        obtain ⟨idj, offj, oj, rfl, hmj, hkdj, hszj, hlj', hrowj, hcj0, hcj1⟩ := R2.at_ hr hlj
        have hw : IntKind.i64.wrap ((i : Int) + 1) = i + 1 := wrapI (by omega) (by omega)
        simp -dsimp -implicitDefEqProofs [s0, s1, s2, s7, hlt, withO_of hm, hkd, hsz, withC_of hc, hw, hws, t0, t1, t2, t8, hli, hlj, l1, withO_of hm, hkd, hsz, withC_of hc, withO_of hms, hkds, hszs, withC_of hcs, withO_of hmj, hkdj, hszj, withC_of hcj1, hw]
        refine ⟨fun g' => GC.eq ?_, fun g' => next_ hli ⟨rfl, by simp [t0, t1, t2, hw], allTo_succ hok1 ?_⟩⟩
        · have : clashAt js ss who i = false := by simp only [clashAt, jobAt_eq hlj, getI l1]; simpa using g'
          simp only [whoC, whoI, g0, hok, allTo_false hlj this]; simp [hle]
        · simp only [clashAt, jobAt_eq hlj, getI l1]; simpa using g'
      · simp -dsimp -implicitDefEqProofs [t0, t1, t2, t8, hli]
        obtain rfl : i = who.length := by omega
        rw [hle] at hok1
        exact GC.eq (by simp only [whoC, whoI, g0, hok, hok1]; simp [hle])
theorem whoCode_c (js : List I2) (ss who : List Int) (a b c : Option Addr) (m : Mem) (hr : RdG v2 2 m a js) (hs : RdI m b ss) (hw' : RdI m c who) (hn : js.length ≤ 1048576) (hn' : ss.length ≤ 1048576) (hn2 : who.length ≤ 1048576) :
    ACalls Try.prog 56 [.slice a js.length js.length, .slice b ss.length ss.length, .slice c who.length who.length] m (.int .i64 (whoC js ss who)) m := by
  have hws : IntKind.i64.wrap ((ss.length : Int) - 1) = (ss.length : Int) - 1 := wrapI (by omega) (by omega)
  refine acalls_of_vc Try.func56 rfl Try.fol (by kernel_rfl) ?_
  simp only [Try.f56]
  simp -dsimp -implicitDefEqProofs [hws]
  refine callsTo Try.cal18 (validJobs_c js ss a b _ hr hs hn hn') ?_
  simp -dsimp -implicitDefEqProofs [hws]
  refine ⟨fun g => GC.eq (by simp at g; simp [whoC, g]), fun g0 => ?_⟩
  simp at g0
  refine callsTo Try.cal47 (eachWithin_c who c _ _ _ _ hw' (Nat.le_trans hn2 (by decide))) ?_
  simp -dsimp -implicitDefEqProofs [hws]
  refine ⟨fun g => GC.eq ?_, fun g1 => ?_⟩
  · have : (who.all (inB · 0 ((ss.length : Int) - 1)) && decide (who.length = js.length)) = false := by
      cases hx : who.all (inB · 0 ((ss.length : Int) - 1)) with
      | false => rfl
      | true =>
        rw [hx] at g
        simp at g ⊢
        omega
    simp only [whoC, whoI, g0, this]; rfl
  have g1' : who.all (inB · 0 ((ss.length : Int) - 1)) = true ∧ who.length = js.length := by
    cases hx : who.all (inB · 0 ((ss.length : Int) - 1)) with
    | false => rw [hx] at g1; simp at g1
    | true => rw [hx] at g1; simp at g1; exact ⟨rfl, by omega⟩
  obtain ⟨hok, hle⟩ := g1'
  refine loopN js.length (fun k σ m1 => m <+: m1 ∧ (σ 1 = some (.slice b ss.length ss.length) ∧ σ 2 = some (.slice c who.length who.length) ∧ σ 21 = some (.slice a js.length js.length) ∧ σ 22 = some (.int .i64 js.length) ∧ σ 23 = some (.int .i64 k)) ∧ (List.range k).all (clashAt js ss who) = true) ⟨pre_refl m, by simp, by simp⟩ ?_
  rintro i σ1 m1 hi ⟨hp, ⟨t1, t2, t21, t22, t23⟩, hok1⟩
  by_cases hlj : i < js.length
  · have hli : i < who.length := by omega
    obtain ⟨i1, l1⟩ := who_ix hok hli
    obtain ⟨id, off, o, rfl, hm, hkd, hsz, hc⟩ := hw'.at_ hli
    rw [i1] at hc
    obtain ⟨ids, offs, os, rfl, hms, hkds, hszs, hcs⟩ := hs.at_ l1
    obtain ⟨idj, offj, oj, rfl, hmj, hkdj, hszj, hlj', hrowj, hcj0, hcj1⟩ := R2.at_ hr hlj
    have hw : IntKind.i64.wrap ((i : Int) + 1) = i + 1 := wrapI (by omega) (by omega)
    have e1 := prefix_get hp hm
    have e2 := prefix_get hp hms
    have e3 := prefix_get hp hmj
    simp -dsimp -implicitDefEqProofs [hws, t1, t2, t21, t22, t23, hli, hlj, l1, withO_of e1, withO_of e2, withO_of e3, fun l => withO_of (get_old (l := l) e1), fun l => withO_of (get_old (l := l) e2), fun l => withO_of (get_old (l := l) e3), hkd, hsz, withC_of hc, hkds, hszs, withC_of hcs, hkdj, hszj, hlj', hrowj, v2, hw]
    refine ⟨fun g' => GC.dropP (pre_app hp _) ?_ rfl, fun g' => next_ hlj ⟨pre_app hp _, by simp [t1, t2, t21, t22, hw], allTo_succ hok1 ?_⟩⟩
    · have : clashAt js ss who i = false := by simp only [clashAt, jobAt_eq hlj, getI l1]; simpa using g'
      simp only [whoC, whoI, g0, hok, allTo_false hlj this]; simp [hle]
    · simp only [clashAt, jobAt_eq hlj, getI l1]; simpa using g'
  · simp -dsimp -implicitDefEqProofs [t1, t2, t21, t22, t23, hlj]
    obtain rfl : i = js.length := by omega
    exact GC.dropP hp (by simp only [whoC, whoI, g0, hok, hok1]; simp [hle]) rfl

/-! ### Hours -/
def loadsTo (js : List I2) (n : Nat) (who : List Int) : Nat → List Int
  | 0 => List.replicate n 0
  | k + 1 => (loadsTo js n who k).set (ixAt who k) (w64 ((loadsTo js n who k).getD (ixAt who k) 0 + (jobAt js k).1))
theorem loadsTo_length (js : List I2) (n : Nat) (who : List Int) : ∀ k, (loadsTo js n who k).length = n
  | 0 => by simp [loadsTo]
  | k + 1 => by simp [loadsTo, loadsTo_length js n who k]
theorem loadsTo_bound {js : List I2} (hj : js.all jobB = true) (n : Nat) (who : List Int) : ∀ k, k ≤ js.length → k ≤ 1000000 → ∀ x ∈ loadsTo js n who k, 0 ≤ x ∧ x ≤ 100 * k
  | 0, _, _ => fun x hx => by simp [loadsTo] at hx; omega
  | k + 1, hk, hk' => fun x hx => by
    have ih := loadsTo_bound hj n who k (by omega) (by omega)
    have hjk := List.all_eq_true.1 hj _ (List.getElem_mem (show k < js.length by omega))
    simp only [jobB, inB, Bool.and_eq_true, decide_eq_true_eq] at hjk
    simp only [loadsTo] at hx
    rcases List.mem_or_eq_of_mem_set hx with hx | hx
    · have := ih x hx; omega
    · rw [hx, jobAt_eq (show k < js.length by omega)]
      have hg : 0 ≤ (loadsTo js n who k).getD (ixAt who k) 0 ∧ (loadsTo js n who k).getD (ixAt who k) 0 ≤ 100 * k := by
        by_cases hl : ixAt who k < (loadsTo js n who k).length
        · rw [getI hl]; exact ih _ (List.getElem_mem hl)
        · rw [List.getD_eq_getElem?_getD, List.getElem?_eq_none (by omega)]; simp; omega
      unfold w64
      rw [wrapI (by omega) (by omega)]
      omega
theorem ints_set (xs : List Int) (i : Nat) (x : Int) : (xs.map (Value.int .i64)).set i (.int .i64 x) = (xs.set i x).map (Value.int .i64) := by rw [List.map_set]
theorem ints_get {xs : List Int} {i : Nat} (h : i < xs.length) : (xs.map (Value.int .i64))[i]? = some (.int .i64 xs[i]) := by simp [h]
def loadsL (js : List I2) (ss who : List Int) : List Int := loadsTo js ss.length who js.length
theorem whoC_zero {js : List I2} {ss who : List Int} (h : whoC js ss who = 0) : jobsB js ss = true ∧ who.all (inB · 0 ((ss.length : Int) - 1)) = true ∧ who.length = js.length := by
  unfold whoC at h
  split at h
  · rename_i g
    unfold whoI at h
    split at h
    · rename_i g'
      simp only [Bool.and_eq_true, decide_eq_true_eq] at g'
      exact ⟨g, g'.1, g'.2⟩
    · omega
  · omega
theorem l20Loads_c (js : List I2) (ss who : List Int) (a b c : Option Addr) (m : Mem) (hr : RdG v2 2 m a js) (hw' : RdI m c who) (hn : js.length ≤ 1048576) (hn' : ss.length ≤ 1048576) (hz : whoC js ss who = 0) :
    ACalls Try.prog 55 [.slice a js.length js.length, .slice b ss.length ss.length, .slice c who.length who.length] m (.slice (some ⟨m.length, 0, none⟩) ss.length ss.length) (m ++ [⟨(loadsL js ss who).map (Value.int .i64), 2, 1, 1⟩]) := by
  obtain ⟨_, hok, hle⟩ := whoC_zero hz
  refine acalls_of_vc Try.func55 rfl Try.fol (by kernel_rfl) ?_
  simp only [Try.f55]
  simp -dsimp -implicitDefEqProofs
  refine need_intro (by omega) ?_
  refine loopN who.length (fun k σ m' => m' = m ++ [⟨(loadsTo js ss.length who k).map (Value.int .i64), 2, 1, 1⟩] ∧ σ 0 = some (.slice a js.length js.length) ∧ σ 2 = some (.slice c who.length who.length) ∧ σ 7 = some (.slice (some ⟨m.length, 0, none⟩) ss.length ss.length) ∧ σ 8 = some (.int .i64 k))
    ⟨by simp [loadsTo], by simp⟩ ?_
  rintro k σ m' hk ⟨rfl, s0, s2, s7, s8⟩
  by_cases hlt : k < who.length
  · have hlj : k < js.length := by omega
    obtain ⟨i1, l1⟩ := who_ix hok hlt
    obtain ⟨id, off, o, rfl, hm, hkd, hsz, hc⟩ := hw'.at_ hlt
    rw [i1] at hc
    obtain ⟨idj, offj, oj, rfl, hmj, hkdj, hszj, hlj', hrowj, hcj0, hcj1⟩ := R2.at_ hr hlj
    have hll := loadsTo_length js ss.length who k
    have hcl := ints_get (xs := loadsTo js ss.length who k) (i := ixAt who k) (by omega)
    have hw : IntKind.i64.wrap ((k : Int) + 1) = k + 1 := wrapI (by omega) (by omega)
    simp -dsimp -implicitDefEqProofs [s0, s2, s7, s8, hlt, hlj, l1, fun l => withO_of (get_old (l := l) hm), hkd, hsz, withC_of hc, fun l => withO_of (get_old (l := l) hmj), hkdj, hszj, withC_of hcj0, withC_of hcl, hw, hll]
    refine need_intro (by omega) ?_
    refine need_intro (.inr (by kernel_rfl)) ?_
    refine next_ hlt ⟨?_, by simp [s0, s2, s7, hw]⟩
    rw [ints_set, loadsTo, jobAt_eq hlj, getI (xs := loadsTo js ss.length who k) (by omega)]
  · simp -dsimp -implicitDefEqProofs [s0, s2, s7, s8, hlt]
    obtain rfl : k = who.length := by omega
    rw [loadsL, ← hle]
    exact GC.refl _ _ _
theorem loadsOf_c (js : List I2) (ss who : List Int) (a b c : Option Addr) (m : Mem) (hr : RdG v2 2 m a js) (hw' : RdI m c who) (hn : js.length ≤ 1048576) (hn' : ss.length ≤ 1048576) (hz : whoC js ss who = 0) :
    ACalls Try.prog 58 [.slice a js.length js.length, .slice b ss.length ss.length, .slice c who.length who.length] m (.slice (some ⟨m.length, 0, none⟩) ss.length ss.length) (m ++ [⟨(loadsL js ss who).map (Value.int .i64), 2, 1, 1⟩]) := by
  obtain ⟨_, hok, hle⟩ := whoC_zero hz
  refine acalls_of_vc Try.func58 rfl Try.fol (by kernel_rfl) ?_
  simp only [Try.f58]
  simp -dsimp -implicitDefEqProofs
  refine need_intro (by omega) ?_
  refine loopN js.length (fun k σ m' => m <+: m' ∧ m'[m.length]? = some ⟨(loadsTo js ss.length who k).map (Value.int .i64), 2, 1, 1⟩ ∧ σ 2 = some (.slice c who.length who.length) ∧ σ 7 = some (.slice (some ⟨m.length, 0, none⟩) ss.length ss.length) ∧ σ 13 = some (.slice a js.length js.length) ∧ σ 14 = some (.int .i64 js.length) ∧ σ 15 = some (.int .i64 k))
    ⟨pre_app (pre_refl m) _, by simp [loadsTo], by simp⟩ ?_
  rintro k σ m' hk ⟨hp, ho, s2, s7, s13, s14, s15⟩
  by_cases hlj : k < js.length
  · have hlt : k < who.length := by omega
    obtain ⟨i1, l1⟩ := who_ix hok hlt
    obtain ⟨id, off, o, rfl, hm, hkd, hsz, hc⟩ := hw'.at_ hlt
    rw [i1] at hc
    obtain ⟨idj, offj, oj, rfl, hmj, hkdj, hszj, hlj', hrowj, hcj0, hcj1⟩ := R2.at_ hr hlj
    have hll := loadsTo_length js ss.length who k
    have hcl := ints_get (xs := loadsTo js ss.length who k) (i := ixAt who k) (by omega)
    have hw : IntKind.i64.wrap ((k : Int) + 1) = k + 1 := wrapI (by omega) (by omega)
    have e1 := prefix_get hp hm
    have e3 := prefix_get hp hmj
    have hml : m.length < m'.length := (List.getElem?_eq_some_iff.1 ho).1
    simp -dsimp -implicitDefEqProofs [s2, s7, s13, s14, s15, hlt, hlj, l1, withO_of e1, withO_of e3, fun l => withO_of (get_old (l := l) e1), fun l => withO_of (get_old (l := l) e3), fun l => withO_of (get_old (l := l) ho), hkd, hsz, withC_of hc, hkdj, hszj, hlj', hrowj, v2, withC_of hcl, hw, hll]
    refine need_intro (by omega) ?_
    refine need_intro (.inr (by kernel_rfl)) ?_
    refine next_ hlj ⟨pre_set (pre_app hp _) (Nat.le_refl _) _, ?_, by simp [s2, s7, s13, s14, hw]⟩
    rw [List.getElem?_set_self (by simp; omega), ints_set, loadsTo, jobAt_eq hlj, getI (xs := loadsTo js ss.length who k) (by omega)]
  · simp -dsimp -implicitDefEqProofs [s2, s7, s13, s14, s15, hlj]
    obtain rfl : k = js.length := by omega
    have hlen : (loadsL js ss who).length = ss.length := loadsTo_length _ _ _ _
    exact GC.keepSP (Fits.refl m) hp ho (Nat.le_refl _) rfl rfl (.inl rfl) rfl (ints_lit _)
end Go.Proofs.Ytaggfcnaedadaaa
