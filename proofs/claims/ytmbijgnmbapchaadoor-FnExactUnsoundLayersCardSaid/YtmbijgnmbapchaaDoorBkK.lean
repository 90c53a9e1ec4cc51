/-
  Baskets, part 11: loose stakes, sound weaves: the two ways. Conditions: none.
-/
import Derived.Test.YtmbijgnmbapchaaDoorBkJ
set_option linter.unusedSimpArgs false
set_option linter.unusedVariables false
set_option linter.unusedSectionVars false
namespace Go.Proofs.YtmbijgnmbapchaaDoor
open Go.Abs Go.RowKit Go.Law

theorem l06Loose_c (s : ByteArray) (st : Nat) (hs : strokeB s = true) (h' : st ≤ 1000) (m : Mem) :
    ACalls Tryd.prog 113 [.string s, .int .i64 st] m (.slice (some ⟨m.length, 0, none⟩) (looseTo s.data.toList st st).length (looseTo s.data.toList st st).length) (m ++ [⟨(looseTo s.data.toList st st).map (Value.int .i64), 2, 1, 2⟩]) := by
  have hz := stroke_size hs
  have hsz : s.size ≤ 1000 ∧ 1 ≤ s.size := ⟨by omega, hz.2⟩
  obtain ⟨L, hL⟩ : ∃ L, L = looseTo s.data.toList st := ⟨_, rfl⟩
  have hLl : ∀ k, (L k).length ≤ k := fun k => by rw [hL]; exact looseTo_length _ _ _
  have hL1 : ∀ k, bothL (stepL s.data.toList k st (againN s.size st)) = true → L (k + 1) = L k := fun k h => by rw [hL, looseTo_succ, bytes_size, if_pos h, List.append_nil]
  have hL2 : ∀ k, bothL (stepL s.data.toList k st (againN s.size st)) = false → L (k + 1) = L k ++ [(k : Int)] := fun k h => by rw [hL, looseTo_succ, bytes_size, if_neg (by rw [h]; decide)]
  have hL0 : L 0 = [] := by rw [hL]; rfl
  simp only [← hL]
  refine acalls_of_vc Tryd.func113 rfl Tryd.fol (by kernel_rfl) ?_
  simp only [Tryd.f113]
  simp -dsimp -implicitDefEqProofs
  refine loopN st (fun k σ m' => (m <+: m' ∧ ∃ id kd, m.length ≤ id ∧ (kd = 1 ∨ kd = 2) ∧ m'[id]? = some ⟨(L k).map (Value.int .i64), 2, 1, kd⟩ ∧ σ 5 = some (.slice (some ⟨id, 0, none⟩) (L k).length (L k).length)) ∧ σ 0 = some (.string s) ∧ σ 1 = some (.int .i64 st) ∧ σ 6 = some (.int .i64 k))
    ⟨⟨pre_app (pre_refl m) _, m.length, 1, Nat.le_refl _, .inl rfl, by simp [hL0], by simp [hL0]⟩, by simp, by simp, by simp⟩ ?_
  rintro k σ m' hk ⟨⟨hp, id, kd, hid, hkd, ho, s5⟩, s0, s1, s6⟩
  have hlk := hLl k
  have hml := hp.length_le
  by_cases hlt : k < st
  · have hltI : (k : Int) < (st : Int) := by omega
    have hw : IntKind.i64.wrap ((k : Int) + 1) = (k : Int) + 1 := wrapI (by omega) (by omega)
    obtain ⟨x, hx⟩ : ∃ x : ByteArray, x = ⟨(stepL s.data.toList k st (againN s.size st)).toArray⟩ := ⟨_, rfl⟩
    have hxl : x.data.toList = stepL s.data.toList k st (againN s.size st) := by rw [hx]
    have hxs : x.size = againN s.size st := by rw [← bytes_size, hxl, stepL_length]
    have hx1 : x.size ≤ 1000 ∧ 1 ≤ x.size := by rw [hxs]; exact ⟨againN_le hsz.1, againN_pos hsz.2⟩
    have e1 := fun m => l06Stack_c s st k hsz ⟨h', by omega⟩ m
    simp only [← hx] at e1
    have e2 := fun m => l06Run_c x hx1 m
    rw [hxl] at e2
    cases hb : bothL (stepL s.data.toList k st (againN s.size st))
    · have hc : (((runS (stepL s.data.toList k st (againN s.size st)) : Nat) : Int) == 0) = true := by rw [(stack_run hs st k).symm.mp hb]; rfl
      simp -dsimp -implicitDefEqProofs [s0, s1, s5, s6, hlt, hltI, hw, hc]
      refine callsTo Tryd.cal136 (e1 _) ?_
      simp -dsimp -implicitDefEqProofs [s0, s1, s5, s6, hlt, hltI, hw, hc]
      refine callsTo Tryd.cal112 (e2 _) ?_
      simp -dsimp -implicitDefEqProofs [s0, s1, s5, s6, hlt, hltI, hw, hc]
      refine appTo_grow (n := (L k).length) (c := 1) (e := 2) (sz := 1) (by_ := 8) (z := .int .i64 0) (by kernel_rfl) (by kernel_rfl) ⟨by decide, rfl⟩ (get_old ho) (by simp; omega) ⟨rfl, rfl⟩ (by simp) (by omega) (Src.obj (o := ⟨[.int .i64 k], 2, 1, 1⟩) (by simp) (by simp) rfl rfl) ?_
      intro m2 id2 gr
      simp -dsimp -implicitDefEqProofs [s0, s1, s5, s6, hlt, hltI, hw, hc]
      have hat := gr.at_
      simp at hat
      exact next_ hlt ⟨⟨gr.pre _ (pre_app hp _) hid, id2, 2, by omega, .inr rfl, by rw [hL2 k hb]; simpa using gr.new, by rw [hL2 k hb]; simp⟩, by simp [s0], by simp [s1], by simp [s6, hw]⟩
    · have hc : (((runS (stepL s.data.toList k st (againN s.size st)) : Nat) : Int) == 0) = false := by
        have := (run_both hb).2
        simp; omega
      simp -dsimp -implicitDefEqProofs [s0, s1, s5, s6, hlt, hltI, hw, hc]
      refine callsTo Tryd.cal136 (e1 _) ?_
      simp -dsimp -implicitDefEqProofs [s0, s1, s5, s6, hlt, hltI, hw, hc]
      refine callsTo Tryd.cal112 (e2 _) ?_
      simp -dsimp -implicitDefEqProofs [s0, s1, s5, s6, hlt, hltI, hw, hc]
      exact next_ hlt ⟨⟨hp, id, kd, hid, hkd, by rw [hL1 k hb]; exact ho, by rw [hL1 k hb]; simp [s5]⟩, by simp [s0], by simp [s1], by simp [s6, hw]⟩
  · obtain rfl : k = st := by omega
    simp -dsimp -implicitDefEqProofs [s0, s1, s5, s6]
    exact GC.keepSP (m' := m) (o2 := ⟨(L k).map (Value.int .i64), 2, 1, 2⟩) (Fits.refl m) hp ho hid rfl rfl (by simp; omega) rfl (by simp [litB])
theorem looseStakes_c (s : ByteArray) (st : Nat) (hs : strokeB s = true) (h' : st ≤ 1000) (m : Mem) :
    ACalls Tryd.prog 85 [.string s, .int .i64 st] m (.slice (some ⟨m.length, 0, none⟩) (looseTo s.data.toList st st).length (looseTo s.data.toList st st).length) (m ++ [⟨(looseTo s.data.toList st st).map (Value.int .i64), 2, 1, 2⟩]) := by
  have hz := stroke_size hs
  have hsz : s.size ≤ 1000 ∧ 1 ≤ s.size := ⟨by omega, hz.2⟩
  obtain ⟨L, hL⟩ : ∃ L, L = looseTo s.data.toList st := ⟨_, rfl⟩
  have hLl : ∀ k, (L k).length ≤ k := fun k => by rw [hL]; exact looseTo_length _ _ _
  have hL1 : ∀ k, bothL (stepL s.data.toList k st (againN s.size st)) = true → L (k + 1) = L k := fun k h => by rw [hL, looseTo_succ, bytes_size, if_pos h, List.append_nil]
  have hL2 : ∀ k, bothL (stepL s.data.toList k st (againN s.size st)) = false → L (k + 1) = L k ++ [(k : Int)] := fun k h => by rw [hL, looseTo_succ, bytes_size, if_neg (by rw [h]; decide)]
  have hL0 : L 0 = [] := by rw [hL]; rfl
  simp only [← hL]
  refine acalls_of_vc Tryd.func85 rfl Tryd.fol (by kernel_rfl) ?_
  simp only [Tryd.f85]
  simp -dsimp -implicitDefEqProofs
  refine loopN st (fun k σ m' => (m <+: m' ∧ ∃ id kd, m.length ≤ id ∧ (kd = 1 ∨ kd = 2) ∧ m'[id]? = some ⟨(L k).map (Value.int .i64), 2, 1, kd⟩ ∧ σ 5 = some (.slice (some ⟨id, 0, none⟩) (L k).length (L k).length)) ∧ σ 0 = some (.string s) ∧ σ 1 = some (.int .i64 st) ∧ σ 8 = some (.int .i64 st) ∧ σ 9 = some (.int .i64 k))
    ⟨⟨pre_app (pre_refl m) _, m.length, 1, Nat.le_refl _, .inl rfl, by simp [hL0], by simp [hL0]⟩, by simp, by simp, by simp, by simp⟩ ?_
  rintro k σ m' hk ⟨⟨hp, id, kd, hid, hkd, ho, s5⟩, s0, s1, s8, s9⟩
  have hlk := hLl k
  have hml := hp.length_le
  by_cases hlt : k < st
  · have hltI : (k : Int) < (st : Int) := by omega
    have hw : IntKind.i64.wrap ((k : Int) + 1) = (k : Int) + 1 := wrapI (by omega) (by omega)
    obtain ⟨x, hx⟩ : ∃ x : ByteArray, x = ⟨(stepL s.data.toList k st (againN s.size st)).toArray⟩ := ⟨_, rfl⟩
    have hxl : x.data.toList = stepL s.data.toList k st (againN s.size st) := by rw [hx]
    have hxs : x.size = againN s.size st := by rw [← bytes_size, hxl, stepL_length]
    have hx1 : x.size ≤ 1000 ∧ 1 ≤ x.size := by rw [hxs]; exact ⟨againN_le hsz.1, againN_pos hsz.2⟩
    have e0 := fun m => beginsAgainI_c s st hsz h' m
    have e1 := fun m => along_c s k st (againN s.size st) hsz ⟨by omega, h', againN_le hsz.1⟩ m
    simp only [← hx] at e1
    have e2 := fun m => bothKinds_c x m
    rw [hxl] at e2
    cases hb : bothL (stepL s.data.toList k st (againN s.size st))
    · have hc := hb
      simp -dsimp -implicitDefEqProofs [s0, s1, s5, s8, s9, hlt, hltI, hw, hc]
      refine callsTo Tryd.cal86 (e0 _) ?_
      simp -dsimp -implicitDefEqProofs [s0, s1, s5, s8, s9, hlt, hltI, hw, hc]
      refine callsTo Tryd.cal89 (e1 _) ?_
      simp -dsimp -implicitDefEqProofs [s0, s1, s5, s8, s9, hlt, hltI, hw, hc]
      refine callsTo Tryd.cal83 (e2 _) ?_
      simp -dsimp -implicitDefEqProofs [s0, s1, s5, s8, s9, hlt, hltI, hw, hc]
      refine appTo_grow (n := (L k).length) (c := 1) (e := 2) (sz := 1) (by_ := 8) (z := .int .i64 0) (by kernel_rfl) (by kernel_rfl) ⟨by decide, rfl⟩ (get_old ho) (by simp; omega) ⟨rfl, rfl⟩ (by simp) (by omega) (Src.obj (o := ⟨[.int .i64 k], 2, 1, 1⟩) (by simp) (by simp) rfl rfl) ?_
      intro m2 id2 gr
      simp -dsimp -implicitDefEqProofs [s0, s1, s5, s8, s9, hlt, hltI, hw, hc]
      have hat := gr.at_
      simp at hat
      exact next_ hlt ⟨⟨gr.pre _ (pre_app hp _) hid, id2, 2, by omega, .inr rfl, by rw [hL2 k hb]; simpa using gr.new, by rw [hL2 k hb]; simp⟩, by simp [s0], by simp [s1], by simp [s8], by simp [hw]⟩
    · have hc := hb
      simp -dsimp -implicitDefEqProofs [s0, s1, s5, s8, s9, hlt, hltI, hw, hc]
      refine callsTo Tryd.cal86 (e0 _) ?_
      simp -dsimp -implicitDefEqProofs [s0, s1, s5, s8, s9, hlt, hltI, hw, hc]
      refine callsTo Tryd.cal89 (e1 _) ?_
      simp -dsimp -implicitDefEqProofs [s0, s1, s5, s8, s9, hlt, hltI, hw, hc]
      refine callsTo Tryd.cal83 (e2 _) ?_
      simp -dsimp -implicitDefEqProofs [s0, s1, s5, s8, s9, hlt, hltI, hw, hc]
      exact next_ hlt ⟨⟨hp, id, kd, hid, hkd, by rw [hL1 k hb]; exact ho, by rw [hL1 k hb]; simp [s5]⟩, by simp [s0], by simp [s1], by simp [s8], by simp [hw]⟩
  · obtain rfl : k = st := by omega
    simp -dsimp -implicitDefEqProofs [s0, s1, s5, s8, s9]
    exact GC.keepSP (m' := m) (o2 := ⟨(L k).map (Value.int .i64), 2, 1, 2⟩) (Fits.refl m) hp ho hid rfl rfl (by simp; omega) rfl (by simp [litB])
theorem lenZ (l : List Int) : ((l.length : Int) == 0) = decide (l.length = 0) := by
  by_cases h : l.length = 0
  · simp [h]
  · rw [decide_eq_false h]; simpa using h
/-- Whether a weave is sound. -/
def soundB (s : ByteArray) (st : Nat) (fl : Int) : Bool := bothL s.data.toList && decide ((runS s.data.toList : Int) ≤ fl) && decide ((looseTo s.data.toList st st).length = 0)
theorem l06Sound_c (s : ByteArray) (st : Nat) (fl : Int) (hs : strokeB s = true) (h' : st ≤ 1000) (m : Mem) : ACalls Tryd.prog 63 [.string s, .int .i64 st, .int .i64 fl] m (.bool (soundB s st fl)) m := by
  have hz := stroke_size hs
  have hpos : 0 < s.data.toList.length := by rw [bytes_size]; exact hz.2
  have hall : s.data.toList.all (([70, 66] : List UInt8).contains ·) = true := by
    simp only [strokeB, wordB, Bool.and_eq_true, decide_eq_true_eq] at hs
    exact hs.2
  obtain ⟨r, hr⟩ : ∃ r, r = runS s.data.toList := ⟨_, rfl⟩
  have e1 := fun m => l06Run_c s ⟨by omega, hz.2⟩ m
  simp only [← hr] at e1
  refine acalls_of_vc Tryd.func63 rfl Tryd.fol (by kernel_rfl) ?_
  simp only [Tryd.f63]
  simp -dsimp -implicitDefEqProofs
  refine callsTo Tryd.cal112 (e1 _) ?_
  simp -dsimp -implicitDefEqProofs
  cases hb : bothL s.data.toList
  · have h0 : r = 0 := hr.trans (run_same hpos hall hb)
    subst h0
    simp -dsimp -implicitDefEqProofs
    exact GC.eq (by simp [soundB, hb])
  · have h0 : 0 < r := by have := (run_both hb).2; omega
    by_cases hf : (r : Int) ≤ fl
    · simp -dsimp -implicitDefEqProofs [h0, hf]
      refine callsTo Tryd.cal113 (l06Loose_c s st hs h' _) ?_
      simp -dsimp -implicitDefEqProofs [h0, hf]
      exact GC.dropEq (by rw [soundB, hb, ← hr, decide_eq_true hf, ← lenZ]; rfl) rfl
    · simp -dsimp -implicitDefEqProofs [h0, hf]
      exact GC.eq (by simp [soundB, hb, ← hr, hf])
theorem isSoundI_c (s : ByteArray) (st : Nat) (fl : Int) (hs : strokeB s = true) (h' : st ≤ 1000) (m : Mem) : ACalls Tryd.prog 65 [.string s, .int .i64 st, .int .i64 fl] m (.bool (soundB s st fl)) m := by
  have hz := stroke_size hs
  refine acalls_of_vc Tryd.func65 rfl Tryd.fol (by kernel_rfl) ?_
  simp only [Tryd.f65]
  simp -dsimp -implicitDefEqProofs
  refine callsTo Tryd.cal83 (bothKinds_c s _) ?_
  simp -dsimp -implicitDefEqProofs
  cases hb : bothL s.data.toList
  · simp -dsimp -implicitDefEqProofs
    exact GC.eq (by simp [soundB, hb])
  · obtain ⟨r, hr⟩ : ∃ r, r = runS s.data.toList := ⟨_, rfl⟩
    have e1 := fun m => longestRun_c s ⟨by omega, hz.2⟩ m
    rw [(run_both hb).1] at e1
    simp only [← hr] at e1
    simp -dsimp -implicitDefEqProofs
    refine callsTo Tryd.cal84 (e1 _) ?_
    simp -dsimp -implicitDefEqProofs
    by_cases hf : (r : Int) ≤ fl
    · simp -dsimp -implicitDefEqProofs [hf]
      refine callsTo Tryd.cal85 (looseStakes_c s st hs h' _) ?_
      simp -dsimp -implicitDefEqProofs [hf]
      exact GC.dropEq (by rw [soundB, hb, ← hr, decide_eq_true hf, ← lenZ]; rfl) rfl
    · simp -dsimp -implicitDefEqProofs [hf]
      exact GC.eq (by simp [soundB, hb, ← hr, hf])
end Go.Proofs.YtmbijgnmbapchaaDoor
