/-
  Jobs, part 3: hours, the end of work, idle hours. Conditions: none.
-/
import Derived.Test.YtaggfcnaedadaaaJobB
set_option linter.unusedSimpArgs false
set_option linter.unusedVariables false
set_option linter.unusedSectionVars false
namespace Go.Proofs.Ytaggfcnaedadaaa
open Go.Abs Go.RowKit

def loadsO (js : List I2) (ss who : List Int) : Option (List Int) := if whoC js ss who = 0 then some (loadsL js ss who) else none
theorem loadsL_length (js : List I2) (ss who : List Int) : (loadsL js ss who).length = ss.length := loadsTo_length _ _ _ _
theorem loadsO_length {js : List I2} {ss who zs : List Int} (h : loadsO js ss who = some zs) : zs.length ≤ ss.length := by
  unfold loadsO at h
  split at h
  · injection h with h; subst h; rw [loadsL_length]; exact Nat.le_refl _
  · cases h
theorem loadsL_nonneg {js : List I2} {ss who : List Int} (h : jobsB js ss = true) : ∀ x ∈ loadsL js ss who, 0 ≤ x ∧ x ≤ 700 := fun x hx => by
  obtain ⟨h1, _, h3, _⟩ := jobsB_parts h
  have := loadsTo_bound h1 ss.length who js.length (Nat.le_refl _) (by omega) x hx
  omega
/-- The greatest of some hours. -/
def endI (js : List I2) (ss who : List Int) : Int := maxTo (loadsL js ss who) 0
theorem maxTo_tail {xs : List Int} (h : ∀ x ∈ xs, 0 ≤ x) (hl : xs ≠ []) : ∃ y ys, xs = y :: ys ∧ maxTo ys y = maxTo xs 0 := by
  match xs, hl with
  | y :: ys, _ => exact ⟨y, ys, rfl, (maxTo_zero (h y (by simp))).symm⟩
section
variable (js : List I2) (ss who : List Int) (a b c : Option Addr) (m : Mem) (hr : RdG v2 2 m a js) (hs : RdI m b ss) (hw' : RdI m c who) (hn : js.length ≤ 1048576) (hn' : ss.length ≤ 1048576) (hn2 : who.length ≤ 1048576)
include hr hs hw' hn hn' hn2
theorem specLoads_c : ACalls Try.prog 32 [.slice a js.length js.length, .slice b ss.length ss.length, .slice c who.length who.length] m (.tuple #[optV m.length (loadsO js ss who), .int .i64 (whoC js ss who)]) (m ++ optM 2 (loadsO js ss who)) := by
  refine acalls_of_vc Try.func32 rfl Try.fol (by kernel_rfl) ?_
  simp only [Try.f32]
  simp -dsimp -implicitDefEqProofs
  refine callsTo Try.cal53 (l20Code_c js ss who a b c _ hr hs hw' hn hn' hn2) ?_
  simp -dsimp -implicitDefEqProofs
  refine ⟨fun g => ?_, fun g => ?_⟩
  · simp at g
    simp [loadsO, g, optV, optM]
    exact GC.refl _ _ _
  simp at g
  refine callsTo Try.cal55 (l20Loads_c js ss who a b c _ hr hw' hn hn' g) ?_
  simp -dsimp -implicitDefEqProofs
  simp only [loadsO, g, if_true, optV, optM, loadsL_length]
  exact GC.keepTP (o1 := ⟨_, _, 1, 1⟩) (Fits.refl m) (pre_app (pre_refl m) _) (by simp) (Nat.le_refl _) rfl rfl (.inr ⟨rfl, rfl⟩) rfl (ints_lit _) rfl
theorem implLoads_c : ACalls Try.prog 33 [.slice a js.length js.length, .slice b ss.length ss.length, .slice c who.length who.length] m (.tuple #[optV m.length (loadsO js ss who), .int .i64 (whoC js ss who)]) (m ++ optM 2 (loadsO js ss who)) := by
  refine acalls_of_vc Try.func33 rfl Try.fol (by kernel_rfl) ?_
  simp only [Try.f33]
  simp -dsimp -implicitDefEqProofs
  refine callsTo Try.cal56 (whoCode_c js ss who a b c _ hr hs hw' hn hn' hn2) ?_
  simp -dsimp -implicitDefEqProofs
  refine ⟨fun g => ?_, fun g => ?_⟩
  · simp at g
    simp [loadsO, g, optV, optM]
    exact GC.refl _ _ _
  simp at g
  refine callsTo Try.cal58 (loadsOf_c js ss who a b c _ hr hw' hn hn' g) ?_
  simp -dsimp -implicitDefEqProofs
  simp only [loadsO, g, if_true, optV, optM, loadsL_length]
  exact GC.keepTP (o1 := ⟨_, _, 1, 1⟩) (Fits.refl m) (pre_app (pre_refl m) _) (by simp) (Nat.le_refl _) rfl rfl (.inr ⟨rfl, rfl⟩) rfl (ints_lit _) rfl
omit hr hs hw' hn hn' hn2 in
theorem loads_rd (j : Mem) : RdI (m ++ ⟨(loadsL js ss who).map (Value.int .i64), 2, 1, 1⟩ :: j) (some ⟨m.length, 0, none⟩) (loadsL js ss who) := RdI.of_get (o := ⟨_, _, 1, 1⟩) (by simp; rfl) (by simp) rfl rfl
theorem specEnd_c : ACalls Try.prog 30 [.slice a js.length js.length, .slice b ss.length ss.length, .slice c who.length who.length] m (.tuple #[.int .i64 (if whoC js ss who = 0 then endI js ss who else 0), .int .i64 (whoC js ss who)]) m := by
  refine acalls_of_vc Try.func30 rfl Try.fol (by kernel_rfl) ?_
  simp only [Try.f30]
  simp -dsimp -implicitDefEqProofs
  refine callsTo Try.cal53 (l20Code_c js ss who a b c _ hr hs hw' hn hn' hn2) ?_
  simp -dsimp -implicitDefEqProofs
  refine ⟨fun g => GC.eq (by simp at g; simp [g]), fun g => ?_⟩
  simp at g
  refine callsTo Try.cal55 (l20Loads_c js ss who a b c _ hr hw' hn hn' g) ?_
  simp -dsimp -implicitDefEqProofs
  have h1 := l20End_c (loadsL js ss who) _ _ (loads_rd js ss who m []) (by rw [loadsL_length]; exact hn')
  rw [loadsL_length] at h1
  refine callsTo Try.cal54 h1 ?_
  simp -dsimp -implicitDefEqProofs
  exact GC.dropEq (by simp [g, endI]) rfl
theorem max_loads (g : jobsB js ss = true) (j : Mem) : ACalls Try.prog 57 [.slice (some ⟨m.length, 0, none⟩) ss.length ss.length] (m ++ ⟨(loadsL js ss who).map (Value.int .i64), 2, 1, 1⟩ :: j) (.int .i64 (endI js ss who)) (m ++ ⟨(loadsL js ss who).map (Value.int .i64), 2, 1, 1⟩ :: j) := by
  have hne : loadsL js ss who ≠ [] := by
    intro e
    have := loadsL_length js ss who
    rw [e] at this
    have := (jobsB_parts g).2.2.2.1
    simp at *; omega
  obtain ⟨y, ys, e, hmx⟩ := maxTo_tail (fun x hx => (loadsL_nonneg g x hx).1) hne
  have hl := loadsL_length js ss who
  have hrd : RdI (m ++ ⟨(loadsL js ss who).map (Value.int .i64), 2, 1, 1⟩ :: j) (some ⟨m.length, 0, none⟩) (y :: ys) := by rw [← e]; exact loads_rd js ss who m j
  rw [e] at hl
  have := max_c y ys _ _ hrd (by simp at hl; omega)
  simp at hl
  rw [hl, hmx] at this
  exact this
theorem implEnd_c : ACalls Try.prog 31 [.slice a js.length js.length, .slice b ss.length ss.length, .slice c who.length who.length] m (.tuple #[.int .i64 (if whoC js ss who = 0 then endI js ss who else 0), .int .i64 (whoC js ss who)]) m := by
  refine acalls_of_vc Try.func31 rfl Try.fol (by kernel_rfl) ?_
  simp only [Try.f31]
  simp -dsimp -implicitDefEqProofs
  refine callsTo Try.cal56 (whoCode_c js ss who a b c _ hr hs hw' hn hn' hn2) ?_
  simp -dsimp -implicitDefEqProofs
  refine ⟨fun g => GC.eq (by simp at g; simp [g]), fun g => ?_⟩
  simp at g
  refine callsTo Try.cal58 (loadsOf_c js ss who a b c _ hr hw' hn hn' g) ?_
  simp -dsimp -implicitDefEqProofs
  refine callsTo Try.cal57 (max_loads js ss who a b c m hr hs hw' hn hn' hn2 (whoC_zero g).1 []) ?_
  simp -dsimp -implicitDefEqProofs
  exact GC.dropEq (by simp [g]) rfl
def idleI (js : List I2) (ss who : List Int) : Int := w64 (w64 (endI js ss who * ss.length) - sumW (loadsL js ss who))
theorem specIdle_c : ACalls Try.prog 34 [.slice a js.length js.length, .slice b ss.length ss.length, .slice c who.length who.length] m (.tuple #[.int .i64 (if whoC js ss who = 0 then idleI js ss who else 0), .int .i64 (whoC js ss who)]) m := by
  have hws : IntKind.i64.wrap (ss.length : Int) = ss.length := wrapI (by omega) (by omega)
  refine acalls_of_vc Try.func34 rfl Try.fol (by kernel_rfl) ?_
  simp only [Try.f34]
  simp -dsimp -implicitDefEqProofs [hws]
  refine callsTo Try.cal53 (l20Code_c js ss who a b c _ hr hs hw' hn hn' hn2) ?_
  simp -dsimp -implicitDefEqProofs [hws]
  refine ⟨fun g => GC.eq (by simp at g; simp [g]), fun g => ?_⟩
  simp at g
  refine callsTo Try.cal55 (l20Loads_c js ss who a b c _ hr hw' hn hn' g) ?_
  simp -dsimp -implicitDefEqProofs [hws]
  have h1 := l20End_c (loadsL js ss who) _ _ (loads_rd js ss who m []) (by rw [loadsL_length]; exact hn')
  rw [loadsL_length] at h1
  refine callsTo Try.cal54 h1 ?_
  simp -dsimp -implicitDefEqProofs [hws]
  have h2 := l00Sum_c (loadsL js ss who) _ _ (loads_rd js ss who m []) (by rw [loadsL_length]; exact hn')
  rw [loadsL_length] at h2
  refine callsTo Try.cal59 h2 ?_
  simp -dsimp -implicitDefEqProofs [hws]
  exact GC.dropEq (by simp [g, idleI, endI]) rfl
theorem implIdle_c : ACalls Try.prog 35 [.slice a js.length js.length, .slice b ss.length ss.length, .slice c who.length who.length] m (.tuple #[.int .i64 (if whoC js ss who = 0 then idleI js ss who else 0), .int .i64 (whoC js ss who)]) m := by
  have hws : IntKind.i64.wrap (ss.length : Int) = ss.length := wrapI (by omega) (by omega)
  refine acalls_of_vc Try.func35 rfl Try.fol (by kernel_rfl) ?_
  simp only [Try.f35]
  simp -dsimp -implicitDefEqProofs [hws]
  refine callsTo Try.cal56 (whoCode_c js ss who a b c _ hr hs hw' hn hn' hn2) ?_
  simp -dsimp -implicitDefEqProofs [hws]
  refine ⟨fun g => GC.eq (by simp at g; simp [g]), fun g => ?_⟩
  simp at g
  refine callsTo Try.cal58 (loadsOf_c js ss who a b c _ hr hw' hn hn' g) ?_
  simp -dsimp -implicitDefEqProofs [hws]
  refine callsTo Try.cal57 (max_loads js ss who a b c m hr hs hw' hn hn' hn2 (whoC_zero g).1 []) ?_
  simp -dsimp -implicitDefEqProofs [hws]
  have h2 := sumOf_c (loadsL js ss who) _ _ (loads_rd js ss who m []) (by rw [loadsL_length]; exact hn')
  rw [loadsL_length] at h2
  refine callsTo Try.cal60 h2 ?_
  simp -dsimp -implicitDefEqProofs [hws]
  exact GC.dropEq (by simp [g, idleI]) rfl
end
end Go.Proofs.Ytaggfcnaedadaaa
