/-
  Markets, part 11: the stock behind some markets, its code. Conditions: none.
-/
import Derived.Test.YtciekhcdkfhcoaaMkJ
set_option linter.unusedSimpArgs false
set_option linter.unusedVariables false
set_option linter.unusedSectionVars false
namespace Go.Proofs.Ytciekhcdkfhcoaa
open Go.Abs Go.RowKit

def codeS (n : Int) (xs : List Mk) (ys zs : List Int) : Int := if codeM n xs ys = 0 then (if risesB zs xs.length then 0 else 2) else codeM n xs ys
def stockO (n : Int) (xs : List Mk) (ys zs : List Int) : Option (List Int) := if codeS n xs ys zs = 0 then some (goTo xs ys zs zs.length).1 else none
theorem risesB_ix {zs : List Int} {n : Int} (h : risesB zs n = true) : ∀ z ∈ zs, 0 ≤ z ∧ z < n := fun z hz => by
  obtain ⟨i, hi, rfl⟩ := List.getElem_of_mem hz
  have := List.all_eq_true.1 h i (by simpa using hi)
  simp only [riseAt, Bool.and_eq_true, inB, decide_eq_true_eq, List.getD_eq_getElem?_getD, List.getElem?_eq_getElem hi, Option.getD_some] at this
  omega
theorem codeS_zero {n : Int} {xs : List Mk} {ys zs : List Int} (h : codeS n xs ys zs = 0) : codeM n xs ys = 0 ∧ risesB zs xs.length = true ∧ GoOK xs ys zs := by
  unfold codeS at h
  split at h
  · rename_i h1
    split at h
    · rename_i h2
      obtain ⟨h3, h4⟩ := codeM_zero h1
      refine ⟨h1, h2, risesB_ix h2, fun x hx => ?_⟩
      obtain ⟨i, hi, rfl⟩ := List.getElem_of_mem hx
      have := mksB_len h3 hi
      omega
    · omega
  · rename_i h1; exact absurd h h1
theorem stockO_length {n : Int} {xs : List Mk} {ys zs us : List Int} (h : stockO n xs ys zs = some us) : us.length = ys.length := by
  unfold stockO at h
  split at h
  · injection h with h; subst h; exact goTo_length _ _ _ _
  · cases h
theorem specStock_c (n : Int) (xs : List Mk) (ys zs : List Int) (a b c : Option Addr) (m : Mem) (hr : RdM m a xs) (hs : RdI m b ys) (hz : RdI m c zs) (hn : xs.length ≤ 1048576) (hn' : ∀ x ∈ xs, x.2.2.1.length ≤ 1048576 ∧ x.2.2.2.length ≤ 1048576) (hn2 : ys.length ≤ 1048576) (hn3 : zs.length ≤ 1048576) :
    ACalls Try.prog 37 [.int .i64 n, .slice a xs.length xs.length, .slice b ys.length ys.length, .slice c zs.length zs.length] m (.tuple #[optV m.length (stockO n xs ys zs), .int .i64 (codeS n xs ys zs)]) (m ++ optM 2 (stockO n xs ys zs)) := by
  have hw : IntKind.i64.wrap ((xs.length : Int) - 1) = xs.length - 1 := wrapI (by omega) (by omega)
  refine acalls_of_vc Try.func37 rfl Try.fol (by kernel_rfl) ?_
  simp only [Try.f37]
  simp -dsimp -implicitDefEqProofs [hw]
  refine callsTo Try.cal58 (l21Code_c n xs ys a b _ hr hs hn hn' hn2) ?_
  simp -dsimp -implicitDefEqProofs [hw]
  refine sp2 (fun g => ?_) (fun g => ?_)
  · simp at g
    refine callsTo Try.cal61 (l00Rises_c zs xs.length c _ hz hn3) ?_
    simp -dsimp -implicitDefEqProofs [hw]
    refine sp2 (fun g2 => ?_) (fun g2 => ?_)
    · simp at g2
      simp [stockO, codeS, g, g2, optV, optM]
      exact GC.refl _ _ _
    · simp at g2
      have h0 : codeS n xs ys zs = 0 := by simp [codeS, g, g2]
      obtain ⟨_, _, hok⟩ := codeS_zero h0
      simp -dsimp -implicitDefEqProofs [g]
      refine callsTo Try.cal62 (l21Run_c xs ys zs a b c _ hok hr hs hz hn hn2 hn3) ?_
      simp -dsimp -implicitDefEqProofs [g]
      simp only [stockO, h0, if_true, optV, optM, goTo_length]
      exact GC.refl _ _ _
  · simp at g
    refine sp2 (fun _ => ?_) (fun h => absurd h (by simp [g]))
    simp [stockO, codeS, g, optV, optM]
    exact GC.refl _ _ _
theorem implStock_c (n : Int) (xs : List Mk) (ys zs : List Int) (a b c : Option Addr) (m : Mem) (hr : RdM m a xs) (hs : RdI m b ys) (hz : RdI m c zs) (hn : xs.length ≤ 1048576) (hn' : ∀ x ∈ xs, x.2.2.1.length ≤ 1048576 ∧ x.2.2.2.length ≤ 1048576) (hn2 : ys.length ≤ 1048576) (hn3 : zs.length ≤ 1048576) :
    ACalls Try.prog 38 [.int .i64 n, .slice a xs.length xs.length, .slice b ys.length ys.length, .slice c zs.length zs.length] m (.tuple #[optV m.length (stockO n xs ys zs), .int .i64 (codeS n xs ys zs)]) (m ++ optM 2 (stockO n xs ys zs)) := by
  refine acalls_of_vc Try.func38 rfl Try.fol (by kernel_rfl) ?_
  simp only [Try.f38]
  simp -dsimp -implicitDefEqProofs
  refine callsTo Try.cal59 (marketsCode_c n xs ys a b _ hr hs hn hn' hn2) ?_
  simp -dsimp -implicitDefEqProofs
  refine sp2 (fun g => ?_) (fun g => ?_)
  · simp at g
    simp [stockO, codeS, g, optV, optM]
    exact GC.refl _ _ _
  simp at g
  refine callsTo Try.cal63 (indices_c zs xs.length c _ hz hn3 (by omega)) ?_
  simp -dsimp -implicitDefEqProofs
  refine sp2 (fun g2 => ?_) (fun g2 => ?_)
  · simp at g2
    simp [stockO, codeS, g, g2, optV, optM]
    exact GC.refl _ _ _
  simp at g2
  have h0 : codeS n xs ys zs = 0 := by simp [codeS, g, g2]
  obtain ⟨_, _, hok⟩ := codeS_zero h0
  refine callsTo Try.cal64 (goTo_c xs ys zs a b c _ hok hr hs hz hn hn2 hn3) ?_
  simp -dsimp -implicitDefEqProofs
  simp only [stockO, h0, if_true, optV, optM, goTo_length]
  exact GC.refl _ _ _
end Go.Proofs.Ytciekhcdkfhcoaa
