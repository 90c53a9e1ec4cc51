/-
  Baskets, part 23: baskets that are the same; plain facts for the law of layers. Conditions: none.
-/
import Derived.Test.YtmbijgnmbapchaaDoorBkU
import Derived.Test.YtmbijgnmbapchaaDoorBkT
set_option linter.unusedSimpArgs false
set_option linter.unusedVariables false
set_option linter.unusedSectionVars false
namespace Go.Proofs.YtmbijgnmbapchaaDoor
open Go.Abs Go.RowKit

theorem sameB_c (st : Int) (ls : List LyT) (b : ByteArray) (A A' : Option Addr) (m : Mem) (hr : RdG vl 2 m A ls) (hr' : RdG vl 2 m A' ls) (hn : ls.length ≤ 1048576) :
    ACalls Tryd.prog 35 [.agg (bkC st A ls.length b).toArray, .agg (bkC st A' ls.length b).toArray] m (.bool true) m := by
  obtain ⟨m1, hm1⟩ : ∃ m1 : Mem, m1 = m ++ [⟨bkC st A ls.length b, 29, 3, 1⟩, ⟨bkC st A' ls.length b, 29, 3, 1⟩] := ⟨_, rfl⟩
  have hm1' := hm1.symm
  have hp1 : m <+: m1 := by rw [hm1]; exact ⟨_, rfl⟩
  have t1 : m1[m.length]? = some ⟨bkC st A ls.length b, 29, 3, 1⟩ := by rw [hm1]; simp
  have t2 : m1[m.length + 1]? = some ⟨bkC st A' ls.length b, 29, 3, 1⟩ := by rw [hm1]; simp
  have hr1 := hr.pre hp1
  have hr2 := hr'.pre hp1
  simp only [bkC] at hm1' t1 t2
  refine acalls_of_vc Tryd.func35 rfl Tryd.fol (by kernel_rfl) ?_
  simp only [Tryd.f35, bkC]
  simp -dsimp -implicitDefEqProofs [hm1', withO_of t1, withO_of t2]
  refine loopN ls.length (fun k σ m' => m' = m1 ∧ σ 2 = some (.pointer (some ⟨m.length, 0, none⟩)) ∧ σ 3 = some (.pointer (some ⟨m.length + 1, 0, none⟩)) ∧ σ 5 = some (.int .i64 k)) ⟨rfl, by simp, by simp, by simp⟩ ?_
  rintro k σ m' hk ⟨hmm, s2, s3, s5⟩
  have hmm := hmm.symm
  subst hmm
  by_cases hlt : k < ls.length
  · obtain ⟨lid, loff, lo, rfl, hlm, hlk, hlsz, hll, hlrow, hlc0, hlc1⟩ := RL.at_ hr1 hlt
    obtain ⟨rid, roff, ro, rfl, hrm, hrk, hrsz, hrl, hrrow, hrc0, hrc1⟩ := RL.at_ hr2 hlt
    have hw : IntKind.i64.wrap ((k : Int) + 1) = k + 1 := wrapI (by omega) (by omega)
    simp -dsimp -implicitDefEqProofs [s2, s3, s5, hlt, withO_of t1, withO_of t2, withO_of hlm, hlk, hlsz, hll, hlrow, withO_of hrm, hrk, hrsz, hrl, hrrow, vl, hw, Abs.litsEq, Abs.litEq]
    exact next_ hlt ⟨rfl, by simp [s2], by simp [s3], by simp [hw]⟩
  · simp -dsimp -implicitDefEqProofs [s2, s3, s5, hlt, withO_of t1, withO_of t2]
    exact GC.dropP hp1 rfl rfl
theorem AtP.same {st : Int} {ls : List LyT} {b : ByteArray} {n : Int} {v w : Value} (h : AtP st ls b n v) (h' : AtP st ls b n w) : v = w := by
  have hmono : GoodL ls → ∀ i j : Nat, i ≤ j → j ≤ ls.length → sumR (ls.take i) ≤ sumR (ls.take j) := by
    intro hg i j hij
    induction j with
    | zero => intro _; have : i = 0 := by omega
              subst this; exact Int.le_refl _
    | succ j ih =>
      intro hj
      by_cases hij' : i = j + 1
      · subst hij'; exact Int.le_refl _
      · have := ih (by omega) (by omega)
        have h1 := sumR_succ (ls := ls) (k := j) (by omega)
        have h2 := (hg.2 _ (List.getElem_mem (show j < ls.length by omega))).2.1
        omega
  rcases h with ⟨h1, rfl⟩ | ⟨h1, h2, rfl⟩ | ⟨i, h1, h2, h3, h4, rfl⟩ <;> rcases h' with ⟨g1, rfl⟩ | ⟨g1, g2, rfl⟩ | ⟨j, g1, g2, g3, g4, rfl⟩
  · rfl
  · rw [h1] at g1; cases g1
  · rw [h1] at g1; cases g1
  · rw [h1] at g1; cases g1
  · rfl
  · have hm := hmono (okB_good h1).1
    have := hm 0 j (by omega) (by omega)
    have := hm (j + 1) ls.length (by omega) (Nat.le_refl _)
    rw [List.take_length] at this
    simp [sumR] at *
    omega
  · rw [h1] at g1; cases g1
  · have hm := hmono (okB_good h1).1
    have := hm 0 i (by omega) (by omega)
    have := hm (i + 1) ls.length (by omega) (Nat.le_refl _)
    rw [List.take_length] at this
    simp [sumR] at *
    omega
  · have hm := hmono (okB_good h1).1
    have e : i = j := by
      rcases Nat.lt_trichotomy i j with h | h | h
      · have := hm (i + 1) j (by omega) (by omega); omega
      · exact h
      · have := hm (j + 1) i (by omega) (by omega); omega
    rw [e]
/-- Strokes side by side differ among merged layers. -/
def Apart (ls : List LyT) : Prop := ∀ (i : Nat) (h : i + 1 < ls.length), (ls[i]'(by omega)).1 ≠ ls[i + 1].1
theorem Apart.snoc {a : List LyT} {q p : LyT} (h : Apart (a ++ [q])) (hn : q.1 ≠ p.1) : Apart (a ++ [q] ++ [p]) := by
  intro i hi
  simp at hi
  by_cases hi2 : i + 1 < (a ++ [q]).length
  · have := h i hi2
    rw [List.getElem_append_left (by omega), List.getElem_append_left hi2]
    exact this
  · have e : i = a.length := by simp at hi2; omega
    subst e
    simpa using hn
theorem Apart.last {a : List LyT} {q r : LyT} (h : Apart (a ++ [q])) (he : q.1 = r.1) : Apart (a ++ [r]) := by
  intro i hi
  have hi' : i + 1 < (a ++ [q]).length := by simpa using hi
  have := h i hi'
  simp at hi
  by_cases hl : i + 1 < a.length
  · rw [List.getElem_append_left (by omega), List.getElem_append_left hl] at this ⊢
    exact this
  · have e : i + 1 = a.length := by omega
    have h1 : (a ++ [q])[i + 1] = q := by simp [e]
    have h2 : (a ++ [r])[i + 1]'(by simp; omega) = r := by simp [e]
    rw [h1] at this
    rw [h2, List.getElem_append_left (by omega)]
    rw [List.getElem_append_left (by omega)] at this
    rw [← he]; exact this
theorem merge_apart (ls : List LyT) : ∀ k, k ≤ ls.length → Apart (mergeL (ls.take k))
  | 0, _ => by intro i hi; simp [mergeL] at hi
  | k + 1, hk => by
    have ih := merge_apart ls k (by omega)
    rw [mergeL_succ (show k < ls.length by omega)]
    rcases snoc_ways (mergeL (ls.take k)) with h | ⟨a, q, h⟩
    · rw [h, addM_nil]; intro i hi; simp at hi
    · rw [h] at ih ⊢
      by_cases he : q.1 = ls[k].1
      · rw [addM_same a q _ he]; exact ih.last rfl
      · rw [addM_other a q _ he]; exact ih.snoc he
end Go.Proofs.YtmbijgnmbapchaaDoor
