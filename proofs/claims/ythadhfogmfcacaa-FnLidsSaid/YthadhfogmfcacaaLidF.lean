/-
  Lids, part 6: lids given out, plain. Conditions: none.
-/
import Derived.Test.YthadhfogmfcacaaLidE
set_option linter.unusedSimpArgs false
set_option linter.unusedVariables false
set_option linter.unusedSectionVars false
namespace Go.Proofs.Ythadhfogmfcacaa
open Go.Abs Go.RowKit Go.Law

section
variable (xs : List I3) (ws : List Int) (sl : Int)
def mostL : Nat := mostK (fitL xs ws sl) xs.length ws.length
def lidW (w : Nat) : List Int × List Bool := lidT (fitL xs ws sl) xs.length ws.length (mostL xs ws sl) w
def lidsO : Option (List Int) := if codeL xs ws sl = 0 then some (lidW xs ws sl ws.length).1 else none
def lidsI : Int := if codeL xs ws sl = 0 then (mostL xs ws sl : Int) else 0
def rowsOf (g : List Bool) : List I3 := (avail xs.length g).map fun b => xs.getD b (0, 0, 0)
def restL (g : List Bool) (w : Nat) : Nat := restK (fitL xs ws sl) xs.length ws.length g w
def qPick (g : List Bool) (w : Nat) (need : Int) (b : Nat) : Bool := fitL xs ws sl w b && decide ((restL xs ws sl (g.set b true) (w + 1) : Int) = need - 1)
def needL (out : List Int) : Int := (mostL xs ws sl : Int) - hasN out
variable {xs ws sl}
theorem lidW_succ (w : Nat) : lidW xs ws sl (w + 1) = Go.Law.stepT (fitL xs ws sl) xs.length ws.length (mostL xs ws sl) (lidW xs ws sl w) w := rfl
theorem lidW_length (w : Nat) : (lidW xs ws sl w).1.length = w ∧ (lidW xs ws sl w).2.length = xs.length := lidT_length _ w
theorem lidsO_length {zs : List Int} (h : lidsO xs ws sl = some zs) : zs.length = ws.length := by
  unfold lidsO at h
  split at h
  · injection h with h; subst h; exact (lidW_length _).1
  · cases h
theorem drop_getD (ws : List Int) (k a : Nat) : (ws.drop k).getD a 0 = ws.getD (k + a) 0 := by simp only [List.getD_eq_getElem?_getD, List.getElem?_drop]
theorem fitL_drop (w a b : Nat) : fitL xs (ws.drop w) sl a b = fitL xs ws sl (w + a) b := by unfold fitL; rw [drop_getD]
theorem rest_zero : restL xs ws sl (List.replicate xs.length false) 0 = mostL xs ws sl :=
  mostK_congr fun a b _ hb => by simp [List.getD_eq_getElem?_getD, hb]
theorem rest_impl (g : List Bool) (w : Nat) : mostK (mayG xs (ws.drop w) sl g) xs.length (ws.drop w).length = restL xs ws sl g w := by
  rw [List.length_drop]
  exact mostK_congr fun a b _ _ => by unfold mayG; rw [fitL_drop]
theorem rest_spec (g : List Bool) (w : Nat) : mostK (fitL (rowsOf xs g) (ws.drop w) sl) (rowsOf xs g).length (ws.drop w).length = restL xs ws sl g w := by
  rw [List.length_drop]
  show _ = mostK (fun a b => !g.getD b false && fitL xs ws sl (w + a) b) xs.length (ws.length - w)
  rw [← mostK_avail (fun a b => fitL xs ws sl (w + a) b) xs.length (ws.length - w) g]
  rw [show (rowsOf xs g).length = (avail xs.length g).length by simp [rowsOf]]
  refine mostK_congr fun a j _ hj => ?_
  rw [fitL_drop]
  unfold fitL rowsOf
  rw [show ((avail xs.length g).map fun b => xs.getD b (0, 0, 0)).getD j (0, 0, 0) = xs.getD ((avail xs.length g).getD j 0) (0, 0, 0) by
    simp only [List.getD_eq_getElem?_getD, List.getElem?_map, List.getElem?_eq_getElem hj, Option.map_some, Option.getD_some]]
theorem okPick_eq (g : List Bool) (w : Nat) (need : Int) (b : Nat) : okPick (fitL xs ws sl) xs.length ws.length g w need b = (!g.getD b false && qPick xs ws sl g w need b) := rfl
/-- None is picked. -/
theorem step_none {w : Nat} (h : ∀ b, b < xs.length → okPick (fitL xs ws sl) xs.length ws.length (lidW xs ws sl w).2 w (needL xs ws sl (lidW xs ws sl w).1) b = false) :
    lidW xs ws sl (w + 1) = ((lidW xs ws sl w).1 ++ [-1], (lidW xs ws sl w).2) := by
  rw [lidW_succ]
  rcases stepT_cases (F := fitL xs ws sl) (n := xs.length) (W := ws.length) (mostL xs ws sl) (lidW xs ws sl w) w with ⟨e, _⟩ | ⟨b, hb, hok, _⟩
  · exact e
  · have := h b hb
    unfold needL at this
    rw [this] at hok; cases hok
/-- The first that can be picked is picked. -/
theorem step_some {w b : Nat} (hb : b < xs.length) (h : ∀ c, c < b → okPick (fitL xs ws sl) xs.length ws.length (lidW xs ws sl w).2 w (needL xs ws sl (lidW xs ws sl w).1) c = false)
    (hok : okPick (fitL xs ws sl) xs.length ws.length (lidW xs ws sl w).2 w (needL xs ws sl (lidW xs ws sl w).1) b = true) :
    lidW xs ws sl (w + 1) = ((lidW xs ws sl w).1 ++ [(b : Int)], (lidW xs ws sl w).2.set b true) := by
  rw [lidW_succ]
  unfold Go.Law.stepT
  rw [show (List.range xs.length).find? (okPick (fitL xs ws sl) xs.length ws.length (lidW xs ws sl w).2 w ((mostL xs ws sl : Int) - hasN (lidW xs ws sl w).1)) = some b by
    rw [List.find?_eq_some_iff_getElem]
    refine ⟨hok, b, by simpa using hb, by simp, fun j hj => ?_⟩
    rw [List.getElem_range]
    have := h j hj
    unfold needL at this
    rw [this]; rfl]
/-- The same by the places among those that are left. -/
theorem pick_none {w : Nat} (h : ∀ k, (hk : k < (avail xs.length (lidW xs ws sl w).2).length) → qPick xs ws sl (lidW xs ws sl w).2 w (needL xs ws sl (lidW xs ws sl w).1) ((avail xs.length (lidW xs ws sl w).2)[k]) = false) :
    lidW xs ws sl (w + 1) = ((lidW xs ws sl w).1 ++ [-1], (lidW xs ws sl w).2) := by
  refine step_none fun b hb => ?_
  rw [okPick_eq]
  cases hg : (lidW xs ws sl w).2.getD b false with
  | true => rfl
  | false =>
    obtain ⟨k, hk, e⟩ := List.getElem_of_mem (mem_avail.2 ⟨hb, hg⟩)
    have := h k hk
    rw [e] at this
    rw [this]; rfl
theorem pick_some {w k : Nat} (hk : k < (avail xs.length (lidW xs ws sl w).2).length)
    (h : ∀ j, (hj : j < k) → qPick xs ws sl (lidW xs ws sl w).2 w (needL xs ws sl (lidW xs ws sl w).1) ((avail xs.length (lidW xs ws sl w).2)[j]) = false)
    (hq : qPick xs ws sl (lidW xs ws sl w).2 w (needL xs ws sl (lidW xs ws sl w).1) ((avail xs.length (lidW xs ws sl w).2)[k]) = true) :
    lidW xs ws sl (w + 1) = ((lidW xs ws sl w).1 ++ [((avail xs.length (lidW xs ws sl w).2)[k] : Int)], (lidW xs ws sl w).2.set ((avail xs.length (lidW xs ws sl w).2)[k]) true) := by
  have hm := mem_avail.1 (List.getElem_mem hk)
  refine step_some hm.1 (fun c hc => ?_) (by rw [okPick_eq, hm.2, hq]; rfl)
  rw [okPick_eq]
  cases hg : (lidW xs ws sl w).2.getD c false with
  | true => rfl
  | false =>
    obtain ⟨j, hj, e⟩ := List.getElem_of_mem (mem_avail.2 ⟨show c < xs.length by omega, hg⟩)
    have hs : (avail xs.length (lidW xs ws sl w).2).Pairwise (· < ·) := List.Pairwise.filter _ List.pairwise_lt_range
    have hjk : j < k := by
      rcases Nat.lt_trichotomy j k with h1 | h1 | h1
      · exact h1
      · subst h1; omega
      · have := List.pairwise_iff_getElem.1 hs k j hk hj h1
        omega
    have := h j hjk
    rw [e] at this
    rw [this]; rfl
end
/-- How many of the first k are negative. -/
def negTo (out : List Int) (k : Nat) : Nat := (out.take k).countP fun x => decide (x < 0)
theorem negTo_succ {out : List Int} {k : Nat} (h : k < out.length) : negTo out (k + 1) = negTo out k + if out[k] < 0 then 1 else 0 := by
  unfold negTo
  rw [List.take_add_one, List.getElem?_eq_getElem h, List.countP_append]
  by_cases hc : out[k] < 0 <;> simp [hc]
theorem negTo_all (out : List Int) : negTo out out.length + hasN out = out.length := by
  unfold negTo hasN
  rw [List.take_length]
  induction out with
  | nil => rfl
  | cons x l ih =>
    by_cases hc : x < 0
    · rw [List.countP_cons_of_pos (by simpa using hc), List.countP_cons_of_neg (by simp; omega), List.length_cons]; omega
    · rw [List.countP_cons_of_neg (by simpa using hc), List.countP_cons_of_pos (by simp; omega), List.length_cons]; omega
theorem negTo_le (out : List Int) (k : Nat) : negTo out k ≤ k := by
  unfold negTo
  exact Nat.le_trans List.countP_le_length (by simp; omega)
end Go.Proofs.Ythadhfogmfcacaa
