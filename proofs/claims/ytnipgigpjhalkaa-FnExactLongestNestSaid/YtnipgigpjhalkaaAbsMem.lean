/-
  Abs, part 2: how the relation is kept by draws, new blocks and stores; reading. Conditions: none; generic in the program.
-/
import Derived.Test.YtnipgigpjhalkaaAbsCore
import Derived.Laws.Rows
set_option linter.unusedSimpArgs false
set_option linter.unusedVariables false
set_option linter.unusedSectionVars false
namespace Go.Abs
open Go.RowKit (Below)

variable {W0 : World} {ρ : List Row} {m : List AObj} {w : World}

theorem ORel.mono {ρ' : List Row} (hp : ρ <+: ρ') {o : AObj} {r : Row} (h : ORel W0 ρ w o r) : ORel W0 ρ' w o r := by
  refine ⟨fun hk => ?_, fun hl => ?_⟩
  · obtain ⟨h1, h2, h3⟩ := h.1 hk
    exact ⟨h1, h2, fun j v hj => let ⟨v', hv, hc⟩ := h3 j v hj; ⟨v', hv, conc1_mono hp hc⟩⟩
  · obtain ⟨h1, h2, h3, h4, c, h5, h6, h7, h8, h9⟩ := h.2 hl
    exact ⟨h1, h2, h3, h4, c, h5, h6, h7, h8, fun j v hj => let ⟨v', hv, hc⟩ := h9 j v hj; ⟨v', hv, conc1_mono hp hc⟩⟩

/-- The world has turned nowhere that the object sees. -/
theorem ORel.world {w' : World} {o : AObj} {r : Row} (h : ORel W0 ρ w o r) (hb : o.kind = 0 ∨ o.live → w'.heap[r.blk]? = w.heap[r.blk]?) : ORel W0 ρ w' o r := by
  refine ⟨fun hk => ?_, fun hl => ?_⟩
  · obtain ⟨h1, h2, h3⟩ := h.1 hk
    refine ⟨h1, h2, fun j v hj => ?_⟩
    obtain ⟨v', hv, hc⟩ := h3 j v hj
    exact ⟨v', (World.cell?_of_block (hb (.inl hk))).trans hv, hc⟩
  · obtain ⟨h1, h2, h3, h4, c, h5, h6⟩ := h.2 hl
    exact ⟨h1, h2, h3, h4, c, (hb (.inr hl)).trans h5, h6⟩

theorem Rel.drew (h : Rel W0 ρ m w) : Rel W0 ρ m w.drew :=
  ⟨h.below.drew, h.len, fun i o r hm hr => (h.obj i o r hm hr).world fun _ => rfl, h.inj⟩
theorem Rel.drew' (h : Rel W0 ρ m w) : Rel W0 ρ m { w with drawn := w.drawn + 1 } := h.drew

theorem Rel.row (h : Rel W0 ρ m w) {i : Nat} {o : AObj} (hm : m[i]? = some o) : ∃ r, ρ[i]? = some r := by
  have : i < ρ.length := by rw [h.len]; exact (List.getElem?_eq_some_iff.1 hm).1
  exact ⟨ρ[i], List.getElem?_eq_getElem this⟩
theorem Rel.objOf (h : Rel W0 ρ m w) {i : Nat} {r : Row} (hr : ρ[i]? = some r) : ∃ o, m[i]? = some o := by
  have : i < m.length := by rw [← h.len]; exact (List.getElem?_eq_some_iff.1 hr).1
  exact ⟨m[i], List.getElem?_eq_getElem this⟩

theorem ORel.blk_lt {o : AObj} {r : Row} (h : ORel W0 ρ w o r) (hB : W0.heap.size ≤ w.heap.size) (hk : o.kind = 0 ∨ o.live) : r.blk < w.heap.size := by
  rcases hk with hk | hk
  · exact Nat.lt_of_lt_of_le (h.1 hk).2.1 hB
  · obtain ⟨_, _, _, _, c, h5, _⟩ := h.2 hk
    exact (Array.getElem?_eq_some_iff.1 h5).1

theorem ORel.sz {o : AObj} {r : Row} (h : ORel W0 ρ w o r) (hk : o.kind = 0 ∨ o.live) : r.sz = o.sz := by
  rcases hk with hk | hk
  · exact (h.1 hk).1
  · exact (h.2 hk).2.1

/-- A cell read. -/
theorem ORel.read {o : AObj} {r : Row} (h : ORel W0 ρ w o r) (hk : o.kind = 0 ∨ o.live) {j : Nat} {v : Value} (hj : o.cells[j]? = some v) :
    ∃ v', w.cell? ⟨r.blk, r.base + j, none⟩ = some v' ∧ conc1 ρ v v' := by
  rcases hk with hk | hk
  · exact (h.1 hk).2.2 j v hj
  · obtain ⟨h1, _, _, _, c, h5, _, _, _, h9⟩ := h.2 hk
    obtain ⟨v', hv, hc⟩ := h9 j v hj
    refine ⟨v', ?_, hc⟩
    rw [h1]
    simp [World.cell?, h5, hv]

/-- A new block. -/
theorem Rel.alloc (h : Rel W0 ρ m w) {cells : List Value} {cs : List Value} (e : TypeId) (sz cap : Nat) (hc : All2 (conc1 ρ) cells cs) (hl : cells.length = cap * sz) (hm : cap ≤ maxLen) :
    Rel W0 (ρ ++ [⟨w.heap.size, 0, sz, cap⟩]) (m ++ [⟨cells, e, sz, 1⟩]) (w.alloc (.cells cs.toArray e)) := by
  have hp : ρ <+: ρ ++ [⟨w.heap.size, 0, sz, cap⟩] := ⟨_, rfl⟩
  have hold : ∀ k, k < w.heap.size → (w.alloc (.cells cs.toArray e)).heap[k]? = w.heap[k]? := fun k hk => Below.heap_alloc w _ k hk
  have hB := h.below.size
  refine ⟨h.below.alloc hB _, by simp [h.len], ?_, ?_⟩
  · intro i o r hmi hri
    by_cases hi : i < m.length
    · rw [List.getElem?_append_left hi] at hmi
      rw [List.getElem?_append_left (by rw [h.len]; exact hi)] at hri
      have ho := h.obj i o r hmi hri
      exact (ho.world fun hk => hold _ (ho.blk_lt hB hk)).mono hp
    · have hi' : i = m.length := by
        have := (List.getElem?_eq_some_iff.1 hmi).1
        simp at this; omega
      subst hi'
      rw [List.getElem?_append_right (Nat.le_refl _)] at hmi
      rw [List.getElem?_append_right (by rw [h.len]; exact Nat.le_refl _)] at hri
      simp at hmi
      simp [h.len] at hri
      subst hmi
      subst hri
      refine ⟨fun hk => by simp at hk, fun _ => ⟨rfl, rfl, hB, hm, cs.toArray, heap_alloc_new w _, by simp [← hc.length, hl], by simp [hc.length], fun _ => by simp [hc.length], fun j v hj => ?_⟩⟩
      obtain ⟨y, hy, hR⟩ := hc.get j v hj
      exact ⟨y, by simpa using hy, conc1_mono hp hR⟩
  · intro i j o o' r r' hij hi hj hlo hlo' hri hrj
    have key : ∀ (i : Nat) o r, (m ++ [(⟨cells, e, sz, 1⟩ : AObj)])[i]? = some o → (ρ ++ [(⟨w.heap.size, 0, sz, cap⟩ : Row)])[i]? = some r → o.live →
        (i < m.length ∧ m[i]? = some o ∧ ρ[i]? = some r ∧ r.blk < w.heap.size) ∨ (i = m.length ∧ r.blk = w.heap.size) := by
      intro i o r hmi hri hlo
      by_cases hi : i < m.length
      · rw [List.getElem?_append_left hi] at hmi
        rw [List.getElem?_append_left (by rw [h.len]; exact hi)] at hri
        exact .inl ⟨hi, hmi, hri, (h.obj i o r hmi hri).blk_lt hB (.inr hlo)⟩
      · have hi' : i = m.length := by
          have := (List.getElem?_eq_some_iff.1 hmi).1
          simp at this; omega
        subst hi'
        rw [List.getElem?_append_right (by rw [h.len]; exact Nat.le_refl _)] at hri
        simp [h.len] at hri
        exact .inr ⟨rfl, by rw [← hri]⟩
    rcases key i o r hi hri hlo with ⟨a1, a2, a3, a4⟩ | ⟨a1, a2⟩ <;> rcases key j o' r' hj hrj hlo' with ⟨b1, b2, b3, b4⟩ | ⟨b1, b2⟩
    · exact h.inj i j o o' r r' hij a2 b2 hlo hlo' a3 b3
    · omega
    · omega
    · omega

/-- A store into a live object. -/
theorem Rel.set (h : Rel W0 ρ m w) {i : Nat} {o : AObj} {r : Row} (hm : m[i]? = some o) (hr : ρ[i]? = some r) (hlive : o.live) {j : Nat} {v v' : Value} (hj : j < o.cells.length) (hv : conc1 ρ v v') :
    Rel W0 ρ (m.set i { o with cells := o.cells.set j v }) (w.setCell ⟨r.blk, j, none⟩ v') := by
  have ho := h.obj i o r hm hr
  obtain ⟨g1, g2, g3, g4, c, g5, g6, g7, g8, g9⟩ := ho.2 hlive
  have hother : ∀ k, k ≠ r.blk → (w.setCell ⟨r.blk, j, none⟩ v').heap[k]? = w.heap[k]? := fun k hk => Below.heap_setCell w _ _ k hk
  have himi : i < m.length := (List.getElem?_eq_some_iff.1 hm).1
  refine ⟨h.below.setCell (p := ⟨r.blk, j, none⟩) g3 v', by simp [h.len], ?_, ?_⟩
  · intro k o' r' hmk hrk
    by_cases hik : i = k
    · subst hik
      rw [List.getElem?_set_self himi] at hmk
      injection hmk with hmk
      subst hmk
      rw [hr] at hrk
      injection hrk with hrk
      subst hrk
      refine ⟨fun hk => ?_, fun _ => ⟨g1, g2, g3, g4, c.setIfInBounds j v', ?_, by simp [g6], by simpa using g7, fun hk => by simpa using g8 hk, fun k u hu => ?_⟩⟩
      · rcases hlive with hl | hl <;> simp [hl] at hk
      · simp [World.setCell, Array.getElem?_modify, g5]
      · by_cases hjk : j = k
        · subst hjk
          simp [List.getElem?_set, hj] at hu
          subst hu
          exact ⟨v', by simp [Array.getElem?_setIfInBounds]; omega, hv⟩
        · simp only [List.getElem?_set_ne hjk] at hu
          obtain ⟨x, hx, hc⟩ := g9 k u hu
          exact ⟨x, by simpa [Array.getElem?_setIfInBounds, hjk] using hx, hc⟩
    · rw [List.getElem?_set_ne hik] at hmk
      refine (h.obj k o' r' hmk hrk).world fun hk => hother _ ?_
      rcases hk with hk | hk
      · have := ((h.obj k o' r' hmk hrk).1 hk).2.1
        omega
      · exact fun e => h.inj i k o o' r r' hik hm hmk hlive hk hr hrk e.symm
  · intro a b oa ob ra rb hab ha hb hla hlb hra hrb
    have back : ∀ (k : Nat) o' , (m.set i { o with cells := o.cells.set j v })[k]? = some o' → o'.live → ∃ o'', m[k]? = some o'' ∧ o''.live := by
      intro k o' hk hl
      by_cases hik : i = k
      · subst hik; exact ⟨o, hm, hlive⟩
      · rw [List.getElem?_set_ne hik] at hk; exact ⟨o', hk, hl⟩
    obtain ⟨oa', ha', hla'⟩ := back a oa ha hla
    obtain ⟨ob', hb', hlb'⟩ := back b ob hb hlb
    exact h.inj a b oa' ob' ra rb hab ha' hb' hla' hlb' hra hrb

end Go.Abs
