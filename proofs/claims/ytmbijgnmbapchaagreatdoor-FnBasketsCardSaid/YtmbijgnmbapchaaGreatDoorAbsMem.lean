/-
  Abs, part 2: how the relation is kept by draws, new blocks and stores; reading. Conditions: none; generic in the program.
-/
import Derived.Test.YtmbijgnmbapchaaGreatDoorAbsCore
import Derived.Laws.Rows
set_option linter.unusedSimpArgs false
set_option linter.unusedVariables false
set_option linter.unusedSectionVars false
namespace Go.Abs
open Go.RowKit (Below)

variable {W0 : World} {ρ : List (Option Row)} {m : List AObj} {w : World}

theorem ORel.mono {ρ' : List (Option Row)} (hp : Ext ρ ρ') {o : AObj} {r : Row} (h : ORel W0 ρ w o r) : ORel W0 ρ' w o r := by
  refine ⟨fun hk => ?_, fun hl => ?_⟩
  · obtain ⟨h1, h2, h3⟩ := h.1 hk
    exact ⟨h1, h2, fun j v hj => let ⟨v', hv, hc⟩ := h3 j v hj; ⟨v', hv, conc1_mono hp hc⟩⟩
  · obtain ⟨h1, h2, h3, h4, c, h5, h6, h7, h8, h9⟩ := h.2 hl
    exact ⟨h1, h2, h3, h4, c, h5, h6, h7, h8, fun j v hj => let ⟨v', hv, hc⟩ := h9 j v hj; ⟨v', hv, conc1_mono hp hc⟩⟩

/-- The world has turned nowhere that the object sees. -/
theorem ORel.world {w' : World} {o : AObj} {r : Row} (h : ORel W0 ρ w o r) (hb : o.kind = 0 ∨ o.live → w'.heap[r.blk]? = w.heap[r.blk]?) : ORel W0 ρ w' o r := by
  refine ⟨fun hk => ?_, fun hl => ?_⟩
  · obtain ⟨h1, h2, h3⟩ := h.1 hk
    refine ⟨h1, h2, fun j v hj => ?_⟩
    obtain ⟨v', hv, hc⟩ := h3 j v hj
    exact ⟨v', (World.cell?_of_block (hb (.inl hk))).trans hv, hc⟩
  · obtain ⟨h1, h2, h3, h4, c, h5, h6⟩ := h.2 hl
    exact ⟨h1, h2, h3, h4, c, (hb (.inr hl)).trans h5, h6⟩

theorem Rel.drew (h : Rel W0 ρ m w) : Rel W0 ρ m w.drew :=
  ⟨h.below.drew, h.tab, h.len, h.row, h.off, fun i o r hm hr => (h.obj i o r hm hr).world fun _ => rfl, h.inj⟩
theorem Rel.drew' (h : Rel W0 ρ m w) : Rel W0 ρ m { w with drawn := w.drawn + 1 } := h.drew

theorem Rel.objOf (h : Rel W0 ρ m w) {i : Nat} {r : Row} (hr : ρ[i]? = some (some r)) : ∃ o, m[i]? = some o := by
  have : i < m.length := by rw [← h.len]; exact (List.getElem?_eq_some_iff.1 hr).1
  exact ⟨m[i], List.getElem?_eq_getElem this⟩

theorem ORel.blk_lt {o : AObj} {r : Row} (h : ORel W0 ρ w o r) (hB : W0.heap.size ≤ w.heap.size) (hk : o.kind = 0 ∨ o.live) : r.blk < w.heap.size := by
  rcases hk with hk | hk
  · exact Nat.lt_of_lt_of_le (h.1 hk).2.1 hB
  · obtain ⟨_, _, _, _, c, h5, _⟩ := h.2 hk
    exact (Array.getElem?_eq_some_iff.1 h5).1

theorem ORel.sz {o : AObj} {r : Row} (h : ORel W0 ρ w o r) (hk : o.kind = 0 ∨ o.live) : r.sz = o.sz := by
  rcases hk with hk | hk
  · exact (h.1 hk).1
  · exact (h.2 hk).2.1

/-- A cell read. -/
theorem ORel.read {o : AObj} {r : Row} (h : ORel W0 ρ w o r) (hk : o.kind = 0 ∨ o.live) {j : Nat} {v : Value} (hj : o.cells[j]? = some v) :
    ∃ v', w.cell? ⟨r.blk, r.base + j, none⟩ = some v' ∧ conc1 ρ v v' := by
  rcases hk with hk | hk
  · exact (h.1 hk).2.2 j v hj
  · obtain ⟨h1, _, _, _, c, h5, _, _, _, h9⟩ := h.2 hk
    obtain ⟨v', hv, hc⟩ := h9 j v hj
    refine ⟨v', ?_, hc⟩
    rw [h1]
    simp [World.cell?, h5, hv]

/-- Where one object has turned. -/
theorem get_set_or {m : List AObj} {s : Nat} {x : AObj} {i : Nat} {o : AObj} (h : (m.set s x)[i]? = some o) : (i = s ∧ o = x) ∨ (i ≠ s ∧ m[i]? = some o) := by
  by_cases hi : s = i
  · subst hi
    have hlt : s < m.length := by have := (List.getElem?_eq_some_iff.1 h).1; simpa using this
    rw [List.getElem?_set_self hlt] at h
    injection h with h
    exact .inl ⟨rfl, h.symm⟩
  · rw [List.getElem?_set_ne hi] at h
    exact .inr ⟨Ne.symm hi, h⟩
theorem get_set_row {ρ : List (Option Row)} {s : Nat} {x : Option Row} {i : Nat} {o : Option Row} (h : (ρ.set s x)[i]? = some o) : (i = s ∧ o = x) ∨ (i ≠ s ∧ ρ[i]? = some o) := by
  by_cases hi : s = i
  · subst hi
    have hlt : s < ρ.length := by have := (List.getElem?_eq_some_iff.1 h).1; simpa using this
    rw [List.getElem?_set_self hlt] at h
    injection h with h
    exact .inl ⟨rfl, h.symm⟩
  · rw [List.getElem?_set_ne hi] at h
    exact .inr ⟨Ne.symm hi, h⟩
theorem get_snoc {α : Type} {l : List α} {x : α} {i : Nat} {o : α} (h : (l ++ [x])[i]? = some o) : (i = l.length ∧ o = x) ∨ (i < l.length ∧ l[i]? = some o) := by
  by_cases hi : i < l.length
  · rw [List.getElem?_append_left hi] at h; exact .inr ⟨hi, h⟩
  · have : i = l.length := by
      have := (List.getElem?_eq_some_iff.1 h).1
      simp at this; omega
    subst this
    rw [List.getElem?_append_right (Nat.le_refl _)] at h
    simp at h
    exact .inl ⟨rfl, h.symm⟩

/-- An object that is not there yet. -/
def hole : AObj := ⟨[], 0, 0, 4⟩
theorem Rel.hole (h : Rel W0 ρ m w) : Rel W0 (ρ ++ [none]) (m ++ [hole]) w := by
  refine ⟨h.below, h.tab, by simp [h.len], fun i o hi hk => ?_, fun i o hi hk => ?_, fun i o r hi hr => ?_, fun i j o o' r r' hij hi hj hlo hlo' hri hrj => ?_⟩
  · rcases get_snoc hi with ⟨_, rfl⟩ | ⟨_, hi⟩
    · simp [Abs.hole] at hk
    · obtain ⟨r, hr⟩ := h.row i o hi hk
      exact ⟨r, (Ext.app _ _).get i r hr⟩
  · rcases get_snoc hi with ⟨rfl, rfl⟩ | ⟨hl, hi⟩
    · rw [← h.len, List.getElem?_append_right (Nat.le_refl _)]; simp
    · rw [List.getElem?_append_left (by rw [h.len]; exact hl)]; exact h.off i o hi hk
  · rcases get_snoc hr with ⟨_, e⟩ | ⟨hl, hr⟩
    · cases e
    · rcases get_snoc hi with ⟨rfl, _⟩ | ⟨_, hi⟩
      · rw [h.len] at hl; omega
      · exact (h.obj i o r hi hr).mono (Ext.app _ _)
  · rcases get_snoc hri with ⟨_, e⟩ | ⟨hl, hri⟩
    · cases e
    rcases get_snoc hrj with ⟨_, e⟩ | ⟨hl', hrj⟩
    · cases e
    rcases get_snoc hi with ⟨rfl, _⟩ | ⟨_, hi⟩
    · rw [h.len] at hl; omega
    rcases get_snoc hj with ⟨rfl, _⟩ | ⟨_, hj⟩
    · rw [h.len] at hl'; omega
    exact h.inj i j o o' r r' hij hi hj hlo hlo' hri hrj
theorem Rel.holes (h : Rel W0 ρ m w) : ∀ n, Rel W0 (ρ ++ List.replicate n none) (m ++ List.replicate n Abs.hole) w
  | 0 => by simpa using h
  | n + 1 => by
    have := (Rel.holes h n).hole
    rw [List.replicate_succ', List.replicate_succ', ← List.append_assoc, ← List.append_assoc]
    exact this

/-- A new block, where an object was not there yet. -/
theorem Rel.allocAt (h : Rel W0 ρ m w) {s : Nat} {o4 : AObj} (hs : m[s]? = some o4) (h4 : o4.kind = 4) {cells : List Value} {cs : List Value} (e : TypeId) (sz cap : Nat) (hc : All2 (conc1 ρ) cells cs) (hl : cells.length = cap * sz) (hm : cap ≤ maxLen) :
    Rel W0 (ρ.set s (some ⟨w.heap.size, 0, sz, cap⟩)) (m.set s ⟨cells, e, sz, 1⟩) (w.alloc (.cells cs.toArray e)) := by
  have hoff := h.off s o4 hs h4
  have hp := Ext.set hoff ⟨w.heap.size, 0, sz, cap⟩
  have hold : ∀ k, k < w.heap.size → (w.alloc (.cells cs.toArray e)).heap[k]? = w.heap[k]? := fun k hk => Below.heap_alloc w _ k hk
  have hB := h.below.size
  have hsl : s < ρ.length := (List.getElem?_eq_some_iff.1 hoff).1
  refine ⟨h.below.alloc hB _, h.tab, by simp [h.len], fun i o hi hk => ?_, fun i o hi hk => ?_, fun i o r hmi hri => ?_, fun i j o o' r r' hij hi hj hlo hlo' hri hrj => ?_⟩
  · rcases get_set_or hi with ⟨rfl, _⟩ | ⟨_, hi⟩
    · exact ⟨_, List.getElem?_set_self hsl⟩
    · obtain ⟨r, hr⟩ := h.row i o hi hk
      exact ⟨r, hp.get i r hr⟩
  · rcases get_set_or hi with ⟨_, rfl⟩ | ⟨hne, hi⟩
    · simp at hk
    · rw [List.getElem?_set_ne (Ne.symm hne)]; exact h.off i o hi hk
  · rcases get_set_or hmi with ⟨rfl, rfl⟩ | ⟨hne, hmi⟩
    · rw [List.getElem?_set_self hsl] at hri
      injection hri with hri
      injection hri with hri
      subst hri
      refine ⟨fun hk => by simp at hk, fun _ => ⟨rfl, rfl, hB, hm, cs.toArray, heap_alloc_new w _, by simp [← hc.length, hl], by simp [hc.length], fun _ => by simp [hc.length], fun j v hj => ?_⟩⟩
      obtain ⟨y, hy, hR⟩ := hc.get j v hj
      exact ⟨y, by simpa using hy, conc1_mono hp hR⟩
    · rw [List.getElem?_set_ne (Ne.symm hne)] at hri
      have ho := h.obj i o r hmi hri
      exact (ho.world fun hk => hold _ (ho.blk_lt hB hk)).mono hp
  · have key : ∀ (i : Nat) o r, (m.set s ⟨cells, e, sz, 1⟩)[i]? = some o → (ρ.set s (some ⟨w.heap.size, 0, sz, cap⟩))[i]? = some (some r) → o.live →
        (i ≠ s ∧ m[i]? = some o ∧ ρ[i]? = some (some r) ∧ r.blk < w.heap.size) ∨ (i = s ∧ r.blk = w.heap.size) := by
      intro i o r hmi hri hlo
      rcases get_set_or hmi with ⟨rfl, _⟩ | ⟨hne, hmi⟩
      · rw [List.getElem?_set_self hsl] at hri
        injection hri with hri
        injection hri with hri
        exact .inr ⟨rfl, by rw [← hri]⟩
      · rw [List.getElem?_set_ne (Ne.symm hne)] at hri
        exact .inl ⟨hne, hmi, hri, (h.obj i o r hmi hri).blk_lt hB (.inr hlo)⟩
    rcases key i o r hi hri hlo with ⟨a1, a2, a3, a4⟩ | ⟨a1, a2⟩ <;> rcases key j o' r' hj hrj hlo' with ⟨b1, b2, b3, b4⟩ | ⟨b1, b2⟩
    · exact h.inj i j o o' r r' hij a2 b2 hlo hlo' a3 b3
    · omega
    · omega
    · omega

/-- A new block. -/
theorem Rel.alloc (h : Rel W0 ρ m w) {cells : List Value} {cs : List Value} (e : TypeId) (sz cap : Nat) (hc : All2 (conc1 ρ) cells cs) (hl : cells.length = cap * sz) (hm : cap ≤ maxLen) :
    Rel W0 (ρ ++ [some ⟨w.heap.size, 0, sz, cap⟩]) (m ++ [⟨cells, e, sz, 1⟩]) (w.alloc (.cells cs.toArray e)) := by
  have := h.hole.allocAt (s := m.length) (o4 := Abs.hole) (by simp) rfl e sz cap (hc.mono fun _ _ => conc1_mono (Ext.app _ _)) hl hm
  rw [List.set_append_right _ _ (Nat.le_refl _), Nat.sub_self, List.set_append_right _ _ (by rw [h.len]; exact Nat.le_refl _), h.len, Nat.sub_self] at this
  simpa using this

/-- A store into a live object. -/
theorem Rel.set (h : Rel W0 ρ m w) {i : Nat} {o : AObj} {r : Row} (hm : m[i]? = some o) (hr : ρ[i]? = some (some r)) (hlive : o.live) {j : Nat} {v v' : Value} (hj : j < o.cells.length) (hv : conc1 ρ v v') :
    Rel W0 ρ (m.set i { o with cells := o.cells.set j v }) (w.setCell ⟨r.blk, j, none⟩ v') := by
  have ho := h.obj i o r hm hr
  obtain ⟨g1, g2, g3, g4, c, g5, g6, g7, g8, g9⟩ := ho.2 hlive
  have hother : ∀ k, k ≠ r.blk → (w.setCell ⟨r.blk, j, none⟩ v').heap[k]? = w.heap[k]? := fun k hk => Below.heap_setCell w _ _ k hk
  have himi : i < m.length := (List.getElem?_eq_some_iff.1 hm).1
  have hkind : ∀ (k : Nat) o', (m.set i { o with cells := o.cells.set j v })[k]? = some o' → ∃ o'', m[k]? = some o'' ∧ o''.kind = o'.kind := fun k o' hk => by
    rcases get_set_or hk with ⟨rfl, rfl⟩ | ⟨_, hk⟩
    · exact ⟨o, hm, rfl⟩
    · exact ⟨o', hk, rfl⟩
  refine ⟨h.below.setCell (p := ⟨r.blk, j, none⟩) g3 v', h.tab, by simp [h.len], fun k o' hk hkk => let ⟨o'', h1, h2⟩ := hkind k o' hk; h.row k o'' h1 (by omega), fun k o' hk hkk => let ⟨o'', h1, h2⟩ := hkind k o' hk; h.off k o'' h1 (by omega), ?_, ?_⟩
  · intro k o' r' hmk hrk
    by_cases hik : i = k
    · subst hik
      rw [List.getElem?_set_self himi] at hmk
      injection hmk with hmk
      subst hmk
      rw [hr] at hrk
      injection hrk with hrk
      injection hrk with hrk
      subst hrk
      refine ⟨fun hk => ?_, fun _ => ⟨g1, g2, g3, g4, c.setIfInBounds j v', ?_, by simp [g6], by simpa using g7, fun hk => by simpa using g8 hk, fun k u hu => ?_⟩⟩
      · rcases hlive with hl | hl <;> simp [hl] at hk
      · simp [World.setCell, Array.getElem?_modify, g5]
      · by_cases hjk : j = k
        · subst hjk
          simp [List.getElem?_set, hj] at hu
          subst hu
          exact ⟨v', by simp [Array.getElem?_setIfInBounds]; omega, hv⟩
        · simp only [List.getElem?_set_ne hjk] at hu
          obtain ⟨x, hx, hc⟩ := g9 k u hu
          exact ⟨x, by simpa [Array.getElem?_setIfInBounds, hjk] using hx, hc⟩
    · rw [List.getElem?_set_ne hik] at hmk
      refine (h.obj k o' r' hmk hrk).world fun hk => hother _ ?_
      rcases hk with hk | hk
      · have := ((h.obj k o' r' hmk hrk).1 hk).2.1
        omega
      · exact fun e => h.inj i k o o' r r' hik hm hmk hlive hk hr hrk e.symm
  · intro a b oa ob ra rb hab ha hb hla hlb hra hrb
    have back : ∀ (k : Nat) o' , (m.set i { o with cells := o.cells.set j v })[k]? = some o' → o'.live → ∃ o'', m[k]? = some o'' ∧ o''.live := by
      intro k o' hk hl
      by_cases hik : i = k
      · subst hik; exact ⟨o, hm, hlive⟩
      · rw [List.getElem?_set_ne hik] at hk; exact ⟨o', hk, hl⟩
    obtain ⟨oa', ha', hla'⟩ := back a oa ha hla
    obtain ⟨ob', hb', hlb'⟩ := back b ob hb hlb
    exact h.inj a b oa' ob' ra rb hab ha' hb' hla' hlb' hra hrb

end Go.Abs
