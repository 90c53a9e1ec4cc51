/-
  Plain law: a list of bytes, cut at a byte. Conditions: none; no program in sight.
-/
import Derived.Test.YtmbijgnmbapchaaGreatDoorAbsLaw
import Derived.Lib.SplitLaws
set_option linter.unusedSimpArgs false
set_option linter.unusedVariables false
set_option linter.unusedSectionVars false
namespace Go.Law
open Go.Abs

/-- The pieces between the bytes c. -/
def piecesL (c : UInt8) : List UInt8 → List (List UInt8)
  | [] => [[]]
  | b :: l => if b = c then [] :: piecesL c l else
    match piecesL c l with
    | [] => [[b]]
    | p :: ps => (b :: p) :: ps
theorem piecesL_ne (c : UInt8) : ∀ l : List UInt8, piecesL c l ≠ []
  | [] => by simp [piecesL]
  | b :: l => by
    unfold piecesL
    split
    · simp
    · split <;> simp
theorem piecesL_app (c : UInt8) : ∀ (p l : List UInt8), (∀ x ∈ p, x ≠ c) → piecesL c (p ++ c :: l) = p :: piecesL c l
  | [], l, _ => by simp [piecesL]
  | b :: p, l, h => by
    have hb := h b (by simp)
    have ih := piecesL_app c p l fun x hx => h x (by simp [hx])
    simp only [List.cons_append, piecesL, hb, if_false, ih]
theorem piecesL_free (c : UInt8) : ∀ p : List UInt8, (∀ x ∈ p, x ≠ c) → piecesL c p = [p]
  | [], _ => rfl
  | b :: p, h => by
    have hb := h b (by simp)
    have ih := piecesL_free c p fun x hx => h x (by simp [hx])
    simp only [piecesL, hb, if_false, ih]
theorem index_ways (c : UInt8) : ∀ l : List UInt8, (Go.Lib.index l [c] = -1 ∧ ∀ x ∈ l, x ≠ c) ∨ ∃ p r, l = p ++ c :: r ∧ (∀ x ∈ p, x ≠ c) ∧ Go.Lib.index l [c] = p.length
  | [] => .inl ⟨rfl, by simp⟩
  | b :: l => by
    by_cases h : b = c
    · subst h
      exact .inr ⟨[], l, rfl, by simp, by simp [Go.Lib.index]⟩
    · have hp : ([c] : List UInt8).isPrefixOf (b :: l) = false := by simp [List.isPrefixOf]; exact fun e => h e.symm
      rcases index_ways c l with ⟨h1, h2⟩ | ⟨p, r, h1, h2, h3⟩
      · refine .inl ⟨by simp [Go.Lib.index, hp, h1], fun x hx => ?_⟩
        rcases List.mem_cons.1 hx with rfl | hx
        · exact h
        · exact h2 x hx
      · refine .inr ⟨b :: p, r, by rw [h1]; rfl, fun x hx => ?_, ?_⟩
        · rcases List.mem_cons.1 hx with rfl | hx
          · exact h
          · exact h2 x hx
        · have hne : ¬ ((p.length : Int) = -1) := by omega
          simp [Go.Lib.index, hp, h3, hne]
theorem split_pieces (c : UInt8) : ∀ (k : Nat) (l : List UInt8), l.count c ≤ k → Go.Lib.splitK [c] 0 k l = piecesL c l
  | 0, l, h => by
    have : ∀ x ∈ l, x ≠ c := fun x hx e => by
      subst e
      have := List.count_pos_iff.2 hx
      omega
    rw [piecesL_free c l this]; rfl
  | k + 1, l, h => by
    rcases index_ways c l with ⟨h1, h2⟩ | ⟨p, r, h1, h2, h3⟩
    · rw [piecesL_free c l h2]
      simp [Go.Lib.splitK, h1]
    · have hne : ¬ ((p.length : Int) = -1) := by omega
      subst h1
      rw [piecesL_app c p r h2]
      have hc : r.count c ≤ k := by
        rw [List.count_append, List.count_cons_self] at h
        omega
      have e1 : (p ++ c :: r).take p.length = p := by simp
      have e2 : (p ++ c :: r).drop (p.length + 1) = r := by
        rw [List.drop_append]; simp
      have hb : ((p.length : Int) == -1) = false := beq_eq_false_iff_ne.2 hne
      simp only [Go.Lib.splitK, h3, hb, Int.toNat_natCast, Nat.add_zero, List.length_singleton, e1, e2]
      rw [split_pieces c k r hc]
      rfl
/-- The pieces as texts. -/
def piecesB (c : UInt8) (s : ByteArray) : List ByteArray := (piecesL c s.data.toList).map fun l => ⟨l.toArray⟩
theorem splitB_pieces (c : UInt8) (s : ByteArray) : Go.Lib.splitB ⟨#[c]⟩ 0 (Go.Lib.countB s ⟨#[c]⟩) s = piecesB c s := by
  have h := Go.Lib.splitB_data ⟨#[c]⟩ 0 (Go.Lib.countB s ⟨#[c]⟩) s
  have h2 : Go.Lib.splitK [c] 0 (Go.Lib.countB s ⟨#[c]⟩) s.data.toList = piecesL c s.data.toList := split_pieces c _ _ (by
    have : Go.Lib.countB s ⟨#[c]⟩ = s.data.toList.count c := Go.Lib.count_one c _
    omega)
  unfold piecesB
  rw [← h2]
  have h3 : Go.Lib.splitK [c] 0 (Go.Lib.countB s ⟨#[c]⟩) s.data.toList = (Go.Lib.splitB ⟨#[c]⟩ 0 (Go.Lib.countB s ⟨#[c]⟩) s).map (·.data.toList) := h.symm
  rw [h3, List.map_map]
  have : ((fun l : List UInt8 => (⟨l.toArray⟩ : ByteArray)) ∘ fun b : ByteArray => b.data.toList) = id := by
    funext b
    simp
  rw [this, List.map_id]
theorem pieces_count (c : UInt8) : ∀ l : List UInt8, (piecesL c l).length = l.count c + 1
  | [] => rfl
  | b :: l => by
    have ih := pieces_count c l
    by_cases h : b = c
    · subst h
      simp [piecesL, ih]
    · rw [List.count_cons_of_ne h]
      unfold piecesL
      rw [if_neg h]
      split
      · rename_i h2; exact absurd h2 (piecesL_ne c l)
      · rename_i p ps h2
        rw [h2] at ih
        simpa using ih
/-- One more byte behind: it ends a piece, or it is in the last one. -/
theorem pieces_more (c : UInt8) : ∀ (done : List (List UInt8)) (last : List UInt8) (l : List UInt8) (b : UInt8), piecesL c l = done ++ [last] →
    piecesL c (l ++ [b]) = if b = c then done ++ [last] ++ [[]] else done ++ [last ++ [b]]
  | done, last, [], b, h => by
    have : done = [] ∧ last = [] := by
      cases done with
      | nil => simp [piecesL] at h; exact ⟨rfl, h⟩
      | cons x xs => simp [piecesL] at h
    obtain ⟨rfl, rfl⟩ := this
    by_cases hb : b = c <;> simp [piecesL, hb]
  | done, last, x :: l, b, h => by
    obtain ⟨d, q, hq⟩ : ∃ d q, piecesL c l = d ++ [q] := by
      rcases List.eq_nil_or_concat (piecesL c l) with h0 | ⟨d, q, h0⟩
      · exact absurd h0 (piecesL_ne c l)
      · exact ⟨d, q, by simpa using h0⟩
    have ih := pieces_more c d q l b hq
    by_cases hx : x = c
    · simp only [piecesL, hx, if_true, hq] at h
      have hd : done = [] :: d ∧ last = q := by
        have e : ([] :: d) ++ [q] = done ++ [last] := h
        have := List.append_inj' e rfl
        exact ⟨this.1.symm, by have := this.2; simp at this; exact this.symm⟩
      obtain ⟨rfl, rfl⟩ := hd
      simp only [List.cons_append, piecesL, hx, if_true, ih]
      split <;> simp
    · simp only [piecesL, hx, if_false, hq] at h
      simp only [List.cons_append, piecesL, hx, if_false, ih]
      cases d with
      | nil =>
        have hd : done = [] ∧ last = x :: q := by
          have e : ([] : List (List UInt8)) ++ [x :: q] = done ++ [last] := h
          have := List.append_inj' e rfl
          exact ⟨this.1.symm, by have := this.2; simp at this; exact this.symm⟩
        obtain ⟨rfl, rfl⟩ := hd
        by_cases hb : b = c <;> simp [hb]
      | cons y ys =>
        have hd : done = (x :: y) :: ys ∧ last = q := by
          have e : ((x :: y) :: ys) ++ [q] = done ++ [last] := h
          have := List.append_inj' e rfl
          exact ⟨this.1.symm, by have := this.2; simp at this; exact this.symm⟩
        obtain ⟨rfl, rfl⟩ := hd
        by_cases hb : b = c <;> simp [hb]
end Go.Law
