/-
  Pots, part 8: pots in their order, and piles, plain. Conditions: none.
-/
import Derived.Test.YtnipgigpjhalkaaNestF
import Derived.Test.YtnipgigpjhalkaaSort
import Derived.Test.YtnipgigpjhalkaaLawChain
set_option linter.unusedSimpArgs false
set_option linter.unusedVariables false
set_option linter.unusedSectionVars false
namespace Go.Proofs.Ytnipgigpjhalkaa
open Go.Abs Go.RowKit

/-- Does the pot x go ahead of the pot y? -/
def potP (xs : List I3) (x y : Int) : Bool := decide ((potAt xs y.toNat).1 < (potAt xs x.toNat).1)
def orderP (xs : List I3) (n : Nat) : List Int := sortT (potP xs) (idxL n)
theorem orderP_succ (xs : List I3) (n : Nat) : orderP xs (n + 1) = insT (potP xs n) n (orderP xs n) := by
  unfold orderP sortT
  rw [idxL_succ, List.foldl_append]; rfl
theorem orderP_length (xs : List I3) : ∀ n, (orderP xs n).length = n
  | 0 => rfl
  | n + 1 => by rw [orderP_succ, insT_length, orderP_length xs n]
theorem orderP_mem (xs : List I3) : ∀ (n : Nat) (x : Int), x ∈ orderP xs n → ∃ i : Nat, x = i ∧ i < n
  | 0, x, h => by simp [orderP, idxL, sortT] at h
  | n + 1, x, h => by
    rw [orderP_succ, insT_mem] at h
    rcases h with rfl | h
    · exact ⟨n, rfl, by omega⟩
    · obtain ⟨i, hi, hl⟩ := orderP_mem xs n x h
      exact ⟨i, hi, by omega⟩
theorem insT_nodup {p : Int → Bool} {x : Int} {L : List Int} (h : L.Nodup) (hx : x ∉ L) : (insT p x L).Nodup := by
  have e := List.take_append_drop (keepN p L L.length) L
  unfold insT
  generalize L.take (keepN p L L.length) = A at *
  generalize L.drop (keepN p L L.length) = B at *
  subst e
  obtain ⟨h1, h2, h3⟩ := List.pairwise_append.1 h
  refine List.pairwise_append.2 ⟨h1, List.pairwise_cons.2 ⟨fun y hy e => hx (by simp [e, hy]), h2⟩, fun a ha b hb e => ?_⟩
  rcases List.mem_cons.1 hb with rfl | hb
  · exact hx (by simp [← e, ha])
  · exact h3 a ha b hb e
theorem orderP_nodup (xs : List I3) : ∀ n, (orderP xs n).Nodup
  | 0 => by simp [orderP, idxL, sortT]
  | n + 1 => by
    rw [orderP_succ]
    exact insT_nodup (orderP_nodup xs n) fun h => by
      obtain ⟨i, hi, hl⟩ := orderP_mem xs n _ h
      omega

/-! ### Piles -/
/-- Does a pile take a pot? -/
def fitsPile (xs : List I3) (x : Int) (p : List Int) : Bool := fitF xs x.toNat (p.getD (p.length - 1) 0).toNat
/-- The first of the first k piles that takes a pot; k where none does. -/
def pileIx (xs : List I3) (x : Int) (ps : List (List Int)) : Nat := ps.findIdx (fitsPile xs x)
def placeP (xs : List I3) (ps : List (List Int)) (x : Int) : List (List Int) :=
  if pileIx xs x ps < ps.length then ps.set (pileIx xs x ps) (ps.getD (pileIx xs x ps) [] ++ [x]) else ps ++ [[x]]
def pilesTo (xs : List I3) (k : Nat) : List (List Int) := ((orderP xs xs.length).take k).foldl (placeP xs) []
def pilesP (xs : List I3) : List (List Int) := pilesTo xs xs.length
theorem pilesTo_succ (xs : List I3) {k : Nat} (h : k < xs.length) : pilesTo xs (k + 1) = placeP xs (pilesTo xs k) ((orderP xs xs.length)[k]'(by rw [orderP_length]; exact h)) := by
  unfold pilesTo
  rw [List.take_add_one, List.getElem?_eq_getElem (by rw [orderP_length]; exact h), List.foldl_append]; rfl
/-- What holds of piles while they grow. -/
structure PileOK (xs : List I3) (ps : List (List Int)) : Prop where
  ne : ∀ p ∈ ps, p ≠ []
  ix : ∀ p ∈ ps, ∀ x ∈ p, 0 ≤ x ∧ x.toNat < xs.length
  ch : ∀ p ∈ ps, ∀ i, (h : i + 1 < p.length) → fitF xs (p[i + 1]).toNat (p[i]).toNat = true
  nd : ps.flatten.Nodup
theorem PileOK.nil (xs : List I3) : PileOK xs [] := ⟨by simp, by simp, by simp, by simp⟩
theorem set_flatten_perm {ps : List (List Int)} {k : Nat} (hk : k < ps.length) (x : Int) : (ps.set k (ps[k] ++ [x])).flatten.Perm (x :: ps.flatten) := by
  have e : ps = ps.take k ++ ps[k] :: ps.drop (k + 1) := by rw [← List.drop_eq_getElem_cons hk, List.take_append_drop]
  have hs : ps.set k (ps[k] ++ [x]) = ps.take k ++ (ps[k] ++ [x]) :: ps.drop (k + 1) := by
    rw [List.set_eq_take_append_cons_drop, if_pos hk]
  rw [hs]
  conv => rhs; rw [e]
  simp only [List.flatten_append, List.flatten_cons, List.append_assoc, List.singleton_append]
  refine (List.Perm.append_left _ (List.perm_middle (l₁ := ps[k]) (l₂ := (ps.drop (k + 1)).flatten) (a := x))).trans ?_
  exact List.perm_middle
theorem placeP_perm (xs : List I3) (ps : List (List Int)) (x : Int) : (placeP xs ps x).flatten.Perm (x :: ps.flatten) := by
  unfold placeP
  split
  · rename_i h
    rw [show ps.getD (pileIx xs x ps) [] = ps[pileIx xs x ps] by simp [List.getD_eq_getElem?_getD, h]]
    exact set_flatten_perm h x
  · rw [List.flatten_append]
    simp only [List.flatten_cons, List.flatten_nil, List.append_nil]
    exact List.perm_append_comm (l₁ := ps.flatten) (l₂ := [x])
theorem PileOK.place {xs : List I3} {ps : List (List Int)} (h : PileOK xs ps) {x : Int} (hx : 0 ≤ x ∧ x.toNat < xs.length) (hn : x ∉ ps.flatten) : PileOK xs (placeP xs ps x) := by
  have hperm := placeP_perm xs ps x
  have hall : ∀ p ∈ placeP xs ps x, p ∈ ps ∨ p = [x] ∨ ∃ q ∈ ps, p = q ++ [x] ∧ fitsPile xs x q = true := by
    intro p hp
    unfold placeP at hp
    split at hp
    · rename_i hk
      rcases List.mem_or_eq_of_mem_set hp with hp | rfl
      · exact .inl hp
      · refine .inr (.inr ⟨ps[pileIx xs x ps], List.getElem_mem hk, by simp [List.getD_eq_getElem?_getD, hk], ?_⟩)
        exact List.findIdx_getElem (w := hk)
    · rcases List.mem_append.1 hp with hp | hp
      · exact .inl hp
      · simp at hp; exact .inr (.inl hp)
  refine ⟨fun p hp => ?_, fun p hp y hy => ?_, fun p hp i hi => ?_, ?_⟩
  · rcases hall p hp with hp | rfl | ⟨q, _, rfl, _⟩
    · exact h.ne p hp
    · simp
    · simp
  · rcases hall p hp with hp | rfl | ⟨q, hq, rfl, _⟩
    · exact h.ix p hp y hy
    · simp at hy; subst hy; exact hx
    · rcases List.mem_append.1 hy with hy | hy
      · exact h.ix q hq y hy
      · simp at hy; subst hy; exact hx
  · rcases hall p hp with hp | rfl | ⟨q, hq, rfl, hf⟩
    · exact h.ch p hp i hi
    · simp at hi
    · simp only [List.length_append, List.length_singleton] at hi
      by_cases he : i + 1 = q.length
      · have e1 : (q ++ [x])[i + 1]'(by simp; omega) = x := by simp [he]
        have e2 : (q ++ [x])[i]'(by simp; omega) = q[i]'(by omega) := List.getElem_append_left (by omega)
        rw [e1, e2]
        unfold fitsPile at hf
        rw [show q.length - 1 = i by omega, List.getD_eq_getElem?_getD, List.getElem?_eq_getElem (by omega)] at hf
        exact hf
      · have e1 : (q ++ [x])[i + 1]'(by simp; omega) = q[i + 1]'(by omega) := List.getElem_append_left (by omega)
        have e2 : (q ++ [x])[i]'(by simp; omega) = q[i]'(by omega) := List.getElem_append_left (by omega)
        rw [e1, e2]
        exact h.ch q hq i (by omega)
  · exact hperm.nodup_iff.2 (List.nodup_cons.2 ⟨hn, h.nd⟩)
theorem pilesTo_ok (xs : List I3) : ∀ k, k ≤ xs.length → PileOK xs (pilesTo xs k) ∧ (pilesTo xs k).flatten.Perm ((orderP xs xs.length).take k)
  | 0, _ => by simp [pilesTo]; exact PileOK.nil xs
  | k + 1, hk => by
    obtain ⟨h1, h2⟩ := pilesTo_ok xs k (by omega)
    have hl := orderP_length xs xs.length
    have hkl : k < (orderP xs xs.length).length := by omega
    rw [pilesTo_succ xs (by omega)]
    obtain ⟨i, hi, hil⟩ := orderP_mem xs xs.length _ (List.getElem_mem hkl)
    have hnd := orderP_nodup xs xs.length
    have hnot : (orderP xs xs.length)[k] ∉ (orderP xs xs.length).take k := by
      intro h
      obtain ⟨j, hj, e⟩ := List.getElem_of_mem h
      rw [List.getElem_take] at e
      simp only [List.length_take] at hj
      exact List.pairwise_iff_getElem.1 hnd j k (by omega) hkl (by omega) e
    refine ⟨h1.place (by rw [hi]; omega) (fun h => hnot (h2.mem_iff.1 h)), ?_⟩
    refine (placeP_perm _ _ _).trans ?_
    rw [List.take_add_one, List.getElem?_eq_getElem hkl]
    refine (List.Perm.cons _ h2).trans ?_
    exact List.perm_append_comm (l₁ := [(orderP xs xs.length)[k]]) (l₂ := (orderP xs xs.length).take k)
end Go.Proofs.Ytnipgigpjhalkaa
