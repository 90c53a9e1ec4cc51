/-
  Plain law: how many piles are needful, and how high they can be. Conditions: none; no program in sight.
-/
import Derived.Test.YtnipgigpjhalkaaLawLids
import Derived.Test.YtnipgigpjhalkaaLawNest
set_option linter.unusedSimpArgs false
set_option linter.unusedVariables false
set_option linter.unusedSectionVars false
namespace Go.Law

def sumF (w : Nat → Int) : List Nat → Int
  | [] => 0
  | x :: xs => w x + sumF w xs
theorem sumF_erase (w : Nat → Int) {a : Nat} : ∀ {B : List Nat}, a ∈ B → sumF w B = w a + sumF w (B.erase a)
  | [], h => by simp at h
  | x :: xs, h => by
    by_cases he : x = a
    · subst he; simp [sumF]
    · have := sumF_erase w (show a ∈ xs by rcases List.mem_cons.1 h with h | h; exact absurd h.symm he; exact h)
      rw [List.erase_cons_tail (by simpa using he)]
      simp only [sumF, this]; omega
theorem sumF_nonneg {w : Nat → Int} : ∀ {B : List Nat}, (∀ x ∈ B, 0 ≤ w x) → 0 ≤ sumF w B
  | [], _ => by simp [sumF]
  | x :: xs, h => by
    have := sumF_nonneg (w := w) (B := xs) (fun y hy => h y (by simp [hy]))
    have := h x (by simp)
    simp only [sumF]; omega
theorem sumF_le {w : Nat → Int} : ∀ {A B : List Nat}, A.Nodup → (∀ x ∈ A, x ∈ B) → (∀ x ∈ B, 0 ≤ w x) → sumF w A ≤ sumF w B
  | [], B, _, _, h => sumF_nonneg h
  | a :: A, B, hn, hs, h => by
    rw [sumF_erase w (hs a (by simp))]
    have hn' := List.nodup_cons.1 hn
    have := sumF_le (w := w) (A := A) (B := B.erase a) hn'.2 (fun x hx => by
      have hne : x ≠ a := fun e => hn'.1 (e ▸ hx)
      exact (List.mem_erase_of_ne hne).2 (hs x (by simp [hx]))) (fun x hx => h x (List.mem_of_mem_erase hx))
    simp only [sumF]; omega
theorem sumF_sub (d : Nat → Int) (c : Int) : ∀ l : List Nat, sumF (fun x => d x - c) l = sumF d l - c * l.length
  | [] => by simp [sumF]
  | x :: xs => by
    simp only [sumF, sumF_sub d c xs, List.length_cons, Int.natCast_add, Int.mul_add]; omega
theorem sumF_rsub (d : Nat → Int) (c : Int) : ∀ l : List Nat, sumF (fun x => c - d x) l = c * l.length - sumF d l
  | [] => by simp [sumF]
  | x :: xs => by
    simp only [sumF, sumF_rsub d c xs, List.length_cons, Int.natCast_add, Int.mul_add]; omega
theorem sumF_pairs {d : Nat → Int} : ∀ {M : List (Nat × Nat)}, (∀ p ∈ M, d p.1 < d p.2) → sumF d (M.map (·.1)) ≤ sumF (fun x => d x - 1) (M.map (·.2))
  | [], _ => by simp [sumF]
  | p :: M, h => by
    have := sumF_pairs (d := d) (M := M) (fun q hq => h q (by simp [hq]))
    have := h p (by simp)
    simp only [List.map_cons, sumF]; omega
/-- So many piles are needful. -/
theorem piles_ge {F : Nat → Nat → Bool} {n : Nat} {L : Int} {d : Nat → Int} (hd : ∀ x, x < n → 1 ≤ d x ∧ d x ≤ L) (hF : ∀ a b, a < n → b < n → F a b = true → d a < d b) : (n : Int) ≤ ((n : Int) - mostK F n n) * L := by
  obtain ⟨M, hM, hl⟩ := mostK_get F n n
  have s1 := sumF_le (w := fun x => d x - 1) (A := M.map (·.2)) (B := List.range n) hM.right (fun x hx => by
    obtain ⟨p, hp, rfl⟩ := List.mem_map.1 hx
    simpa using (hM.mem p hp).2.1) (fun x hx => by have := hd x (by simpa using hx); omega)
  have s2 := sumF_le (w := fun x => L - d x) (A := M.map (·.1)) (B := List.range n) hM.left (fun x hx => by
    obtain ⟨p, hp, rfl⟩ := List.mem_map.1 hx
    simpa using (hM.mem p hp).1) (fun x hx => by have := hd x (by simpa using hx); omega)
  have s3 := sumF_pairs (d := d) (M := M) (fun p hp => hF _ _ (hM.mem p hp).1 (hM.mem p hp).2.1 (hM.mem p hp).2.2)
  rw [sumF_rsub, sumF_rsub, List.length_map, List.length_range, hl] at s2
  rw [sumF_sub d 1 (List.range n), List.length_range] at s1
  rw [Int.sub_mul, Int.mul_comm (n : Int) L, Int.mul_comm (mostK F n n : Int) L]
  omega
/-- The pairs of a pile, one in the other one. -/
def pairsOf : List Nat → List (Nat × Nat)
  | a :: b :: r => (b, a) :: pairsOf (b :: r)
  | _ => []
def ChainF (F : Nat → Nat → Bool) : List Nat → Prop
  | a :: b :: r => F b a = true ∧ ChainF F (b :: r)
  | _ => True
theorem pairsOf_length : ∀ {l : List Nat}, l ≠ [] → (pairsOf l).length + 1 = l.length
  | [a], _ => rfl
  | a :: b :: r, _ => by
    have := pairsOf_length (l := b :: r) (by simp)
    simp only [pairsOf, List.length_cons] at *; omega
theorem pairsOf_fst : ∀ l : List Nat, ((pairsOf l).map (·.1)).Sublist l.tail
  | [] => by simp [pairsOf]
  | [a] => by simp [pairsOf]
  | a :: b :: r => by
    have := pairsOf_fst (b :: r)
    simp only [pairsOf, List.map_cons, List.tail_cons] at *
    exact this.cons_cons b
theorem pairsOf_snd : ∀ l : List Nat, ((pairsOf l).map (·.2)).Sublist l
  | [] => by simp [pairsOf]
  | [a] => by simp [pairsOf]
  | a :: b :: r => by
    have := pairsOf_snd (b :: r)
    simp only [pairsOf, List.map_cons]
    exact this.cons_cons a
theorem pairsOf_mem {F : Nat → Nat → Bool} : ∀ {l : List Nat}, ChainF F l → ∀ p ∈ pairsOf l, p.1 ∈ l ∧ p.2 ∈ l ∧ F p.1 p.2 = true
  | [], _, p, hp => by simp [pairsOf] at hp
  | [a], _, p, hp => by simp [pairsOf] at hp
  | a :: b :: r, h, p, hp => by
    rw [pairsOf] at hp
    rcases List.mem_cons.1 hp with rfl | hp
    · exact ⟨by simp, by simp, h.1⟩
    · obtain ⟨h1, h2, h3⟩ := pairsOf_mem h.2 p hp
      exact ⟨List.mem_cons_of_mem _ h1, List.mem_cons_of_mem _ h2, h3⟩
def allPairs : List (List Nat) → List (Nat × Nat)
  | [] => []
  | l :: ls => pairsOf l ++ allPairs ls
theorem allPairs_length : ∀ {ls : List (List Nat)}, (∀ l ∈ ls, l ≠ []) → (allPairs ls).length + ls.length = ls.flatten.length
  | [], _ => rfl
  | l :: ls, h => by
    have h1 := allPairs_length (ls := ls) (fun x hx => h x (by simp [hx]))
    have h2 := pairsOf_length (h l (by simp))
    simp only [allPairs, List.length_append, List.length_cons, List.flatten_cons]; omega
theorem allPairs_fst : ∀ ls : List (List Nat), ((allPairs ls).map (·.1)).Sublist ls.flatten
  | [] => by simp [allPairs]
  | l :: ls => by
    rw [allPairs, List.map_append, List.flatten_cons]
    exact ((pairsOf_fst l).trans (List.tail_sublist l)).append (allPairs_fst ls)
theorem allPairs_snd : ∀ ls : List (List Nat), ((allPairs ls).map (·.2)).Sublist ls.flatten
  | [] => by simp [allPairs]
  | l :: ls => by
    rw [allPairs, List.map_append, List.flatten_cons]
    exact (pairsOf_snd l).append (allPairs_snd ls)
theorem allPairs_mem {F : Nat → Nat → Bool} : ∀ {ls : List (List Nat)}, (∀ l ∈ ls, ChainF F l) → ∀ p ∈ allPairs ls, p.1 ∈ ls.flatten ∧ p.2 ∈ ls.flatten ∧ F p.1 p.2 = true
  | [], _, p, hp => by simp [allPairs] at hp
  | l :: ls, h, p, hp => by
    rw [allPairs] at hp
    rw [List.flatten_cons]
    rcases List.mem_append.1 hp with hp | hp
    · obtain ⟨h1, h2, h3⟩ := pairsOf_mem (h l (by simp)) p hp
      exact ⟨List.mem_append_left _ h1, List.mem_append_left _ h2, h3⟩
    · obtain ⟨h1, h2, h3⟩ := allPairs_mem (fun x hx => h x (by simp [hx])) p hp
      exact ⟨List.mem_append_right _ h1, List.mem_append_right _ h2, h3⟩
/-- No way needs fewer piles. -/
theorem piles_le {F : Nat → Nat → Bool} {n : Nat} {ls : List (List Nat)} (hne : ∀ l ∈ ls, l ≠ []) (hch : ∀ l ∈ ls, ChainF F l) (hnd : ls.flatten.Nodup) (hlt : ∀ x ∈ ls.flatten, x < n) (hlen : ls.flatten.length = n) : n ≤ mostK F n n + ls.length := by
  have hM : IsMatching F n n (allPairs ls) := ⟨hnd.sublist (allPairs_fst ls), hnd.sublist (allPairs_snd ls), fun p hp => by
    obtain ⟨h1, h2, h3⟩ := allPairs_mem hch p hp
    exact ⟨hlt _ h1, hlt _ h2, h3⟩⟩
  have := mostK_ge hM
  have := allPairs_length hne
  omega
/-- A pile is no higher than its widest pot is deep. -/
theorem chain_deep {F : Nat → Nat → Bool} {n : Nat} {d : Nat → Int} (hd : ∀ x, x < n → 1 ≤ d x) (hF : ∀ a b, a < n → b < n → F a b = true → d a < d b) : ∀ (a : Nat) (l : List Nat), (∀ x ∈ a :: l, x < n) → ChainF F (a :: l) → ((a :: l).length : Int) ≤ d a
  | a, [], hl, _ => by have := hd a (hl a (by simp)); simpa using this
  | a, b :: r, hl, h => by
    have h1 := chain_deep hd hF b r (fun x hx => hl x (by simp [List.mem_cons.1 hx])) h.2
    have h2 := hF b a (hl b (by simp)) (hl a (by simp)) h.1
    simp only [List.length_cons, Int.natCast_add] at *; omega
/-- Each one stands in the one ahead of it. -/
def ChIx (F : Nat → Nat → Bool) (l : List Nat) : Prop := ∀ i (h : i + 1 < l.length), F (l[i + 1]) (l[i]) = true
theorem ChIx.chain {F : Nat → Nat → Bool} : ∀ {l : List Nat}, ChIx F l → ChainF F l
  | [], _ => trivial
  | [a], _ => trivial
  | a :: b :: r, h => ⟨h 0 (by simp), ChIx.chain (l := b :: r) fun i hi => h (i + 1) (by simp at *; omega)⟩
theorem ChIx.snoc {F : Nat → Nat → Bool} {l : List Nat} {x : Nat} (h : ChIx F l) (hx : ∀ y, l.getLast? = some y → F x y = true) : ChIx F (l ++ [x]) := fun i hi => by
  simp only [List.length_append, List.length_singleton] at hi
  by_cases he : i + 1 = l.length
  · have e1 : (l ++ [x])[i + 1]'(by simp; omega) = x := by simp [he]
    have e2 : (l ++ [x])[i]'(by simp; omega) = l[i]'(by omega) := List.getElem_append_left (by omega)
    rw [e1, e2]
    refine hx _ ?_
    rw [List.getLast?_eq_getElem?, show l.length - 1 = i by omega, List.getElem?_eq_getElem]
  · have e1 : (l ++ [x])[i + 1]'(by simp; omega) = l[i + 1]'(by omega) := List.getElem_append_left (by omega)
    have e2 : (l ++ [x])[i]'(by simp; omega) = l[i]'(by omega) := List.getElem_append_left (by omega)
    rw [e1, e2]
    exact h i (by omega)
/-- Those that fit nowhere stand alone. -/
theorem lonely_le {F : Nat → Nat → Bool} {n : Nat} {A : List Nat} (hA : A.Nodup) (hlt : ∀ x ∈ A, x < n) (hno : ∀ x ∈ A, ∀ b, b < n → F x b = false) : A.length + mostK F n n ≤ n := by
  obtain ⟨M, hM, hl⟩ := mostK_get F n n
  have hnd : (A ++ M.map (·.1)).Nodup := by
    refine List.pairwise_append.2 ⟨hA, hM.left, fun x hx y hy e => ?_⟩
    obtain ⟨p, hp, rfl⟩ := List.mem_map.1 hy
    obtain ⟨h1, h2, h3⟩ := hM.mem p hp
    rw [← e, hno x hx p.2 h2] at h3
    cases h3
  have := nodup_le (l' := List.range n) hnd (fun x hx => by
    rcases List.mem_append.1 hx with hx | hx
    · simpa using hlt x hx
    · obtain ⟨p, hp, rfl⟩ := List.mem_map.1 hx
      simpa using (hM.mem p hp).1)
  rw [List.length_append, List.length_map, List.length_range] at this
  omega
end Go.Law

namespace Go.Abs
open Go.Law
section
variable {n : Nat} {F : Nat → Nat → Bool}
theorem maxFit_ge {d : Nat → Int} {j : Nat} : ∀ {k i}, i < k → F i j = true → d i ≤ maxFit F d j k
  | 0, _, h, _ => by omega
  | k + 1, i, h, hf => by
    unfold maxFit
    by_cases e : i = k
    · subst e; rw [if_pos hf]; omega
    · have := maxFit_ge (d := d) (j := j) (k := k) (show i < k by omega) hf
      split <;> omega
theorem maxFit_at {d : Nat → Int} {j : Nat} : ∀ k, maxFit F d j k = 0 ∨ ∃ i, i < k ∧ F i j = true ∧ maxFit F d j k = d i
  | 0 => .inl rfl
  | k + 1 => by
    have ih := maxFit_at (d := d) (j := j) k
    unfold maxFit
    by_cases hf : F k j = true
    · rw [if_pos hf]
      rcases Int.le_total (maxFit F d j k) (d k) with h | h
      · exact .inr ⟨k, by omega, hf, by omega⟩
      · rcases ih with ih | ⟨i, hi, hfi, e⟩
        · left; omega
        · exact .inr ⟨i, by omega, hfi, by omega⟩
    · rw [if_neg hf]
      rcases ih with ih | ⟨i, hi, hfi, e⟩
      · exact .inl ih
      · exact .inr ⟨i, by omega, hfi, e⟩
theorem topD_at : ∀ k, topD n F k = 0 ∨ ∃ i, i < k ∧ dpt n F i = topD n F k
  | 0 => .inl rfl
  | k + 1 => by
    unfold topD
    rcases Int.le_total (topD n F k) (dpt n F k) with h | h
    · exact .inr ⟨k, by omega, by omega⟩
    · rcases topD_at k with ih | ⟨i, hi, e⟩
      · left; omega
      · exact .inr ⟨i, by omega, by omega⟩
theorem topD_ge : ∀ {k i}, i < k → dpt n F i ≤ topD n F k
  | 0, _, h => by omega
  | k + 1, i, h => by
    unfold topD
    by_cases e : i = k
    · subst e; omega
    · have := topD_ge (k := k) (show i < k by omega); omega
def goesOn (n : Nat) (F : Nat → Nat → Bool) (t : Int) (acc : List Nat) (k : Nat) : Bool := dpt n F k = t && (match acc.getLast? with | none => true | some l => F k l)
theorem nextPot_some {t : Int} {acc : List Nat} : ∀ {k j}, nextPot n F t acc k = some j → j < k ∧ goesOn n F t acc j = true
  | 0, _, h => by simp [nextPot] at h
  | k + 1, j, h => by
    unfold nextPot at h
    cases hn : nextPot n F t acc k with
    | some i =>
      rw [hn] at h
      injection h with h; subst h
      have := nextPot_some hn
      exact ⟨by omega, this.2⟩
    | none =>
      rw [hn] at h
      have h' : (if goesOn n F t acc k = true then some k else none) = some j := h
      by_cases hc : goesOn n F t acc k = true
      · rw [if_pos hc] at h'
        injection h' with h'; subst h'
        exact ⟨by omega, hc⟩
      · rw [if_neg hc] at h'; cases h'
theorem nextPot_found {t : Int} {acc : List Nat} : ∀ {k i}, i < k → goesOn n F t acc i = true → ∃ j, nextPot n F t acc k = some j
  | 0, _, h, _ => by omega
  | k + 1, i, h, hg => by
    unfold nextPot
    cases hn : nextPot n F t acc k with
    | some j => exact ⟨j, rfl⟩
    | none =>
      by_cases e : i = k
      · subst e
        refine ⟨i, ?_⟩
        simp only
        exact if_pos hg
      · obtain ⟨j, hj⟩ := nextPot_found (k := k) (show i < k by omega) hg
        rw [hn] at hj; cases hj
/-- The told nest is as long as told, and each pot stands in the one ahead of it. -/
theorem nestTo_full {r : Nat → Nat} (hr : ∀ i j, i < n → j < n → F i j = true → r i < r j) (hn : ∀ j, j < n → r j < n) : ∀ (t : Nat) (acc : List Nat), ChIx F acc → (∀ x ∈ acc, x < n) →
    ((acc = [] ∧ (t : Int) = topD n F n) ∨ ∃ l, acc.getLast? = some l ∧ dpt n F l = t + 1) → (nestTo n F t acc).length = acc.length + t ∧ ChIx F (nestTo n F t acc) ∧ ∀ x ∈ nestTo n F t acc, x < n
  | 0, acc, hc, hl, _ => ⟨by simp [nestTo], by simpa [nestTo] using hc, by simpa [nestTo] using hl⟩
  | t + 1, acc, hc, hl, hs => by
    have hex : ∃ i, i < n ∧ goesOn n F ((t : Int) + 1) acc i = true := by
      rcases hs with ⟨rfl, ht⟩ | ⟨l, hll, hd⟩
      · rcases topD_at (n := n) (F := F) n with h0 | ⟨i, hi, e⟩
        · omega
        · refine ⟨i, hi, ?_⟩
          simp only [goesOn, List.getLast?_nil, Bool.and_true, decide_eq_true_eq]
          omega
      · have hln : l < n := hl l (List.mem_of_getLast? hll)
        have he := dpt_eq hr hn hln
        rcases maxFit_at (F := F) (d := dpt n F) (j := l) n with h0 | ⟨i, hi, hf, e⟩
        · omega
        · refine ⟨i, hi, ?_⟩
          simp only [goesOn, hll, hf, Bool.and_true, decide_eq_true_eq]
          omega
    obtain ⟨i, hi, hg⟩ := hex
    obtain ⟨j, hj⟩ := nextPot_found hi hg
    obtain ⟨hjn, hgj⟩ := nextPot_some hj
    unfold nestTo
    rw [hj]
    simp only
    simp only [goesOn, Bool.and_eq_true, decide_eq_true_eq] at hgj
    have := nestTo_full hr hn t (acc ++ [j]) (hc.snoc fun y hy => by rw [hy] at hgj; exact hgj.2) (fun x hx => by
      rcases List.mem_append.1 hx with hx | hx
      · exact hl x hx
      · simp at hx; omega) (.inr ⟨j, by simp, by omega⟩)
    refine ⟨by rw [this.1]; simp; omega, this.2⟩
end
end Go.Abs
