/-
  Plain law: one look of the search for a matching, step by step. Conditions: none; no program in sight.
-/
import Derived.Test.YtnipgigpjhalkaaLawLids
set_option linter.unusedSimpArgs false
set_option linter.unusedVariables false
set_option linter.unusedSectionVars false
namespace Go.Law

theorem range_drop {n b : Nat} (h : b < n) : (List.range n).drop b = b :: (List.range n).drop (b + 1) := by
  rw [List.drop_eq_getElem_cons (by simpa using h), List.getElem_range]
theorem range_drop_all (n : Nat) : (List.range n).drop n = [] := List.drop_eq_nil_of_le (by simp)
section
variable {find : Nat → KSt → Bool × KSt} {may : Nat → Nat → Bool} {a b : Nat} {bs : List Nat} {st st2 : KSt}
theorem kscan_skip (h : (st.seen.getD b false || !may a b) = true) : kscan find may a (b :: bs) st = kscan find may a bs st := by
  rw [kscan, if_pos h]
theorem kscan_free (h : (st.seen.getD b false || !may a b) = false) (hr : st.right.getD b 0 < 0) : kscan find may a (b :: bs) st = (true, ⟨st.left.set a b, st.right.set b a, st.seen.set b true⟩) := by
  rw [kscan, if_neg (by rw [h]; simp)]
  simp only [if_pos hr]
theorem kscan_hit (h : (st.seen.getD b false || !may a b) = false) (hr : ¬ st.right.getD b 0 < 0) (hf : (find (st.right.getD b 0).toNat ⟨st.left, st.right, st.seen.set b true⟩).1 = true) :
    kscan find may a (b :: bs) st = (true, ⟨(find (st.right.getD b 0).toNat ⟨st.left, st.right, st.seen.set b true⟩).2.left.set a b, (find (st.right.getD b 0).toNat ⟨st.left, st.right, st.seen.set b true⟩).2.right.set b a, (find (st.right.getD b 0).toNat ⟨st.left, st.right, st.seen.set b true⟩).2.seen⟩) := by
  rw [kscan, if_neg (by rw [h]; simp)]
  simp only [if_neg hr]
  generalize find (st.right.getD b 0).toNat ⟨st.left, st.right, st.seen.set b true⟩ = p at *
  obtain ⟨p1, p2⟩ := p
  simp only at hf; subst hf; rfl
theorem kscan_miss (h : (st.seen.getD b false || !may a b) = false) (hr : ¬ st.right.getD b 0 < 0) (hf : (find (st.right.getD b 0).toNat ⟨st.left, st.right, st.seen.set b true⟩).1 = false) :
    kscan find may a (b :: bs) st = kscan find may a bs (find (st.right.getD b 0).toNat ⟨st.left, st.right, st.seen.set b true⟩).2 := by
  rw [kscan, if_neg (by rw [h]; simp)]
  simp only [if_neg hr]
  generalize find (st.right.getD b 0).toNat ⟨st.left, st.right, st.seen.set b true⟩ = p at *
  obtain ⟨p1, p2⟩ := p
  simp only at hf; subst hf; rfl
end
/-- Lists of their lengths, numbers in their bounds. -/
structure KOK (n m : Nat) (st : KSt) : Prop where
  left : st.left.length = n
  right : st.right.length = m
  seen : st.seen.length = m
  ix : ∀ b, b < m → st.right.getD b 0 = -1 ∨ (0 ≤ st.right.getD b 0 ∧ st.right.getD b 0 < (n : Int))
theorem KOK.set {n m a b : Nat} {st : KSt} (h : KOK n m st) (ha : a < n) (l : List Int) (hl : l.length = n) (s : List Bool) (hs : s.length = m) : KOK n m ⟨l, st.right.set b (a : Int), s⟩ := by
  refine ⟨hl, by simpa using h.right, hs, fun c hc => ?_⟩
  simp only [List.getD_eq_getElem?_getD, List.getElem?_set]
  by_cases he : b = c
  · subst he
    rw [if_pos rfl]
    by_cases hb : b < st.right.length
    · rw [if_pos hb]; simp; omega
    · rw [h.right] at hb; omega
  · rw [if_neg he]
    have := h.ix c hc
    simpa only [List.getD_eq_getElem?_getD] using this
theorem unseen_set_le (s : List Bool) (b : Nat) : unseen (s.set b true) ≤ unseen s := by
  by_cases hb : b < s.length
  · by_cases h : s.getD b false = false
    · have := unseen_set hb h; omega
    · have e : s.set b true = s := by
        have : s[b] = true := by simpa [List.getD_eq_getElem?_getD, hb] using h
        rw [← this, List.set_getElem_self]
      rw [e]; exact Nat.le_refl _
  · rw [List.set_eq_of_length_le (by omega)]; exact Nat.le_refl _
theorem kscan_ok {n m : Nat} {may : Nat → Nat → Bool} {find : Nat → KSt → Bool × KSt} (hfind : ∀ a st, a < n → KOK n m st → KOK n m (find a st).2 ∧ unseen (find a st).2.seen ≤ unseen st.seen) {a : Nat} (ha : a < n) :
    ∀ (bs : List Nat) (st : KSt), (∀ b ∈ bs, b < m) → KOK n m st → KOK n m (kscan find may a bs st).2 ∧ unseen (kscan find may a bs st).2.seen ≤ unseen st.seen
  | [], st, _, h => ⟨h, Nat.le_refl _⟩
  | b :: bs, st, hb, h => by
    have hbm := hb b (by simp)
    have hrest := fun x hx => hb x (List.mem_cons_of_mem b hx)
    cases hc : (st.seen.getD b false || !may a b) with
    | true => rw [kscan_skip hc]; exact kscan_ok hfind ha bs st hrest h
    | false =>
      have hle := unseen_set_le st.seen b
      have h1 : KOK n m ⟨st.left, st.right, st.seen.set b true⟩ := ⟨h.left, h.right, by simpa using h.seen, h.ix⟩
      by_cases hr : st.right.getD b 0 < 0
      · rw [kscan_free hc hr]
        exact ⟨h.set ha _ (by simpa using h.left) _ (by simpa using h.seen), hle⟩
      · have hx := h.ix b hbm
        have hf := hfind (st.right.getD b 0).toNat _ (by omega) h1
        cases hh : (find (st.right.getD b 0).toNat ⟨st.left, st.right, st.seen.set b true⟩).1 with
        | true =>
          rw [kscan_hit hc hr hh]
          exact ⟨hf.1.set ha _ (by simpa using hf.1.left) _ hf.1.seen, Nat.le_trans hf.2 hle⟩
        | false =>
          rw [kscan_miss hc hr hh]
          have := kscan_ok (may := may) hfind ha bs _ hrest hf.1
          exact ⟨this.1, Nat.le_trans this.2 (Nat.le_trans hf.2 hle)⟩
theorem kfind_ok {n m : Nat} (may : Nat → Nat → Bool) : ∀ (f a : Nat) (st : KSt), a < n → KOK n m st → KOK n m (kfind may m f a st).2 ∧ unseen (kfind may m f a st).2.seen ≤ unseen st.seen
  | 0, a, st, _, h => ⟨h, Nat.le_refl _⟩
  | f + 1, a, st, ha, h => kscan_ok (fun a st h1 h2 => kfind_ok may f a st h1 h2) ha _ _ (fun b hb => by simpa using hb) h
theorem unseen_new (m : Nat) : unseen (List.replicate m false) = m := by simp [unseen]
/-- What stands before the k-th one is looked for. -/
def kst (may : Nat → Nat → Bool) (n m k : Nat) : KSt := ⟨(kall may m k (List.replicate n (-1)) (List.replicate m (-1))).1, (kall may m k (List.replicate n (-1)) (List.replicate m (-1))).2.1, List.replicate m false⟩
def kcnt (may : Nat → Nat → Bool) (n m k : Nat) : Nat := (kall may m k (List.replicate n (-1)) (List.replicate m (-1))).2.2
theorem kst_succ (may : Nat → Nat → Bool) (n m k : Nat) : (kst may n m (k + 1)).left = (kfind may m (m + 1) k (kst may n m k)).2.left ∧ (kst may n m (k + 1)).right = (kfind may m (m + 1) k (kst may n m k)).2.right ∧
    kcnt may n m (k + 1) = kcnt may n m k + if (kfind may m (m + 1) k (kst may n m k)).1 then 1 else 0 := by
  unfold kst kcnt
  rw [kall]
  generalize kall may m k (List.replicate n (-1)) (List.replicate m (-1)) = q
  obtain ⟨l1, r1, c⟩ := q
  simp only
  generalize kfind may m (m + 1) k ⟨l1, r1, List.replicate m false⟩ = p
  obtain ⟨b, st⟩ := p
  cases b <;> simp
theorem kst_ok (may : Nat → Nat → Bool) (n m : Nat) : ∀ k, k ≤ n → KOK n m (kst may n m k)
  | 0, _ => ⟨by simp [kst, kall], by simp [kst, kall], by simp [kst], fun b hb => .inl (by simp [kst, kall, List.getD_eq_getElem?_getD, hb])⟩
  | k + 1, hk => by
    have h := (kfind_ok may (m + 1) k _ (show k < n by omega) (kst_ok may n m k (by omega))).1
    obtain ⟨e1, e2, _⟩ := kst_succ may n m k
    exact ⟨by rw [e1]; exact h.left, by rw [e2]; exact h.right, by simp [kst], fun b hb => by rw [e2]; exact h.ix b hb⟩
theorem kcnt_all (may : Nat → Nat → Bool) (n m : Nat) : kcnt may n m n = mostK may m n := rfl
theorem kcnt_le (may : Nat → Nat → Bool) (n m : Nat) : ∀ k, kcnt may n m k ≤ k
  | 0 => by simp [kcnt, kall]
  | k + 1 => by
    have := kcnt_le may n m k
    rw [(kst_succ may n m k).2.2]; split <;> omega
end Go.Law
