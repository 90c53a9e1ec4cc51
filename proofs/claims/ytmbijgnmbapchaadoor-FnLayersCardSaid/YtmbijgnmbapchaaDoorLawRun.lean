/-
  Runs of equal elements in a row that goes on for ever: two ways to tell the longest. Plain: no program in sight. Conditions: none.
-/

set_option linter.unusedSectionVars false
namespace Go.Law

section
variable {α : Type} [DecidableEq α] (f : Nat → α)

/-- How many equal ones end at this place. -/
def runAt : Nat → Nat
  | 0 => 1
  | i + 1 => if f (i + 1) = f i then runAt i + 1 else 1
/-- The longest of the runs that end ahead of k. -/
def maxS : Nat → Nat
  | 0 => 0
  | k + 1 => if f k = f (k + 1) then maxS k else max (maxS k) (runAt f k)
/-- The longest at any place ahead of k, at most n. -/
def maxI (n : Nat) : Nat → Nat
  | 0 => 1
  | k + 1 => max (maxI n k) (min (runAt f k) n)

theorem runAt_pos : ∀ i, 1 ≤ runAt f i
  | 0 => Nat.le_refl _
  | i + 1 => by unfold runAt; split <;> omega
theorem runAt_le : ∀ i, runAt f i ≤ i + 1
  | 0 => Nat.le_refl _
  | i + 1 => by have := runAt_le i; unfold runAt; split <;> omega
theorem runAt_eq : ∀ i j, j < runAt f i → f (i - j) = f i
  | 0, j, h => by simp
  | i + 1, j, h => by
    unfold runAt at h
    split at h
    · rename_i he
      cases j with
      | zero => rfl
      | succ j =>
        rw [show i + 1 - (j + 1) = i - j by omega, he]
        exact runAt_eq i j (by omega)
    · have : j = 0 := by omega
      subst this; rfl
theorem runAt_ge : ∀ i m, m ≤ i + 1 → (∀ j, j < m → f (i - j) = f i) → m ≤ runAt f i
  | 0, m, hm, h => by unfold runAt; omega
  | i + 1, m, hm, h => by
    by_cases h2 : m ≤ 1
    · have := runAt_pos f (i + 1); omega
    · have h1 := h 1 (by omega)
      rw [show i + 1 - 1 = i by omega] at h1
      have ih := runAt_ge i (m - 1) (by omega) fun j hj => by
        have := h (j + 1) (by omega)
        rw [show i + 1 - (j + 1) = i - j by omega] at this
        rw [this, h1]
      unfold runAt
      rw [if_pos h1.symm]
      omega
theorem maxS_ge {k : Nat} (hc : f k ≠ f (k + 1)) : ∀ {K : Nat}, k < K → runAt f k ≤ maxS f K
  | 0, h => by omega
  | K + 1, h => by
    unfold maxS
    by_cases e : k = K
    · subst e; rw [if_neg hc]; omega
    · have := maxS_ge hc (K := K) (by omega)
      split <;> omega

variable {n : Nat} (hp : ∀ i, f (i + n) = f i)
include hp
theorem f_mul (r : Nat) : ∀ q, f (r + n * q) = f r
  | 0 => by simp
  | q + 1 => by rw [Nat.mul_succ, ← Nat.add_assoc, hp]; exact f_mul r q
theorem f_at (hn : 0 < n) (x a : Nat) (ha : a < n) : ∃ j, j < n ∧ f (x + j) = f a := by
  have hx := Nat.mod_add_div x n
  have hr := Nat.mod_lt x hn
  by_cases h : x % n ≤ a
  · refine ⟨a - x % n, by omega, ?_⟩
    rw [show x + (a - x % n) = a + n * (x / n) by omega]
    exact f_mul f hp a _
  · refine ⟨a + n - x % n, by omega, ?_⟩
    rw [show x + (a + n - x % n) = a + n * (x / n + 1) by rw [Nat.mul_succ]; omega]
    exact f_mul f hp a _
variable (hb : ∃ a b, a < n ∧ b < n ∧ f a ≠ f b)
include hb
theorem not_const (x : Nat) : ¬ ∀ j, j < n → f (x + j) = f x := by
  obtain ⟨a, b, ha, hbn, hab⟩ := hb
  intro h
  obtain ⟨i, hi, ei⟩ := f_at f hp (by omega) x a ha
  obtain ⟨j, hj, ej⟩ := f_at f hp (by omega) x b hbn
  exact hab (by rw [← ei, ← ej, h i hi, h j hj])
theorem change_in (x : Nat) : ∃ j, j + 1 < n ∧ f (x + j) ≠ f (x + j + 1) ∧ ∀ t, t ≤ j → f (x + t) = f x := by
  have key : ∀ m, m < n → (∀ t, t ≤ m → f (x + t) = f x) ∨ ∃ j, j + 1 < n ∧ f (x + j) ≠ f (x + j + 1) ∧ ∀ t, t ≤ j → f (x + t) = f x := by
    intro m
    induction m with
    | zero => exact fun _ => .inl fun t ht => by rw [show t = 0 by omega]; rfl
    | succ m ih =>
      intro hm
      rcases ih (by omega) with h | h
      · by_cases e : f (x + m) = f (x + m + 1)
        · refine .inl fun t ht => ?_
          by_cases h1 : t ≤ m
          · exact h t h1
          · rw [show x + t = x + m + 1 by omega, ← e]; exact h m (Nat.le_refl _)
        · exact .inr ⟨m, hm, e, h⟩
      · exact .inr h
  have hn : 0 < n := by obtain ⟨a, _, ha, _⟩ := hb; omega
  rcases key (n - 1) (by omega) with h | h
  · exact absurd (fun j hj => h j (by omega)) (not_const f hp hb x)
  · exact h
theorem run_lt (i : Nat) : runAt f i < n := by
  rcases Nat.lt_or_ge (runAt f i) n with h | h
  · exact h
  · exfalso
    have hle := runAt_le f i
    have hn : 0 < n := by obtain ⟨a, _, ha, _⟩ := hb; omega
    refine not_const f hp hb (i - (n - 1)) fun j hj => ?_
    have e1 := runAt_eq f i (n - 1 - j) (by omega)
    have e2 := runAt_eq f i (n - 1) (by omega)
    rw [show i - (n - 1) + j = i - (n - 1 - j) by omega, e1, e2]
theorem run_le_max (i : Nat) (hi : i < 2 * n) : runAt f i ≤ maxS f (2 * n) := by
  obtain ⟨j, hj, hc, he⟩ := change_in f hp hb i
  have h1 := runAt_le f i
  have hrun : runAt f i + j ≤ runAt f (i + j) := by
    refine runAt_ge f (i + j) _ (by omega) fun t ht => ?_
    have hij := he j (Nat.le_refl _)
    by_cases h : t ≤ j
    · rw [show i + j - t = i + (j - t) by omega, he _ (by omega), hij]
    · rw [show i + j - t = i - (t - j) by omega, runAt_eq f i (t - j) (by omega), hij]
  by_cases hlt : i + j < 2 * n
  · have := maxS_ge f hc hlt; omega
  · have hr := run_lt f hp hb (i + j)
    have hback : ∀ x, n ≤ x → f (x - n) = f x := fun x hx => by
      have := hp (x - n)
      rw [show x - n + n = x by omega] at this
      exact this.symm
    have h2 : runAt f (i + j) ≤ runAt f (i + j - n) := by
      refine runAt_ge f (i + j - n) _ (by omega) fun t ht => ?_
      rw [show i + j - n - t = (i + j - t) - n by omega, hback _ (by omega), hback _ (by omega)]
      exact runAt_eq f _ t ht
    have hc2 : f (i + j - n) ≠ f (i + j - n + 1) := by
      rw [hback _ (by omega), show i + j - n + 1 = (i + j + 1) - n by omega, hback _ (by omega)]
      exact hc
    have := maxS_ge f hc2 (K := 2 * n) (by omega)
    omega
theorem max_eq : maxI f n (2 * n) = maxS f (2 * n) := by
  have hn : 0 < n := by obtain ⟨a, _, ha, _⟩ := hb; omega
  have ge : ∀ k, maxS f k ≤ maxI f n k := by
    intro k
    induction k with
    | zero => simp [maxS]
    | succ k ih =>
      have := run_lt f hp hb k
      unfold maxS maxI
      split <;> omega
  have le : ∀ k, k ≤ 2 * n → maxI f n k ≤ maxS f (2 * n) := by
    intro k
    induction k with
    | zero =>
      intro _
      have h1 := run_le_max f hp hb 0 (by omega)
      have h2 := runAt_pos f 0
      unfold maxI; omega
    | succ k ih =>
      intro hk
      have h1 := run_le_max f hp hb k (by omega)
      have := ih (by omega)
      unfold maxI; omega
  have := ge (2 * n)
  have := le (2 * n) (Nat.le_refl _)
  omega
theorem maxS_pos : 0 < maxS f (2 * n) := by
  have hn : 0 < n := by obtain ⟨a, _, ha, _⟩ := hb; omega
  have h1 := run_le_max f hp hb 0 (by omega)
  have h2 := runAt_pos f 0
  omega
end
theorem maxS_zero {α : Type} [DecidableEq α] {f : Nat → α} (h : ∀ i, f i = f 0) : ∀ k, maxS f k = 0
  | 0 => rfl
  | k + 1 => by
    unfold maxS
    rw [if_pos (by rw [h k, h (k + 1)])]
    exact maxS_zero h k

/-! ### Words of two letters -/
def cyc (l : List UInt8) (i : Nat) : UInt8 := l.getD (i % l.length) 0
def runS (l : List UInt8) : Nat := maxS (cyc l) (2 * l.length)
def runI (l : List UInt8) : Nat := maxI (cyc l) l.length (2 * l.length)
def bothL (l : List UInt8) : Bool := l.contains 70 && l.contains 66
theorem cyc_period (l : List UInt8) (i : Nat) : cyc l (i + l.length) = cyc l i := by simp [cyc]
theorem cyc_mem {l : List UInt8} (h : 0 < l.length) (i : Nat) : cyc l i ∈ l := by
  unfold cyc
  have := Nat.mod_lt i h
  rw [List.getD_eq_getElem?_getD, List.getElem?_eq_getElem this]
  exact List.getElem_mem this
theorem both_places {l : List UInt8} (h : bothL l = true) : ∃ a b, a < l.length ∧ b < l.length ∧ cyc l a ≠ cyc l b := by
  simp only [bothL, Bool.and_eq_true, List.contains_iff_mem] at h
  obtain ⟨h1, h2⟩ := h
  obtain ⟨a, ha, ea⟩ := List.getElem_of_mem h1
  obtain ⟨b, hb, eb⟩ := List.getElem_of_mem h2
  refine ⟨a, b, ha, hb, ?_⟩
  unfold cyc
  rw [Nat.mod_eq_of_lt ha, Nat.mod_eq_of_lt hb, List.getD_eq_getElem?_getD, List.getD_eq_getElem?_getD, List.getElem?_eq_getElem ha, List.getElem?_eq_getElem hb]
  simp [ea, eb]
theorem run_both {l : List UInt8} (h : bothL l = true) : runI l = runS l ∧ 0 < runS l :=
  ⟨max_eq (cyc l) (cyc_period l) (both_places h), maxS_pos (cyc l) (cyc_period l) (both_places h)⟩
theorem run_same {l : List UInt8} (hn : 0 < l.length) (hl : l.all (([70, 66] : List UInt8).contains ·) = true) (h : bothL l = false) : runS l = 0 := by
  refine maxS_zero (fun i => ?_) _
  have hi := cyc_mem hn i
  have h0 := cyc_mem hn 0
  have hmem : ∀ x, x ∈ l → x = 70 ∨ x = 66 := fun x hx => by simpa using List.all_eq_true.1 hl x hx
  have no : ¬ ((70 : UInt8) ∈ l ∧ (66 : UInt8) ∈ l) := fun hh => by
    have : bothL l = true := by simp only [bothL, Bool.and_eq_true, List.contains_iff_mem]; exact hh
    rw [this] at h; cases h
  rcases hmem _ hi with e1 | e1 <;> rcases hmem _ h0 with e2 | e2
  · rw [e1, e2]
  · exact absurd ⟨e1 ▸ hi, e2 ▸ h0⟩ no
  · exact absurd ⟨e2 ▸ h0, e1 ▸ hi⟩ no
  · rw [e1, e2]
end Go.Law
