/-
  Pots, part 5: the longest nest. Conditions: none.
-/
import Derived.Test.YtnipgigpjhalkaaNestB
import Derived.Test.YtnipgigpjhalkaaLawNest
set_option linter.unusedSimpArgs false
set_option linter.unusedVariables false
set_option linter.unusedSectionVars false
namespace Go.Proofs.Ytnipgigpjhalkaa
open Go.Abs Go.RowKit

theorem countP_lt {α : Type} {p q : α → Bool} {y : α} : ∀ {l : List α}, (∀ x ∈ l, p x = true → q x = true) → y ∈ l → q y = true → p y = false → l.countP p < l.countP q
  | [], _, hy, _, _ => by simp at hy
  | x :: l, h, hy, hq, hp => by
    have hle : l.countP p ≤ l.countP q := List.countP_mono_left fun z hz => h z (by simp [hz])
    rcases List.mem_cons.1 hy with rfl | hy
    · rw [List.countP_cons_of_neg (by simp [hp]), List.countP_cons_of_pos hq]; omega
    · have ih := countP_lt (fun z hz => h z (by simp [hz])) hy hq hp
      by_cases hx : p x = true
      · rw [List.countP_cons_of_pos hx, List.countP_cons_of_pos (h x (by simp) hx)]; omega
      · rw [List.countP_cons_of_neg hx]
        by_cases hx' : q x = true
        · rw [List.countP_cons_of_pos hx']; omega
        · rw [List.countP_cons_of_neg hx']; exact ih
def fitF (xs : List I3) (i j : Nat) : Bool := fitB (potAt xs i) (potAt xs j)
def rnk (xs : List I3) (j : Nat) : Nat := (List.range xs.length).countP fun i => decide ((potAt xs i).1 < (potAt xs j).1)
theorem rnk_lt {xs : List I3} {j : Nat} (hj : j < xs.length) : rnk xs j < xs.length := by
  have h1 : rnk xs j < (List.range xs.length).countP fun _ => true := countP_lt (y := j) (fun _ _ _ => rfl) (by simpa using hj) rfl (by simp)
  have h2 := List.countP_le_length (p := fun _ : Nat => true) (l := List.range xs.length)
  rw [List.length_range] at h2
  omega
theorem rnk_rise {xs : List I3} (i j : Nat) (hi : i < xs.length) (_ : j < xs.length) (h : fitF xs i j = true) : rnk xs i < rnk xs j := by
  have h1 : (potAt xs i).1 < (potAt xs j).1 := by
    simp only [fitF, fitB, Bool.and_eq_true, decide_eq_true_eq] at h; exact h.1
  refine countP_lt (y := i) (fun k _ hk => ?_) (by simpa using hi) (by simpa using h1) (by simp)
  simp only [decide_eq_true_eq] at hk ⊢
  omega
def dP (xs : List I3) (j : Nat) : Int := dpt xs.length (fitF xs) j
theorem dP_eq {xs : List I3} {j : Nat} (hj : j < xs.length) : dP xs j = maxFit (fitF xs) (dP xs) j xs.length + 1 := dpt_eq rnk_rise (fun _ h => rnk_lt h) hj
theorem dP_bounds (xs : List I3) (j : Nat) : 0 ≤ dP xs j ∧ dP xs j ≤ xs.length := dpt_bounds j
theorem longestFrom_c (xs : List I3) (a : Option Addr) (hn : xs.length ≤ 1048576) : ∀ (r j : Nat) (m : Mem), RdG v3 3 m a xs → j < xs.length → rnk xs j < r →
    ACalls Try.prog 69 [.slice a xs.length xs.length, .int .i64 j] m (.int .i64 (dP xs j)) m
  | 0, _, _, _, _, h => by omega
  | r + 1, j, m, hr, hj, hrk => by
    have IH := longestFrom_c xs a hn r
    refine acalls_of_vc Try.func69 rfl Try.fol (by kernel_rfl) ?_
    simp only [Try.f69]
    simp -dsimp -implicitDefEqProofs
    refine loopN xs.length (fun k σ m' => m' = m ∧ σ 0 = some (.slice a xs.length xs.length) ∧ σ 1 = some (.int .i64 j) ∧ σ 5 = some (.int .i64 (maxFit (fitF xs) (dP xs) j k)) ∧ σ 8 = some (.int .i64 xs.length) ∧ σ 9 = some (.int .i64 k)) ⟨rfl, by simp [maxFit]⟩ ?_
    rintro k σ m' hk ⟨rfl, s0, s1, s5, s8, s9⟩
    by_cases hlt : k < xs.length
    · obtain ⟨id, off, o, ha, hm, hkd, hsz, hl, hrow, _⟩ := R3.at_ hr hlt
      obtain ⟨id', off', o', ha', hm', hkd', hsz', hl', hrow', _⟩ := R3.at_ hr hj
      subst ha
      simp at ha'
      obtain ⟨rfl, rfl⟩ := ha'
      rw [hm] at hm'
      injection hm' with hm'
      subst hm'
      have hw : IntKind.i64.wrap ((k : Int) + 1) = k + 1 := wrapI (by omega) (by omega)
      have hf : fitB xs[k] xs[j] = fitF xs k j := by rw [fitF, potAt_eq hlt, potAt_eq hj]
      simp -dsimp -implicitDefEqProofs [s0, s1, s5, s8, s9, hlt, hj, withO_of hm, hkd, hsz, hl, hrow, hl', hrow', hw]
      refine callsTo Try.cal57 (fitsIn_c xs[k] xs[j] _) ?_
      simp -dsimp -implicitDefEqProofs [s0, s1, s5, s8, s9, hlt, hj, withO_of hm, hkd, hsz, hl, hrow, hl', hrow', hw]
      rw [hf]
      cases hfk : fitF xs k j with
      | true =>
        simp -dsimp -implicitDefEqProofs [s0, s1, s5, s8, s9, hlt, hj, withO_of hm, hkd, hsz, hl, hrow, hl', hrow', hw]
        refine callsTo Try.cal69 (IH k _ hr hlt (by have := rnk_rise k j hlt hj hfk; omega)) ?_
        simp -dsimp -implicitDefEqProofs [s0, s1, s5, s8, s9, hlt, hj, withO_of hm, hkd, hsz, hl, hrow, hl', hrow', hw]
        exact next_ hlt ⟨rfl, by simp [s0, s1, s8, hw, maxFit, hfk]⟩
      | false =>
        simp -dsimp -implicitDefEqProofs [s0, s1, s5, s8, s9, hlt, hj, withO_of hm, hkd, hsz, hl, hrow, hl', hrow', hw]
        exact next_ hlt ⟨rfl, by simp [s0, s1, s5, s8, hw, maxFit, hfk]⟩
    · obtain rfl : k = xs.length := by omega
      have hb := dP_bounds xs j
      have he := dP_eq hj
      have hw : IntKind.i64.wrap (maxFit (fitF xs) (dP xs) j xs.length + 1) = dP xs j := by rw [he]; exact wrapI (by omega) (by omega)
      simp -dsimp -implicitDefEqProofs [s0, s1, s5, s8, s9, hw]
      exact GC.refl _ _ _
/-! ### The depths, round by round -/
def lg (L : List Int) (i : Nat) : Int := L.getD i 0
def Good (xs : List I3) (L : List Int) (t jc : Nat) : Prop :=
  L.length = xs.length ∧ (∀ j, j < xs.length → 0 ≤ lg L j ∧ lg L j ≤ dP xs j) ∧ ∀ j, j < xs.length → (rnk xs j < t ∨ (j < jc ∧ rnk xs j < t + 1)) → lg L j = dP xs j
theorem Good.zero (xs : List I3) : Good xs (List.replicate xs.length 0) 0 0 := by
  refine ⟨by simp, fun j hj => ?_, fun j _ h => by omega⟩
  have : lg (List.replicate xs.length (0 : Int)) j = 0 := by simp [lg, List.getD_eq_getElem?_getD, hj]
  rw [this]
  exact ⟨Int.le_refl _, (dP_bounds xs j).1⟩
theorem Good.val {xs : List I3} {L : List Int} {t jc : Nat} (h : Good xs L t jc) : 0 ≤ maxFit (fitF xs) (lg L) jc xs.length + 1 ∧ (jc < xs.length → maxFit (fitF xs) (lg L) jc xs.length + 1 ≤ dP xs jc) := by
  refine ⟨by have := maxFit_nonneg (F := fitF xs) (lg L) jc xs.length; omega, fun hj => ?_⟩
  rw [dP_eq hj]
  have := maxFit_le (F := fitF xs) (d := (lg L)) (d' := dP xs) (j := jc) (k := xs.length) fun i hi _ => (h.2.1 i hi).2
  omega
theorem Good.step {xs : List I3} {L : List Int} {t jc : Nat} (h : Good xs L t jc) (hj : jc < xs.length) : Good xs (L.set jc (maxFit (fitF xs) (lg L) jc xs.length + 1)) t (jc + 1) := by
  obtain ⟨h1, h2, h3⟩ := h
  have hv := Good.val ⟨h1, h2, h3⟩
  have hself : lg (L.set jc (maxFit (fitF xs) (lg L) jc xs.length + 1)) jc = maxFit (fitF xs) (lg L) jc xs.length + 1 := by
    unfold lg
    rw [List.getD_eq_getElem?_getD, List.getElem?_set_self (by omega)]; rfl
  have hne : ∀ j, jc ≠ j → lg (L.set jc (maxFit (fitF xs) (lg L) jc xs.length + 1)) j = lg L j := fun j hne => by
    unfold lg
    rw [List.getD_eq_getElem?_getD, List.getElem?_set_ne hne, List.getD_eq_getElem?_getD]
  refine ⟨by simp [h1], fun j hj' => ?_, fun j hj' hc => ?_⟩
  · by_cases e : jc = j
    · subst e; rw [hself]; exact ⟨hv.1, hv.2 hj⟩
    · rw [hne j e]; exact h2 j hj'
  · by_cases e : jc = j
    · subst e
      rw [hself, dP_eq hj, maxFit_congr (F := fitF xs) (d := (lg L)) (d' := dP xs) fun i hi hf => h3 i hi (.inl (by have := rnk_rise i jc hi hj hf; omega))]
    · rw [hne j e]; exact h3 j hj' (by omega)
theorem Good.round {xs : List I3} {L : List Int} {t : Nat} (h : Good xs L t xs.length) : Good xs L (t + 1) 0 :=
  ⟨h.1, h.2.1, fun j hj hc => h.2.2 j hj (by omega)⟩
def dL (xs : List I3) : List Int := (List.range xs.length).map (dP xs)
theorem Good.all {xs : List I3} {L : List Int} (h : Good xs L xs.length 0) : L = dL xs := by
  apply List.ext_getElem (by simp [dL, h.1])
  intro i h1 h2
  have hi : i < xs.length := by have := h.1; omega
  have := h.2.2 i hi (.inl (rnk_lt hi))
  rw [lg, getI h1] at this
  rw [this]; simp [dL]
theorem max_succ (a b : Int) : max (a + 1) (b + 1) = max a b + 1 := by omega
theorem l19Depths_c (xs : List I3) (a : Option Addr) (m : Mem) (hr : RdG v3 3 m a xs) (hn : xs.length ≤ 1048576) :
    ACalls Try.prog 67 [.slice a xs.length xs.length] m (.slice (some ⟨m.length, 0, none⟩) xs.length xs.length) (m ++ [⟨(dL xs).map (Value.int .i64), 2, 1, 1⟩]) := by
  refine acalls_of_vc Try.func67 rfl Try.fol (by kernel_rfl) ?_
  simp only [Try.f67]
  simp -dsimp -implicitDefEqProofs
  refine need_intro (by omega) ?_
  refine loopN xs.length (fun t σ m' => ∃ L, Good xs L t 0 ∧ m' = m ++ [⟨L.map (Value.int .i64), 2, 1, 1⟩] ∧ σ 0 = some (.slice a xs.length xs.length) ∧ σ 3 = some (.slice (some ⟨m.length, 0, none⟩) xs.length xs.length) ∧ σ 4 = some (.int .i64 t))
    ⟨_, Good.zero xs, by simp, by simp⟩ ?_
  rintro t σ m' ht ⟨L, hg, rfl, s0, s3, s4⟩
  by_cases hlt : t < xs.length
  · simp -dsimp -implicitDefEqProofs [s0, s3, s4, hlt]
    refine loopN xs.length (fun j σ m' => ∃ L, Good xs L t j ∧ m' = m ++ [⟨L.map (Value.int .i64), 2, 1, 1⟩] ∧ σ 0 = some (.slice a xs.length xs.length) ∧ σ 3 = some (.slice (some ⟨m.length, 0, none⟩) xs.length xs.length) ∧ σ 4 = some (.int .i64 t) ∧ σ 5 = some (.int .i64 j))
      ⟨L, hg, rfl, by simp [s0, s3, s4]⟩ ?_
    clear hg s0 s3 s4
    rintro j σ m' hj ⟨L, hg, rfl, s0, s3, s4, s5⟩
    by_cases hlt2 : j < xs.length
    · simp -dsimp -implicitDefEqProofs [s0, s3, s4, s5, hlt2]
      have hL := hg.1
      refine loopN xs.length (fun k σ m' => m' = m ++ [⟨L.map (Value.int .i64), 2, 1, 1⟩] ∧ σ 0 = some (.slice a xs.length xs.length) ∧ σ 3 = some (.slice (some ⟨m.length, 0, none⟩) xs.length xs.length) ∧ σ 4 = some (.int .i64 t) ∧ σ 5 = some (.int .i64 j) ∧
        σ 6 = some (.int .i64 (maxFit (fitF xs) (lg L) j k + 1)) ∧ σ 7 = some (.int .i64 k)) ⟨rfl, by simp [s0, s3, s4, s5, maxFit]⟩ ?_
      rintro k σ m' hk ⟨rfl, s0, s3, s4, s5, s6, s7⟩
      by_cases hlt3 : k < xs.length
      · obtain ⟨id, off, o, ha, hm, hkd, hsz, hl, hrow, hc0, hc1, hc2⟩ := R3.at_ hr hlt3
        obtain ⟨id', off', o', ha', hm', hkd', hsz', hl', hrow', hd0, hd1, hd2⟩ := R3.at_ hr hlt2
        subst ha
        simp at ha'
        obtain ⟨rfl, rfl⟩ := ha'
        rw [hm] at hm'
        injection hm' with hm'
        subst hm'
        have hw : IntKind.i64.wrap ((k : Int) + 1) = k + 1 := wrapI (by omega) (by omega)
        have hf : fitB xs[k] xs[j] = fitF xs k j := by rw [fitF, potAt_eq hlt3, potAt_eq hlt2]
        have hkL : k < L.length := by omega
        have hv := hg.2.1 k hlt3
        have hb := dP_bounds xs k
        have hcell : (L.map (Value.int .i64))[k]? = some (.int .i64 (lg L k)) := by rw [List.getElem?_map, List.getElem?_eq_getElem hkL, lg, getI hkL]; rfl
        have hw2 : IntKind.i64.wrap (lg L k + 1) = lg L k + 1 := wrapI (by omega) (by omega)
        have hL2 : (L.map (Value.int .i64)).length = xs.length := by simp [hL]
        have hmx : max (maxFit (fitF xs) (lg L) j k + 1) (lg L k + 1) = max (maxFit (fitF xs) (lg L) j k) (lg L k) + 1 := by omega
        have hp1 : IsP (m ++ [⟨L.map (Value.int .i64), 2, 1, 1⟩]) id ((off + k) * 3) xs[k] := ⟨o, get_old hm, hkd, hc0, hc1, hc2⟩
        have hp2 : IsP (m ++ [⟨L.map (Value.int .i64), 2, 1, 1⟩]) id ((off + j) * 3) xs[j] := ⟨o, get_old hm, hkd, hd0, hd1, hd2⟩
        simp -dsimp -implicitDefEqProofs [s0, s3, s4, s5, s6, s7, hlt3, hlt2, fun l => withO_of (get_old (l := l) hm), hkd, hsz, hL, hL2, withC_of hcell, hw, hw2]
        refine callsTo Try.cal55 (l19Fits_c xs[k] xs[j] _ _ _ _ _ hp1 hp2) ?_
        simp -dsimp -implicitDefEqProofs [s0, s3, s4, s5, s6, s7, hlt3, hlt2, fun l => withO_of (get_old (l := l) hm), hkd, hsz, hL, hL2, withC_of hcell, hw, hw2]
        rw [hf]
        cases hfk : fitF xs k j with
        | true =>
          simp -dsimp -implicitDefEqProofs [s0, s3, s4, s5, s6, s7, hlt3, hlt2, fun l => withO_of (get_old (l := l) hm), hkd, hsz, hL, hL2, withC_of hcell, hw, hw2]
          refine callsTo Try.cal68 (l00Max_c _ _ _) ?_
          simp -dsimp -implicitDefEqProofs [s0, s3, s4, s5, s6, s7, hlt3, hlt2, fun l => withO_of (get_old (l := l) hm), hkd, hsz, hL, hL2, withC_of hcell, hw, hw2]
          exact next_ hlt3 ⟨rfl, by simp [s0, s3, s4, s5, hw, maxFit, hfk]⟩
        | false =>
          simp -dsimp -implicitDefEqProofs [s0, s3, s4, s5, s6, s7, hlt3, hlt2, fun l => withO_of (get_old (l := l) hm), hkd, hsz, hL, hL2, withC_of hcell, hw, hw2]
          exact next_ hlt3 ⟨rfl, by simp [s0, s3, s4, s5, s6, hw, maxFit, hfk]⟩
      · obtain rfl : k = xs.length := by omega
        have hw : IntKind.i64.wrap ((j : Int) + 1) = j + 1 := wrapI (by omega) (by omega)
        have hL2 : (L.map (Value.int .i64)).length = xs.length := by simp [hL]
        simp -dsimp -implicitDefEqProofs [s0, s3, s4, s5, s6, s7, hlt2, hL, hL2, hw]
        refine need_intro (by omega) ?_
        exact next_ hlt2 ⟨_, hg.step hlt2, by rw [List.map_set], by simp [s0, s3, s4, hw]⟩
    · obtain rfl : j = xs.length := by omega
      have hw : IntKind.i64.wrap ((t : Int) + 1) = t + 1 := wrapI (by omega) (by omega)
      simp -dsimp -implicitDefEqProofs [s0, s3, s4, s5, hw]
      exact next_ hlt ⟨L, hg.round, rfl, by simp [s0, s3, hw]⟩
  · simp -dsimp -implicitDefEqProofs [s0, s3, s4, hlt]
    obtain rfl : t = xs.length := by omega
    rw [hg.all]
    exact GC.refl _ _ _
end Go.Proofs.Ytnipgigpjhalkaa
