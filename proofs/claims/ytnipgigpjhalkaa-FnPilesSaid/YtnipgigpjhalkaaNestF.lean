/-
  Pots, part 5: the longest nest. Conditions: none.
-/
import Derived.Test.YtnipgigpjhalkaaNestB
import Derived.Test.YtnipgigpjhalkaaLawNest
set_option linter.unusedSimpArgs false
set_option linter.unusedVariables false
set_option linter.unusedSectionVars false
namespace Go.Proofs.Ytnipgigpjhalkaa
open Go.Abs Go.RowKit

theorem countP_lt {α : Type} {p q : α → Bool} {y : α} : ∀ {l : List α}, (∀ x ∈ l, p x = true → q x = true) → y ∈ l → q y = true → p y = false → l.countP p < l.countP q
  | [], _, hy, _, _ => by simp at hy
  | x :: l, h, hy, hq, hp => by
    have hle : l.countP p ≤ l.countP q := List.countP_mono_left fun z hz => h z (by simp [hz])
    rcases List.mem_cons.1 hy with rfl | hy
    · rw [List.countP_cons_of_neg (by simp [hp]), List.countP_cons_of_pos hq]; omega
    · have ih := countP_lt (fun z hz => h z (by simp [hz])) hy hq hp
      by_cases hx : p x = true
      · rw [List.countP_cons_of_pos hx, List.countP_cons_of_pos (h x (by simp) hx)]; omega
      · rw [List.countP_cons_of_neg hx]
        by_cases hx' : q x = true
        · rw [List.countP_cons_of_pos hx']; omega
        · rw [List.countP_cons_of_neg hx']; exact ih
def fitF (xs : List I3) (i j : Nat) : Bool := fitB (potAt xs i) (potAt xs j)
def rnk (xs : List I3) (j : Nat) : Nat := (List.range xs.length).countP fun i => decide ((potAt xs i).1 < (potAt xs j).1)
theorem rnk_lt {xs : List I3} {j : Nat} (hj : j < xs.length) : rnk xs j < xs.length := by
  have h1 : rnk xs j < (List.range xs.length).countP fun _ => true := countP_lt (y := j) (fun _ _ _ => rfl) (by simpa using hj) rfl (by simp)
  have h2 := List.countP_le_length (p := fun _ : Nat => true) (l := List.range xs.length)
  rw [List.length_range] at h2
  omega
theorem rnk_rise {xs : List I3} (i j : Nat) (hi : i < xs.length) (_ : j < xs.length) (h : fitF xs i j = true) : rnk xs i < rnk xs j := by
  have h1 : (potAt xs i).1 < (potAt xs j).1 := by
    simp only [fitF, fitB, Bool.and_eq_true, decide_eq_true_eq] at h; exact h.1
  refine countP_lt (y := i) (fun k _ hk => ?_) (by simpa using hi) (by simpa using h1) (by simp)
  simp only [decide_eq_true_eq] at hk ⊢
  omega
def dP (xs : List I3) (j : Nat) : Int := dpt xs.length (fitF xs) j
theorem dP_eq {xs : List I3} {j : Nat} (hj : j < xs.length) : dP xs j = maxFit (fitF xs) (dP xs) j xs.length + 1 := dpt_eq rnk_rise (fun _ h => rnk_lt h) hj
theorem dP_bounds (xs : List I3) (j : Nat) : 0 ≤ dP xs j ∧ dP xs j ≤ xs.length := dpt_bounds j
theorem longestFrom_c (xs : List I3) (a : Option Addr) (hn : xs.length ≤ 1048576) : ∀ (r j : Nat) (m : Mem), RdG v3 3 m a xs → j < xs.length → rnk xs j < r →
    ACalls Try.prog 69 [.slice a xs.length xs.length, .int .i64 j] m (.int .i64 (dP xs j)) m
  | 0, _, _, _, _, h => by omega
  | r + 1, j, m, hr, hj, hrk => by
    have IH := longestFrom_c xs a hn r
    refine acalls_of_vc Try.func69 rfl Try.fol (by kernel_rfl) ?_
    simp only [Try.f69]
    simp -dsimp -implicitDefEqProofs
    refine loopN xs.length (fun k σ m' => m' = m ∧ σ 0 = some (.slice a xs.length xs.length) ∧ σ 1 = some (.int .i64 j) ∧ σ 5 = some (.int .i64 (maxFit (fitF xs) (dP xs) j k)) ∧ σ 8 = some (.int .i64 xs.length) ∧ σ 9 = some (.int .i64 k)) ⟨rfl, by simp [maxFit]⟩ ?_
    rintro k σ m' hk ⟨rfl, s0, s1, s5, s8, s9⟩
    by_cases hlt : k < xs.length
    · obtain ⟨id, off, o, ha, hm, hkd, hsz, hl, hrow, _⟩ := R3.at_ hr hlt
      obtain ⟨id', off', o', ha', hm', hkd', hsz', hl', hrow', _⟩ := R3.at_ hr hj
      subst ha
      simp at ha'
      obtain ⟨rfl, rfl⟩ := ha'
      rw [hm] at hm'
      injection hm' with hm'
      subst hm'
      have hw : IntKind.i64.wrap ((k : Int) + 1) = k + 1 := wrapI (by omega) (by omega)
      have hf : fitB xs[k] xs[j] = fitF xs k j := by rw [fitF, potAt_eq hlt, potAt_eq hj]
      simp -dsimp -implicitDefEqProofs [s0, s1, s5, s8, s9, hlt, hj, withO_of hm, hkd, hsz, hl, hrow, hl', hrow', hw]
      refine callsTo Try.cal57 (fitsIn_c xs[k] xs[j] _) ?_
      simp -dsimp -implicitDefEqProofs [s0, s1, s5, s8, s9, hlt, hj, withO_of hm, hkd, hsz, hl, hrow, hl', hrow', hw]
      rw [hf]
      cases hfk : fitF xs k j with
      | true =>
        simp -dsimp -implicitDefEqProofs [s0, s1, s5, s8, s9, hlt, hj, withO_of hm, hkd, hsz, hl, hrow, hl', hrow', hw]
        refine callsTo Try.cal69 (IH k _ hr hlt (by have := rnk_rise k j hlt hj hfk; omega)) ?_
        simp -dsimp -implicitDefEqProofs [s0, s1, s5, s8, s9, hlt, hj, withO_of hm, hkd, hsz, hl, hrow, hl', hrow', hw]
        exact next_ hlt ⟨rfl, by simp [s0, s1, s8, hw, maxFit, hfk]⟩
      | false =>
        simp -dsimp -implicitDefEqProofs [s0, s1, s5, s8, s9, hlt, hj, withO_of hm, hkd, hsz, hl, hrow, hl', hrow', hw]
        exact next_ hlt ⟨rfl, by simp [s0, s1, s5, s8, hw, maxFit, hfk]⟩
    · obtain rfl : k = xs.length := by omega
      have hb := dP_bounds xs j
      have he := dP_eq hj
      have hw : IntKind.i64.wrap (maxFit (fitF xs) (dP xs) j xs.length + 1) = dP xs j := by rw [he]; exact wrapI (by omega) (by omega)
      simp -dsimp -implicitDefEqProofs [s0, s1, s5, s8, s9, hw]
      exact GC.refl _ _ _
/-! ### The depths, round by round -/
def lg (L : List Int) (i : Nat) : Int := L.getD i 0
def Good (xs : List I3) (L : List Int) (t jc : Nat) : Prop :=
  L.length = xs.length ∧ (∀ j, j < xs.length → 0 ≤ lg L j ∧ lg L j ≤ dP xs j) ∧ ∀ j, j < xs.length → (rnk xs j < t ∨ (j < jc ∧ rnk xs j < t + 1)) → lg L j = dP xs j
theorem Good.zero (xs : List I3) : Good xs (List.replicate xs.length 0) 0 0 := by
  refine ⟨by simp, fun j hj => ?_, fun j _ h => by omega⟩
  have : lg (List.replicate xs.length (0 : Int)) j = 0 := by simp [lg, List.getD_eq_getElem?_getD, hj]
  rw [this]
  exact ⟨Int.le_refl _, (dP_bounds xs j).1⟩
theorem Good.val {xs : List I3} {L : List Int} {t jc : Nat} (h : Good xs L t jc) : 0 ≤ maxFit (fitF xs) (lg L) jc xs.length + 1 ∧ (jc < xs.length → maxFit (fitF xs) (lg L) jc xs.length + 1 ≤ dP xs jc) := by
  refine ⟨by have := maxFit_nonneg (F := fitF xs) (lg L) jc xs.length; omega, fun hj => ?_⟩
  rw [dP_eq hj]
  have := maxFit_le (F := fitF xs) (d := (lg L)) (d' := dP xs) (j := jc) (k := xs.length) fun i hi _ => (h.2.1 i hi).2
  omega
theorem Good.step {xs : List I3} {L : List Int} {t jc : Nat} (h : Good xs L t jc) (hj : jc < xs.length) : Good xs (L.set jc (maxFit (fitF xs) (lg L) jc xs.length + 1)) t (jc + 1) := by
  obtain ⟨h1, h2, h3⟩ := h
  have hv := Good.val ⟨h1, h2, h3⟩
  have hself : lg (L.set jc (maxFit (fitF xs) (lg L) jc xs.length + 1)) jc = maxFit (fitF xs) (lg L) jc xs.length + 1 := by
    unfold lg
    rw [List.getD_eq_getElem?_getD, List.getElem?_set_self (by omega)]; rfl
  have hne : ∀ j, jc ≠ j → lg (L.set jc (maxFit (fitF xs) (lg L) jc xs.length + 1)) j = lg L j := fun j hne => by
    unfold lg
    rw [List.getD_eq_getElem?_getD, List.getElem?_set_ne hne, List.getD_eq_getElem?_getD]
  refine ⟨by simp [h1], fun j hj' => ?_, fun j hj' hc => ?_⟩
  · by_cases e : jc = j
    · subst e; rw [hself]; exact ⟨hv.1, hv.2 hj⟩
    · rw [hne j e]; exact h2 j hj'
  · by_cases e : jc = j
    · subst e
      rw [hself, dP_eq hj, maxFit_congr (F := fitF xs) (d := (lg L)) (d' := dP xs) fun i hi hf => h3 i hi (.inl (by have := rnk_rise i jc hi hj hf; omega))]
    · rw [hne j e]; exact h3 j hj' (by omega)
theorem Good.round {xs : List I3} {L : List Int} {t : Nat} (h : Good xs L t xs.length) : Good xs L (t + 1) 0 :=
  ⟨h.1, h.2.1, fun j hj hc => h.2.2 j hj (by omega)⟩
def dL (xs : List I3) : List Int := (List.range xs.length).map (dP xs)
theorem Good.all {xs : List I3} {L : List Int} (h : Good xs L xs.length 0) : L = dL xs := by
  apply List.ext_getElem (by simp [dL, h.1])
  intro i h1 h2
  have hi : i < xs.length := by have := h.1; omega
  have := h.2.2 i hi (.inl (rnk_lt hi))
  rw [lg, getI h1] at this
  rw [this]; simp [dL]
theorem max_succ (a b : Int) : max (a + 1) (b + 1) = max a b + 1 := by omega
theorem l19Depths_c (xs : List I3) (a : Option Addr) (m : Mem) (hr : RdG v3 3 m a xs) (hn : xs.length ≤ 1048576) :
    ACalls Try.prog 67 [.slice a xs.length xs.length] m (.slice (some ⟨m.length, 0, none⟩) xs.length xs.length) (m ++ [⟨(dL xs).map (Value.int .i64), 2, 1, 1⟩]) := by
  refine acalls_of_vc Try.func67 rfl Try.fol (by kernel_rfl) ?_
  simp only [Try.f67]
  simp -dsimp -implicitDefEqProofs
  refine need_intro (by omega) ?_
  refine loopN xs.length (fun t σ m' => ∃ L, Good xs L t 0 ∧ m' = m ++ [⟨L.map (Value.int .i64), 2, 1, 1⟩] ∧ σ 0 = some (.slice a xs.length xs.length) ∧ σ 3 = some (.slice (some ⟨m.length, 0, none⟩) xs.length xs.length) ∧ σ 4 = some (.int .i64 t))
    ⟨_, Good.zero xs, by simp, by simp⟩ ?_
  rintro t σ m' ht ⟨L, hg, rfl, s0, s3, s4⟩
  by_cases hlt : t < xs.length
  · simp -dsimp -implicitDefEqProofs [s0, s3, s4, hlt]
    refine loopN xs.length (fun j σ m' => ∃ L, Good xs L t j ∧ m' = m ++ [⟨L.map (Value.int .i64), 2, 1, 1⟩] ∧ σ 0 = some (.slice a xs.length xs.length) ∧ σ 3 = some (.slice (some ⟨m.length, 0, none⟩) xs.length xs.length) ∧ σ 4 = some (.int .i64 t) ∧ σ 5 = some (.int .i64 j))
      ⟨L, hg, rfl, by simp [s0, s3, s4]⟩ ?_
    clear hg s0 s3 s4
    rintro j σ m' hj ⟨L, hg, rfl, s0, s3, s4, s5⟩
    by_cases hlt2 : j < xs.length
    · simp -dsimp -implicitDefEqProofs [s0, s3, s4, s5, hlt2]
      have hL := hg.1
      refine loopN xs.length (fun k σ m' => m' = m ++ [⟨L.map (Value.int .i64), 2, 1, 1⟩] ∧ σ 0 = some (.slice a xs.length xs.length) ∧ σ 3 = some (.slice (some ⟨m.length, 0, none⟩) xs.length xs.length) ∧ σ 4 = some (.int .i64 t) ∧ σ 5 = some (.int .i64 j) ∧
        σ 6 = some (.int .i64 (maxFit (fitF xs) (lg L) j k + 1)) ∧ σ 7 = some (.int .i64 k)) ⟨rfl, by simp [s0, s3, s4, s5, maxFit]⟩ ?_
      rintro k σ m' hk ⟨rfl, s0, s3, s4, s5, s6, s7⟩
      by_cases hlt3 : k < xs.length
      · obtain ⟨id, off, o, ha, hm, hkd, hsz, hl, hrow, hc0, hc1, hc2⟩ := R3.at_ hr hlt3
        obtain ⟨id', off', o', ha', hm', hkd', hsz', hl', hrow', hd0, hd1, hd2⟩ := R3.at_ hr hlt2
        subst ha
        simp at ha'
        obtain ⟨rfl, rfl⟩ := ha'
        rw [hm] at hm'
        injection hm' with hm'
        subst hm'
        have hw : IntKind.i64.wrap ((k : Int) + 1) = k + 1 := wrapI (by omega) (by omega)
        have hf : fitB xs[k] xs[j] = fitF xs k j := by rw [fitF, potAt_eq hlt3, potAt_eq hlt2]
        have hkL : k < L.length := by omega
        have hv := hg.2.1 k hlt3
        have hb := dP_bounds xs k
        have hcell : (L.map (Value.int .i64))[k]? = some (.int .i64 (lg L k)) := by rw [List.getElem?_map, List.getElem?_eq_getElem hkL, lg, getI hkL]; rfl
        have hw2 : IntKind.i64.wrap (lg L k + 1) = lg L k + 1 := wrapI (by omega) (by omega)
        have hL2 : (L.map (Value.int .i64)).length = xs.length := by simp [hL]
        have hmx : max (maxFit (fitF xs) (lg L) j k + 1) (lg L k + 1) = max (maxFit (fitF xs) (lg L) j k) (lg L k) + 1 := by omega
        have hp1 : IsP (m ++ [⟨L.map (Value.int .i64), 2, 1, 1⟩]) id ((off + k) * 3) xs[k] := ⟨o, get_old hm, hkd, hc0, hc1, hc2⟩
        have hp2 : IsP (m ++ [⟨L.map (Value.int .i64), 2, 1, 1⟩]) id ((off + j) * 3) xs[j] := ⟨o, get_old hm, hkd, hd0, hd1, hd2⟩
        simp -dsimp -implicitDefEqProofs [s0, s3, s4, s5, s6, s7, hlt3, hlt2, fun l => withO_of (get_old (l := l) hm), hkd, hsz, hL, hL2, withC_of hcell, hw, hw2]
        refine callsTo Try.cal55 (l19Fits_c xs[k] xs[j] _ _ _ _ _ hp1 hp2) ?_
        simp -dsimp -implicitDefEqProofs [s0, s3, s4, s5, s6, s7, hlt3, hlt2, fun l => withO_of (get_old (l := l) hm), hkd, hsz, hL, hL2, withC_of hcell, hw, hw2]
        rw [hf]
        cases hfk : fitF xs k j with
        | true =>
          simp -dsimp -implicitDefEqProofs [s0, s3, s4, s5, s6, s7, hlt3, hlt2, fun l => withO_of (get_old (l := l) hm), hkd, hsz, hL, hL2, withC_of hcell, hw, hw2]
          refine callsTo Try.cal68 (l00Max_c _ _ _) ?_
          simp -dsimp -implicitDefEqProofs [s0, s3, s4, s5, s6, s7, hlt3, hlt2, fun l => withO_of (get_old (l := l) hm), hkd, hsz, hL, hL2, withC_of hcell, hw, hw2]
          exact next_ hlt3 ⟨rfl, by simp [s0, s3, s4, s5, hw, maxFit, hfk]⟩
        | false =>
          simp -dsimp -implicitDefEqProofs [s0, s3, s4, s5, s6, s7, hlt3, hlt2, fun l => withO_of (get_old (l := l) hm), hkd, hsz, hL, hL2, withC_of hcell, hw, hw2]
          exact next_ hlt3 ⟨rfl, by simp [s0, s3, s4, s5, s6, hw, maxFit, hfk]⟩
      · obtain rfl : k = xs.length := by omega
        have hw : IntKind.i64.wrap ((j : Int) + 1) = j + 1 := wrapI (by omega) (by omega)
        have hL2 : (L.map (Value.int .i64)).length = xs.length := by simp [hL]
        simp -dsimp -implicitDefEqProofs [s0, s3, s4, s5, s6, s7, hlt2, hL, hL2, hw]
        refine need_intro (by omega) ?_
        exact next_ hlt2 ⟨_, hg.step hlt2, by rw [List.map_set], by simp [s0, s3, s4, hw]⟩
    · obtain rfl : j = xs.length := by omega
      have hw : IntKind.i64.wrap ((t : Int) + 1) = t + 1 := wrapI (by omega) (by omega)
      simp -dsimp -implicitDefEqProofs [s0, s3, s4, s5, hw]
      exact next_ hlt ⟨L, hg.round, rfl, by simp [s0, s3, hw]⟩
  · simp -dsimp -implicitDefEqProofs [s0, s3, s4, hlt]
    obtain rfl : t = xs.length := by omega
    rw [hg.all]
    exact GC.refl _ _ _
end Go.Proofs.Ytnipgigpjhalkaa
namespace Go.Proofs.Ytnipgigpjhalkaa
open Go.Abs Go.RowKit

/-- Fits with none of these, either way. -/
def aloneB (p : I3) (xs : List I3) : Bool := xs.all fun q => !fitB p q && !fitB q p
def aloneTo (xs : List I3) (k : Nat) : List Int := ((List.range k).filter fun i => aloneB (xs.getD i (0, 0, 0)) xs).map fun (i : Nat) => (i : Int)
def aloneO (xs : List I3) : Option (List Int) := if potsB xs then some (aloneTo xs xs.length) else none
def potsC (xs : List I3) : Int := if potsB xs then 0 else 1
theorem aloneTo_succ {xs : List I3} {k : Nat} (h : k < xs.length) : aloneTo xs (k + 1) = if aloneB xs[k] xs then aloneTo xs k ++ [(k : Int)] else aloneTo xs k := by
  unfold aloneTo
  rw [List.range_succ, List.filter_append, List.map_append]
  cases hf : aloneB xs[k] xs <;> simp [List.getElem?_eq_getElem h, hf]
theorem aloneTo_length (xs : List I3) (k : Nat) : (aloneTo xs k).length ≤ k := by
  unfold aloneTo
  rw [List.length_map]
  exact Nat.le_trans (List.length_filter_le _ _) (by simp)
theorem aloneO_length {xs : List I3} {zs : List Int} (h : aloneO xs = some zs) : zs.length ≤ xs.length := by
  unfold aloneO at h
  split at h
  · injection h with h; subst h; exact aloneTo_length _ _
  · cases h
theorem alone_step {p : I3} {xs : List I3} {i : Nat} (h : i < xs.length) : aloneB p (xs.take (i + 1)) = (aloneB p (xs.take i) && (!fitB p xs[i] && !fitB xs[i] p)) := by
  unfold aloneB
  rw [List.take_add_one, List.getElem?_eq_getElem h, List.all_append]; simp

theorem specAlone_c (xs : List I3) (a : Option Addr) (m : Mem) (hr : RdG v3 3 m a xs) (hn : xs.length ≤ 1048576) :
    ACalls Try.prog 24 [.slice a xs.length xs.length] m (.tuple #[optV m.length (aloneO xs), .int .i64 (potsC xs)]) (m ++ optM 2 (aloneO xs)) := by
  refine acalls_of_vc Try.func24 rfl Try.fol (by kernel_rfl) ?_
  simp only [Try.f24]
  simp -dsimp -implicitDefEqProofs
  refine callsTo Try.cal59 (l19Ok_c xs a _ hr hn) ?_
  simp -dsimp -implicitDefEqProofs
  refine ⟨fun g => ?_, fun g0 => ?_⟩
  · simp at g
    simp [aloneO, potsC, g, optV, optM]
    exact GC.refl _ _ _
  simp at g0
  refine loopN xs.length (fun k σ m' => ∃ id ob, m <+: m' ∧ m.length ≤ id ∧ m'[id]? = some ob ∧ (ob.cells = (aloneTo xs k).map (Value.int .i64) ∧ ob.elem = 2 ∧ ob.sz = 1 ∧ 1 ≤ ob.kind ∧ ob.kind ≤ 2) ∧
      σ 0 = some (.slice a xs.length xs.length) ∧ σ 4 = some (.slice (some ⟨id, 0, none⟩) (aloneTo xs k).length (aloneTo xs k).length) ∧ σ 5 = some (.int .i64 k))
    ⟨m.length, ⟨[], 2, 1, 1⟩, pre_app (pre_refl m) _, Nat.le_refl _, by simp, by simp [aloneTo], by simp [aloneTo]⟩ ?_
  rintro k σ m' hk ⟨id, ob, hp, hid, hob, ⟨ob1, ob2, ob3, ob4, ob5⟩, s0, s4, s5⟩
  by_cases hlt : k < xs.length
  · have hw : IntKind.i64.wrap ((k : Int) + 1) = k + 1 := wrapI (by omega) (by omega)
    obtain ⟨idx, offx, ox, rfl, hm, hkd, hsz, hl, hrow, _⟩ := R3.at_ hr hlt
    have hm' := prefix_get hp hm
    simp -dsimp -implicitDefEqProofs [s0, s4, s5, hlt]
    refine loopN xs.length (fun i σ1 m1 => m1 = m' ∧ σ1 0 = some (.slice (some ⟨idx, offx, none⟩) xs.length xs.length) ∧ σ1 4 = some (.slice (some ⟨id, 0, none⟩) (aloneTo xs k).length (aloneTo xs k).length) ∧ σ1 5 = some (.int .i64 k) ∧
      σ1 6 = some (.bool (aloneB xs[k] (xs.take i))) ∧ σ1 7 = some (.int .i64 i)) ⟨rfl, by simp [s0, s4, s5, aloneB]⟩ ?_
    rintro i σ1 m1 hi ⟨rfl, t0, t4, t5, t6, t7⟩
    by_cases hli : i < xs.length
    · have hwi : IntKind.i64.wrap ((i : Int) + 1) = i + 1 := wrapI (by omega) (by omega)
      have hst := alone_step (p := xs[k]) hli
      cases hf : aloneB xs[k] (xs.take i) with
      | false =>
        rw [hf] at t6 hst
        simp -dsimp -implicitDefEqProofs [t0, t4, t5, t6, t7, hli, hlt, hwi]
        exact next_ hli ⟨rfl, by simp [t0, t4, t5, hwi, hst]⟩
      | true =>
        rw [hf] at t6 hst
        simp -dsimp -implicitDefEqProofs [t0, t4, t5, t6, t7, hli, hlt, hwi, withO_of hm', hkd, hsz]
        refine callsTo Try.cal55 (l19Fits_c xs[k] xs[i] _ _ _ _ _ ((IsP.row hr hlt).ext hp) ((IsP.row hr hli).ext hp)) ?_
        simp -dsimp -implicitDefEqProofs [t0, t4, t5, t6, t7, hli, hlt, hwi, withO_of hm', hkd, hsz]
        cases hf1 : fitB xs[k] xs[i] with
        | true =>
          simp -dsimp -implicitDefEqProofs [t0, t4, t5, t6, t7, hli, hlt, hwi, withO_of hm', hkd, hsz]
          exact next_ hli ⟨rfl, by simp [t0, t4, t5, hwi, hst, hf1]⟩
        | false =>
          simp -dsimp -implicitDefEqProofs [t0, t4, t5, t6, t7, hli, hlt, hwi, withO_of hm', hkd, hsz]
          refine callsTo Try.cal55 (l19Fits_c xs[i] xs[k] _ _ _ _ _ ((IsP.row hr hli).ext hp) ((IsP.row hr hlt).ext hp)) ?_
          simp -dsimp -implicitDefEqProofs [t0, t4, t5, t6, t7, hli, hlt, hwi, withO_of hm', hkd, hsz]
          exact next_ hli ⟨rfl, by simp [t0, t4, t5, hwi, hst, hf1]⟩
    · obtain rfl : i = xs.length := by omega
      rw [List.take_length] at t6
      simp -dsimp -implicitDefEqProofs [t0, t4, t5, t6, t7, hli, hlt, hw]
      cases hf : aloneB xs[k] xs with
      | false =>
        simp -dsimp -implicitDefEqProofs [t0, t4, t5, t6, t7, hli, hlt, hw]
        exact next_ hlt ⟨id, ob, hp, hid, hob, by rw [aloneTo_succ hlt, hf]; exact ⟨ob1, ob2, ob3, ob4, ob5⟩, by simp [t0, t4, t5, aloneTo_succ hlt, hf, hw]⟩
      | true =>
        have hlen := aloneTo_length xs k
        simp -dsimp -implicitDefEqProofs [t0, t4, t5, t6, t7, hli, hlt, hw]
        refine appTo_grow Try.sl38 Try.inf2 ⟨by decide, rfl⟩ (o := ob) (get_old hob) ⟨ob4, ob5⟩ ⟨ob3, ob2⟩ (by rw [ob1]; simp) ⟨by omega, by omega⟩ (Src.obj (o := ⟨[.int .i64 k], _, 1, 1⟩) (by simp; rfl) (by simp) rfl rfl) ?_
        intro m2 id2 hg
        simp -dsimp -implicitDefEqProofs [t0, t4, t5, t6, t7, hli, hlt, hw]
        refine next_ hlt ⟨id2, _, hg.pre m (pre_app hp _) hid, by rw [hg.at_]; simp; have := hp.length_le; omega, hg.new, ?_, ?_⟩
        · rw [aloneTo_succ hlt]; simp [hf, ob1]
        · simp [t0, t4, t5, aloneTo_succ hlt, hf, hw]
  · simp -dsimp -implicitDefEqProofs [s0, s4, s5, hlt]
    obtain rfl : k = xs.length := by omega
    simp only [aloneO, potsC, g0, if_true, optV, optM]
    exact GC.keepTP (Fits.refl m) hp hob hid ob3.symm ob2.symm (by simp; omega) ob1.symm (by rw [ob1]; exact ints_lit _) rfl
theorem implAlone_c (xs : List I3) (a : Option Addr) (m : Mem) (hr : RdG v3 3 m a xs) (hn : xs.length ≤ 1048576) :
    ACalls Try.prog 25 [.slice a xs.length xs.length] m (.tuple #[optV m.length (aloneO xs), .int .i64 (potsC xs)]) (m ++ optM 2 (aloneO xs)) := by
  refine acalls_of_vc Try.func25 rfl Try.fol (by kernel_rfl) ?_
  simp only [Try.f25]
  simp -dsimp -implicitDefEqProofs
  refine callsTo Try.cal22 (validPots_c xs a _ hr hn) ?_
  simp -dsimp -implicitDefEqProofs
  refine ⟨fun g => ?_, fun g0 => ?_⟩
  · simp at g
    simp [aloneO, potsC, g, optV, optM]
    exact GC.refl _ _ _
  simp at g0
  refine loopN xs.length (fun k σ m' => ∃ id ob, m <+: m' ∧ m.length ≤ id ∧ m'[id]? = some ob ∧ (ob.cells = (aloneTo xs k).map (Value.int .i64) ∧ ob.elem = 2 ∧ ob.sz = 1 ∧ 1 ≤ ob.kind ∧ ob.kind ≤ 2) ∧
      σ 0 = some (.slice a xs.length xs.length) ∧ σ 14 = some (.slice a xs.length xs.length) ∧ σ 15 = some (.int .i64 xs.length) ∧ σ 4 = some (.slice (some ⟨id, 0, none⟩) (aloneTo xs k).length (aloneTo xs k).length) ∧ σ 16 = some (.int .i64 k))
    ⟨m.length, ⟨[], 2, 1, 1⟩, pre_app (pre_refl m) _, Nat.le_refl _, by simp, by simp [aloneTo], by simp [aloneTo]⟩ ?_
  rintro k σ m' hk ⟨id, ob, hp, hid, hob, ⟨ob1, ob2, ob3, ob4, ob5⟩, s0, s14, s15, s4, s16⟩
  by_cases hlt : k < xs.length
  · have hw : IntKind.i64.wrap ((k : Int) + 1) = k + 1 := wrapI (by omega) (by omega)
    obtain ⟨idx, offx, ox, rfl, hm, hkd, hsz, hl, hrow, _⟩ := R3.at_ hr hlt
    have hm' := prefix_get hp hm
    simp -dsimp -implicitDefEqProofs [s0, s14, s15, s4, s16, hlt, withO_of hm', fun l => withO_of (get_old (l := l) hm'), hkd, hsz, hl, hrow, v3]
    refine loopN xs.length (fun i σ1 m1 => (m' ++ [⟨v3 xs[k], 26, 3, 1⟩]) <+: m1 ∧ σ1 0 = some (.slice (some ⟨idx, offx, none⟩) xs.length xs.length) ∧ σ1 14 = some (.slice (some ⟨idx, offx, none⟩) xs.length xs.length) ∧ σ1 15 = some (.int .i64 xs.length) ∧ σ1 4 = some (.slice (some ⟨id, 0, none⟩) (aloneTo xs k).length (aloneTo xs k).length) ∧
      σ1 16 = some (.int .i64 k) ∧ σ1 5 = some (.int .i64 k) ∧ σ1 6 = some (.pointer (some ⟨m'.length, 0, none⟩)) ∧ σ1 7 = some (.bool (aloneB xs[k] (xs.take i))) ∧ σ1 21 = some (.slice (some ⟨idx, offx, none⟩) xs.length xs.length) ∧ σ1 22 = some (.int .i64 xs.length) ∧ σ1 23 = some (.int .i64 i))
      ⟨pre_refl _, by simp [s0, s14, s15, s4, s16, aloneB]⟩ ?_
    rintro i σ1 m1 hi ⟨hp1, t0, t14, t15, t4, t16, t5, t6, t7, t21, t22, t23⟩
    have hp' : m' <+: m1 := (pre_app (pre_refl m') _).trans hp1
    by_cases hli : i < xs.length
    · have hwi : IntKind.i64.wrap ((i : Int) + 1) = i + 1 := wrapI (by omega) (by omega)
      have hst := alone_step (p := xs[k]) hli
      have hbox : m1[m'.length]? = some ⟨v3 xs[k], 26, 3, 1⟩ := prefix_get hp1 (by simp)
      have hm1 := prefix_get hp' hm'
      obtain ⟨idi, offi, oi, hai, hmi, hkdi, hszi, hli', hrowi, _⟩ := R3.at_ hr hli
      simp at hai
      obtain ⟨rfl, rfl⟩ := hai
      rw [hm] at hmi
      injection hmi with hmi
      subst hmi
      cases hf : aloneB xs[k] (xs.take i) with
      | false =>
        rw [hf] at t7 hst
        simp -dsimp -implicitDefEqProofs [t0, t14, t15, t4, t16, t5, t6, t7, t21, t22, t23, hli, hlt, hwi, withO_of hm1, fun l => withO_of (get_old (l := l) hm1), fun l => withO_of (get_old (l := l) hbox), hkd, hsz, hli', hrowi, v3]
        exact next_ hli ⟨pre_app hp1 _, by simp [t0, t14, t15, t4, t16, t5, t6, t21, t22, hwi, hst]⟩
      | true =>
        rw [hf] at t7 hst
        simp -dsimp -implicitDefEqProofs [t0, t14, t15, t4, t16, t5, t6, t7, t21, t22, t23, hli, hlt, hwi, withO_of hm1, fun l => withO_of (get_old (l := l) hm1), fun l => withO_of (get_old (l := l) hbox), hkd, hsz, hli', hrowi, v3]
        refine callsTo Try.cal57 (fitsIn_c xs[k] xs[i] _) ?_
        simp -dsimp -implicitDefEqProofs [t0, t14, t15, t4, t16, t5, t6, t7, t21, t22, t23, hli, hlt, hwi, withO_of hm1, fun l => withO_of (get_old (l := l) hm1), fun l => withO_of (get_old (l := l) hbox), hkd, hsz, hli', hrowi, v3]
        cases hf1 : fitB xs[k] xs[i] with
        | true =>
          simp -dsimp -implicitDefEqProofs [t0, t14, t15, t4, t16, t5, t6, t7, t21, t22, t23, hli, hlt, hwi, withO_of hm1, fun l => withO_of (get_old (l := l) hm1), fun l => withO_of (get_old (l := l) hbox), hkd, hsz, hli', hrowi, v3]
          exact next_ hli ⟨pre_app hp1 _, by simp [t0, t14, t15, t4, t16, t5, t6, t21, t22, hwi, hst, hf1]⟩
        | false =>
          simp -dsimp -implicitDefEqProofs [t0, t14, t15, t4, t16, t5, t6, t7, t21, t22, t23, hli, hlt, hwi, withO_of hm1, fun l => withO_of (get_old (l := l) hm1), fun l => withO_of (get_old (l := l) hbox), hkd, hsz, hli', hrowi, v3]
          refine callsTo Try.cal57 (fitsIn_c xs[i] xs[k] _) ?_
          simp -dsimp -implicitDefEqProofs [t0, t14, t15, t4, t16, t5, t6, t7, t21, t22, t23, hli, hlt, hwi, withO_of hm1, fun l => withO_of (get_old (l := l) hm1), fun l => withO_of (get_old (l := l) hbox), hkd, hsz, hli', hrowi, v3]
          exact next_ hli ⟨pre_app hp1 _, by simp [t0, t14, t15, t4, t16, t5, t6, t21, t22, hwi, hst, hf1]⟩
    · obtain rfl : i = xs.length := by omega
      rw [List.take_length] at t7
      simp -dsimp -implicitDefEqProofs [t0, t14, t15, t4, t16, t5, t6, t7, t21, t22, t23, hli, hlt, hw]
      cases hf : aloneB xs[k] xs with
      | false =>
        simp -dsimp -implicitDefEqProofs [t0, t14, t15, t4, t16, t5, t6, t7, t21, t22, t23, hli, hlt, hw]
        exact next_ hlt ⟨id, ob, hp.trans hp', hid, prefix_get hp' hob, by rw [aloneTo_succ hlt, hf]; exact ⟨ob1, ob2, ob3, ob4, ob5⟩, by simp [t0, t14, t15, t4, aloneTo_succ hlt, hf, hw]⟩
      | true =>
        have hlen := aloneTo_length xs k
        simp -dsimp -implicitDefEqProofs [t0, t14, t15, t4, t16, t5, t6, t7, t21, t22, t23, hli, hlt, hw]
        refine appTo_grow Try.sl38 Try.inf2 ⟨by decide, rfl⟩ (o := ob) (get_old (prefix_get hp' hob)) ⟨ob4, ob5⟩ ⟨ob3, ob2⟩ (by rw [ob1]; simp) ⟨by omega, by omega⟩ (Src.obj (o := ⟨[.int .i64 k], _, 1, 1⟩) (by simp; rfl) (by simp) rfl rfl) ?_
        intro m2 id2 hg
        simp -dsimp -implicitDefEqProofs [t0, t14, t15, t4, t16, t5, t6, t7, t21, t22, t23, hli, hlt, hw]
        refine next_ hlt ⟨id2, _, hg.pre m (pre_app (hp.trans hp') _) hid, by rw [hg.at_]; simp; have := (hp.trans hp').length_le; omega, hg.new, ?_, ?_⟩
        · rw [aloneTo_succ hlt]; simp [hf, ob1]
        · simp [t0, t14, t15, aloneTo_succ hlt, hf, hw]
  · simp -dsimp -implicitDefEqProofs [s0, s14, s15, s4, s16, hlt]
    obtain rfl : k = xs.length := by omega
    simp only [aloneO, potsC, g0, if_true, optV, optM]
    exact GC.keepTP (Fits.refl m) hp hob hid ob3.symm ob2.symm (by simp; omega) ob1.symm (by rw [ob1]; exact ints_lit _) rfl
end Go.Proofs.Ytnipgigpjhalkaa
namespace Go.Proofs.Ytnipgigpjhalkaa
open Go.Abs Go.RowKit

def topP (xs : List I3) (k : Nat) : Int := topD xs.length (fitF xs) k
theorem topP_zero (xs : List I3) : topP xs 0 = 0 := rfl
theorem topP_succ (xs : List I3) (k : Nat) : topP xs (k + 1) = max (topP xs k) (dP xs k) := rfl
theorem topP_bounds (xs : List I3) : ∀ k, 0 ≤ topP xs k ∧ topP xs k ≤ xs.length
  | 0 => by rw [topP_zero]; omega
  | k + 1 => by have := topP_bounds xs k; have := dP_bounds xs k; rw [topP_succ]; omega
def nestP (xs : List I3) (t : Nat) (acc : List Nat) : List Nat := nestTo xs.length (fitF xs) t acc
def nestL (xs : List I3) : List Int := (nestP xs (topP xs xs.length).toNat []).map fun (i : Nat) => (i : Int)
def nestO (xs : List I3) : Option (List Int) := if potsB xs then some (nestL xs) else none
def lastOk (xs : List I3) (acc : List Nat) (i : Nat) : Bool := match acc.getLast? with | none => true | some l => fitF xs i l
def okP (xs : List I3) (t : Int) (acc : List Nat) (i : Nat) : Bool := decide (dP xs i = t) && lastOk xs acc i
def nextP (xs : List I3) (t : Int) (acc : List Nat) (k : Nat) : Option Nat := nextPot xs.length (fitF xs) t acc k
theorem nextP_succ (xs : List I3) (t : Int) (acc : List Nat) (k : Nat) : nextP xs t acc (k + 1) = match nextP xs t acc k with | some j => some j | none => if okP xs t acc k then some k else none := rfl
theorem nextP_skip {xs : List I3} {t : Int} {acc : List Nat} {k : Nat} (h : nextP xs t acc k = none) (h' : okP xs t acc k = false) : nextP xs t acc (k + 1) = none := by rw [nextP_succ, h]; simp [h']
theorem nextP_hit {xs : List I3} {t : Int} {acc : List Nat} {k : Nat} (h : nextP xs t acc k = none) (h' : okP xs t acc k = true) : ∀ n, k < n → nextP xs t acc n = some k
  | 0, h0 => by omega
  | n + 1, h0 => by
    rw [nextP_succ]
    by_cases e : k = n
    · subst e; rw [h]; simp [h']
    · rw [nextP_hit h h' n (by omega)]
theorem nestP_step {xs : List I3} {T k : Nat} {acc : List Nat} (h : k < T) : nestP xs (T - k) acc = nestP xs (T - (k + 1)) (match nextP xs ((T : Int) - k) acc xs.length with | some j => acc ++ [j] | none => acc) := by
  have e : T - k = (T - (k + 1)) + 1 := by omega
  have e2 : (T : Int) - k = ((T - (k + 1) : Nat) : Int) + 1 := by omega
  rw [e, e2]; rfl
theorem specNest_c (xs : List I3) (a : Option Addr) (m : Mem) (hr : RdG v3 3 m a xs) (hn : xs.length ≤ 1048576) :
    ACalls Try.prog 35 [.slice a xs.length xs.length] m (.tuple #[optV m.length (nestO xs), .int .i64 (potsC xs)]) (m ++ optM 2 (nestO xs)) := by
  refine acalls_of_vc Try.func35 rfl Try.fol (by kernel_rfl) ?_
  simp only [Try.f35]
  simp -dsimp -implicitDefEqProofs
  refine callsTo Try.cal59 (l19Ok_c xs a _ hr hn) ?_
  simp -dsimp -implicitDefEqProofs
  refine ⟨fun g => ?_, fun g => ?_⟩
  · simp at g
    simp [nestO, potsC, g, optV, optM]
    exact GC.refl _ _ _
  simp at g
  refine callsTo Try.cal67 (l19Depths_c xs a _ hr hn) ?_
  simp -dsimp -implicitDefEqProofs
  have hdl : (dL xs).length = xs.length := by simp [dL]
  refine loopN xs.length (fun k σ m' => m' = m ++ [⟨(dL xs).map (Value.int .i64), 2, 1, 1⟩] ∧ σ 0 = some (.slice a xs.length xs.length) ∧ σ 4 = some (.slice (some ⟨m.length, 0, none⟩) xs.length xs.length) ∧
    σ 5 = some (.int .i64 (topP xs k)) ∧ σ 6 = some (.int .i64 k)) ⟨rfl, by simp [topP_zero]⟩ ?_
  rintro k σ m' hk ⟨rfl, s0, s4, s5, s6⟩
  by_cases hlt : k < xs.length
  · have hcell : ((dL xs).map (Value.int .i64))[k]? = some (.int .i64 (dP xs k)) := by simp [dL, hlt]
    have hL2 : ((dL xs).map (Value.int .i64)).length = xs.length := by simp [dL]
    have hw : IntKind.i64.wrap ((k : Int) + 1) = k + 1 := wrapI (by omega) (by omega)
    simp -dsimp -implicitDefEqProofs [s0, s4, s5, s6, hlt, hL2, withC_of hcell, hw]
    refine callsTo Try.cal68 (l00Max_c _ _ _) ?_
    simp -dsimp -implicitDefEqProofs [s0, s4, s5, s6, hlt, hL2, withC_of hcell, hw]
    exact next_ hlt ⟨rfl, by simp [s0, s4, hw, topP_succ]⟩
  · obtain rfl : k = xs.length := by omega
    simp -dsimp -implicitDefEqProofs [s0, s4, s5, s6]
    obtain ⟨T, hT⟩ : ∃ T : Nat, topP xs xs.length = (T : Int) := ⟨(topP xs xs.length).toNat, by have := topP_bounds xs xs.length; omega⟩
    have hTn : T ≤ xs.length := by have := topP_bounds xs xs.length; omega
    rw [hT] at s5
    refine loopN T (fun k σ m' => ∃ acc id ob, nestP xs (T - k) acc = nestP xs T [] ∧ (m ++ [⟨(dL xs).map (Value.int .i64), 2, 1, 1⟩]) <+: m' ∧ m.length < id ∧ m'[id]? = some ob ∧
      (ob.cells = (acc.map fun (i : Nat) => (i : Int)).map (Value.int .i64) ∧ ob.elem = 2 ∧ ob.sz = 1 ∧ 1 ≤ ob.kind ∧ ob.kind ≤ 2) ∧ ((∀ x ∈ acc, x < xs.length) ∧ acc.length ≤ k) ∧
      σ 0 = some (.slice a xs.length xs.length) ∧ σ 4 = some (.slice (some ⟨m.length, 0, none⟩) xs.length xs.length) ∧ σ 5 = some (.int .i64 ((T : Int) - k)) ∧ σ 7 = some (.slice (some ⟨id, 0, none⟩) acc.length acc.length))
      ⟨[], m.length + 1, ⟨[], 2, 1, 1⟩, rfl, ⟨_, by simp; rfl⟩, by omega, by simp, by simp, by simp, by simp [s0, s4, s5]⟩ ?_
    clear s0 s4 s5 s6
    rintro k σ m' hk' ⟨acc, id, ob, hacc, hp, hid, hob, ⟨ob1, ob2, ob3, ob4, ob5⟩, ⟨hmem, hlen⟩, s0, s4, s5, s7⟩
    by_cases hlt2 : k < T
    · have hpos : (0 : Int) < (T : Int) - k := by omega
      have hwd : IntKind.i64.wrap ((T : Int) - k - 1) = (T : Int) - k - 1 := wrapI (by omega) (by omega)
      simp -dsimp -implicitDefEqProofs [s0, s4, s5, s7, hpos, hlt2]
      refine loopN xs.length (fun i σ m1 => m1 = m' ∧ nextP xs ((T : Int) - k) acc i = none ∧ σ 0 = some (.slice a xs.length xs.length) ∧ σ 4 = some (.slice (some ⟨m.length, 0, none⟩) xs.length xs.length) ∧ σ 5 = some (.int .i64 ((T : Int) - k)) ∧
        σ 7 = some (.slice (some ⟨id, 0, none⟩) acc.length acc.length) ∧ σ 8 = some (.int .i64 i)) ⟨rfl, rfl, by simp [s0, s4, s5, s7]⟩ ?_
      clear s0 s4 s5 s7
      rintro i σ m1 hi ⟨rfl, hno, s0, s4, s5, s7, s8⟩
      by_cases hlt3 : i < xs.length
      · have hD : m1[m.length]? = some ⟨(dL xs).map (Value.int .i64), 2, 1, 1⟩ := prefix_get hp (by simp)
        have hcell : ((dL xs).map (Value.int .i64))[i]? = some (.int .i64 (dP xs i)) := by simp [dL, hlt3]
        have hL2 : ((dL xs).map (Value.int .i64)).length = xs.length := by simp [dL]
        have hw : IntKind.i64.wrap ((i : Int) + 1) = i + 1 := wrapI (by omega) (by omega)
        by_cases hd : dP xs i = (T : Int) - k
        · rcases List.eq_nil_or_concat acc with rfl | ⟨ys, l, hcc⟩
          · have hst := nestP_step (xs := xs) (acc := []) hlt2
            rw [nextP_hit hno (by simp [okP, lastOk, hd]) xs.length hlt3] at hst
            simp -dsimp -implicitDefEqProofs [s0, s4, s5, s7, s8, hlt3, withO_of hD, hL2, withC_of hcell, hd, hw, hwd]
            refine appTo_grow Try.sl38 Try.inf2 ⟨by decide, rfl⟩ (o := ob) (get_old hob) ⟨ob4, ob5⟩ ⟨ob3, ob2⟩ (by rw [ob1]; simp) ⟨by omega, by omega⟩ (Src.obj (o := ⟨[.int .i64 i], _, 1, 1⟩) (by simp; rfl) (by simp) rfl rfl) ?_
            intro m2 id2 hg
            simp -dsimp -implicitDefEqProofs [s0, s4, s5, s7, s8, hlt3, withO_of hD, hL2, withC_of hcell, hd, hw, hwd]
            refine next_ hlt2 ⟨[i], id2, _, by rw [← hacc, hst]; rfl, hg.pre _ (pre_app hp _) (by simp; omega), by rw [hg.at_]; simp; have := hp.length_le; simp at this; omega, hg.new, by simp [ob1], ⟨by simp [hlt3], by simp⟩, by simp [s0, s4, hwd]; omega⟩
          · rw [List.concat_eq_append] at hcc
            subst hcc
            have hl : l < xs.length := hmem l (by simp)
            have hal : (ys ++ [l]).length = ys.length + 1 := by simp
            have hoc : ob.cells[ys.length]? = some (.int .i64 l) := by rw [ob1]; simp
            have hol : ob.cells.length = ys.length + 1 := by rw [ob1]; simp
            have hyk : ys.length + 1 ≤ k := by simpa using hlen
            have hwl : IntKind.i64.wrap (ys.length : Int) = ys.length := wrapI (by omega) (by omega)
            have hne : ((ys.length : Int) + 1 == 0) = false := by simp; omega
            have hyl : ys.length < ys.length + 1 := by omega
            have hyI : (ys.length : Int) < (ys.length : Int) + 1 := by omega
            obtain ⟨idx, off, o, ha, hm, hkd, hsz, hlx, hrow, hc0, hc1, hc2⟩ := R3.at_ hr hlt3
            obtain ⟨idx', off', o', ha', hm', hkd', hsz', hl', hrow', hd0, hd1, hd2⟩ := R3.at_ hr hl
            subst ha
            simp at ha'
            obtain ⟨rfl, rfl⟩ := ha'
            have hpm : m <+: m1 := (pre_app (pre_refl m) _).trans hp
            have hp1 : IsP m1 idx ((off + i) * 3) xs[i] := ⟨o, prefix_get hpm hm, hkd, hc0, hc1, hc2⟩
            have hp2 : IsP m1 idx ((off + l) * 3) xs[l] := ⟨o', prefix_get hpm hm', hkd', hd0, hd1, hd2⟩
            rw [hm] at hm'
            injection hm' with hm'
            subst hm'
            have hm1 := prefix_get hpm hm
            simp -dsimp -implicitDefEqProofs [s0, s4, s5, s7, s8, hlt3, hl, hal, withO_of hD, hL2, withC_of hcell, hd, hw, hwd, hwl, hne, hyl, hyI, withO_of hob, ob5, ob3, withC_of hoc, hol, withO_of hm1, hkd, hsz]
            refine callsTo Try.cal55 (l19Fits_c xs[i] xs[l] _ _ _ _ _ hp1 hp2) ?_
            simp -dsimp -implicitDefEqProofs [s0, s4, s5, s7, s8, hlt3, hl, hal, withO_of hD, hL2, withC_of hcell, hd, hw, hwd, hwl, hne, hyl, hyI, withO_of hob, ob5, ob3, withC_of hoc, hol, withO_of hm1, hkd, hsz]
            have hf : fitB xs[i] xs[l] = fitF xs i l := by rw [fitF, potAt_eq hlt3, potAt_eq hl]
            rw [hf]
            cases hfk : fitF xs i l with
            | true =>
              have hst := nestP_step (xs := xs) (acc := ys ++ [l]) hlt2
              rw [nextP_hit hno (by simp [okP, lastOk, hd, hfk]) xs.length hlt3] at hst
              simp -dsimp -implicitDefEqProofs [s0, s4, s5, s7, s8, hlt3, hl, hal, withO_of hD, hL2, withC_of hcell, hd, hw, hwd, hwl, hne, hyl, hyI, withO_of hob, ob5, ob3, withC_of hoc, hol, withO_of hm1, hkd, hsz]
              refine appTo_grow Try.sl38 Try.inf2 ⟨by decide, rfl⟩ (o := ob) (get_old hob) ⟨ob4, ob5⟩ ⟨ob3, ob2⟩ (by rw [ob1]; simp) ⟨by omega, by omega⟩ (Src.obj (o := ⟨[.int .i64 i], _, 1, 1⟩) (by simp; rfl) (by simp) rfl rfl) ?_
              intro m2 id2 hg
              simp -dsimp -implicitDefEqProofs [s0, s4, s5, s7, s8, hlt3, hl, hal, withO_of hD, hL2, withC_of hcell, hd, hw, hwd, hwl, hne, hyl, hyI, withO_of hob, ob5, ob3, withC_of hoc, hol, withO_of hm1, hkd, hsz]
              refine next_ hlt2 ⟨ys ++ [l] ++ [i], id2, _, by rw [← hacc, hst], hg.pre _ (pre_app hp _) (by simp; omega), by rw [hg.at_]; simp; have := hp.length_le; simp at this; omega, hg.new, by simp [ob1], ⟨fun x hx => ?_, by simp; omega⟩, by simp [s0, s4, hwd]; omega⟩
              rcases List.mem_append.1 hx with hx | hx
              · exact hmem x hx
              · simp at hx; omega
            | false =>
              simp -dsimp -implicitDefEqProofs [s0, s4, s5, s7, s8, hlt3, hl, hal, withO_of hD, hL2, withC_of hcell, hd, hw, hwd, hwl, hne, hyl, hyI, withO_of hob, ob5, ob3, withC_of hoc, hol, withO_of hm1, hkd, hsz]
              exact next_ hlt3 ⟨rfl, nextP_skip hno (by simp [okP, lastOk, hfk]), by simp [s0, s4, s5, s7, hw]⟩
        · have hd' : (dP xs i == (T : Int) - k) = false := by simpa using hd
          simp -dsimp -implicitDefEqProofs [s0, s4, s5, s7, s8, hlt3, withO_of hD, hL2, withC_of hcell, hd', hw, hwd]
          exact next_ hlt3 ⟨rfl, nextP_skip hno (by simp [okP, hd]), by simp [s0, s4, s5, s7, hw]⟩
      · obtain rfl : i = xs.length := by omega
        have hst := nestP_step (xs := xs) (acc := acc) hlt2
        rw [hno] at hst
        simp -dsimp -implicitDefEqProofs [s0, s4, s5, s7, s8, hwd]
        exact next_ hlt2 ⟨acc, id, ob, by rw [← hst]; exact hacc, hp, hid, hob, ⟨ob1, ob2, ob3, ob4, ob5⟩, ⟨hmem, by omega⟩, by simp [s0, s4, s7, hwd]; omega⟩
    · obtain rfl : k = T := by omega
      have hneg : ¬ (0 : Int) < (k : Int) - k := by omega
      have hO : nestO xs = some (nestL xs) := by simp [nestO, g]
      have hL : nestL xs = acc.map fun (i : Nat) => (i : Int) := by rw [nestL, hT, Int.toNat_natCast, ← hacc, Nat.sub_self]; rfl
      have hC : potsC xs = 0 := by simp [potsC, g]
      simp -dsimp -implicitDefEqProofs [s0, s4, s5, s7, hneg]
      rw [hO, hL, hC]
      simp only [optV, optM, List.length_map]
      exact GC.keepTP (Fits.refl m) ((pre_app (pre_refl m) _).trans hp) hob (by omega) ob3.symm ob2.symm (by simp; omega) ob1.symm (by rw [ob1]; exact ints_lit _) rfl
end Go.Proofs.Ytnipgigpjhalkaa
