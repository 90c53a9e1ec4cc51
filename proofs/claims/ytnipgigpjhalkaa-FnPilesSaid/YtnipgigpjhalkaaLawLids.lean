/-
  Plain law: lids given out one width after the other, each time the first with which as many as possible are left. Conditions: none; no program in sight.
-/
import Derived.Test.YtnipgigpjhalkaaLawMatch
set_option linter.unusedSimpArgs false
set_option linter.unusedVariables false
set_option linter.unusedSectionVars false
namespace Go.Law

/-- As many as can be matched. -/
def mostK (may : Nat → Nat → Bool) (m n : Nat) : Nat := (kall may m n (List.replicate n (-1)) (List.replicate m (-1))).2.2
theorem mostK_get (may : Nat → Nat → Bool) (m n : Nat) : ∃ M, IsMatching may n m M ∧ M.length = mostK may m n := (kall_inv may m n _).matching
theorem mostK_ge {may : Nat → Nat → Bool} {m n : Nat} {M : List (Nat × Nat)} (h : IsMatching may n m M) : M.length ≤ mostK may m n := (kall_inv may m n _).most h
theorem mostK_of (may : Nat → Nat → Bool) (m n : Nat) (l : List Int) : (kall may m n l (List.replicate m (-1))).2.2 = mostK may m n := by
  have h1 := kall_inv may m n l
  obtain ⟨M1, a1, b1⟩ := h1.matching
  obtain ⟨M2, a2, b2⟩ := mostK_get may m n
  have c1 := mostK_ge a1
  have c2 := h1.most a2
  omega
theorem nodup_map {α β γ : Type} {f : α → β} {g : α → γ} {M : List α} (h : (M.map f).Nodup) (hi : ∀ p ∈ M, ∀ q ∈ M, g p = g q → f p = f q) : (M.map g).Nodup := by
  unfold List.Nodup at *
  rw [List.pairwise_map] at *
  exact List.Pairwise.imp_of_mem (fun hp hq hne he => hne (hi _ hp _ hq he)) h
theorem IsMatching.map {may may' : Nat → Nat → Bool} {m m' n n' : Nat} {M : List (Nat × Nat)} (hM : IsMatching may n m M) (ψ φ : Nat → Nat)
    (h : ∀ p ∈ M, ψ p.1 < n' ∧ φ p.2 < m' ∧ may' (ψ p.1) (φ p.2) = true) (hl : ∀ p ∈ M, ∀ q ∈ M, ψ p.1 = ψ q.1 → p.1 = q.1) (hr : ∀ p ∈ M, ∀ q ∈ M, φ p.2 = φ q.2 → p.2 = q.2) :
    IsMatching may' n' m' (M.map fun p => (ψ p.1, φ p.2)) := by
  refine ⟨?_, ?_, ?_⟩
  · rw [List.map_map]; exact nodup_map hM.left hl
  · rw [List.map_map]; exact nodup_map hM.right hr
  · intro p hp
    obtain ⟨q, hq, rfl⟩ := List.mem_map.1 hp
    exact h q hq
theorem mostK_inj {may may' : Nat → Nat → Bool} {m m' n n' : Nat} (ψ φ : Nat → Nat) (h : ∀ a b, a < n → b < m → may a b = true → ψ a < n' ∧ φ b < m' ∧ may' (ψ a) (φ b) = true)
    (hl : ∀ a a', a < n → a' < n → ψ a = ψ a' → a = a') (hr : ∀ a b a' b', may a b = true → may a' b' = true → b < m → b' < m → φ b = φ b' → b = b') : mostK may m n ≤ mostK may' m' n' := by
  obtain ⟨M, hM, hlen⟩ := mostK_get may m n
  have := mostK_ge (hM.map ψ φ (fun p hp => h _ _ (hM.mem p hp).1 (hM.mem p hp).2.1 (hM.mem p hp).2.2) (fun p hp q hq => hl _ _ (hM.mem p hp).1 (hM.mem q hq).1)
    (fun p hp q hq => hr p.1 p.2 q.1 q.2 (hM.mem p hp).2.2 (hM.mem q hq).2.2 (hM.mem p hp).2.1 (hM.mem q hq).2.1))
  rw [List.length_map] at this
  omega
theorem mostK_mono {may may' : Nat → Nat → Bool} {m n : Nat} (h : ∀ a b, a < n → b < m → may a b = true → may' a b = true) : mostK may m n ≤ mostK may' m n :=
  mostK_inj id id (fun a b ha hb hm => ⟨ha, hb, h a b ha hb hm⟩) (fun _ _ _ _ e => e) (fun _ _ _ _ _ _ _ _ e => e)
theorem mostK_congr {may may' : Nat → Nat → Bool} {m n : Nat} (h : ∀ a b, a < n → b < m → may a b = may' a b) : mostK may m n = mostK may' m n := by
  have h1 := mostK_mono (may := may) (may' := may') (m := m) (n := n) (fun a b ha hb hm => by rw [← h a b ha hb]; exact hm)
  have h2 := mostK_mono (may := may') (may' := may) (m := m) (n := n) (fun a b ha hb hm => by rw [h a b ha hb]; exact hm)
  omega
theorem mostK_le_left (may : Nat → Nat → Bool) (m n : Nat) : mostK may m n ≤ n := by
  obtain ⟨M, hM, hlen⟩ := mostK_get may m n
  have := nodup_le (l := M.map (·.1)) (l' := List.range n) hM.left (fun x hx => by
    obtain ⟨p, hp, rfl⟩ := List.mem_map.1 hx
    simpa using (hM.mem p hp).1)
  rw [List.length_map, List.length_range] at this
  omega

/-! ### Those that are left -/
def avail (n : Nat) (g : List Bool) : List Nat := (List.range n).filter fun b => !g.getD b false
theorem avail_nodup (n : Nat) (g : List Bool) : (avail n g).Nodup := List.Pairwise.filter _ List.nodup_range
theorem mem_avail {n : Nat} {g : List Bool} {b : Nat} : b ∈ avail n g ↔ b < n ∧ g.getD b false = false := by simp [avail]
theorem avail_all (n : Nat) : avail n (List.replicate n false) = List.range n := by
  unfold avail
  rw [List.filter_eq_self]
  intro b hb
  simp [List.getD_eq_getElem?_getD, List.mem_range.1 hb]
theorem getD_nodup {l : List Nat} (h : l.Nodup) {i j : Nat} (hi : i < l.length) (hj : j < l.length) (e : l.getD i 0 = l.getD j 0) : i = j := by
  simp only [List.getD_eq_getElem?_getD, List.getElem?_eq_getElem hi, List.getElem?_eq_getElem hj, Option.getD_some] at e
  rcases Nat.lt_trichotomy i j with h1 | h1 | h1
  · exact absurd e (List.pairwise_iff_getElem.1 h i j hi hj h1)
  · exact h1
  · exact absurd e.symm (List.pairwise_iff_getElem.1 h j i hj hi h1)
theorem getD_mem {l : List Nat} {i : Nat} (hi : i < l.length) : l.getD i 0 ∈ l := by
  simp only [List.getD_eq_getElem?_getD, List.getElem?_eq_getElem hi, Option.getD_some]
  exact List.getElem_mem hi
theorem idxOf_get {l : List Nat} {b : Nat} (hb : b ∈ l) : l.getD (l.idxOf b) 0 = b := by
  have h := List.idxOf_lt_length_iff.2 hb
  rw [List.getD_eq_getElem?_getD, List.getElem?_eq_getElem h, Option.getD_some, List.getElem_idxOf]
/-- Matched are the same, whether those that are left are numbered anew or not. -/
theorem mostK_avail (F : Nat → Nat → Bool) (n k : Nat) (g : List Bool) :
    mostK (fun a j => F a ((avail n g).getD j 0)) (avail n g).length k = mostK (fun a b => !g.getD b false && F a b) n k := by
  have h1 : mostK (fun a j => F a ((avail n g).getD j 0)) (avail n g).length k ≤ mostK (fun a b => !g.getD b false && F a b) n k :=
    mostK_inj id (fun j => (avail n g).getD j 0) (fun a b ha hb hm => by
      have := mem_avail.1 (getD_mem hb)
      refine ⟨ha, this.1, ?_⟩
      simp only [this.2, Bool.not_false, Bool.true_and]; exact hm) (fun _ _ _ _ e => e) (fun a b a' b' _ _ hb hb' e => getD_nodup (avail_nodup n g) hb hb' e)
  have h2 : mostK (fun a b => !g.getD b false && F a b) n k ≤ mostK (fun a j => F a ((avail n g).getD j 0)) (avail n g).length k :=
    mostK_inj id (fun b => (avail n g).idxOf b) (fun a b ha hb hm => by
      simp only [Bool.and_eq_true, Bool.not_eq_true'] at hm
      have hmem := mem_avail.2 ⟨hb, hm.1⟩
      refine ⟨ha, List.idxOf_lt_length_iff.2 hmem, ?_⟩
      show F a ((avail n g).getD ((avail n g).idxOf b) 0) = true
      rw [idxOf_get hmem]; exact hm.2) (fun _ _ _ _ e => e) (fun a b a' b' h h' hb hb' e => by
      simp only [Bool.and_eq_true, Bool.not_eq_true'] at h h'
      have e1 := idxOf_get (mem_avail.2 ⟨hb, h.1⟩)
      have e2 := idxOf_get (mem_avail.2 ⟨hb', h'.1⟩)
      rw [← e1, ← e2, e])
  omega
theorem avail_erase {n : Nat} {g : List Bool} {k : Nat} (hg : g.length = n) (hk : k < (avail n g).length) : (avail n g).take k ++ (avail n g).drop (k + 1) = avail n (g.set ((avail n g)[k]) true) := by
  have hb := mem_avail.1 (List.getElem_mem hk)
  have e : avail n (g.set ((avail n g)[k]) true) = (avail n g).filter fun b => decide (b ≠ (avail n g)[k]) := by
    have hd : ∀ c, c < n → avail n (g.set c true) = (avail n g).filter fun b => decide (b ≠ c) := fun c hc => by
      unfold avail
      rw [List.filter_filter]
      refine List.filter_congr fun b _ => ?_
      simp only [List.getD_eq_getElem?_getD, List.getElem?_set]
      by_cases he : c = b
      · subst he; simp [show c < g.length by omega]
      · simp [he, Ne.symm he]
    exact hd _ hb.1
  rw [e]
  have hs : avail n g = (avail n g).take k ++ (avail n g)[k] :: (avail n g).drop (k + 1) := by
    rw [← List.drop_eq_getElem_cons hk, List.take_append_drop]
  have hnd := avail_nodup n g
  generalize (avail n g)[k] = b at *
  generalize (avail n g).take k = A at *
  generalize (avail n g).drop (k + 1) = B at *
  rw [hs] at hnd ⊢
  have hA : ∀ x ∈ A, x ≠ b := fun x hx => (List.pairwise_append.1 hnd).2.2 x hx b (by simp)
  have hB : ∀ x ∈ B, x ≠ b := fun x hx => Ne.symm ((List.pairwise_cons.1 (List.pairwise_append.1 hnd).2.1).1 x hx)
  rw [List.filter_append, List.filter_cons]
  have f1 : A.filter (fun x => decide (x ≠ b)) = A := List.filter_eq_self.2 fun x hx => by simpa using hA x hx
  have f2 : B.filter (fun x => decide (x ≠ b)) = B := List.filter_eq_self.2 fun x hx => by simpa using hB x hx
  rw [f1, f2]; simp

/-! ### One width after the other -/
section
variable (F : Nat → Nat → Bool) (n W : Nat)
/-- How many of the widths from w on can still have one. -/
def restK (g : List Bool) (w : Nat) : Nat := mostK (fun a b => !g.getD b false && F (w + a) b) n (W - w)
def okPick (g : List Bool) (w : Nat) (need : Int) (b : Nat) : Bool := !g.getD b false && (F w b && decide ((restK F n W (g.set b true) (w + 1) : Int) = need - 1))
def hasN (out : List Int) : Nat := out.countP fun x => decide (0 ≤ x)
def stepT (most : Int) (st : List Int × List Bool) (w : Nat) : List Int × List Bool :=
  match (List.range n).find? (okPick F n W st.2 w (most - hasN st.1)) with
  | none => (st.1 ++ [-1], st.2)
  | some b => (st.1 ++ [(b : Int)], st.2.set b true)
def lidT (most : Int) : Nat → List Int × List Bool
  | 0 => ([], List.replicate n false)
  | w + 1 => stepT F n W most (lidT most w) w
variable {F n W}
theorem lidT_length (most : Int) : ∀ w, (lidT F n W most w).1.length = w ∧ (lidT F n W most w).2.length = n
  | 0 => by simp [lidT]
  | w + 1 => by
    have := lidT_length most w
    unfold lidT stepT
    split <;> simp [this]
theorem hasN_snoc (out : List Int) (x : Int) : hasN (out ++ [x]) = hasN out + if 0 ≤ x then 1 else 0 := by
  unfold hasN
  rw [List.countP_append]
  by_cases h : 0 ≤ x <;> simp [h]
theorem hasN_le (out : List Int) : hasN out ≤ out.length := List.countP_le_length
/-- A width less. -/
theorem restK_next {g : List Bool} {w : Nat} (hw : w < W) (hg : g.length = n) :
    restK F n W g (w + 1) ≤ restK F n W g w ∧ (∀ b, b < n → g.getD b false = false → F w b = true → restK F n W (g.set b true) (w + 1) + 1 ≤ restK F n W g w) ∧
    (restK F n W g w ≤ restK F n W g (w + 1) ∨ ∃ b, b < n ∧ g.getD b false = false ∧ F w b = true ∧ restK F n W g w ≤ restK F n W (g.set b true) (w + 1) + 1) := by
  refine ⟨?_, fun b hb hgb hF => ?_, ?_⟩
  · refine mostK_inj (· + 1) id (fun a b ha hb hm => ⟨by omega, hb, ?_⟩) (fun _ _ _ _ e => by simpa using e) (fun _ _ _ _ _ _ _ _ e => e)
    rw [show w + (a + 1) = w + 1 + a by omega]; exact hm
  · obtain ⟨M, hM, hl⟩ := mostK_get (fun a c => !(g.set b true).getD c false && F (w + 1 + a) c) n (W - (w + 1))
    have hset : ∀ c, (!(g.set b true).getD c false) = true → c ≠ b ∧ g.getD c false = false := by
      intro c hc
      simp only [Bool.not_eq_true', List.getD_eq_getElem?_getD, List.getElem?_set] at hc
      by_cases he : b = c
      · subst he; simp [show b < g.length by omega] at hc
      · rw [if_neg he] at hc
        exact ⟨Ne.symm he, by rw [List.getD_eq_getElem?_getD]; exact hc⟩
    have hin : ∀ p ∈ M, p.1 < W - (w + 1) ∧ p.2 < n ∧ p.2 ≠ b ∧ g.getD p.2 false = false ∧ F (w + 1 + p.1) p.2 = true := fun p hp => by
      obtain ⟨h1, h2, h3⟩ := hM.mem p hp
      simp only [Bool.and_eq_true] at h3
      obtain ⟨h4, h5⟩ := hset _ h3.1
      exact ⟨h1, h2, h4, h5, h3.2⟩
    have hM' : IsMatching (fun a c => !g.getD c false && F (w + a) c) (W - w) n (M.map fun p => (p.1 + 1, p.2)) :=
      hM.map (· + 1) id (fun p hp => by
        obtain ⟨h1, h2, h3, h4, h5⟩ := hin p hp
        refine ⟨by omega, h2, ?_⟩
        show (!g.getD p.2 false && F (w + (p.1 + 1)) p.2) = true
        rw [show w + (p.1 + 1) = w + 1 + p.1 by omega, h4, h5]; rfl) (fun _ _ _ _ e => by simpa using e) (fun _ _ _ _ e => e)
    have : IsMatching (fun a c => !g.getD c false && F (w + a) c) (W - w) n ((0, b) :: M.map fun p => (p.1 + 1, p.2)) := by
      refine ⟨?_, ?_, ?_⟩
      · rw [List.map_cons, List.nodup_cons]
        refine ⟨?_, hM'.left⟩
        intro h
        rw [List.map_map] at h
        obtain ⟨p, _, e⟩ := List.mem_map.1 h
        simp at e
      · rw [List.map_cons, List.nodup_cons]
        refine ⟨?_, hM'.right⟩
        intro h
        rw [List.map_map] at h
        obtain ⟨p, hp, e⟩ := List.mem_map.1 h
        exact (hin p hp).2.2.1 e
      · intro p hp
        rcases List.mem_cons.1 hp with rfl | hp
        · refine ⟨by simp only; omega, hb, ?_⟩
          show (!g.getD b false && F (w + 0) b) = true
          rw [hgb, Nat.add_zero, hF]; rfl
        · exact hM'.mem p hp
    have := mostK_ge this
    rw [List.length_cons, List.length_map] at this
    unfold restK; omega
  · obtain ⟨M, hM, hl⟩ := mostK_get (fun a c => !g.getD c false && F (w + a) c) n (W - w)
    by_cases h0 : ∃ p ∈ M, p.1 = 0
    · obtain ⟨p, hp, hp0⟩ := h0
      obtain ⟨h1, h2, h3⟩ := hM.mem p hp
      rw [hp0] at h3
      simp only [Nat.add_zero, Bool.and_eq_true, Bool.not_eq_true'] at h3
      refine .inr ⟨p.2, h2, h3.1, h3.2, ?_⟩
      have hsub : IsMatching (fun a c => !g.getD c false && F (w + a) c) (W - w) n (M.filter fun q => decide (q.1 ≠ 0)) :=
        ⟨List.Pairwise.sublist (List.Sublist.map _ List.filter_sublist) hM.left, List.Pairwise.sublist (List.Sublist.map _ List.filter_sublist) hM.right, fun q hq => hM.mem q ((List.mem_filter.1 hq).1)⟩
      have hne : ∀ q ∈ M, q.1 ≠ 0 → q.2 ≠ p.2 := by
        intro q hq hq0 e
        obtain ⟨i, hi, e1⟩ := List.getElem_of_mem hq
        obtain ⟨j, hj, e2⟩ := List.getElem_of_mem hp
        have hij : i ≠ j := by rintro rfl; rw [e1] at e2; rw [e2] at hq0; exact hq0 hp0
        have hr := hM.right
        unfold List.Nodup at hr
        rw [List.pairwise_map, List.pairwise_iff_getElem] at hr
        rcases Nat.lt_or_gt_of_ne hij with h | h
        · exact hr i j hi hj h (by rw [e1, e2]; exact e)
        · exact hr j i hj hi h (by rw [e1, e2]; exact e.symm)
      have hm2 := hsub.map (may' := fun a c => !(g.set p.2 true).getD c false && F (w + 1 + a) c) (n' := W - (w + 1)) (m' := n) (· - 1) id (fun q hq => by
        have hqM := (List.mem_filter.1 hq).1
        have hq0 : q.1 ≠ 0 := by simpa using (List.mem_filter.1 hq).2
        obtain ⟨k1, k2, k3⟩ := hM.mem q hqM
        have hn2 := hne q hqM hq0
        simp only [Bool.and_eq_true, Bool.not_eq_true'] at k3
        refine ⟨by omega, k2, ?_⟩
        show (!(g.set p.2 true).getD q.2 false && F (w + 1 + (q.1 - 1)) q.2) = true
        rw [show w + 1 + (q.1 - 1) = w + q.1 by omega, k3.2, List.getD_eq_getElem?_getD, List.getElem?_set_ne (Ne.symm hn2), ← List.getD_eq_getElem?_getD, k3.1]; rfl)
        (fun q hq r hr e => by
          have hq0 : q.1 ≠ 0 := by simpa using (List.mem_filter.1 hq).2
          have hr0 : r.1 ≠ 0 := by simpa using (List.mem_filter.1 hr).2
          omega) (fun _ _ _ _ e => e)
      have hge := mostK_ge hm2
      rw [List.length_map] at hge
      have hone : (M.filter fun q => !decide (q.1 ≠ 0)).length ≤ 1 := by
        have hnd : ((M.filter fun q => !decide (q.1 ≠ 0)).map (·.1)).Nodup := List.Pairwise.sublist (List.Sublist.map _ List.filter_sublist) hM.left
        have := nodup_le (l' := [0]) hnd (fun x hx => by
          obtain ⟨q, hq, rfl⟩ := List.mem_map.1 hx
          have := (List.mem_filter.1 hq).2
          simp at this
          simp [this])
        simpa using this
      have hsplit : (M.filter fun q => decide (q.1 ≠ 0)).length + (M.filter fun q => !decide (q.1 ≠ 0)).length = M.length := by
        rw [← List.countP_eq_length_filter, ← List.countP_eq_length_filter]
        have := List.length_eq_countP_add_countP (fun q : Nat × Nat => decide (q.1 ≠ 0)) (l := M)
        rw [this]
        congr 1
        refine List.countP_congr fun x _ => ?_
        simp
      unfold restK; omega
    · refine .inl ?_
      have hm2 := hM.map (may' := fun a c => !g.getD c false && F (w + 1 + a) c) (n' := W - (w + 1)) (m' := n) (· - 1) id (fun q hq => by
        obtain ⟨k1, k2, k3⟩ := hM.mem q hq
        have hq0 : q.1 ≠ 0 := fun e => h0 ⟨q, hq, e⟩
        refine ⟨by omega, k2, ?_⟩
        show (!g.getD q.2 false && F (w + 1 + (q.1 - 1)) q.2) = true
        rw [show w + 1 + (q.1 - 1) = w + q.1 by omega]; exact k3) (fun q hq r hr e => by
        have hq0 : q.1 ≠ 0 := fun e => h0 ⟨q, hq, e⟩
        have hr0 : r.1 ≠ 0 := fun e => h0 ⟨r, hr, e⟩
        omega) (fun _ _ _ _ e => e)
      have hge := mostK_ge hm2
      rw [List.length_map] at hge
      unfold restK; omega
theorem stepT_cases (most : Int) (st : List Int × List Bool) (w : Nat) : (stepT F n W most st w = (st.1 ++ [-1], st.2) ∧ ∀ b, b < n → okPick F n W st.2 w (most - hasN st.1) b = false) ∨
    ∃ b, b < n ∧ okPick F n W st.2 w (most - hasN st.1) b = true ∧ stepT F n W most st w = (st.1 ++ [(b : Int)], st.2.set b true) := by
  unfold stepT
  cases hf : (List.range n).find? (okPick F n W st.2 w (most - hasN st.1)) with
  | none =>
    refine .inl ⟨rfl, fun b hb => ?_⟩
    have := List.find?_eq_none.1 hf b (by simpa using hb)
    simpa using this
  | some b =>
    have h1 := List.mem_of_find?_eq_some hf
    have h2 := List.find?_some hf
    exact .inr ⟨b, by simpa using h1, h2, rfl⟩
/-- What is needed is what can still be had. -/
theorem lidT_need : ∀ w, w ≤ W → (hasN (lidT F n W (restK F n W (List.replicate n false) 0) w).1 : Int) + restK F n W (lidT F n W (restK F n W (List.replicate n false) 0) w).2 w = restK F n W (List.replicate n false) 0
  | 0, _ => by simp [lidT, hasN]
  | w + 1, hw => by
    have ih := lidT_need w (by omega)
    have hlen := lidT_length (F := F) (n := n) (W := W) (restK F n W (List.replicate n false) 0) w
    rw [lidT]
    generalize (restK F n W (List.replicate n false) 0 : Int) = most at *
    generalize lidT F n W most w = st at *
    obtain ⟨h1, h2, h3⟩ := restK_next (F := F) (n := n) (W := W) (g := st.2) (w := w) (by omega) hlen.2
    rcases stepT_cases (F := F) (n := n) (W := W) most st w with ⟨e, hno⟩ | ⟨b, hb, hok, e⟩
    · rw [e, hasN_snoc]
      simp only [show ¬ (0 : Int) ≤ -1 by omega, if_false, Nat.add_zero]
      rcases h3 with h3 | ⟨b, hb, hgb, hF, h3⟩
      · omega
      · have h4 := h2 b hb hgb hF
        have := hno b hb
        unfold okPick at this
        rw [hgb, hF] at this
        simp at this
        omega
    · rw [e, hasN_snoc]
      simp only [show (0 : Int) ≤ (b : Int) by omega, if_true]
      unfold okPick at hok
      simp only [Bool.and_eq_true, Bool.not_eq_true', decide_eq_true_eq] at hok
      omega
/-- Told lids fit, and are different. -/
theorem lidT_fits (most : Int) : ∀ w, (∀ i, i < w → (lidT F n W most w).1.getD i 0 = -1 ∨ ∃ b : Nat, (lidT F n W most w).1.getD i 0 = b ∧ b < n ∧ F i b = true ∧ (lidT F n W most w).2.getD b false = true) ∧
    (∀ i j, i < w → j < w → i ≠ j → 0 ≤ (lidT F n W most w).1.getD i 0 → (lidT F n W most w).1.getD i 0 ≠ (lidT F n W most w).1.getD j 0)
  | 0 => ⟨fun i hi => by omega, fun i j hi => by omega⟩
  | w + 1 => by
    obtain ⟨h1, h2⟩ := lidT_fits most w
    have hlen := lidT_length (F := F) (n := n) (W := W) most w
    rw [lidT]
    generalize lidT F n W most w = st at *
    have hold : ∀ (x : Int) i, i < w → (st.1 ++ [x]).getD i 0 = st.1.getD i 0 := fun x i hi => by
      simp only [List.getD_eq_getElem?_getD]; rw [List.getElem?_append_left (by omega)]
    have hnew : ∀ x : Int, (st.1 ++ [x]).getD w 0 = x := fun x => by
      simp only [List.getD_eq_getElem?_getD]; rw [List.getElem?_append_right (by omega)]; simp [hlen.1]
    rcases stepT_cases (F := F) (n := n) (W := W) most st w with ⟨e, hno⟩ | ⟨b, hb, hok, e⟩
    · rw [e]
      refine ⟨fun i hi => ?_, fun i j hi hj hij hi0 => ?_⟩
      · by_cases hiw : i = w
        · subst hiw; rw [hnew]; exact .inl rfl
        · rw [hold _ i (by omega)]; exact h1 i (by omega)
      · by_cases hiw : i = w
        · subst hiw; rw [hnew] at hi0; omega
        · rw [hold _ i (by omega)] at hi0 ⊢
          by_cases hjw : j = w
          · subst hjw; rw [hnew]; omega
          · rw [hold _ j (by omega)]; exact h2 i j (by omega) (by omega) hij hi0
    · rw [e]
      unfold okPick at hok
      simp only [Bool.and_eq_true, Bool.not_eq_true', decide_eq_true_eq] at hok
      have hkeep : ∀ c, st.2.getD c false = true → (st.2.set b true).getD c false = true := fun c hc => by
        simp only [List.getD_eq_getElem?_getD, List.getElem?_set] at *
        by_cases he : b = c
        · rw [if_pos he]; split <;> simp_all
        · rw [if_neg he]; exact hc
      have hdiff : ∀ i, i < w → st.1.getD i 0 ≠ (b : Int) := fun i hi he => by
        rcases h1 i hi with h | ⟨c, hc, _, _, hc2⟩
        · omega
        · have : c = b := by omega
          subst this
          rw [hok.1] at hc2; cases hc2
      refine ⟨fun i hi => ?_, fun i j hi hj hij hi0 => ?_⟩
      · by_cases hiw : i = w
        · subst hiw
          rw [hnew]
          exact .inr ⟨b, rfl, hb, hok.2.1, by simp [List.getD_eq_getElem?_getD, show b < st.2.length by omega]⟩
        · rw [hold _ i (by omega)]
          rcases h1 i (by omega) with h | ⟨c, hc, hc1, hc2, hc3⟩
          · exact .inl h
          · exact .inr ⟨c, hc, hc1, hc2, hkeep c hc3⟩
      · by_cases hiw : i = w
        · subst hiw
          rw [hnew, hold _ j (by omega)]
          exact Ne.symm (hdiff j (by omega))
        · rw [hold _ i (by omega)] at hi0 ⊢
          by_cases hjw : j = w
          · subst hjw; rw [hnew]; exact hdiff i (by omega)
          · rw [hold _ j (by omega)]; exact h2 i j (by omega) (by omega) hij hi0
end
end Go.Law
