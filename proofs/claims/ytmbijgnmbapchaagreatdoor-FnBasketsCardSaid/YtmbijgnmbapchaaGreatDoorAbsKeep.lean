/-
  Abs, part 18: what is left behind a call, made small: some objects kept under new numbers, the others forgotten. Conditions: none; generic in the program.
-/
import Derived.Test.YtmbijgnmbapchaaGreatDoorAbsRows
set_option linter.unusedSimpArgs false
set_option linter.unusedVariables false
set_option linter.unusedSectionVars false
namespace Go.Abs
open Go.RowKit

/-- The same value where blocks have new numbers. -/
def ren0 (φ : Nat → Nat → Prop) (v u : Value) : Prop :=
  match v with
  | .pointer (some a) => ∃ i, φ a.block i ∧ u = .pointer (some ⟨i, a.off, a.spot⟩)
  | .slice (some a) n c => (a.spot = none ∧ ∃ i, φ a.block i ∧ u = .slice (some ⟨i, a.off, none⟩) n c) ∨ (a.spot = some 0 ∧ u = .slice (some a) n c)
  | .slice none n c => u = .slice none n c
  | .bool b => u = .bool b
  | .int k n => u = .int k n
  | .string s => u = .string s
  | .pointer none => u = .pointer none
  | .nilFunc => u = .nilFunc
  | _ => False
def ren2 (φ : Nat → Nat → Prop) (v u : Value) : Prop :=
  match v with
  | .agg cs => ∃ us, u = .agg us ∧ All2 (ren0 φ) cs.toList us.toList
  | v => ren0 φ v u
def ren3 (φ : Nat → Nat → Prop) (v u : Value) : Prop :=
  match v with
  | .tuple vs => ∃ us, u = .tuple us ∧ All2 (ren2 φ) vs.toList us.toList
  | v => ren2 φ v u

theorem ren0_lit {φ : Nat → Nat → Prop} {v : Value} (h : litB v = true) : ren0 φ v v := by
  unfold litB at h
  split at h <;> simp_all [ren0]
theorem ren2_lit {φ : Nat → Nat → Prop} {v : Value} (h : litB v = true) : ren2 φ v v := by
  unfold litB at h
  split at h <;> simp_all [ren2, ren0]
theorem ren0_two {φ : Nat → Nat → Prop} {v u : Value} (h : ren0 φ v u) : ren2 φ v u := by
  unfold ren2
  split
  · simp [ren0] at h
  · exact h
theorem ren0_conc {φ : Nat → Nat → Prop} {ρ1 ρ2 : List (Option Row)} (hφ : ∀ i j r, φ i j → ρ1[i]? = some (some r) → ρ2[j]? = some (some r)) {v u x : Value} (hr : ren0 φ v u) (h : conc0 ρ1 v x) : conc0 ρ2 u x := by
  unfold ren0 at hr
  split at hr
  · obtain ⟨i, hi, rfl⟩ := hr
    obtain ⟨hs, r, h1, h2⟩ := h
    exact ⟨hs, r, hφ _ _ _ hi h1, h2⟩
  · rcases hr with ⟨hs, i, hi, rfl⟩ | ⟨hs, rfl⟩
    · obtain ⟨hc, h⟩ := h
      rcases h with ⟨_, r, h1, h2, h3⟩ | ⟨h0, _⟩
      · exact ⟨hc, .inl ⟨rfl, r, hφ _ _ _ hi h1, h2, h3⟩⟩
      · rw [hs] at h0; cases h0
    · obtain ⟨hc, h⟩ := h
      rcases h with ⟨h0, _⟩ | h
      · rw [hs] at h0; cases h0
      · exact ⟨hc, .inr h⟩
  all_goals first
    | exact hr.elim
    | (subst hr; exact h)
theorem conc1_of_ren0 {φ : Nat → Nat → Prop} {ρ1 ρ2 : List (Option Row)} (hφ : ∀ i j r, φ i j → ρ1[i]? = some (some r) → ρ2[j]? = some (some r)) {v u x : Value} (hr : ren0 φ v u) (h : conc1 ρ1 v x) : conc1 ρ2 u x := by
  have h0 : conc0 ρ1 v x := by
    unfold conc1 at h
    split at h
    · simp [ren0] at hr
    · exact h
  exact conc1_of0 (ren0_conc hφ hr h0)
theorem All2.ren {φ : Nat → Nat → Prop} {R S T : Value → Value → Prop} (h : ∀ v u x, R v u → S v x → T u x) : ∀ {vs us xs : List Value}, All2 R vs us → All2 S vs xs → All2 T us xs
  | [], [], [], _, _ => trivial
  | _ :: _, _ :: _, _ :: _, h1, h2 => ⟨h _ _ _ h1.1 h2.1, All2.ren (φ := φ) h h1.2 h2.2⟩
  | [], _ :: _, _, h1, _ => h1.elim
  | _ :: _, [], _, h1, _ => h1.elim
  | [], [], _ :: _, _, h2 => h2.elim
  | _ :: _, _ :: _, [], _, h2 => h2.elim
theorem conc2_of_ren2 {φ : Nat → Nat → Prop} {ρ1 ρ2 : List (Option Row)} (hφ : ∀ i j r, φ i j → ρ1[i]? = some (some r) → ρ2[j]? = some (some r)) {v u x : Value} (hr : ren2 φ v u) (h : conc2 ρ1 v x) : conc2 ρ2 u x := by
  unfold ren2 at hr
  split at hr
  · obtain ⟨us, rfl, hr⟩ := hr
    obtain ⟨xs, rfl, h⟩ := h
    exact ⟨xs, rfl, All2.ren (φ := φ) (R := ren0 φ) (S := conc1 ρ1) (T := conc1 ρ2) (fun v u x h1 h2 => conc1_of_ren0 hφ h1 h2) hr h⟩
  · rename_i hn
    have h1 : conc1 ρ1 v x := by
      unfold conc2 at h
      split at h
      · exact absurd rfl (hn _)
      · exact h
    have := conc1_of_ren0 hφ hr h1
    unfold conc2
    split
    · simp [conc1, conc0] at this
    · exact this
theorem conc3_of_ren3 {φ : Nat → Nat → Prop} {ρ1 ρ2 : List (Option Row)} (hφ : ∀ i j r, φ i j → ρ1[i]? = some (some r) → ρ2[j]? = some (some r)) {v u x : Value} (hr : ren3 φ v u) (h : conc3 ρ1 v x) : conc3 ρ2 u x := by
  unfold ren3 at hr
  split at hr
  · obtain ⟨us, rfl, hr⟩ := hr
    obtain ⟨xs, rfl, h⟩ := h
    exact ⟨xs, rfl, All2.ren (φ := φ) (R := ren2 φ) (S := conc2 ρ1) (T := conc2 ρ2) (fun v u x h1 h2 => conc2_of_ren2 hφ h1 h2) hr h⟩
  · rename_i hn
    have h1 : conc2 ρ1 v x := by
      unfold conc3 at h
      split at h
      · exact absurd rfl (hn _)
      · exact h
    have := conc2_of_ren2 hφ hr h1
    unfold conc3
    split
    · simp [conc2, conc1, conc0] at this
    · exact this

/-- Where the kept objects come from. -/
def srcOf (n : Nat) (ids : List Nat) (i : Nat) : Nat := if i < n then i else ids.getD (i - n) 0
/-- Old numbers and new ones. -/
def phi (n : Nat) (ids : List Nat) (i j : Nat) : Prop := (i = j ∧ i < n) ∨ ∃ k, ids[k]? = some i ∧ j = n + k
/-- A cell of the old memory, or one that needs no memory but the old. -/
def OldV (m : Mem) (v : Value) : Prop := ∃ (i : Nat) (o : AObj) (k : Nat), m[i]? = some o ∧ o.kind ≤ 2 ∧ o.cells[k]? = some v
structure Weak (φ : Nat → Nat → Prop) (m : Mem) (o1 o2 : AObj) : Prop where
  sz : o2.sz = o1.sz
  elem : o2.elem = o1.elem
  kind : o2.kind = o1.kind ∨ (o1.kind = 1 ∧ o2.kind = 2)
  len : o2.cells.length ≤ o1.cells.length
  full : o2.kind = 1 → o2.cells.length = o1.cells.length
  cells : ∀ (j : Nat) (u : Value), o2.cells[j]? = some u → ∃ v, o1.cells[j]? = some v ∧ (ren0 φ v u ∨ (v = u ∧ OldV m u))

theorem GC.to {m m1 m2 : Mem} {v u : Value} (ids : List Nat) (hl : m2.length = m.length + ids.length) (hnd : ids.Nodup) (hge : ∀ i ∈ ids, m.length ≤ i ∧ i < m1.length)
    (h4 : ∀ (i : Nat) o, m[i]? = some o → o.kind = 4 → ∃ o1, m1[i]? = some o1 ∧ o1.kind = 4) (h42 : ∀ (i : Nat) o o2, m[i]? = some o → m2[i]? = some o2 → (o2.kind = 4 ↔ o.kind = 4))
    (hobj : ∀ (i : Nat) (o2 : AObj), m2[i]? = some o2 → (i < m.length ∧ 2 < o2.kind) ∨ ∃ o1, m1[srcOf m.length ids i]? = some o1 ∧ Weak (phi m.length ids) m o1 o2)
    (hv : ren3 (phi m.length ids) v u) : GC m m1 v m2 u := by
  intro W0 ρ ρ1 w w1 x hr hp hr1 hc
  have hlen := hr.len
  have hlen1 := hr1.len
  let ρ2 := ρ ++ ids.map fun i => ρ1.getD i none
  have hρ2' : ∀ i, i < m2.length → ρ2[i]? = ρ1[srcOf m.length ids i]? := by
    intro i hi
    unfold srcOf
    split
    · rename_i h
      have h' : i < ρ.length := by omega
      show (ρ ++ _)[i]? = _
      rw [List.getElem?_append_left h']
      have hmi : m[i]? = some m[i] := List.getElem?_eq_getElem h
      by_cases hk : m[i].kind = 4
      · obtain ⟨o1, ho1, hk1⟩ := h4 i _ hmi hk
        rw [hr.off i _ hmi hk, hr1.off i _ ho1 hk1]
      · obtain ⟨r, hr'⟩ := hr.row i _ hmi hk
        rw [hr', hp.get i r hr']
    · rename_i h
      have h' : ρ.length ≤ i := by omega
      show (ρ ++ _)[i]? = _
      rw [List.getElem?_append_right h', hlen]
      have hk : i - m.length < ids.length := by omega
      have hin := hge _ (List.getElem_mem hk)
      have hlt : ids[i - m.length] < ρ1.length := by omega
      simp [List.getElem?_eq_getElem hk, List.getElem?_eq_getElem hlt]
  have hρ2 : ∀ i r, i < m2.length → (ρ2[i]? = some (some r) ↔ ρ1[srcOf m.length ids i]? = some (some r)) := fun i r hi => by rw [hρ2' i hi]
  have hφ : ∀ i j r, phi m.length ids i j → ρ1[i]? = some (some r) → ρ2[j]? = some (some r) := by
    rintro i j r (⟨rfl, hi⟩ | ⟨k, hk, rfl⟩) h
    · rw [hρ2 i r (by omega)]
      unfold srcOf; rw [if_pos hi]; exact h
    · have hkl : k < ids.length := (List.getElem?_eq_some_iff.1 hk).1
      rw [hρ2 _ r (by omega)]
      unfold srcOf; rw [if_neg (by omega), Nat.add_sub_cancel_left]
      simp [hk, h]
  have hpp : Ext ρ ρ2 := Ext.app _ _
  have hmem : ∀ i, i < m2.length → m.length ≤ i → srcOf m.length ids i ∈ ids ∧ ids[i - m.length]? = some (srcOf m.length ids i) := by
    intro i hi h
    have hk : i - m.length < ids.length := by omega
    unfold srcOf
    rw [if_neg (by omega)]
    simp [List.getElem?_eq_getElem hk]
  have hrow2 : ∀ (i : Nat) o2, m2[i]? = some o2 → (∃ o, m[i]? = some o ∧ (o2.kind = 4 ↔ o.kind = 4) ∧ ρ2[i]? = ρ[i]?) ∨ ∃ o1, m1[srcOf m.length ids i]? = some o1 ∧ (o2.kind = 4 ↔ o1.kind = 4) := by
    intro i o2 hi
    by_cases hin : i < m.length
    · refine .inl ⟨m[i], List.getElem?_eq_getElem hin, h42 i _ o2 (List.getElem?_eq_getElem hin) hi, ?_⟩
      show (ρ ++ _)[i]? = _
      rw [List.getElem?_append_left (by omega)]
    · rcases hobj i o2 hi with ⟨h, _⟩ | ⟨o1, ho1, hw⟩
      · exact absurd h hin
      · exact .inr ⟨o1, ho1, by rcases hw.kind with h | h <;> omega⟩
  refine ⟨ρ2, hpp, ⟨hr1.below, hr1.tab, by simp [ρ2]; omega, fun i o2 hi hk => ?_, fun i o2 hi hk => ?_, ?_, ?_⟩, conc3_of_ren3 hφ hv hc⟩
  · rcases hrow2 i o2 hi with ⟨o, h1, h2, h3⟩ | ⟨o1, h1, h2⟩
    · rw [h3]; exact hr.row i o h1 (fun h => hk (h2.2 h))
    · rw [hρ2' i (List.getElem?_eq_some_iff.1 hi).1]; exact hr1.row _ o1 h1 (fun h => hk (h2.2 h))
  · rcases hrow2 i o2 hi with ⟨o, h1, h2, h3⟩ | ⟨o1, h1, h2⟩
    · rw [h3]; exact hr.off i o h1 (h2.1 hk)
    · rw [hρ2' i (List.getElem?_eq_some_iff.1 hi).1]; exact hr1.off _ o1 h1 (h2.1 hk)
  · intro i o2 r hi hri
    have hil : i < m2.length := (List.getElem?_eq_some_iff.1 hi).1
    rw [hρ2 i r hil] at hri
    rcases hobj i o2 hi with ⟨_, hk⟩ | ⟨o1, ho1, hw⟩
    · refine ⟨fun h => by omega, fun h => ?_⟩
      rcases h with h | h <;> omega
    have h1 := hr1.obj _ o1 r ho1 hri
    have hcell : ∀ (j : Nat) (y : Value), o2.cells[j]? = some y → ∃ z, o1.cells[j]? = some z ∧ ∀ x, conc1 ρ1 z x → conc1 ρ2 y x := by
      intro j y hy
      obtain ⟨z, hz, hh⟩ := hw.cells j y hy
      refine ⟨z, hz, fun x hx => ?_⟩
      rcases hh with hh | ⟨rfl, i', o, k, e1, e2, e3⟩
      · exact conc1_of_ren0 hφ hh hx
      · obtain ⟨r', hr'⟩ := hr.row i' o e1 (by omega)
        obtain ⟨x', _, hx'⟩ := (hr.obj i' o r' e1 hr').read ((rd_iff o).2 e2) e3
        exact conc1_mono hpp (conc1_back hp hx' hx)
    refine ⟨fun hk => ?_, fun hlv => ?_⟩
    · have hk1 : o1.kind = 0 := by rcases hw.kind with h | h <;> omega
      obtain ⟨a1, a2, a3⟩ := h1.1 hk1
      refine ⟨a1.trans hw.sz.symm, a2, fun j y hy => ?_⟩
      obtain ⟨z, hz, hh⟩ := hcell j y hy
      obtain ⟨x, hx, hx'⟩ := a3 j z hz
      exact ⟨x, hx, hh x hx'⟩
    · have hk1 : o1.live := by
        unfold AObj.live at hlv ⊢
        rcases hw.kind with h | h <;> omega
      obtain ⟨a1, a2, a3, a4, c, a5, a6, a7, a8, a9⟩ := h1.2 hk1
      refine ⟨a1, a2.trans hw.sz.symm, a3, a4, c, by rw [hw.elem]; exact a5, a6, Nat.le_trans hw.len a7, fun hk => ?_, fun j y hy => ?_⟩
      · rw [hw.full hk]
        refine a8 ?_
        rcases hw.kind with h | h <;> omega
      · obtain ⟨z, hz, hh⟩ := hcell j y hy
        obtain ⟨x, hx, hx'⟩ := a9 j z hz
        exact ⟨x, hx, hh x hx'⟩
  · intro i j o o' r r' hij hi hj hlo hlo' hri hrj
    have hil : i < m2.length := (List.getElem?_eq_some_iff.1 hi).1
    have hjl : j < m2.length := (List.getElem?_eq_some_iff.1 hj).1
    rw [hρ2 i r hil] at hri
    rw [hρ2 j r' hjl] at hrj
    have live1 : ∀ (i : Nat) (o : AObj), m2[i]? = some o → o.live → ∃ o1, m1[srcOf m.length ids i]? = some o1 ∧ o1.live := by
      intro i o hi hlo
      rcases hobj i o hi with ⟨_, hk⟩ | ⟨o1, ho1, hw⟩
      · rcases hlo with h | h <;> omega
      · refine ⟨o1, ho1, ?_⟩
        unfold AObj.live at hlo ⊢
        rcases hw.kind with h | h <;> omega
    obtain ⟨o1, ho1, hl1⟩ := live1 i o hi hlo
    obtain ⟨o1', ho1', hl1'⟩ := live1 j o' hj hlo'
    refine hr1.inj _ _ o1 o1' r r' ?_ ho1 ho1' hl1 hl1' hri hrj
    intro he
    by_cases hin : i < m.length
    · have e1 : srcOf m.length ids i = i := by unfold srcOf; rw [if_pos hin]
      by_cases hjn : j < m.length
      · have e2 : srcOf m.length ids j = j := by unfold srcOf; rw [if_pos hjn]
        omega
      · have := hge _ (hmem j hjl (by omega)).1
        omega
    · by_cases hjn : j < m.length
      · have e2 : srcOf m.length ids j = j := by unfold srcOf; rw [if_pos hjn]
        have := hge _ (hmem i hil (by omega)).1
        omega
      · have h1 := (hmem i hil (by omega)).2
        have h2 := (hmem j hjl (by omega)).2
        rw [he] at h1
        have hkj : j - m.length < ids.length := by omega
        have := (List.getElem?_inj hkj hnd).1 (h2.trans h1.symm)
        omega

/-- What old memory has become: numbers stand, cells are plain or were there. -/
def FitV (m : Mem) (v : Value) : Prop := ren0 (fun i j => i = j ∧ i < m.length) v v ∨ OldV m v
structure Fits (m m' : Mem) : Prop where
  len : m'.length = m.length
  fit : ∀ (i : Nat) (o : AObj), m'[i]? = some o → 2 < o.kind ∨ ∀ v ∈ o.cells, FitV m v
  four : ∀ (i : Nat) (o o' : AObj), m[i]? = some o → m'[i]? = some o' → (o'.kind = 4 ↔ o.kind = 4)
theorem FitV.lit {m : Mem} {v : Value} (h : litB v = true) : FitV m v := .inl (ren0_lit h)
theorem FitV.old {m : Mem} {i : Nat} {o : AObj} {v : Value} (h : m[i]? = some o) (hk : o.kind ≤ 2) (hv : v ∈ o.cells) : FitV m v := by
  obtain ⟨k, hk', rfl⟩ := List.getElem_of_mem hv
  exact .inr ⟨i, o, k, h, hk, List.getElem?_eq_getElem hk'⟩
theorem Fits.refl (m : Mem) : Fits m m := ⟨rfl, fun i o h => by
  rcases Nat.lt_or_ge 2 o.kind with hk | hk
  · exact .inl hk
  · exact .inr fun v hv => FitV.old h hk hv, fun i o o' h h' => by rw [h] at h'; injection h' with h'; rw [h']⟩

theorem ren0_mono {φ ψ : Nat → Nat → Prop} (h : ∀ i j, φ i j → ψ i j) {v u : Value} (hr : ren0 φ v u) : ren0 ψ v u := by
  unfold ren0 at *
  split at hr <;> first
    | exact hr
    | skip
  · obtain ⟨i, hi, e⟩ := hr; exact ⟨i, h _ _ hi, e⟩
  · rcases hr with ⟨hs, i, hi, e⟩ | hr
    · exact .inl ⟨hs, i, h _ _ hi, e⟩
    · exact .inr hr
theorem phi_old {n : Nat} {ids : List Nat} {i j : Nat} (h : i = j ∧ i < n) : phi n ids i j := .inl h
theorem phi_new {n : Nat} {ids : List Nat} {k i : Nat} (h : ids[k]? = some i) : phi n ids i (n + k) := .inr ⟨k, h, rfl⟩

/-- The general form: old memory that has turned, then the call's own objects. -/
theorem GC.keep {m m' j news : Mem} {v u : Value} (ids : List Nat) (hm : Fits m m') (hnd : ids.Nodup) (hge : ∀ i ∈ ids, m.length ≤ i) (hl : news.length = ids.length)
    (hobj : ∀ (k : Nat) (i : Nat) (o2 : AObj), ids[k]? = some i → news[k]? = some o2 → ∃ o1, (m' ++ j)[i]? = some o1 ∧ Weak (phi m.length ids) m o1 o2)
    (hv : ren3 (phi m.length ids) v u) : GC m (m' ++ j) v (m' ++ news) u := by
  have back : ∀ (i : Nat) o (l : Mem), m[i]? = some o → ∃ o', (m' ++ l)[i]? = some o' ∧ m'[i]? = some o' := fun i o l hi => by
    have hlt : i < m'.length := by rw [hm.len]; exact (List.getElem?_eq_some_iff.1 hi).1
    exact ⟨m'[i], by rw [List.getElem?_append_left hlt]; exact List.getElem?_eq_getElem hlt, List.getElem?_eq_getElem hlt⟩
  refine GC.to ids (by simp [hm.1, hl]) hnd (fun i hi => ⟨hge i hi, ?_⟩) (fun i o hi hk => ?_) (fun i o o2 hi hi2 => ?_) (fun i o2 hi => ?_) hv
  · obtain ⟨k, hk, rfl⟩ := List.getElem_of_mem hi
    obtain ⟨o1, h1, _⟩ := hobj k _ news[k] (List.getElem?_eq_getElem hk) (List.getElem?_eq_getElem (by omega))
    exact (List.getElem?_eq_some_iff.1 h1).1
  · obtain ⟨o', h1, h2⟩ := back i o j hi
    exact ⟨o', h1, (hm.four i o o' hi h2).2 hk⟩
  · obtain ⟨o', h1, h2⟩ := back i o news hi
    rw [h1] at hi2
    injection hi2 with hi2
    subst hi2
    exact hm.four i o o' hi h2
  · by_cases hin : i < m.length
    · have hin' : i < m'.length := by rw [hm.1]; exact hin
      rw [List.getElem?_append_left hin'] at hi
      rcases hm.fit i o2 hi with hk | hk
      · exact .inl ⟨hin, hk⟩
      · refine .inr ⟨o2, ?_, ⟨rfl, rfl, .inl rfl, Nat.le_refl _, fun _ => rfl, fun q w hw => ⟨w, hw, ?_⟩⟩⟩
        · unfold srcOf; rw [if_pos hin, List.getElem?_append_left hin']; exact hi
        · rcases hk w (List.mem_of_getElem? hw) with h | h
          · exact .inl (ren0_mono (fun _ _ => phi_old) h)
          · exact .inr ⟨rfl, h⟩
    · have hin' : m'.length ≤ i := by rw [hm.1]; omega
      rw [List.getElem?_append_right hin', hm.1] at hi
      have hk : i - m.length < ids.length := by rw [← hl]; exact (List.getElem?_eq_some_iff.1 hi).1
      obtain ⟨o1, h1, h2⟩ := hobj _ _ o2 (List.getElem?_eq_getElem hk) hi
      refine .inr ⟨o1, ?_, h2⟩
      unfold srcOf
      rw [if_neg hin]
      simpa [List.getElem?_eq_getElem hk] using h1

/-- A row of plain cells, perhaps known less. -/
theorem Weak.lits {φ : Nat → Nat → Prop} {m : Mem} {o1 o2 : AObj} (hs : o2.sz = o1.sz) (he : o2.elem = o1.elem) (hk : o2.kind = o1.kind ∨ (o1.kind = 1 ∧ o2.kind = 2)) (hc : o2.cells = o1.cells) (hl : o1.cells.all litB = true) : Weak φ m o1 o2 :=
  ⟨hs, he, hk, by rw [hc]; exact Nat.le_refl _, fun _ => by rw [hc], fun j u hu => ⟨u, by rw [← hc]; exact hu, .inl (ren0_lit (List.all_eq_true.1 hl u (by rw [hc] at hu; exact List.mem_of_getElem? hu)))⟩⟩

/-- All is forgotten but what has turned. -/
theorem GC.turned {m m' j : Mem} {v : Value} (hm : Fits m m') (hv : ren3 (phi m.length []) v v) : GC m (m' ++ j) v m' v := by
  have := GC.keep (news := []) (j := j) [] hm (by simp) (by simp) rfl (by simp) hv
  simpa using this
theorem ren3_litV {φ : Nat → Nat → Prop} {v : Value} (h : litV v = true) : ren3 φ v v := by
  have h0 : ∀ l : List Value, l.all litB = true → All2 (ren0 φ) l l := by
    intro l
    induction l with
    | nil => exact fun _ => trivial
    | cons a l ih => intro h; simp only [List.all_cons, Bool.and_eq_true] at h; exact ⟨ren0_lit h.1, ih h.2⟩
  have h2 : ∀ v : Value, (match v with | .agg cs => cs.toList.all litB | v => litB v) = true → ren2 φ v v := by
    intro v h
    split at h
    · exact ⟨_, rfl, h0 _ h⟩
    · exact ren2_lit h
  unfold ren3
  split
  · rename_i vs
    refine ⟨vs, rfl, ?_⟩
    simp only [litV] at h
    generalize vs.toList = l at *
    induction l with
    | nil => trivial
    | cons a l ih => simp only [List.all_cons, Bool.and_eq_true] at h; exact ⟨h2 _ h.1, ih h.2⟩
  · rename_i hn
    refine h2 _ ?_
    unfold litV at h
    split at h
    · exact h
    · exact absurd rfl (hn _)
    · rename_i h1 _
      split
      · exact absurd rfl (h1 _)
      · exact h
theorem GC.turnedEq {m m' j : Mem} {v u : Value} (hm : Fits m m') (h : v = u) (hv : litV u = true) : GC m (m' ++ j) v m' u := h ▸ GC.turned hm (h ▸ ren3_litV hv)

/-- One new row is kept, and the result is a slice of it. -/
theorem GC.keepS {m m' j : Mem} {id off n : Nat} {o1 o2 : AObj} (hm : Fits m m') (h1 : (m' ++ j)[id]? = some o1) (hge : m.length ≤ id) (hs : o2.sz = o1.sz) (he : o2.elem = o1.elem)
    (hk : o2.kind = o1.kind ∨ (o1.kind = 1 ∧ o2.kind = 2)) (hc : o2.cells = o1.cells) (hl : o1.cells.all litB = true) :
    GC m (m' ++ j) (.slice (some ⟨id, off, none⟩) n n) (m' ++ [o2]) (.slice (some ⟨m.length, off, none⟩) n n) := by
  refine GC.keep [id] hm (by simp) (by simpa using hge) rfl ?_ (.inl ⟨rfl, _, phi_new (k := 0) rfl, rfl⟩)
  intro k i o hk' ho
  cases k with
  | zero =>
    simp at hk' ho
    subst hk'; subst ho
    exact ⟨o1, h1, Weak.lits hs he hk hc hl⟩
  | succ k => simp at hk'
/-- The same, the slice beside plain values. -/
theorem GC.keepT {m m' j : Mem} {id off n : Nat} {o1 o2 : AObj} {l : List Value} (hm : Fits m m') (h1 : (m' ++ j)[id]? = some o1) (hge : m.length ≤ id) (hs : o2.sz = o1.sz) (he : o2.elem = o1.elem)
    (hk : o2.kind = o1.kind ∨ (o1.kind = 1 ∧ o2.kind = 2)) (hc : o2.cells = o1.cells) (hl : o1.cells.all litB = true) (hll : l.all litB = true) :
    GC m (m' ++ j) (.tuple (.slice (some ⟨id, off, none⟩) n n :: l).toArray) (m' ++ [o2]) (.tuple (.slice (some ⟨m.length, off, none⟩) n n :: l).toArray) := by
  have h0 : ∀ l : List Value, l.all litB = true → All2 (ren2 (phi m.length [id])) l l := by
    intro l
    induction l with
    | nil => exact fun _ => trivial
    | cons a l ih => intro h; simp only [List.all_cons, Bool.and_eq_true] at h; exact ⟨ren2_lit h.1, ih h.2⟩
  refine GC.keep [id] hm (by simp) (by simpa using hge) rfl ?_ ⟨_, rfl, .inl ⟨rfl, _, phi_new (k := 0) rfl, rfl⟩, h0 l hll⟩
  intro k i o hk' ho
  cases k with
  | zero =>
    simp at hk' ho
    subst hk'; subst ho
    exact ⟨o1, h1, Weak.lits hs he hk hc hl⟩
  | succ k => simp at hk'
theorem ints_lit (xs : List Int) : (xs.map (Value.int .i64)).all litB = true := by simp [litB]
end Go.Abs
