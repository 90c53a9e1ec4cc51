/-
  Abs, part 11b: a region's condition tells one outcome. Conditions: none; generic in the program.
-/
import Derived.Test.YtmbijgnmbapchaaGreatDoorAbsDraw2
set_option linter.unusedSimpArgs false
set_option linter.unusedVariables false
set_option linter.unusedSectionVars false
namespace Go.Abs
open Go.RowKit

variable {P : Program}

/-- From this state, however it is met, the operations lead to that one. -/
def Leads (P : Program) (all : Array Oper) (N : Nat) (l : List Oper) (n : Nat) (σ : Fr) (m : Mem) (σ' : Fr) (m' : Mem) : Prop :=
  ∀ (Q : Exit → Act → World → Prop) (W0 : World) (ρ0 : List (Option Row)), (∀ ρ a w, Ext ρ0 ρ → Rel W0 ρ m' w → FRel ρ N a σ' → Q .normal a w) →
    ∀ (ρ : List (Option Row)) (a : Act) (w : World), Ext ρ0 ρ → Rel W0 ρ m w → FRel ρ N a σ → wpOps P all Q (List.range' n l.length) a w

theorem vops_leads {all : Array Oper} {N : Nat} {kk : Fr → Mem → Prop} (hN : ∀ o ∈ all, ∀ d, o.dst = some d → d < N) :
    ∀ (l : List Oper) (n : Nat) (σ : Fr) (m : Mem), (∀ j, l[j]? = all[n + j]?) → vops P all.toList l σ m kk → ∃ σ' m', kk σ' m' ∧ Leads P all N l n σ m σ' m'
  | [], n, σ, m, _, h => ⟨σ, m, h, fun Q W0 ρ0 hQ ρ a w hp hr hf => hQ ρ a w hp hr hf⟩
  | o :: l, n, σ, m, hl, h => by
    have h0 : all[n]? = some o := by simpa using (hl 0).symm
    have hmem : o ∈ all := Array.mem_of_getElem? h0
    have hl' : ∀ j, l[j]? = all[n + 1 + j]? := fun j => by have := hl (j + 1); simpa [Nat.add_assoc, Nat.add_comm 1 j] using this
    simp only [vops] at h
    rcases wantA_of_guard h with ⟨hw, hrun⟩ | ⟨hw, hskip⟩
    · obtain ⟨v, m1, hok, hk⟩ := vop_sound hrun
      obtain ⟨σ', m', h1, h2⟩ := vops_leads hN l (n + 1) _ _ hl' hk
      refine ⟨σ', m', h1, fun Q W0 ρ0 hQ ρ a w hp hr hf => ?_⟩
      simp only [List.length_cons, List.range'_succ, wpOps, h0, wanted_of_wantA hw hf, if_true]
      left
      exact hok W0 ρ w a hr (Ops.of_frel hf _) _ _ fun ρ' w' v' hp' hr' hv' => h2 Q W0 ρ0 hQ ρ' _ _ (hp.trans hp') hr' ((hf.mono hp').put (hN o hmem) hv')
    · obtain ⟨σ', m', h1, h2⟩ := vops_leads hN l (n + 1) _ _ hl' hskip
      refine ⟨σ', m', h1, fun Q W0 ρ0 hQ ρ a w hp hr hf => ?_⟩
      simp only [List.length_cons, List.range'_succ, wpOps, h0, wanted_of_wantA hw hf, Bool.false_eq_true, if_false]
      exact h2 Q W0 ρ0 hQ ρ _ _ hp hr (hf.put (hN o hmem) (conc3_undef ρ))

theorem anyA_leads {all : Array Oper} {Q : Fr → Mem → Prop} (hord : anchorsOrd all.toList (masks all.toList) = true) : ∀ (l : List Oper) (k : Nat) (listed : Array Bool) (σ : Fr) (m : Mem), (∀ j, l[j]? = all[k + j]?) → closed all listed →
    Region.lexFrom .any all l.length k listed = true → vopsD P all.toList (extB all.toList (masks all.toList)) k l σ m Q →
    ∃ σ' m', Q σ' m' ∧ anyA P all (extB all.toList (masks all.toList)) (fun σ1 m1 => σ1 = σ' ∧ m1 = m') l.length listed σ m
  | [], k, listed, σ, m, _, _, hB, h => ⟨σ, m, h, by simpa [Region.lexFrom] using hB, rfl, rfl⟩
  | o :: l, k, listed, σ, m, hl, hcl, hB, h => by
    have h0 : all[k]? = some o := by simpa using (hl 0).symm
    simp only [List.length_cons, Region.lexFrom, Bool.and_eq_true] at hB
    obtain ⟨⟨hr, hf⟩, hB'⟩ := hB
    have hr' : k ∈ Region.ready .any all listed := by simpa using hr
    have hl' : ∀ j, l[j]? = all[k + 1 + j]? := fun j => by have := hl (j + 1); simpa [Nat.add_assoc, Nat.add_comm 1 j] using this
    have fin : ∀ v m1, Yields1 P all (extB all.toList (masks all.toList)) k o σ m v m1 → vopsD P all.toList (extB all.toList (masks all.toList)) (k + 1) l (updO σ o.dst v) m1 Q →
        ∃ σ' m', Q σ' m' ∧ anyA P all (extB all.toList (masks all.toList)) (fun σ1 m1 => σ1 = σ' ∧ m1 = m') (l.length + 1) listed σ m := by
      intro v m1 hy hK
      obtain ⟨σ', m', h1, h2⟩ := anyA_leads hord l (k + 1) _ _ _ hl' (closed_set hcl hr') hB' hK
      exact ⟨σ', m', h1, first h0 hord l.length listed σ m v m1 hcl (Region.free_spec h0 hf) hr' hy h2⟩
    simp only [vopsD] at h
    rcases wantA_of_guard h with ⟨hw, hrun⟩ | ⟨hw, hskip⟩
    · by_cases hc2 : opClass o.op = 2
      · obtain ⟨v, m', hok, hext, hk⟩ := vop_sound hrun
        exact fin v m' (.inl ⟨hw, hc2, hok, fun he => hext.resolve_right (by rw [he]; simp)⟩) hk
      · by_cases hc0 : opClass o.op = 0
        · obtain ⟨u, ⟨_, hk⟩, hfl⟩ := float_pure hc0 hrun
          exact fin u m (.inr (.inl ⟨hw, hc2, rfl, none, hfl, (fun _ _ e => by cases e), fun _ => rfl⟩)) hk
        · have hc1 : opClass o.op = 1 := by
            have : opClass o.op ≤ 2 := by unfold opClass; split <;> first | decide | (split <;> decide)
            omega
          obtain ⟨u, dep, ⟨_, hk⟩, hfl, hdep⟩ := float_look hc1 hrun
          exact fin u m (.inr (.inl ⟨hw, hc2, rfl, dep, hfl, hdep, fun h => absurd h hc0⟩)) hk
    · exact fin undef m (.inr (.inr ⟨hw, rfl, rfl⟩)) hskip

theorem draw_leads {id : Nat} {l : List Oper} {N : Nat} {kk : Fr → Mem → Prop} {σ : Fr} {m : Mem}
    (hm : P.follows .mixedOrders = true) (hB : drawOK l = true) (hN : ∀ o ∈ l.toArray, ∀ d, o.dst = some d → d < N) (h : vopsD P l (extB l (masks l)) 0 l σ m kk) :
    ∃ σ' m', kk σ' m' ∧ ∀ (Q : Exit → Act → World → Prop) (W0 : World) (ρ0 : List (Option Row)), (∀ ρ a w, Ext ρ0 ρ → Rel W0 ρ m' w → FRel ρ N a σ' → Q .normal a w) →
      ∀ (ρ : List (Option Row)) (a : Act) (w : World), Ext ρ0 ρ → Rel W0 ρ m w → FRel ρ N a σ → (Code.region id l.toArray true).wp P Q a w := by
  simp only [drawOK, Region.lexB, Bool.and_eq_true] at hB
  have hcl : closed l.toArray (Array.replicate l.toArray.size false) := by
    intro j oj _ hlj
    exfalso
    rcases Nat.lt_or_ge j l.length with h' | h' <;> simp [h'] at hlj
  obtain ⟨σ', m', h1, h2⟩ := anyA_leads (P := P) (all := l.toArray) (Q := kk) hB.2 l 0 (Array.replicate l.toArray.size false) σ m (by simp) hcl (by simpa using hB.1.2) (by simpa using h)
  refine ⟨σ', m', h1, fun Q W0 ρ0 hQ ρ a w hp hr hf => wp_region_any hm ?_⟩
  have h3 := wpAny_of_anyA (N := N) (Q := Q) (W0 := W0) (ρ0 := ρ0) hN (kk := fun σ1 m1 => σ1 = σ' ∧ m1 = m') (fun ρ σ1 m1 a w hp hr hf ⟨e1, e2⟩ => by subst e1; subst e2; exact hQ ρ a w hp hr hf) _ _ σ m ρ a { w with drawn := w.drawn + 1 } h2 hp hr.drew' hf
  simpa using h3
end Go.Abs
