/-
  Abs, part 6: 'vop' is sound, all kinds; a region in the text's order; the code. Conditions: none; generic in the program.
-/
import Derived.Test.YtmbijgnmbapchaaGreatDoorAbsSound5
set_option linter.unusedSimpArgs false
set_option linter.unusedVariables false
set_option linter.unusedSectionVars false
namespace Go.Abs
open Go.RowKit

variable {P : Program}

theorem vop_sound {σ : Fr} {m : Mem} {k : Value → Mem → Prop} {o : Oper} (h : vop P σ m k o) : Good P σ m o k := by
  obtain ⟨dst, op, ty, pos, aft, g⟩ := o
  unfold vop at h
  cases op <;> simp only at h <;> first
    | exact h.elim
    | exact good_move _ (.inl rfl) h
    | exact good_move _ (.inr rfl) h
    | exact good_pick h
    | exact good_un h
    | exact good_load h
    | exact good_store h
    | exact good_alloc h
    | exact good_box h
    | exact good_fieldAddr h
    | exact good_indexAddr h
    | exact good_extract h
    | exact good_convert h
    | exact good_nilCheck h
    | exact good_make h
    | exact good_slice h
    | exact good_build h
    | exact good_buildSlice h
    | exact good_makeFunc h
    | exact good_index h
    | skip
  case binOp op t x y t' =>
    split at h
    · exact good_bin ‹_› ‹_› h
    · exact h.elim
  case call c =>
    obtain ⟨callee, args, tys⟩ := c
    cases callee with
    | value f => exact good_call h
    | invoke r n => exact h.elim
    | builtin b =>
      simp only at h
      split at h
      · rename_i x t h1 h2
        obtain ⟨args⟩ := args
        obtain ⟨tys⟩ := tys
        simp only at h1 h2
        subst h1 h2
        exact good_len h
      · rename_i x y t t' h1 h2
        obtain ⟨args⟩ := args
        obtain ⟨tys⟩ := tys
        simp only at h1 h2
        subst h1 h2
        exact good_append h
      · rename_i x y t t' h1 h2
        obtain ⟨args⟩ := args
        simp only at h1
        subst h1
        exact good_max h
      · rename_i x y t t' h1 h2
        obtain ⟨args⟩ := args
        simp only at h1
        subst h1
        exact good_min h
      · exact h.elim

/-- A guard, decided or not; behind it the slot that it asks is known. -/
def vguard (all : List Oper) (σ : Fr) (o : Oper) (run skip : Fr → Prop) : Prop :=
  match o.guard with
  | none => run σ
  | some (j, want) => match (all[j]?).bind (·.dst) with
    | some t => match σ t with
      | some (.bool b) => split2 (b == want) (run (upd σ t (.bool want))) (skip (upd σ t (.bool (!want))))
      | some (.tuple _) => skip σ
      | _ => False
    | none => skip σ

def vops (P : Program) (all : List Oper) : List Oper → Fr → Mem → (Fr → Mem → Prop) → Prop
  | [], σ, m, k => k σ m
  | o :: rest, σ, m, k => vguard all σ o (fun σ => vop P σ m (fun v m' => vops P all rest (updO σ o.dst v) m' k) o) (fun σ => vops P all rest (updO σ o.dst undef) m k)

theorem upd_same {σ : Fr} {t : Nat} {v : Value} (h : σ t = some v) : upd σ t v = σ := by
  funext i
  unfold upd
  split
  · rename_i e; rw [e, h]
  · rfl

theorem vguard_elim {all : Array Oper} {σ : Fr} {o : Oper} {run skip : Fr → Prop} (h : vguard all.toList σ o run skip) {ρ : List (Option Row)} {N : Nat} {a : Act} (hf : FRel ρ N a σ) :
    (Region.wanted o (yielded all a.tmps) = true ∧ run σ) ∨ (Region.wanted o (yielded all a.tmps) = false ∧ skip σ) := by
  unfold vguard at h
  unfold Region.wanted
  split at h
  · rename_i hg; rw [hg]; exact .inl ⟨rfl, h⟩
  · rename_i j want hg
    rw [hg]
    simp only [Array.getElem?_toList] at h ⊢
    unfold yielded
    split at h
    · rename_i t ht
      rw [ht]
      simp only [Option.bind_some]
      split at h
      · rename_i b hb
        have hc : a.tmps.getD t undef = .bool b := hf.2.2 t _ hb
        have hsome : a.tmps[t]? = some (.bool b) := by
          rcases Nat.lt_or_ge t a.tmps.size with hlt | hge
          · rw [← hc]; simp [hlt]
          · simp [Array.getD_eq_getD_getElem?, Array.getElem?_eq_none hge, undef] at hc
        rw [hsome]
        by_cases hbw : b = want
        · subst hbw
          left; exact ⟨by simp, by have := h.1 (by simp); rwa [upd_same hb] at this⟩
        · right
          have e : (!want) = b := by cases b <;> cases want <;> simp_all
          exact ⟨by simp [hbw], by have := h.2 (by simpa using hbw); rwa [e, upd_same hb] at this⟩
      · rename_i vs hb
        obtain ⟨vs', hc, _⟩ := hf.2.2 t _ hb
        right
        refine ⟨?_, h⟩
        cases hx : a.tmps[t]? with
        | none => simp
        | some y =>
          have : y = .tuple vs' := by
            have : a.tmps.getD t undef = y := by simp [Array.getD_eq_getD_getElem?, hx]
            rw [← this]; exact hc
          subst this
          simp
      · exact h.elim
    · rename_i ht
      rw [ht]
      right
      exact ⟨by simp, h⟩

theorem vops_wp {all : Array Oper} {N : Nat} {Q : Exit → Act → World → Prop} {W0 : World} {ρ0 : List (Option Row)} {kk : Fr → Mem → Prop} (hN : ∀ o ∈ all, ∀ d, o.dst = some d → d < N)
    (hQ : ∀ ρ σ m a w, Ext ρ0 ρ → Rel W0 ρ m w → FRel ρ N a σ → kk σ m → Q .normal a w) :
    ∀ (l : List Oper) (n : Nat) (σ : Fr) (m : Mem) (ρ : List (Option Row)) (a : Act) (w : World), (∀ j, l[j]? = all[n + j]?) → vops P all.toList l σ m kk → Ext ρ0 ρ → Rel W0 ρ m w → FRel ρ N a σ →
      wpOps P all Q (List.range' n l.length) a w
  | [], n, σ, m, ρ, a, w, _, h, hp, hr, hf => hQ ρ σ m a w hp hr hf h
  | o :: l, n, σ, m, ρ, a, w, hl, h, hp, hr, hf => by
    have h0 : all[n]? = some o := by simpa using (hl 0).symm
    have hmem : o ∈ all := Array.mem_of_getElem? h0
    have hl' : ∀ j, l[j]? = all[n + 1 + j]? := fun j => by have := hl (j + 1); simpa [Nat.add_assoc, Nat.add_comm 1 j] using this
    simp only [List.length_cons, List.range'_succ, wpOps, h0]
    simp only [vops] at h
    rcases vguard_elim h hf with ⟨hw, hrun⟩ | ⟨hw, hskip⟩
    · simp only [hw, if_true]
      left
      obtain ⟨v, m', hok, hk⟩ := vop_sound hrun
      exact hok W0 ρ w a hr (Ops.of_frel hf _) _ _ fun ρ' w' v' hp' hr' hv' => vops_wp hN hQ l (n + 1) _ _ ρ' _ _ hl' hk (hp.trans hp') hr' ((hf.mono hp').put (hN o hmem) hv')
    · simp only [hw, Bool.false_eq_true, if_false]
      exact vops_wp hN hQ l (n + 1) _ _ ρ _ _ hl' hskip hp hr (hf.put (hN o hmem) (conc3_undef ρ))

end Go.Abs
