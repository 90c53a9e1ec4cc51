/-
  Abs, part 11c: a region that draws its order, where each operation tells what it touches. Conditions: none; generic in the program.
-/
import Derived.Test.YtmbijgnmbapchaaGreatDoorAbsDet
set_option linter.unusedSimpArgs false
set_option linter.unusedVariables false
set_option linter.unusedSectionVars false
namespace Go.Abs
open Go.RowKit

variable {P : Program}

/-- What an operation touches: the objects that it looks at and the one that it turns; or what there was and what there is. -/
inductive Foot where
  | loc (ids : List Nat) (wr : Option Nat)
  | gen (m m' : Mem)

def apartL (i : Nat) : List Nat → Prop
  | [] => True
  | j :: js => i ≠ j ∧ apartL i js
def offs : Option Nat → List Nat → Prop
  | none, _ => True
  | some i, js => apartL i js
def keepsL (m m' : Mem) : List Nat → Prop
  | [] => True
  | j :: js => m'[j]? = m[j]? ∧ keepsL m m' js
/-- These two may stand in either order. -/
def apartF : Foot → Foot → Prop
  | .loc is w, .loc js v => offs w js ∧ offs v is
  | .loc is none, .gen m m' => keepsL m m' is
  | .gen m m', .loc js none => keepsL m m' js
  | _, _ => False

theorem apartL_mem {i : Nat} : ∀ {js : List Nat}, apartL i js → ∀ j ∈ js, i ≠ j
  | [], _, j, hj => by simp at hj
  | a :: js, h, j, hj => by
    rcases List.mem_cons.1 hj with rfl | hj
    · exact h.1
    · exact apartL_mem h.2 j hj
theorem keepsL_mem {m m' : Mem} : ∀ {js : List Nat}, keepsL m m' js → ∀ j ∈ js, m'[j]? = m[j]?
  | [], _, j, hj => by simp at hj
  | a :: js, h, j, hj => by
    rcases List.mem_cons.1 hj with rfl | hj
    · exact h.1
    · exact keepsL_mem h.2 j hj
theorem apartF_nil (f : Foot) : apartF f (.loc [] none) := by
  cases f with
  | loc is w => cases w <;> simp [apartF, offs, apartL]
  | gen m m' => simp [apartF, keepsL]

def app (wr : Option (Nat × AObj)) (m : Mem) : Mem := match wr with | none => m | some p => m.set p.1 p.2
/-- The operation does this wherever these objects are as they are. -/
def LocOK (P : Program) (o : Oper) (σ : Fr) (u : Value) (deps : List (Nat × AObj)) (wr : Option (Nat × AObj)) : Prop :=
  ∀ m : Mem, (∀ p ∈ deps, m[p.1]? = some p.2) → OpOK P o σ m u (app wr m)
def footOf (deps : List (Nat × AObj)) (wr : Option (Nat × AObj)) : Foot := .loc (deps.map (·.1)) (wr.map (·.1))
theorem LocOK.congr {o : Oper} {σ σ' : Fr} {u : Value} {deps : List (Nat × AObj)} {wr : Option (Nat × AObj)} (h : LocOK P o σ u deps wr) (he : ∀ x ∈ o.op.operands, ev σ' x = ev σ x) : LocOK P o σ' u deps wr :=
  fun m hm => (h m hm).congr he

/-- What the operation yields here. -/
def RunF (P : Program) (o : Oper) (σ : Fr) (m : Mem) (f : Foot) (v : Value) (m' : Mem) : Prop :=
  (∃ deps wr, LocOK P o σ v deps wr ∧ (∀ p ∈ deps, m[p.1]? = some p.2) ∧ (∀ p, wr = some p → ∃ ob, (p.1, ob) ∈ deps) ∧ f = footOf deps wr ∧ m' = app wr m) ∨
  (OpOK P o σ m v m' ∧ f = .gen m m')
theorem RunF.ok {o : Oper} {σ : Fr} {m : Mem} {f : Foot} {v : Value} {m' : Mem} (h : RunF P o σ m f v m') : OpOK P o σ m v m' := by
  rcases h with ⟨deps, wr, h1, h2, _, _, rfl⟩ | ⟨h, _⟩
  · exact h1 m h2
  · exact h
def YF (P : Program) (all : Array Oper) (o : Oper) (σ : Fr) (m : Mem) (f : Foot) (v : Value) (m' : Mem) : Prop :=
  (wantA all σ o = some true ∧ RunF P o σ m f v m') ∨ (wantA all σ o = some false ∧ v = undef ∧ m' = m ∧ f = .loc [] none)
def chkB (ms : List Nat) (B : List (Nat × Foot)) (i : Nat) (f : Foot) : Prop := ∀ e ∈ B, ordB ms e.1 i = false → ordB ms i e.1 = false → apartF e.2 f

def stpF (P : Program) (all : Array Oper) (B : List (Nat × Foot)) (i : Nat) (K : Fr → Mem → Prop) (σ : Fr) (m : Mem) : Prop :=
  match all[i]? with
  | none => K σ m
  | some o => ∃ f v m', YF P all o σ m f v m' ∧ chkB (masks all.toList) B i f ∧ K (updO σ o.dst v) m'

def anyF (P : Program) (all : Array Oper) (B : List (Nat × Foot)) (Q : Fr → Mem → Prop) : Nat → Array Bool → Fr → Mem → Prop
  | 0, listed, σ, m => Region.ready .any all listed = [] ∧ Q σ m
  | fuel + 1, listed, σ, m => (Region.ready .any all listed = [] → Q σ m) ∧ ∀ i ∈ Region.ready .any all listed, stpF P all B i (anyF P all B Q fuel (listed.setIfInBounds i true)) σ m

theorem wpAny_of_anyF {all : Array Oper} {B : List (Nat × Foot)} {N : Nat} {Q : Exit → Act → World → Prop} {W0 : World} {ρ0 : List (Option Row)} {kk : Fr → Mem → Prop} (hN : ∀ o ∈ all, ∀ d, o.dst = some d → d < N)
    (hQ : ∀ ρ σ m a w, Ext ρ0 ρ → Rel W0 ρ m w → FRel ρ N a σ → kk σ m → Q .normal a w) :
    ∀ (fuel : Nat) (listed : Array Bool) (σ : Fr) (m : Mem) (ρ : List (Option Row)) (a : Act) (w : World), anyF P all B kk fuel listed σ m → Ext ρ0 ρ → Rel W0 ρ m w → FRel ρ N a σ → wpAny P .any all Q fuel listed a w
  | 0, listed, σ, m, ρ, a, w, h, hp, hr, hf => ⟨h.1, hQ ρ σ m a w hp hr hf h.2⟩
  | fuel + 1, listed, σ, m, ρ, a, w, h, hp, hr, hf => by
    refine ⟨fun h0 => hQ ρ σ m a w hp hr hf (h.1 h0), fun i hi => ?_⟩
    have hs := h.2 i hi
    unfold stpF at hs
    unfold wpOp
    split
    · rename_i ho
      rw [ho] at hs
      exact wpAny_of_anyF hN hQ fuel _ σ m ρ a w hs hp hr hf
    · rename_i o ho
      rw [ho] at hs
      obtain ⟨f, v, m', hy, _, hk⟩ := hs
      have hmem : o ∈ all := Array.mem_of_getElem? ho
      rcases hy with ⟨hw, hy⟩ | ⟨hw, rfl, rfl, _⟩
      · rw [wanted_of_wantA hw hf, if_pos rfl]
        left
        exact hy.ok W0 ρ w a hr (Ops.of_frel hf _) _ _ fun ρ' w' v' hp' hr' hv' => wpAny_of_anyF hN hQ fuel _ _ m' ρ' _ w' hk (hp.trans hp') hr' ((hf.mono hp').put (hN o hmem) hv')
      · rw [wanted_of_wantA hw hf, if_neg (by simp)]
        exact wpAny_of_anyF hN hQ fuel _ _ _ ρ _ w hk hp hr (hf.put (hN o hmem) (conc3_undef ρ))

/-- The text's first may be taken first. -/
theorem firstF {all : Array Oper} {B : List (Nat × Foot)} {Q : Fr → Mem → Prop} {i : Nat} {oi : Oper} (hi : all[i]? = some oi) {fi : Foot} (hB : chkB (masks all.toList) B i fi) :
    ∀ (fuel : Nat) (listed : Array Bool) (σ : Fr) (m : Mem) (v : Value) (m' : Mem), closed all listed →
      (∀ j oj, all[j]? = some oj → j ≠ i → listed.getD j true = false → (∀ e ∈ oj.after, Region.binds .any e = true → e.on ≠ i) → oi.apart all oj = true) →
      i ∈ Region.ready .any all listed → YF P all oi σ m fi v m' →
      anyF P all ((i, fi) :: B) Q fuel (listed.setIfInBounds i true) (updO σ oi.dst v) m' → anyF P all B Q (fuel + 1) listed σ m := by
  have weakB : ∀ (fuel : Nat) (listed : Array Bool) (σ : Fr) (m : Mem), anyF P all ((i, fi) :: B) Q fuel listed σ m → anyF P all B Q fuel listed σ m := by
    intro fuel
    induction fuel with
    | zero => exact fun _ _ _ h => h
    | succ fuel ih =>
      intro listed σ m h
      refine ⟨h.1, fun j hj => ?_⟩
      have := h.2 j hj
      unfold stpF at this ⊢
      split
      · rename_i ho; rw [ho] at this; exact ih _ _ _ this
      · rename_i o ho
        rw [ho] at this
        obtain ⟨f, v, m', h1, h2, h3⟩ := this
        exact ⟨f, v, m', h1, fun e he => h2 e (List.mem_cons_of_mem _ he), ih _ _ _ h3⟩
  have same : ∀ (fuel : Nat) (listed : Array Bool) (σ : Fr) (m : Mem) (v : Value) (m' : Mem), YF P all oi σ m fi v m' → anyF P all ((i, fi) :: B) Q fuel (listed.setIfInBounds i true) (updO σ oi.dst v) m' →
      stpF P all B i (anyF P all B Q fuel (listed.setIfInBounds i true)) σ m := by
    intro fuel listed σ m v m' hy H
    unfold stpF
    rw [hi]
    exact ⟨fi, v, m', hy, hB, weakB _ _ _ _ H⟩
  intro fuel
  induction fuel with
  | zero =>
    intro listed σ m v m' _ _ hr hy H
    refine ⟨fun h => (by rw [h] at hr; cases hr), fun j hj => ?_⟩
    by_cases hji : j = i
    · subst hji; exact same _ _ _ _ _ _ hy H
    · have := ready_mono hj hji
      rw [H.1] at this
      cases this
  | succ fuel ih =>
    intro listed σ m v m' hcl hfree hr hy H
    refine ⟨fun h => (by rw [h] at hr; cases hr), fun j hj => ?_⟩
    by_cases hji : j = i
    · subst hji; exact same _ _ _ _ _ _ hy H
    · have h1 := H.2 j (ready_mono hj hji)
      obtain ⟨hjun, oj, hoj, hall⟩ := mem_ready.1 hj
      have hnot : ∀ e ∈ oj.after, Region.binds .any e = true → e.on ≠ i := fun e he hb heq => by
        have h1 := hall e he hb
        have h0 := (mem_ready.1 hr).1
        rw [heq] at h1
        rcases Nat.lt_or_ge i listed.size with h' | h'
        · simp [h'] at h0 h1; rw [h0] at h1; cases h1
        · simp [Array.getElem?_eq_none h'] at h1
      obtain ⟨ap1, ap2, ap3⟩ := Oper.apart_spec (hfree j oj hoj hji hjun hnot)
      have u1 := ready_unord hcl hr hj
      have u2 := ready_unord hcl hj hr
      have hfree' : ∀ k ok, all[k]? = some ok → k ≠ i → (listed.setIfInBounds j true).getD k true = false →
          (∀ e ∈ ok.after, Region.binds .any e = true → e.on ≠ i) → oi.apart all ok = true := fun k ok hk hki hun hno => by
        refine hfree k ok hk hki ?_ hno
        by_cases hjk : j = k
        · subst hjk; exact hjun
        · rw [getD_set_ne true hjk] at hun; exact hun
      have hready' := ready_mono hr (Ne.symm hji)
      have hcl' := closed_set hcl hj
      have comm : ∀ u, updO (updO σ oi.dst v) oj.dst u = updO (updO σ oj.dst u) oi.dst v := fun u => updO_comm ap2
      unfold stpF at h1 ⊢
      simp only [hoj] at h1 ⊢
      have ev1 := operands_of_looks (σ := σ) (v := v) ap1
      have ev3 : ∀ u, ∀ x ∈ oi.op.operands, ev (updO σ oj.dst u) x = ev σ x := fun u => operands_of_looks (σ := σ) (v := u) ap3
      have want3 : ∀ u, wantA all (updO σ oj.dst u) oi = wantA all σ oi := fun u => wantA_updO ap3
      obtain ⟨fj, u, m2, hyj, hBj, hK⟩ := h1
      have hap : apartF fi fj := hBj (i, fi) (by simp) u1 u2
      have hBj' : chkB (masks all.toList) B j fj := fun e he => hBj e (List.mem_cons_of_mem _ he)
      -- it is enough to tell what j yields first, and what i yields behind it
      have fin : ∀ m1, YF P all oj σ m fj u m1 → YF P all oi (updO σ oj.dst u) m1 fi v m2 → ∃ f v m', YF P all oj σ m f v m' ∧ chkB (masks all.toList) B j f ∧ anyF P all B Q (fuel + 1) (listed.setIfInBounds j true) (updO σ oj.dst v) m' := by
        intro m1 h1 h2
        refine ⟨fj, u, m1, h1, hBj', ih (listed.setIfInBounds j true) _ m1 v m2 hcl' hfree' hready' h2 ?_⟩
        rw [Array.setIfInBounds_comm _ _ hji, ← comm u]
        exact hK
      have wj : ∀ b, wantA all (updO σ oi.dst v) oj = some b → wantA all σ oj = some b := fun b h => by rw [wantA_updO ap1] at h; exact h
      have wi : ∀ b, wantA all σ oi = some b → wantA all (updO σ oj.dst u) oi = some b := fun b h => by rw [want3]; exact h
      have oj1 : ∀ {mm mm' : Mem}, OpOK P oj (updO σ oi.dst v) mm u mm' → OpOK P oj σ mm u mm' := fun h => h.congr (fun x hx => (ev1 x hx).symm)
      rcases hy with ⟨hwi, hyi⟩ | ⟨hwi, rfl, rfl, hfi⟩
      · rcases hyj with ⟨hwj, hyj⟩ | ⟨hwj, rfl, rfl, hfj⟩
        · rcases hyi with ⟨di, wri, li, gi, si, rfl, rfl⟩ | ⟨oki, rfl⟩
          · rcases hyj with ⟨dj, wrj, lj, gj, sj, rfl, rfl⟩ | ⟨okj, rfl⟩
            · obtain ⟨a1, a2⟩ := hap
              have off : ∀ {w : Option (Nat × AObj)} {d : List (Nat × AObj)} {m : Mem}, offs (w.map (·.1)) (d.map (·.1)) → ∀ p ∈ d, (app w m)[p.1]? = m[p.1]? := by
                intro w d m h p hp
                cases w with
                | none => rfl
                | some q =>
                  have := apartL_mem h p.1 (List.mem_map.2 ⟨p, hp, rfl⟩)
                  exact List.getElem?_set_ne this
              have hcomm : app wrj (app wri m) = app wri (app wrj m) := by
                cases wri with
                | none => rfl
                | some p =>
                  cases wrj with
                  | none => rfl
                  | some q =>
                    obtain ⟨ob, hob⟩ := sj q rfl
                    have := apartL_mem a1 q.1 (List.mem_map.2 ⟨_, hob, rfl⟩)
                    exact List.set_comm _ _ this
              rw [hcomm] at fin
              refine fin (app wrj m) (.inl ⟨wj _ hwj, .inl ⟨dj, wrj, lj.congr (fun x hx => (ev1 x hx).symm), fun p hp => ?_, sj, rfl, rfl⟩⟩) (.inl ⟨wi _ hwi, .inl ⟨di, wri, li.congr (ev3 u), fun p hp => ?_, si, rfl, rfl⟩⟩)
              · rw [← off (w := wri) a1 p hp]; exact gj p hp
              · rw [off (w := wrj) a2 p hp]; exact gi p hp
            · cases wri with
              | none =>
                have hk := keepsL_mem hap
                exact fin m2 (.inl ⟨wj _ hwj, .inr ⟨oj1 okj, rfl⟩⟩) (.inl ⟨wi _ hwi, .inl ⟨di, none, li.congr (ev3 u), fun p hp => by rw [hk p.1 (List.mem_map.2 ⟨p, hp, rfl⟩)]; exact gi p hp, si, rfl, rfl⟩⟩)
              | some p => exact hap.elim
          · rcases hyj with ⟨dj, wrj, lj, gj, sj, rfl, rfl⟩ | ⟨okj, rfl⟩
            · cases wrj with
              | none =>
                have hk := keepsL_mem hap
                exact fin m (.inl ⟨wj _ hwj, .inl ⟨dj, none, lj.congr (fun x hx => (ev1 x hx).symm), fun p hp => by rw [← hk p.1 (List.mem_map.2 ⟨p, hp, rfl⟩)]; exact gj p hp, sj, rfl, rfl⟩⟩) (.inl ⟨wi _ hwi, .inr ⟨oki.congr (ev3 u), rfl⟩⟩)
              | some p => exact hap.elim
            · exact hap.elim
        · have : YF P all oi (updO σ oj.dst undef) m fi v m2 := by
            rcases hyi with ⟨di, wri, li, gi, si, rfl, rfl⟩ | ⟨oki, rfl⟩
            · exact .inl ⟨wi _ hwi, .inl ⟨di, wri, li.congr (ev3 _), gi, si, rfl, rfl⟩⟩
            · exact .inl ⟨wi _ hwi, .inr ⟨oki.congr (ev3 _), rfl⟩⟩
          exact fin m (.inr ⟨wj _ hwj, rfl, rfl, hfj⟩) this
      · refine fin m2 ?_ (.inr ⟨wi _ hwi, rfl, rfl, hfi⟩)
        rcases hyj with ⟨hwj, hyj⟩ | ⟨hwj, rfl, rfl, hfj⟩
        · refine .inl ⟨wj _ hwj, ?_⟩
          rcases hyj with ⟨dj, wrj, lj, gj, sj, rfl, rfl⟩ | ⟨okj, rfl⟩
          · exact .inl ⟨dj, wrj, lj.congr (fun x hx => (ev1 x hx).symm), gj, sj, rfl, rfl⟩
          · exact .inr ⟨oj1 okj, rfl⟩
        · exact .inr ⟨wj _ hwj, rfl, rfl, hfj⟩

/-! ### The text's order -/
/-- Is it one that makes an object? -/
def isAlloc : Op → Bool
  | .alloc _ | .box .. | .makeSlice .. | .buildSlice .. => true
  | _ => false
def allocs (l : List Oper) : Nat := (l.filter fun o => isAlloc o.op).length

/-- Which earlier operations stand without order beside it, and may be in its way. -/
def clash (ms : List Nat) (all : List Oper) (j : Nat) : List Nat :=
  (List.range j).filter fun i => match all[i]?, all[j]? with
    | some oi, some oj => !ordB ms i j && (opClass oi.op != 0) && (opClass oj.op != 0) && (opClass oi.op == 2 || opClass oj.op == 2)
    | _, _ => false
def clashes (all : List Oper) : List (List Nat) := let ms := masks all; (List.range all.length).map (clash ms all)

/-- The blocks that a look looks at. -/
def lookIds (σ : Fr) (op : Op) : List Nat :=
  match op with
  | .load _ x => match ev σ x with | some (.pointer (some a)) => [a.block] | _ => []
  | .indexAddr _ x _ => match ev σ x with | some (.slice (some a) _ _) => [a.block] | _ => []
  | .slice _ x _ _ _ => match ev σ x with | some (.slice (some a) _ _) => [a.block] | _ => []
  | .convert _ _ x => match ev σ x with | some (.slice (some a) _ _) => [a.block] | _ => []
  | _ => []
def storeIds (σ : Fr) (op : Op) : List Nat :=
  match op with
  | .store _ x _ => match ev σ x with | some (.pointer (some a)) => [a.block] | _ => []
  | _ => []
/-- A new object's value, at its number. -/
def moveTo (s : Nat) : Value → Value
  | .pointer (some a) => .pointer (some ⟨s, a.off, none⟩)
  | .slice (some a) n c => .slice (some ⟨s, a.off, none⟩) n c
  | v => v
end Go.Abs
