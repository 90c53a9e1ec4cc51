/-
  Abs, part 11: a region that draws its order: whatever order is drawn, the text's order serves. Conditions: none; generic in the program.
-/
import Derived.Test.YtmbijgnmbapchaaGreatDoorAbsDraw
set_option linter.unusedSimpArgs false
set_option linter.unusedVariables false
set_option linter.unusedSectionVars false
namespace Go.Abs
open Go.RowKit

variable {P : Program}

/-! ### Which operations are behind which -/
def maskOf (o : Oper) (prev : List Nat) : Nat :=
  o.after.toList.foldl (fun s e => if Region.binds .any e then s ||| (2 ^ e.on ||| prev.getD e.on 0) else s) 0
def masks (all : List Oper) : List Nat := all.foldl (fun acc o => acc ++ [maskOf o acc]) []
def ordB (ms : List Nat) (i j : Nat) : Bool := (ms.getD j 0).testBit i

def closed (all : Array Oper) (listed : Array Bool) : Prop :=
  ∀ (j : Nat) oj, all[j]? = some oj → listed.getD j false = true → ∀ e ∈ oj.after, Region.binds .any e = true → listed.getD e.on false = true

theorem maskOf_spec {o : Oper} {prev : List Nat} {i : Nat} (h : (maskOf o prev).testBit i = true) : ∃ e ∈ o.after, Region.binds .any e = true ∧ (i = e.on ∨ (prev.getD e.on 0).testBit i = true) := by
  unfold maskOf at h
  have key : ∀ (l : List Edge) (s : Nat), (l.foldl (fun s e => if Region.binds .any e then s ||| (2 ^ e.on ||| prev.getD e.on 0) else s) s).testBit i = true →
      s.testBit i = true ∨ ∃ e ∈ l, Region.binds .any e = true ∧ (i = e.on ∨ (prev.getD e.on 0).testBit i = true) := by
    intro l
    induction l with
    | nil => intro s h; exact .inl h
    | cons e l ih =>
      intro s h
      simp only [List.foldl_cons] at h
      rcases ih _ h with h | ⟨e', he', h'⟩
      · split at h
        · rename_i hb
          rw [Nat.testBit_or, Nat.testBit_or] at h
          simp only [Bool.or_eq_true] at h
          rcases h with h | h | h
          · exact .inl h
          · rw [Nat.testBit_two_pow] at h
            exact .inr ⟨e, by simp, hb, .inl (by have := of_decide_eq_true h; omega)⟩
          · exact .inr ⟨e, by simp, hb, .inr h⟩
        · exact .inl h
      · exact .inr ⟨e', by simp [he'], h'⟩
  rcases key _ 0 h with h | ⟨e, he, h⟩
  · simp at h
  · exact ⟨e, by simpa using he, h⟩

theorem masks_append (l : List Oper) (o : Oper) : masks (l ++ [o]) = masks l ++ [maskOf o (masks l)] := by simp [masks]
theorem masks_length : ∀ (n : Nat) (l : List Oper), l.length = n → (masks l).length = n
  | 0, l, h => by have : l = [] := List.eq_nil_of_length_eq_zero h; subst this; rfl
  | n + 1, l, h => by
    obtain ⟨l', o, rfl⟩ : ∃ l' o, l = l' ++ [o] := ⟨l.dropLast, l.getLast (by intro e; subst e; simp at h), (List.dropLast_concat_getLast _).symm⟩
    rw [masks_append, List.length_append, masks_length n l' (by simpa using h)]
    rfl

theorem masks_get : ∀ (n : Nat) (l : List Oper), l.length = n → ∀ (j : Nat) oj, l[j]? = some oj → ∃ prev : List Nat, (masks l).getD j 0 = maskOf oj prev ∧ ∀ x, prev.getD x 0 = if x < j then (masks l).getD x 0 else 0
  | 0, l, h, j, oj, hj => by have : l = [] := List.eq_nil_of_length_eq_zero h; subst this; simp at hj
  | n + 1, l, h, j, oj, hj => by
    obtain ⟨l', o, rfl⟩ : ∃ l' o, l = l' ++ [o] := ⟨l.dropLast, l.getLast (by intro e; subst e; simp at h), (List.dropLast_concat_getLast _).symm⟩
    have hl' : l'.length = n := by simpa using h
    have hml := masks_length n l' hl'
    rw [masks_append]
    by_cases hjn : j < n
    · rw [List.getElem?_append_left (by omega)] at hj
      obtain ⟨prev, h1, h2⟩ := masks_get n l' hl' j oj hj
      refine ⟨prev, ?_, fun x => ?_⟩
      · simp only [List.getD_eq_getElem?_getD] at h1 ⊢; rw [List.getElem?_append_left (by omega)]; exact h1
      · rw [h2 x]
        split
        · simp only [List.getD_eq_getElem?_getD]; rw [List.getElem?_append_left (by omega)]
        · rfl
    · have hj' : j = n := by
        have := (List.getElem?_eq_some_iff.1 hj).1
        simp at this; omega
      subst hj'
      rw [List.getElem?_append_right (by omega)] at hj
      simp [hl'] at hj
      subst hj
      refine ⟨masks l', ?_, fun x => ?_⟩
      · simp only [List.getD_eq_getElem?_getD]; rw [List.getElem?_append_right (by omega)]; simp [hml]
      · split
        · simp only [List.getD_eq_getElem?_getD]; rw [List.getElem?_append_left (by omega)]
        · simp only [List.getD_eq_getElem?_getD]; rw [List.getElem?_eq_none (by omega)]; rfl

theorem listed_of_ord {all : Array Oper} {listed : Array Bool} (hcl : closed all listed) : ∀ (j : Nat) oj, all[j]? = some oj → (∀ e ∈ oj.after, Region.binds .any e = true → listed.getD e.on false = true) → ∀ i, ordB (masks all.toList) i j = true → listed.getD i false = true := by
  intro j
  induction j using Nat.strongRecOn with
  | _ j ih =>
    intro oj hj hall i hi
    unfold ordB at hi
    obtain ⟨prev, h1, h2⟩ := masks_get _ all.toList rfl j oj (by simpa using hj)
    rw [h1] at hi
    obtain ⟨e, he, hb, hi⟩ := maskOf_spec hi
    rcases hi with rfl | hi
    · exact hall e he hb
    · rw [h2] at hi
      split at hi
      · rename_i hlt
        have hle := hall e he hb
        have hlt' : e.on < all.size := Nat.lt_trans hlt (Array.getElem?_eq_some_iff.1 hj).1
        exact ih e.on hlt all[e.on] (by simp [hlt']) (hcl e.on _ (by simp [hlt']) hle) i hi
      · simp at hi

/-- What the region must be: anchors all in one order. -/
def anchorsOrd (all : List Oper) (ms : List Nat) : Bool :=
  (List.range all.length).all fun j => (List.range all.length).all fun i =>
    i == j || (match all[i]?, all[j]? with
      | some oi, some oj => !(opClass oi.op == 2 && opClass oj.op == 2) || ordB ms i j || ordB ms j i
      | _, _ => true)
/-- Such an operation must not turn what is there: one that looks may come before or behind it. -/
def extB (all : List Oper) (ms : List Nat) (i : Nat) : Bool :=
  (List.range all.length).any fun j => j != i && (match all[j]? with
    | some oj => opClass oj.op == 1 && !ordB ms i j && !ordB ms j i
    | none => false)
def drawOK (all : List Oper) : Bool := Region.lexB .any all.toArray && anchorsOrd all (masks all)

theorem ready_unord {all : Array Oper} {listed : Array Bool} (hcl : closed all listed) {i j : Nat} (hi : i ∈ Region.ready .any all listed) (hj : j ∈ Region.ready .any all listed) : ordB (masks all.toList) i j = false := by
  obtain ⟨hiu, _⟩ := mem_ready.1 hi
  obtain ⟨_, oj, hoj, hall⟩ := mem_ready.1 hj
  cases h : ordB (masks all.toList) i j with
  | false => rfl
  | true =>
    have h1 := listed_of_ord hcl j oj hoj hall i h
    rcases Nat.lt_or_ge i listed.size with h' | h'
    · simp [h'] at hiu h1; rw [hiu] at h1; cases h1
    · simp [Array.getElem?_eq_none h'] at h1

theorem closed_set {all : Array Oper} {listed : Array Bool} (hcl : closed all listed) {i : Nat} (hi : i ∈ Region.ready .any all listed) : closed all (listed.setIfInBounds i true) := by
  intro j oj hj hl e he hb
  by_cases hij : i = j
  · subst hij
    obtain ⟨_, o, ho, hall⟩ := mem_ready.1 hi
    rw [hj] at ho; injection ho with ho; subst ho
    exact getD_set_true (hall e he hb)
  · rw [getD_set_ne false hij] at hl
    exact getD_set_true (hcl j oj hj hl e he hb)

/-! ### Any order, abstractly -/
def wantA (all : Array Oper) (σ : Fr) (o : Oper) : Option Bool :=
  match o.guard with
  | none => some true
  | some (j, want) => match (all[j]?).bind (·.dst) with
    | some t => match σ t with
      | some (.bool b) => some (b == want)
      | some (.tuple _) => some false
      | _ => none
    | none => some false

theorem wantA_of_guard {all : Array Oper} {σ : Fr} {o : Oper} {run skip : Fr → Prop} (h : vguard all.toList σ o run skip) : (wantA all σ o = some true ∧ run σ) ∨ (wantA all σ o = some false ∧ skip σ) := by
  unfold vguard at h
  unfold wantA
  split at h
  · rename_i hg; rw [hg]; exact .inl ⟨rfl, h⟩
  · rename_i j want hg
    rw [hg]
    simp only [Array.getElem?_toList] at h ⊢
    split at h
    · rename_i t ht
      rw [ht]
      simp only
      split at h
      · rename_i b hb
        rw [hb]
        by_cases hbw : b = want
        · subst hbw
          exact .inl ⟨by simp, by have := h.1 (by simp); rwa [upd_same hb] at this⟩
        · have e : (!want) = b := by cases b <;> cases want <;> simp_all
          exact .inr ⟨by simp [hbw], by have := h.2 (by simpa using hbw); rwa [e, upd_same hb] at this⟩
      · rename_i vs hb
        rw [hb]
        exact .inr ⟨rfl, h⟩
      · exact h.elim
    · rename_i ht
      rw [ht]
      exact .inr ⟨rfl, h⟩

theorem wanted_of_wantA {all : Array Oper} {σ : Fr} {o : Oper} {b : Bool} (h : wantA all σ o = some b) {ρ : List (Option Row)} {N : Nat} {a : Act} (hf : FRel ρ N a σ) : Region.wanted o (yielded all a.tmps) = b := by
  have := vguard_elim (all := all) (σ := σ) (o := o) (run := fun _ => b = true) (skip := fun _ => b = false) (by
    unfold wantA at h
    unfold vguard
    split
    · rename_i hg; rw [hg] at h; injection h with h; exact h.symm
    · rename_i j want hg
      rw [hg] at h
      simp only [Array.getElem?_toList] at h ⊢
      split
      · rename_i t ht
        rw [ht] at h
        simp only at h
        split
        · rename_i bb hb
          rw [hb] at h
          injection h with h
          subst h
          exact ⟨fun e => e, fun e => e⟩
        · rename_i vs hb
          rw [hb] at h
          injection h with h
          exact h.symm
        · rename_i h1 h2
          split at h
          · rename_i bb hb; exact absurd hb (h1 bb)
          · rename_i vs hb; exact absurd hb (h2 vs)
          · cases h
      · rename_i ht
        rw [ht] at h
        injection h with h
        exact h.symm) hf
  rcases this with ⟨h1, h2⟩ | ⟨h1, h2⟩ <;> rw [h1, h2]

def stp (P : Program) (all : Array Oper) (ext : Nat → Bool) (i : Nat) (K : Fr → Mem → Prop) (σ : Fr) (m : Mem) : Prop :=
  match all[i]? with
  | none => K σ m
  | some o => match wantA all σ o with
    | some true =>
      (opClass o.op = 2 ∧ ∃ v m', OpOK P o σ m v m' ∧ (ext i = true → m <+: m') ∧ K (updO σ o.dst v) m') ∨
      (opClass o.op ≠ 2 ∧ ∃ u dep, FloatS P o σ u dep ∧ (∀ id ob, dep = some (id, ob) → m[id]? = some ob ∨ m[id]? = none) ∧ (opClass o.op = 0 → dep = none) ∧ K (updO σ o.dst u) m)
    | some false => K (updO σ o.dst undef) m
    | none => False

theorem stp_mono {all : Array Oper} {ext : Nat → Bool} {i : Nat} {K K' : Fr → Mem → Prop} (hK : ∀ σ m, K σ m → K' σ m) {σ : Fr} {m : Mem} (h : stp P all ext i K σ m) : stp P all ext i K' σ m := by
  unfold stp at *
  split
  · rename_i ho; rw [ho] at h; exact hK _ _ h
  · rename_i o ho
    rw [ho] at h
    simp only at h
    split
    · rename_i hw
      rw [hw] at h
      rcases h with ⟨h0, v, m', h1, h2, h3⟩ | ⟨h0, u, dep, h1, h2, h3, h4⟩
      · exact .inl ⟨h0, v, m', h1, h2, hK _ _ h3⟩
      · exact .inr ⟨h0, u, dep, h1, h2, h3, hK _ _ h4⟩
    · rename_i hw; rw [hw] at h; exact hK _ _ h
    · rename_i hw; rw [hw] at h; exact h

def anyA (P : Program) (all : Array Oper) (ext : Nat → Bool) (Q : Fr → Mem → Prop) : Nat → Array Bool → Fr → Mem → Prop
  | 0, listed, σ, m => Region.ready .any all listed = [] ∧ Q σ m
  | fuel + 1, listed, σ, m => (Region.ready .any all listed = [] → Q σ m) ∧ ∀ i ∈ Region.ready .any all listed, stp P all ext i (anyA P all ext Q fuel (listed.setIfInBounds i true)) σ m

/-- It is the model's own 'any order'. -/
theorem wpAny_of_anyA {all : Array Oper} {ext : Nat → Bool} {N : Nat} {Q : Exit → Act → World → Prop} {W0 : World} {ρ0 : List (Option Row)} {kk : Fr → Mem → Prop} (hN : ∀ o ∈ all, ∀ d, o.dst = some d → d < N)
    (hQ : ∀ ρ σ m a w, Ext ρ0 ρ → Rel W0 ρ m w → FRel ρ N a σ → kk σ m → Q .normal a w) :
    ∀ (fuel : Nat) (listed : Array Bool) (σ : Fr) (m : Mem) (ρ : List (Option Row)) (a : Act) (w : World), anyA P all ext kk fuel listed σ m → Ext ρ0 ρ → Rel W0 ρ m w → FRel ρ N a σ → wpAny P .any all Q fuel listed a w
  | 0, listed, σ, m, ρ, a, w, h, hp, hr, hf => ⟨h.1, hQ ρ σ m a w hp hr hf h.2⟩
  | fuel + 1, listed, σ, m, ρ, a, w, h, hp, hr, hf => by
    refine ⟨fun h0 => hQ ρ σ m a w hp hr hf (h.1 h0), fun i hi => ?_⟩
    have hs := h.2 i hi
    unfold stp at hs
    unfold wpOp
    split
    · rename_i ho
      rw [ho] at hs
      exact wpAny_of_anyA hN hQ fuel _ σ m ρ a w hs hp hr hf
    · rename_i o ho
      rw [ho] at hs
      simp only at hs
      have hmem : o ∈ all := Array.mem_of_getElem? ho
      split at hs
      · rename_i hw
        rw [wanted_of_wantA hw hf, if_pos rfl]
        left
        rcases hs with ⟨_, v, m', hok, _, hk⟩ | ⟨_, u, dep, hfl, hdep, _, hk⟩
        · exact hok W0 ρ w a hr (Ops.of_frel hf _) _ _ fun ρ' w' v' hp' hr' hv' => wpAny_of_anyA hN hQ fuel _ _ m' ρ' _ w' hk (hp.trans hp') hr' ((hf.mono hp').put (hN o hmem) hv')
        · exact hfl m hdep W0 ρ w a hr (Ops.of_frel hf _) _ _ fun ρ' w' v' hp' hr' hv' => wpAny_of_anyA hN hQ fuel _ _ m ρ' _ w' hk (hp.trans hp') hr' ((hf.mono hp').put (hN o hmem) hv')
      · rename_i hw
        rw [wanted_of_wantA hw hf, if_neg (by simp)]
        exact wpAny_of_anyA hN hQ fuel _ _ m ρ _ w hs hp hr (hf.put (hN o hmem) (conc3_undef ρ))
      · exact hs.elim

/-! ### The first may be taken first -/
theorem ev_updO {σ : Fr} {d : Option Nat} {v : Value} {x : Operand} (h : ∀ t, d = some t → x ≠ .tmp t) : ev (updO σ d v) x = ev σ x := by
  cases d with
  | none => rfl
  | some t =>
    cases x with
    | tmp i =>
      have : i ≠ t := fun e => h t rfl (e ▸ rfl)
      simp [ev, updO, upd, this]
    | _ => rfl

theorem OpOK.congr {o : Oper} {σ σ' : Fr} {m m' : Mem} {v : Value} (h : OpOK P o σ m v m') (he : ∀ x ∈ o.op.operands, ev σ' x = ev σ x) : OpOK P o σ' m v m' :=
  fun W0 ρ w a hr ho K Q hK => h W0 ρ w a hr (fun x hx u hu => ho x hx u (by rw [he x (by simpa using hx)]; exact hu)) K Q hK

theorem operands_of_looks {all : Array Oper} {o : Oper} {d : Option Nat} (h : ∀ t, d = some t → t ∉ o.looksAt all) {σ : Fr} {v : Value} : ∀ x ∈ o.op.operands, ev (updO σ d v) x = ev σ x := by
  intro x hx
  refine ev_updO fun t ht hxt => h t ht ?_
  subst hxt
  exact List.mem_append_left _ (List.mem_filterMap.2 ⟨.tmp t, by simpa using hx, rfl⟩)

theorem wantA_updO {all : Array Oper} {o : Oper} {d : Option Nat} (h : ∀ t, d = some t → t ∉ o.looksAt all) {σ : Fr} {v : Value} : wantA all (updO σ d v) o = wantA all σ o := by
  cases d with
  | none => rfl
  | some t =>
    unfold wantA
    cases hg : o.guard with
    | none => rfl
    | some gw =>
      obtain ⟨g, want⟩ := gw
      simp only
      cases ht : (all[g]?).bind (·.dst) with
      | none => rfl
      | some t' =>
        have hne : t' ≠ t := fun e => h t rfl (by subst e; simp [Oper.looksAt, hg, ht])
        simp [updO, upd, hne]

theorem updO_comm {σ : Fr} {d e : Option Nat} {u v : Value} (h : ∀ t, d = some t → e ≠ some t) : updO (updO σ d v) e u = updO (updO σ e u) d v := by
  cases d with
  | none => rfl
  | some t =>
    cases e with
    | none => rfl
    | some s =>
      have hne : t ≠ s := fun he => h t rfl (by rw [he])
      funext i
      simp only [updO, upd]
      by_cases h1 : i = s
      · by_cases h2 : i = t
        · omega
        · simp [h1, Ne.symm hne]
      · simp [h1]

def Yields1 (P : Program) (all : Array Oper) (ext : Nat → Bool) (i : Nat) (o : Oper) (σ : Fr) (m : Mem) (v : Value) (m' : Mem) : Prop :=
  (wantA all σ o = some true ∧ opClass o.op = 2 ∧ OpOK P o σ m v m' ∧ (ext i = true → m <+: m')) ∨
  (wantA all σ o = some true ∧ opClass o.op ≠ 2 ∧ m' = m ∧ ∃ dep, FloatS P o σ v dep ∧ (∀ id ob, dep = some (id, ob) → m[id]? = some ob) ∧ (opClass o.op = 0 → dep = none)) ∨
  (wantA all σ o = some false ∧ v = undef ∧ m' = m)

theorem Yields1.stp {all : Array Oper} {ext : Nat → Bool} {i : Nat} {o : Oper} {σ : Fr} {m : Mem} {v : Value} {m' : Mem} (hi : all[i]? = some o) (hy : Yields1 P all ext i o σ m v m') {K : Fr → Mem → Prop} (h : K (updO σ o.dst v) m') : stp P all ext i K σ m := by
  unfold Abs.stp
  simp only [hi]
  rcases hy with ⟨hw, hc, h1, h2⟩ | ⟨hw, hc, rfl, dep, h1, h2, h3⟩ | ⟨hw, rfl, rfl⟩ <;> rw [hw]
  · exact .inl ⟨hc, v, m', h1, h2, h⟩
  · exact .inr ⟨hc, v, dep, h1, fun id ob e => .inl (h2 id ob e), h3, h⟩
  · exact h

theorem prefix_get {m m' : Mem} (h : m <+: m') {id : Nat} {ob : AObj} (hm : m[id]? = some ob) : m'[id]? = some ob := by
  obtain ⟨t, rfl⟩ := h
  rw [List.getElem?_append_left (List.getElem?_eq_some_iff.1 hm).1]; exact hm
theorem prefix_back {m m' : Mem} (h : m <+: m') {id : Nat} {ob : AObj} (hm : m'[id]? = some ob ∨ m'[id]? = none) : m[id]? = some ob ∨ m[id]? = none := by
  cases hi : m[id]? with
  | none => exact .inr rfl
  | some o =>
    have := prefix_get h hi
    rcases hm with hm | hm
    · rw [this] at hm; injection hm with hm; subst hm; exact .inl rfl
    · rw [this] at hm; cases hm

theorem first {all : Array Oper} {Q : Fr → Mem → Prop} {i : Nat} {oi : Oper} (hi : all[i]? = some oi) (hord : anchorsOrd all.toList (masks all.toList) = true) :
    ∀ (fuel : Nat) (listed : Array Bool) (σ : Fr) (m : Mem) (v : Value) (m' : Mem), closed all listed →
      (∀ j oj, all[j]? = some oj → j ≠ i → listed.getD j true = false → (∀ e ∈ oj.after, Region.binds .any e = true → e.on ≠ i) → oi.apart all oj = true) →
      i ∈ Region.ready .any all listed → Yields1 P all (extB all.toList (masks all.toList)) i oi σ m v m' →
      anyA P all (extB all.toList (masks all.toList)) Q fuel (listed.setIfInBounds i true) (updO σ oi.dst v) m' → anyA P all (extB all.toList (masks all.toList)) Q (fuel + 1) listed σ m := by
  intro fuel
  induction fuel with
  | zero =>
    intro listed σ m v m' _ _ hr hy H
    refine ⟨fun h => (by rw [h] at hr; cases hr), fun j hj => ?_⟩
    by_cases hji : j = i
    · subst hji; exact hy.stp hi H
    · have := ready_mono hj hji
      rw [H.1] at this
      cases this
  | succ fuel ih =>
    intro listed σ m v m' hcl hfree hr hy H
    refine ⟨fun h => (by rw [h] at hr; cases hr), fun j hj => ?_⟩
    by_cases hji : j = i
    · subst hji; exact hy.stp hi H
    · have h1 := H.2 j (ready_mono hj hji)
      obtain ⟨hjun, oj, hoj, hall⟩ := mem_ready.1 hj
      have hnot : ∀ e ∈ oj.after, Region.binds .any e = true → e.on ≠ i := fun e he hb heq => by
        have h1 := hall e he hb
        have h0 := (mem_ready.1 hr).1
        rw [heq] at h1
        rcases Nat.lt_or_ge i listed.size with h' | h'
        · simp [h'] at h0 h1; rw [h0] at h1; cases h1
        · simp [Array.getElem?_eq_none h'] at h1
      obtain ⟨ap1, ap2, ap3⟩ := Oper.apart_spec (hfree j oj hoj hji hjun hnot)
      have u1 := ready_unord hcl hr hj
      have u2 := ready_unord hcl hj hr
      have hlti : i < all.toList.length := by simpa using (Array.getElem?_eq_some_iff.1 hi).1
      have hltj : j < all.toList.length := by simpa using (Array.getElem?_eq_some_iff.1 hoj).1
      have noAnch : ¬ (opClass oi.op = 2 ∧ opClass oj.op = 2) := by
        intro ⟨c1, c2⟩
        have := List.all_eq_true.1 (List.all_eq_true.1 hord j (List.mem_range.2 hltj)) i (List.mem_range.2 hlti)
        have e1 : all.toList[i]? = some oi := by simpa using hi
        have e2 : all.toList[j]? = some oj := by simpa using hoj
        simp only [e1, e2, c1, c2, u1, u2, beq_self_eq_true, Bool.and_self, Bool.not_true, Bool.or_false, beq_iff_eq] at this
        exact hji this.symm
      have extOf : ∀ (a b : Nat) (ob : Oper), all[b]? = some ob → b ≠ a → opClass ob.op = 1 → ordB (masks all.toList) a b = false → ordB (masks all.toList) b a = false → extB all.toList (masks all.toList) a = true := by
        intro a b ob hb hba hc h1 h2
        unfold extB
        refine List.any_eq_true.2 ⟨b, List.mem_range.2 (by simpa using (Array.getElem?_eq_some_iff.1 hb).1), ?_⟩
        have e2 : all.toList[b]? = some ob := by simpa using hb
        simp [e2, hc, h1, h2, hba]
      have hfree' : ∀ k ok, all[k]? = some ok → k ≠ i → (listed.setIfInBounds j true).getD k true = false →
          (∀ e ∈ ok.after, Region.binds .any e = true → e.on ≠ i) → oi.apart all ok = true := fun k ok hk hki hun hno => by
        refine hfree k ok hk hki ?_ hno
        by_cases hjk : j = k
        · subst hjk; exact hjun
        · rw [getD_set_ne true hjk] at hun; exact hun
      have hready' := ready_mono hr (Ne.symm hji)
      have hcl' := closed_set hcl hj
      have comm : ∀ u, updO (updO σ oi.dst v) oj.dst u = updO (updO σ oj.dst u) oi.dst v := fun u => updO_comm ap2
      unfold stp at h1 ⊢
      simp only [hoj] at h1 ⊢
      rw [wantA_updO ap1] at h1
      have ev1 := operands_of_looks (σ := σ) (v := v) ap1
      have ev3 : ∀ u, ∀ x ∈ oi.op.operands, ev (updO σ oj.dst u) x = ev σ x := fun u => operands_of_looks (σ := σ) (v := u) ap3
      have want3 : ∀ u, wantA all (updO σ oj.dst u) oi = wantA all σ oi := fun u => wantA_updO ap3
      -- what i yields behind j
      have keep : ∀ u, Yields1 P all (extB all.toList (masks all.toList)) i oi (updO σ oj.dst u) m v m' := by
        intro u
        rcases hy with ⟨hw, hc, h2, h3⟩ | ⟨hw, hc, h2, dep, h3, h4⟩ | ⟨hw, h2, h3⟩
        · exact .inl ⟨by rw [want3]; exact hw, hc, h2.congr (ev3 u), h3⟩
        · exact .inr (.inl ⟨by rw [want3]; exact hw, hc, h2, dep, fun m1 hm1 => (h3 m1 hm1).congr (ev3 u), h4⟩)
        · exact .inr (.inr ⟨by rw [want3]; exact hw, h2, h3⟩)
      split at h1
      · rename_i hw
        rcases h1 with ⟨hc2, u, m2, hok, hext, hK⟩ | ⟨hc2, u, dep, hfl, hdep, hd0, hK⟩
        · -- j is an anchor: i is none
          have hci : opClass oi.op ≠ 2 := fun e => noAnch ⟨e, hc2⟩
          have hmm : m' = m := by
            rcases hy with ⟨_, hc, _⟩ | ⟨_, _, h2, _⟩ | ⟨_, _, h2⟩
            · exact absurd hc hci
            · exact h2
            · exact h2
          subst hmm
          refine .inl ⟨hc2, u, m2, hok.congr (fun x hx => (ev1 x hx).symm), hext, ih (listed.setIfInBounds j true) _ m2 v m2 hcl' hfree' hready' ?_ ?_⟩
          · rcases hy with ⟨_, hc, _⟩ | ⟨hw', hc, _, dep, h3, h4, h5⟩ | ⟨hw', h2, _⟩
            · exact absurd hc hci
            · refine .inr (.inl ⟨by rw [want3]; exact hw', hc, rfl, dep, fun m1 hm1 => (h3 m1 hm1).congr (ev3 u), fun id ob e => ?_, h5⟩)
              by_cases hc0 : opClass oi.op = 0
              · rw [h5 hc0] at e; cases e
              · have hc1 : opClass oi.op = 1 := by
                  have : opClass oi.op ≤ 2 := by unfold opClass; split <;> first | decide | (split <;> decide)
                  omega
                exact prefix_get (hext (extOf j i oi hi (Ne.symm hji) hc1 u2 u1)) (h4 id ob e)
            · exact .inr (.inr ⟨by rw [want3]; exact hw', h2, rfl⟩)
          · rw [Array.setIfInBounds_comm _ _ hji, ← comm u]
            exact hK
        · -- j floats
          refine .inr ⟨hc2, u, dep, fun m1 hm1 => (hfl m1 hm1).congr (fun x hx => (ev1 x hx).symm), fun id ob e => ?_, hd0, ih (listed.setIfInBounds j true) _ m v m' hcl' hfree' hready' (keep u) ?_⟩
          · by_cases hc0 : opClass oj.op = 0
            · rw [hd0 hc0] at e; cases e
            · have hc1 : opClass oj.op = 1 := by
                have : opClass oj.op ≤ 2 := by unfold opClass; split <;> first | decide | (split <;> decide)
                omega
              rcases hy with ⟨_, hc, _, h3⟩ | ⟨_, _, h2, _⟩ | ⟨_, _, h2⟩
              · exact prefix_back (h3 (extOf i j oj hoj hji hc1 u1 u2)) (hdep id ob e)
              · rw [← h2]; exact hdep id ob e
              · rw [← h2]; exact hdep id ob e
          · rw [Array.setIfInBounds_comm _ _ hji, ← comm u]
            exact hK
      · rename_i hw
        refine ih (listed.setIfInBounds j true) _ m v m' hcl' hfree' hready' (keep undef) ?_
        rw [Array.setIfInBounds_comm _ _ hji, ← comm undef]
        exact h1
      · exact h1.elim

/-! ### The text's order -/
/-- The walk of the text's order: as 'vops', and an operation that another may look around must leave what is there. -/
def vopsD (P : Program) (all : List Oper) (ext : Nat → Bool) : Nat → List Oper → Fr → Mem → (Fr → Mem → Prop) → Prop
  | _, [], σ, m, k => k σ m
  | n, o :: rest, σ, m, k => vguard all σ o (fun σ => vop P σ m (fun v m' => (m <+: m' ∨ ext n = false) ∧ vopsD P all ext (n + 1) rest (updO σ o.dst v) m' k) o) (fun σ => vopsD P all ext (n + 1) rest (updO σ o.dst undef) m k)

theorem anyA_lex {all : Array Oper} {Q : Fr → Mem → Prop} (hord : anchorsOrd all.toList (masks all.toList) = true) : ∀ (l : List Oper) (k : Nat) (listed : Array Bool) (σ : Fr) (m : Mem), (∀ j, l[j]? = all[k + j]?) → closed all listed →
    Region.lexFrom .any all l.length k listed = true → vopsD P all.toList (extB all.toList (masks all.toList)) k l σ m Q → anyA P all (extB all.toList (masks all.toList)) Q l.length listed σ m
  | [], k, listed, σ, m, _, _, hB, h => ⟨by simpa [Region.lexFrom] using hB, h⟩
  | o :: l, k, listed, σ, m, hl, hcl, hB, h => by
    have h0 : all[k]? = some o := by simpa using (hl 0).symm
    simp only [List.length_cons, Region.lexFrom, Bool.and_eq_true] at hB
    obtain ⟨⟨hr, hf⟩, hB'⟩ := hB
    have hr' : k ∈ Region.ready .any all listed := by simpa using hr
    have hl' : ∀ j, l[j]? = all[k + 1 + j]? := fun j => by have := hl (j + 1); simpa [Nat.add_assoc, Nat.add_comm 1 j] using this
    have fin : ∀ v m', Yields1 P all (extB all.toList (masks all.toList)) k o σ m v m' → vopsD P all.toList (extB all.toList (masks all.toList)) (k + 1) l (updO σ o.dst v) m' Q → anyA P all (extB all.toList (masks all.toList)) Q (l.length + 1) listed σ m := by
      intro v m' hy hK
      exact first h0 hord l.length listed σ m v m' hcl (Region.free_spec h0 hf) hr' hy (anyA_lex hord l (k + 1) _ _ _ hl' (closed_set hcl hr') hB' hK)
    simp only [vopsD] at h
    rcases wantA_of_guard h with ⟨hw, hrun⟩ | ⟨hw, hskip⟩
    · by_cases hc2 : opClass o.op = 2
      · obtain ⟨v, m', hok, hext, hk⟩ := vop_sound hrun
        exact fin v m' (.inl ⟨hw, hc2, hok, fun he => hext.resolve_right (by rw [he]; simp)⟩) hk
      · by_cases hc0 : opClass o.op = 0
        · obtain ⟨u, ⟨_, hk⟩, hfl⟩ := float_pure hc0 hrun
          exact fin u m (.inr (.inl ⟨hw, hc2, rfl, none, hfl, (fun _ _ e => by cases e), fun _ => rfl⟩)) hk
        · have hc1 : opClass o.op = 1 := by
            have : opClass o.op ≤ 2 := by unfold opClass; split <;> first | decide | (split <;> decide)
            omega
          obtain ⟨u, dep, ⟨_, hk⟩, hfl, hdep⟩ := float_look hc1 hrun
          exact fin u m (.inr (.inl ⟨hw, hc2, rfl, dep, hfl, hdep, fun h => absurd h hc0⟩)) hk
    · exact fin undef m (.inr (.inr ⟨hw, rfl, rfl⟩)) hskip

/-- **A region that draws its order.** -/
theorem draw_wp {id : Nat} {l : List Oper} {N : Nat} {Q : Exit → Act → World → Prop} {W0 : World} {ρ0 ρ : List (Option Row)} {kk : Fr → Mem → Prop} {σ : Fr} {m : Mem} {a : Act} {w : World}
    (hm : P.follows .mixedOrders = true) (hB : drawOK l = true) (hN : ∀ o ∈ l.toArray, ∀ d, o.dst = some d → d < N)
    (hQ : ∀ ρ σ m a w, Ext ρ0 ρ → Rel W0 ρ m w → FRel ρ N a σ → kk σ m → Q .normal a w)
    (h : vopsD P l (extB l (masks l)) 0 l σ m kk) (hp : Ext ρ0 ρ) (hr : Rel W0 ρ m w) (hf : FRel ρ N a σ) : (Code.region id l.toArray true).wp P Q a w := by
  simp only [drawOK, Region.lexB, Bool.and_eq_true] at hB
  refine wp_region_any hm ?_
  have hcl : closed l.toArray (Array.replicate l.toArray.size false) := by
    intro j oj _ hlj
    exfalso
    rcases Nat.lt_or_ge j l.length with h' | h' <;> simp [h'] at hlj
  have := anyA_lex (P := P) (all := l.toArray) (Q := kk) hB.2 l 0 (Array.replicate l.toArray.size false) σ m (by simp) hcl (by simpa using hB.1.2) (by simpa using h)
  have h2 := wpAny_of_anyA (N := N) (Q := Q) (W0 := W0) (ρ0 := ρ0) hN hQ _ _ σ m ρ a { w with drawn := w.drawn + 1 } this hp hr.drew' hf
  simpa using h2

end Go.Abs
