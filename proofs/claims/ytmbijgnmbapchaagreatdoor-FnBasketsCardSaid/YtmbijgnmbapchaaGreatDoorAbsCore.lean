/-
  Abs, part 1: abstract memory, abstract values and their relation to the model's world. Conditions: none; generic in the program.
-/
import Derived.Orders
import Derived.Below
import Derived.Laws.Entries
import Derived.Lib.ItoaNum
set_option linter.unusedSimpArgs false
set_option linter.unusedVariables false
set_option linter.unusedSectionVars false
namespace Go.Abs
open Go.RowKit (Below)

/-- Where an abstract object lies: block, first cell, cells of an element, elements. -/
structure Row where
  blk : Nat
  base : Nat
  sz : Nat
  cap : Nat

/-- What an object is: read only (it was there before the call), its block known whole, a row that append has made, dead, not there yet. -/
structure AObj where
  cells : List Value
  elem : TypeId
  sz : Nat
  kind : Nat      -- 0 read only, 1 exact, 2 grown, 3 dead, 4 not there yet

def AObj.live (o : AObj) : Prop := o.kind = 1 ∨ o.kind = 2

def All2 (R : Value → Value → Prop) : List Value → List Value → Prop
  | [], [] => True
  | x :: xs, y :: ys => R x y ∧ All2 R xs ys
  | _, _ => False

theorem All2.length {R : Value → Value → Prop} : ∀ {xs ys : List Value}, All2 R xs ys → xs.length = ys.length
  | [], [], _ => rfl
  | _ :: _, _ :: _, h => by simp [All2] at h; simp [All2.length h.2]
  | [], _ :: _, h => h.elim
  | _ :: _, [], h => h.elim

theorem All2.mono {R S : Value → Value → Prop} (hRS : ∀ x y, R x y → S x y) : ∀ {xs ys : List Value}, All2 R xs ys → All2 S xs ys
  | [], [], _ => trivial
  | _ :: _, _ :: _, h => ⟨hRS _ _ h.1, All2.mono hRS h.2⟩
  | [], _ :: _, h => h.elim
  | _ :: _, [], h => h.elim

theorem All2.get {R : Value → Value → Prop} : ∀ {xs ys : List Value}, All2 R xs ys → ∀ (i : Nat) x, xs[i]? = some x → ∃ y, ys[i]? = some y ∧ R x y
  | [], [], _ => fun i x h => by simp at h
  | a :: as, b :: bs, h => fun i x hx => by
    cases i with
    | zero => simp at hx; exact ⟨b, by simp, hx ▸ h.1⟩
    | succ i => simp at hx; simpa using All2.get h.2 i x hx
  | [], _ :: _, h => h.elim
  | _ :: _, [], h => h.elim

theorem All2.of_get {R : Value → Value → Prop} : ∀ {xs ys : List Value}, xs.length = ys.length → (∀ (i : Nat) x y, xs[i]? = some x → ys[i]? = some y → R x y) → All2 R xs ys
  | [], [], _, _ => trivial
  | a :: as, b :: bs, hl, h => ⟨h 0 a b (by simp) (by simp), All2.of_get (by simpa using hl) fun i x y hx hy => h (i + 1) x y (by simpa using hx) (by simpa using hy)⟩
  | [], _ :: _, hl, _ => by simp at hl
  | _ :: _, [], hl, _ => by simp at hl

theorem All2.append {R : Value → Value → Prop} : ∀ {xs ys as bs : List Value}, All2 R xs ys → All2 R as bs → All2 R (xs ++ as) (ys ++ bs)
  | [], [], _, _, _, h => h
  | _ :: _, _ :: _, _, _, h, h' => ⟨h.1, All2.append h.2 h'⟩
  | [], _ :: _, _, _, h, _ => h.elim
  | _ :: _, [], _, _, h, _ => h.elim

/-- The rows of a memory are kept where more of them are known. -/
structure Ext (ρ ρ' : List (Option Row)) : Prop where
  get : ∀ (i : Nat) (r : Row), ρ[i]? = some (some r) → ρ'[i]? = some (some r)
theorem Ext.refl (ρ : List (Option Row)) : Ext ρ ρ := ⟨fun _ _ h => h⟩
theorem Ext.trans {ρ ρ' ρ'' : List (Option Row)} (h : Ext ρ ρ') (h' : Ext ρ' ρ'') : Ext ρ ρ'' := ⟨fun i r hr => h'.get i r (h.get i r hr)⟩
theorem Ext.app (ρ t : List (Option Row)) : Ext ρ (ρ ++ t) := ⟨fun i r h => by rw [List.getElem?_append_left (List.getElem?_eq_some_iff.1 h).1]; exact h⟩
theorem Ext.set {ρ : List (Option Row)} {i : Nat} (h : ρ[i]? = some none) (r : Row) : Ext ρ (ρ.set i (some r)) := ⟨fun j q hj => by
  have hne : i ≠ j := fun e => by subst e; rw [h] at hj; cases hj
  rw [List.getElem?_set_ne hne]; exact hj⟩

/-- One-cell values, closures apart. -/
def conc0 (ρ : List (Option Row)) (v v' : Value) : Prop :=
  match v with
  | .pointer (some a) => a.spot = none ∧ ∃ r, ρ[a.block]? = some (some r) ∧ v' = .pointer (some ⟨r.blk, r.base + a.off, none⟩)
  | .slice (some a) n c => c = n ∧ ((a.spot = none ∧ ∃ r, ρ[a.block]? = some (some r) ∧ a.off + n ≤ r.cap ∧ v' = .slice (some ⟨r.blk, r.base + a.off * r.sz, none⟩) n (r.cap - a.off)) ∨
      (a.spot = some 0 ∧ n = 0 ∧ ∃ a' c', v' = .slice (some a') 0 c'))
  | .slice none n c => n = 0 ∧ c = 0 ∧ v' = .slice none 0 0
  | .bool b => v' = .bool b
  | .int k n => v' = .int k n
  | .string s => v' = .string s
  | .pointer none => v' = .pointer none
  | .nilFunc => v' = .nilFunc
  | _ => False
/-- What a closure may capture. -/
def concA (ρ : List (Option Row)) (v v' : Value) : Prop :=
  match v with
  | .func fn first caps => first = #[] ∧ ∃ caps', v' = .func fn #[] caps' ∧ All2 (conc0 ρ) caps.toList caps'.toList
  | v => conc0 ρ v v'
/-- One-cell values. -/
def conc1 (ρ : List (Option Row)) (v v' : Value) : Prop :=
  match v with
  | .func fn first caps => first = #[] ∧ ∃ caps', v' = .func fn #[] caps' ∧ All2 (concA ρ) caps.toList caps'.toList
  | v => conc0 ρ v v'
def conc2 (ρ : List (Option Row)) (v v' : Value) : Prop :=
  match v with
  | .agg cs => ∃ cs', v' = .agg cs' ∧ All2 (conc1 ρ) cs.toList cs'.toList
  | v => conc1 ρ v v'
def conc3 (ρ : List (Option Row)) (v v' : Value) : Prop :=
  match v with
  | .tuple vs => ∃ vs', v' = .tuple vs' ∧ All2 (conc2 ρ) vs.toList vs'.toList
  | v => conc2 ρ v v'

theorem get_of_prefix {ρ ρ' : List (Option Row)} (h : Ext ρ ρ') {i : Nat} {r : Row} (hi : ρ[i]? = some (some r)) : ρ'[i]? = some (some r) := h.get i r hi

theorem conc0_mono {ρ ρ' : List (Option Row)} (h : Ext ρ ρ') {v v' : Value} (hc : conc0 ρ v v') : conc0 ρ' v v' := by
  unfold conc0 at *
  split <;> simp_all
  · obtain ⟨_, r, hr, hv⟩ := hc; exact ⟨r, get_of_prefix h hr, hv⟩
  · obtain ⟨_, hc | hc⟩ := hc
    · obtain ⟨_, r, hr, hl, hv⟩ := hc; exact .inl ⟨‹_›, r, get_of_prefix h hr, hl, hv⟩
    · exact .inr hc
theorem concA_mono {ρ ρ' : List (Option Row)} (h : Ext ρ ρ') {v v' : Value} (hc : concA ρ v v') : concA ρ' v v' := by
  unfold concA at *
  split
  · obtain ⟨h1, c, h2, h3⟩ := hc; exact ⟨h1, c, h2, h3.mono fun _ _ => conc0_mono h⟩
  · rename_i hn; split at hc
    · exact absurd rfl (hn _ _ _)
    · exact conc0_mono h hc
theorem conc1_mono {ρ ρ' : List (Option Row)} (h : Ext ρ ρ') {v v' : Value} (hc : conc1 ρ v v') : conc1 ρ' v v' := by
  unfold conc1 at *
  split
  · obtain ⟨h1, c, h2, h3⟩ := hc; exact ⟨h1, c, h2, h3.mono fun _ _ => concA_mono h⟩
  · rename_i hn; split at hc
    · exact absurd rfl (hn _ _ _)
    · exact conc0_mono h hc
theorem conc2_mono {ρ ρ' : List (Option Row)} (h : Ext ρ ρ') {v v' : Value} (hc : conc2 ρ v v') : conc2 ρ' v v' := by
  unfold conc2 at *
  split
  · obtain ⟨c, h2, h3⟩ := hc; exact ⟨c, h2, h3.mono fun _ _ => conc1_mono h⟩
  · rename_i hn; split at hc
    · exact absurd rfl (hn _)
    · exact conc1_mono h hc
theorem conc3_mono {ρ ρ' : List (Option Row)} (h : Ext ρ ρ') {v v' : Value} (hc : conc3 ρ v v') : conc3 ρ' v v' := by
  unfold conc3 at *
  split
  · obtain ⟨c, h2, h3⟩ := hc; exact ⟨c, h2, h3.mono fun _ _ => conc2_mono h⟩
  · rename_i hn; split at hc
    · exact absurd rfl (hn _)
    · exact conc2_mono h hc

def ORel (W0 : World) (ρ : List (Option Row)) (w : World) (o : AObj) (r : Row) : Prop :=
  (o.kind = 0 → r.sz = o.sz ∧ r.blk < W0.heap.size ∧ ∀ (j : Nat) v, o.cells[j]? = some v → ∃ v', w.cell? ⟨r.blk, r.base + j, none⟩ = some v' ∧ conc1 ρ v v') ∧
  (o.live → r.base = 0 ∧ r.sz = o.sz ∧ W0.heap.size ≤ r.blk ∧ r.cap ≤ maxLen ∧ ∃ c : Array Value, w.heap[r.blk]? = some (.cells c o.elem (0, 0)) ∧ c.size = r.cap * r.sz ∧
    o.cells.length ≤ c.size ∧ (o.kind = 1 → o.cells.length = c.size) ∧ ∀ (j : Nat) v, o.cells[j]? = some v → ∃ v', c[j]? = some v' ∧ conc1 ρ v v')

/-- What is known of the program's own variables. -/
def TabAt (W0 : World) (g : Nat) (k : IntKind) (zs : List Int) : Prop := ∃ e n, W0.heap[g]? = some (.cells (zs.map fun z => Value.int k z).toArray e n)
def NumAt (W0 : World) (g : Nat) : Prop := ∃ z, W0.cell? ⟨g, 0, none⟩ = some (.int .i64 z)
def Tabs (W0 : World) : Prop := TabAt W0 1 .u64 Go.Lib.pow10Tab ∧ NumAt W0 0

structure Rel (W0 : World) (ρ : List (Option Row)) (m : List AObj) (w : World) : Prop where
  below : Below W0.heap.size W0 w
  tab : Tabs W0
  len : ρ.length = m.length
  row : ∀ (i : Nat) o, m[i]? = some o → o.kind ≠ 4 → ∃ r, ρ[i]? = some (some r)
  off : ∀ (i : Nat) o, m[i]? = some o → o.kind = 4 → ρ[i]? = some none
  obj : ∀ (i : Nat) o r, m[i]? = some o → ρ[i]? = some (some r) → ORel W0 ρ w o r
  inj : ∀ (i j : Nat) o o' r r', i ≠ j → m[i]? = some o → m[j]? = some o' → o.live → o'.live → ρ[i]? = some (some r) → ρ[j]? = some (some r') → r.blk ≠ r'.blk

/-- What a call does, said of the abstract memory. -/
structure ACalls (P : Program) (f : FuncId) (args : List Value) (m : List AObj) (v : Value) (m' : List AObj) : Prop where
  run : ∀ (W0 : World) (ρ : List (Option Row)) (w : World) (args' : Array Value), Rel W0 ρ m w → All2 (conc3 ρ) args args'.toList →
    Calls P f args' w fun e w' => ∃ ρ' v', Ext ρ ρ' ∧ Rel W0 ρ' m' w' ∧ conc3 ρ' v v' ∧ e = .returned v'

/-- The frame: what is known of the slots. -/
abbrev Fr := Nat → Option Value
def upd (σ : Fr) (t : Nat) (v : Value) : Fr := fun i => if i = t then some v else σ i
def updO (σ : Fr) (d : Option Nat) (v : Value) : Fr := match d with | some t => upd σ t v | none => σ

def FRel (ρ : List (Option Row)) (N : Nat) (a : Act) (σ : Fr) : Prop :=
  a.defers = [] ∧ a.tmps.size = N ∧ ∀ t v, σ t = some v → conc3 ρ v (a.tmps.getD t undef)

theorem FRel.mono {ρ ρ' : List (Option Row)} (h : Ext ρ ρ') {N : Nat} {a : Act} {σ : Fr} (hf : FRel ρ N a σ) : FRel ρ' N a σ :=
  ⟨hf.1, hf.2.1, fun t v ht => conc3_mono h (hf.2.2 t v ht)⟩

theorem FRel.weaken {ρ : List (Option Row)} {N : Nat} {a : Act} {σ σ' : Fr} (hf : FRel ρ N a σ) (h : ∀ t v, σ' t = some v → σ t = some v) : FRel ρ N a σ' :=
  ⟨hf.1, hf.2.1, fun t v ht => hf.2.2 t v (h t v ht)⟩

theorem FRel.put {ρ : List (Option Row)} {N : Nat} {a : Act} {σ : Fr} (hf : FRel ρ N a σ) {d : Option Nat} (hd : ∀ t, d = some t → t < N) {v v' : Value} (hv : conc3 ρ v v') :
    FRel ρ N (a.put d v') (updO σ d v) := by
  cases d with
  | none => exact hf
  | some t =>
    refine ⟨hf.1, by simp [Act.put, hf.2.1], fun i u hu => ?_⟩
    have ht := hd t rfl
    simp only [updO, upd] at hu
    simp only [Act.put]
    by_cases hit : i = t
    · subst hit
      simp at hu
      subst hu
      simp [Array.getD_eq_getD_getElem?, Array.getElem?_setIfInBounds, hf.2.1, ht]
      exact hv
    · simp [hit] at hu
      have := hf.2.2 i u hu
      simpa [Array.getD_eq_getD_getElem?, Array.getElem?_setIfInBounds, Ne.symm hit] using this

theorem conc3_undef (ρ : List (Option Row)) : conc3 ρ undef undef := by
  simp [conc3, undef, All2]

end Go.Abs
