/-
  Abs, part 13b: the other conditions in the form in which they are computed. Conditions: none; generic in the program.
-/
import Derived.Test.YtmbijgnmbapchaaGreatDoorAbsEval
import Derived.Laws.OwnMore
set_option linter.unusedSimpArgs false
set_option linter.unusedVariables false
set_option linter.unusedSectionVars false
namespace Go.Abs
open Go.RowKit

variable {P : Program} {σ : Fr} {m : Mem} {k : Value → Mem → Prop}

/-- What a filled row gives. -/
def filled (o : Option (List Value)) (f : List Value → Prop) (_ : Tok f) : Prop := match o with | some cs => f cs | none => False
theorem filled_iff {o : Option (List Value)} {f : List Value → Prop} {t : Tok f} : filled o f t ↔ ∃ cs, o = some cs ∧ f cs := by
  cases o <;> simp [filled]
theorem filled_some (cs : List Value) (f : List Value → Prop) (t : Tok f) : filled (some cs) f t = f cs := rfl

theorem vbuild_eq {t : TypeId} {parts : List (Nat × Operand)} : vbuild P σ m k t parts =
    (match placesOf P t, tinf P t, evparts σ parts with
    | some pl, some (_, _, some z), some ps => need (valloc.litCells z = true) (filled (afill (pl[·]?) z.cells.toList ps) (fun cs => k (.agg cs.toArray) m) ⟨⟩)
    | _, _, _ => False) := by
  unfold vbuild
  split
  · rename_i h1 h2 h3
    simp only [h1, h2, h3, need, filled_iff]
  · rename_i h
    split
    · rename_i h1 h2 h3
      exact absurd h3 (fun h3 => h _ _ _ _ _ h1 h2 h3)
    · rfl

theorem vbuildSlice_eq {t : TypeId} {n : Nat} {parts : List (Nat × Operand)} : vbuildSlice P σ m k t n parts =
    (match slElem P t, evparts σ parts with
    | some e, some ps => (match tinf P e with
      | some (sz, _, some z) => need (0 < sz) (need (z.cells.size = sz) (need (valloc.litCells z = true) (need (n * sz ≤ 16777216)
          (filled (afill (fun i => some (i * sz, sz)) (madeCells z.cells (n * sz)).toList ps) (fun cs => k (.slice (some ⟨m.length, 0, none⟩) n n) (m ++ [⟨cs, e, sz, 1⟩])) ⟨⟩))))
      | _ => False)
    | _, _ => False) := by
  unfold vbuildSlice
  split
  · rename_i h1 h2
    simp only [h1, h2]
    split
    · rename_i h3
      simp only [h3, need, filled_iff]
    · rename_i h
      split
      · rename_i h3; exact absurd h3 (fun h3 => h _ _ _ h3)
      · rfl
  · rename_i h
    split
    · rename_i h1 h2
      exact absurd h2 (fun h2 => h _ _ h1 h2)
    · rfl

theorem afill_nil (place : Nat → Option (Nat × Nat)) (cells : List Value) : afill place cells [] = some cells := rfl
theorem afill_cons (place : Nat → Option (Nat × Nat)) (cells : List Value) (i : Nat) (v : Value) (rest : List (Nat × Value)) : afill place cells ((i, v) :: rest) =
    (match place i with
    | none => none
    | some (off, size) => if v.cells.size = size ∧ off + v.cells.size ≤ cells.length then afill place (splice cells off v.cells.toList) rest else none) := rfl
theorem evparts_nil : evparts σ [] = some [] := rfl
theorem evparts_cons (i : Nat) (x : Operand) (xs : List (Nat × Operand)) : evparts σ ((i, x) :: xs) = (match ev σ x, evparts σ xs with | some v, some vs => if noTup v then some ((i, v) :: vs) else none | _, _ => none) := rfl

theorem vmakeFunc_eq (g : FuncId) (captured : List Operand) : vmakeFunc σ m k (.func g) [] captured = (match evs σ captured with | some cs => need (cs.all capB = true) (k (.func (.func g) #[] cs.toArray) m) | none => False) := by
  unfold vmakeFunc
  cases evs σ captured <;> rfl

theorem vindex_eq {t : TypeId} {x y : Operand} : vindex P σ m k t x y =
    (match ev σ x, ev σ y with
    | some (.string s), some (.int _ i) => need (P.underlying t = some .string) (need (0 ≤ i) (∃ b, s.data.toList[i.toNat]? = some b ∧ k (.int .u8 b.toNat) m))
    | _, _ => False) := rfl

/-- Both ways of a test on numbers. -/
def splitP (p A B : Prop) : Prop := (p → A) ∧ (¬ p → B)
theorem splitP_of {p : Prop} (h : p) (A B : Prop) : splitP p A B = A := by simp [splitP, h]
theorem splitP_not {p : Prop} (h : ¬ p) (A B : Prop) : splitP p A B = B := by simp [splitP, h]
theorem splitP_true (A B : Prop) : splitP True A B = A := by simp [splitP]
theorem splitP_false (A B : Prop) : splitP False A B = B := by simp [splitP]

theorem vbound_none (d : Nat) (kk : Nat → Prop) : vbound σ none d kk = kk d := rfl
theorem vbound_some (y : Operand) (d : Nat) (kk : Nat → Prop) : vbound σ (some y) d kk = (match ev σ y with | some (.int _ i) => need (0 ≤ i) (kk i.toNat) | _ => False) := rfl

theorem vslice_eq {t : TypeId} {x : Operand} {lo hi : Option Operand} : vslice P σ m k t x lo hi none =
    (match ev σ x with
    | some (.slice (some a) n _) =>
      (match slElem P t with
      | some e => (match tinf P e with
        | some (sz, _, _) => need (a.spot = none) (withO m a.block (fun o => need (o.kind ≤ 2) (need (o.sz = sz)
            (vbound σ hi n fun h => need (h ≤ n) (vbound σ lo 0 fun l => need (l ≤ h) (splitP (l = 0 ∨ l < h) (k (.slice (some ⟨a.block, a.off + l, none⟩) (h - l) (h - l)) m) (k (.slice (some ⟨0, 0, some 0⟩) 0 0) m)))))) ⟨⟩)
        | _ => False)
      | none => False)
    | some (.slice none _ _) => need ((slElem P t).any (fun e => (tinf P e).isSome) = true) (vbound σ hi 0 fun h => need (h = 0) (vbound σ lo 0 fun l => need (l = 0) (k (.slice none 0 0) m)))
    | some (.string s) => need (P.underlying t = some .string) (vbound σ hi s.size fun h => need (h ≤ s.size) (vbound σ lo 0 fun l => need (l ≤ h) (k (.string (s.extract l h)) m)))
    | _ => False) := by
  unfold vslice
  rw [show (none : Option Operand).isNone = true from rfl]
  simp only [true_and]
  split
  · rename_i h1
    simp only [h1]
    cases slElem P t with
    | none => rfl
    | some e =>
      cases h9 : tinf P e with
      | none => simp only [h9]
      | some q => obtain ⟨sz, by_, z⟩ := q; simp only [h9, need, withO_iff, rd_iff, splitP]
  · rename_i h1; simp only [h1]; rfl
  · rename_i h1; simp only [h1]; rfl
  · rename_i h1 h2 h3
    split
    · rename_i h4; exact absurd h4 (h1 _ _ _)
    · rename_i h4; exact absurd h4 (h2 _ _)
    · rename_i h4; exact absurd h4 (h3 _)
    · rfl

/-- An append, to be met by a rule. -/
def AppTo (P : Program) (t t' : TypeId) (m : Mem) (A : Option Addr) (n : Nat) (B : Option Addr) (c : Nat) (k : Value → Mem → Prop) (_ : Tok k) : Prop :=
  ∃ e sz by_ z, slElem P t = some e ∧ tinf P e = some (sz, by_, some z) ∧ t' = t ∧ 0 < sz ∧ z.cells.size = sz ∧ (n + c) * by_ ≤ 140737488355328 ∧ n + c ≤ 4611686018427387904 ∧ ∃ news, Src m B c sz news ∧
      (match A with
      | none => (c = 0 → k (.slice none 0 0) m) ∧ (0 < c → k (.slice (some ⟨m.length, 0, none⟩) c c) (m ++ [⟨news, e, sz, 2⟩]))
      | some a => a.spot = none ∧ a.off = 0 ∧ ∃ o, m[a.block]? = some o ∧ o.live ∧ o.sz = sz ∧ o.elem = e ∧
          ((n * sz = o.cells.length ∧ k (.slice (some ⟨m.length, 0, none⟩) (n + c) (n + c)) (m.set a.block { o with kind := 3 } ++ [⟨o.cells ++ news, e, sz, 2⟩])) ∨
           (o.kind = 1 ∧ (n + c) * sz ≤ o.cells.length ∧ k (.slice (some a) (n + c) (n + c)) (m.set a.block { o with cells := splice o.cells (n * sz) news }))))
theorem vappend_eq {t t' : TypeId} {s x : Operand} : vappend P σ m k t t' s x =
    (match ev σ s, ev σ x with
    | some (.slice A n _), some (.slice B c _) => AppTo P t t' m A n B c k ⟨⟩
    | _, _ => False) := by
  unfold vappend AppTo
  split
  · rename_i h1 h2 h3
    simp only [h1, h2, h3]
    refine propext ⟨fun h => ?_, fun ⟨e, sz, by_, z, he, ht, h⟩ => ?_⟩
    · split at h
      · rename_i h4
        exact ⟨_, _, _, _, rfl, h4, h⟩
      · exact h.elim
    · injection he with he
      subst he
      rw [ht]
      exact h
  · rename_i h
    split
    · rename_i h1 h2
      cases h3 : slElem P t with
      | none => simp
      | some e => exact absurd h3 (fun h3 => h _ _ _ _ _ _ _ h1 h2 h3)
    · rfl

attribute [simp ↓] vbuild_eq vbuildSlice_eq filled_some afill_nil afill_cons evparts_nil evparts_cons vmakeFunc_eq vindex_eq splitP_true splitP_false vbound_none vbound_some vslice_eq vappend_eq vmax vmin capB
theorem made_zero (z : Array Value) : (madeCells z 0).toList = [] := by simp [madeCells]
attribute [simp] made_zero toList_madeCells_one List.replicate_one List.replicate_zero Nat.one_mul Nat.mul_one

end Go.Abs
