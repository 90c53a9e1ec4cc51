/-
  Abs, part 6: 'vop' is sound: comparisons, slices, literals, closures. Conditions: none; generic in the program.
-/
import Derived.Test.YtmbijgnmbapchaaGreatDoorAbsSound2
set_option linter.unusedSimpArgs false
set_option linter.unusedVariables false
set_option linter.unusedSectionVars false
namespace Go.Abs
open Go.RowKit

variable {P : Program} {σ : Fr} {m : Mem} {k : Value → Mem → Prop}

theorem conc1_lit {ρ : List (Option Row)} {v v' : Value} (hl : litB v = true) (h : conc1 ρ v v') : v' = v := by
  unfold litB at hl
  split at hl <;> simp_all [conc1, conc0]

theorem litEq_lit {t : Nat} {x y : Value} {b : Bool} (h : litEq t x y = some b) : litB x = true ∧ litB y = true := by
  unfold litEq at h
  split at h <;> simp_all [litB]
theorem litsEq_lits {ρ : List (Option Row)} : ∀ {ts : List Nat} {xs ys xs' ys' : List Value} {b : Bool}, litsEq ts xs ys = some b → All2 (conc1 ρ) xs xs' → All2 (conc1 ρ) ys ys' → xs' = xs ∧ ys' = ys
  | [], [], [], [], [], _, _, _, _ => ⟨rfl, rfl⟩
  | t :: ts, x :: xs, y :: ys, x' :: xs', y' :: ys', b, h, hx, hy => by
    simp only [litsEq] at h
    split at h
    · rename_i a c ha hc
      obtain ⟨l1, l2⟩ := litEq_lit ha
      obtain ⟨e1, e2⟩ := litsEq_lits hc hx.2 hy.2
      rw [conc1_lit l1 hx.1, conc1_lit l2 hy.1, e1, e2]
      exact ⟨rfl, rfl⟩
    · cases h
  | [], _ :: _, _, _, _, _, h, _, _ => by simp [litsEq] at h
  | [], [], _ :: _, _, _, _, h, _, _ => by simp [litsEq] at h
  | _ :: _, [], _, _, _, _, h, _, _ => by simp [litsEq] at h
  | _ :: _, _ :: _, [], _, _, _, h, _, _ => by simp [litsEq] at h
  | [], [], [], _ :: _, _, _, _, h, _ => h.elim
  | [], [], [], [], _ :: _, _, _, _, h => h.elim
  | _ :: _, _ :: _, _ :: _, [], _, _, _, h, _ => h.elim
  | _ :: _, _ :: _, _ :: _, _ :: _, [], _, _, _, h => h.elim

theorem run_part_cell {t : TypeId} {cs : Array Value} {off : Nat} {v : Value} (ht : aggB P t = some false) (hv : cs[off]? = some v) (w : World) : (part t cs off).run P w = .ok v w := by
  simp [part, Sem.run_bind, run_isAgg ht, hv]

theorem run_equalIn_lit (d : Nat) {f : Field} {i kd : Nat} {x y : Value} {c : Bool} (hk : fieldKind P f i = some kd) (h : litEq kd x y = some c) (w : World) :
    (Op.equalIn (d + 1) f.type x y).run P w = .ok c w ∧ aggB P f.type = some false ∧ f.name ≠ "_" ∧ f.offset = i := by
  unfold fieldKind at hk
  split at hk
  · rename_i hc
    simp only [Bool.and_eq_true, bne_iff_ne, ne_eq, beq_iff_eq] at hc
    split at hk <;> first | cases hk; done | skip
    all_goals
      rename_i hu
      injection hk with hk
      subst hk
      refine ⟨?_, by simp [aggB, hu], hc.1, hc.2⟩
      cases x <;> cases y <;> simp [litEq] at h
    · obtain ⟨rfl, rfl⟩ := h; exact run_equalIn_int w d _ _ _ _ _ hu
    · subst h; exact run_equalIn_bool' w d _ _ _ hu
    · subst h; exact run_equalIn_string w d _ _ _ hu
  · cases hk

theorem run_eqFields (d : Nat) (xs ys : Array Value) (w : World) : ∀ (fs : List Field) (i : Nat) (ts : List Nat) (b : Bool), fieldKinds P fs i = some ts → litsEq ts (xs.toList.drop i) (ys.toList.drop i) = some b →
    (Op.eqFields (d + 1) xs ys fs).run P w = .ok b w
  | [], i, ts, b, hk, hl => by
    simp only [fieldKinds, Option.some.injEq] at hk
    subst hk
    cases hx : xs.toList.drop i <;> cases hy : ys.toList.drop i <;> rw [hx, hy] at hl <;> simp [litsEq] at hl
    subst hl
    simp [Op.eqFields]
  | f :: fs, i, ts, b, hk, hl => by
    simp only [fieldKinds] at hk
    split at hk
    · rename_i kd l hkd hks
      injection hk with hk
      subst hk
      cases hx : xs.toList.drop i with
      | nil => rw [hx] at hl; simp [litsEq] at hl
      | cons x lx =>
        cases hy : ys.toList.drop i with
        | nil => rw [hx, hy] at hl; simp [litsEq] at hl
        | cons y ly =>
          rw [hx, hy] at hl
          have hx0 : xs[i]? = some x := by have := congrArg (fun l => l[0]?) hx; simpa using this
          have hy0 : ys[i]? = some y := by have := congrArg (fun l => l[0]?) hy; simpa using this
          have hx1 : xs.toList.drop (i + 1) = lx := by have := congrArg List.tail hx; simpa using this
          have hy1 : ys.toList.drop (i + 1) = ly := by have := congrArg List.tail hy; simpa using this
          simp only [litsEq] at hl
          split at hl
          · rename_i a c ha hc
            injection hl with hl
            obtain ⟨h1, hag, hn, ho⟩ := run_equalIn_lit d hkd ha w
            have p1 : (part f.type xs f.offset).run P w = .ok x w := run_part_cell hag (by rw [ho]; exact hx0) w
            have p2 : (part f.type ys f.offset).run P w = .ok y w := run_part_cell hag (by rw [ho]; exact hy0) w
            have ih := run_eqFields d xs ys w fs (i + 1) l c hks (by rw [hx1, hy1]; exact hc)
            simp only [Op.eqFields, ne_eq, hn, not_false_eq_true, if_true, Sem.run_bind, p1, p2, Result.andThen_ok, h1]
            cases a
            · simp only [Bool.not_false, if_true, Sem.run_pure]
              simp only [Bool.false_and] at hl
              rw [hl]
            · simp only [Bool.not_true, Bool.false_eq_true, if_false]
              simp only [Bool.true_and] at hl
              rw [ih, hl]
          · cases hl
    · cases hk

theorem run_equal_agg {t : TypeId} {xs ys : Array Value} {ts : List Nat} {b : Bool} (hk : flatKinds P t = some ts) (h : litsEq ts xs.toList ys.toList = some b) (w : World) :
    (Op.equal t (.agg xs) (.agg ys)).run P w = .ok b w ∧ P.eqGuardType P.depth t = false := by
  unfold flatKinds at hk
  split at hk
  · rename_i hc
    simp only [Bool.and_eq_true, Bool.not_eq_true'] at hc
    split at hk
    · rename_i fs hu
      have hfo : P.fieldsOf t = fs := by simp [Program.fieldsOf, hu]
      refine ⟨?_, hc.2⟩
      show (Op.equalIn (9998 + 1 + 1) t (.agg xs) (.agg ys)).run P w = _
      rw [run_equalIn_struct w (9998 + 1) t xs ys (by rw [hu, hfo]) hc.1, hfo]
      exact run_eqFields 9998 xs ys w fs.toList 0 ts b hk (by simpa using h)
    · cases hk
  · cases hk

theorem run_equalIn_nilSlice (d : Nat) {t e : TypeId} (he : P.underlying t = some (.slice e)) (w : World) (B : Option Addr) (n c : Nat) : (Op.equalIn (d + 1) t (.slice B n c) (.slice none 0 0)).run P w = .ok B.isNone w := by
  cases B <;> simp [Op.equalIn, run_underlying he]

theorem good_bin {dst : Option Nat} {op : BinOp} {t t' : TypeId} {x y : Operand} {ty : TypeId} {pos : String} {aft : Array Edge} {g : Option (Nat × Bool)} {u v : Value}
    (hx : ev σ x = some u) (hy : ev σ y = some v) (h : vbin P m k op t u v) : Good P σ m ⟨dst, .binOp op t x y t', ty, pos, aft, g⟩ k := by
  unfold vbin at h
  split at h
  · exact good_int hx hy h
  · exact good_str hx hy h
  · rename_i a b
    obtain ⟨hu, h⟩ := h
    have key : ∀ r, (∀ w : World, (binOp op t (.bool a) (.bool b)).run P w = .ok (.bool r) w) → k (.bool r) m → Good P σ m ⟨dst, .binOp op t x y t', ty, pos, aft, g⟩ k := by
      intro r hrun hk
      refine ⟨.bool r, m, OpOK.same fun W0 ρ w a' hr ho => ⟨.bool r, rfl, ?_⟩, hk⟩
      have ex := conc3_bool (ho x (by simp [Op.operands]) _ hx)
      have ey := conc3_bool (ho y (by simp [Op.operands]) _ hy)
      simp only [execOp, ex, ey, eqGuard_at_bool, Sem.run_bind, Sem.run_pure, Result.andThen_ok, hrun]
    have he : ∀ w : World, (Op.equal t (.bool a) (.bool b)).run P w = .ok (a == b) w := fun w => run_equalIn_bool' w 9999 t a b hu
    split at h
    · exact key _ (fun w => by simp only [binOp, Sem.run_bind, he, Result.andThen_ok, Sem.run_pure]) h
    · exact key _ (fun w => by simp only [binOp, Sem.run_bind, he, Result.andThen_ok, Sem.run_pure]) h
    · exact h.elim
  · rename_i A n c n' c'
    obtain ⟨hu, h⟩ := h
    obtain ⟨e, he⟩ := Option.isSome_iff_exists.1 hu
    have key : ∀ r, (∀ (w : World) (B : Option Addr) (n c : Nat), B.isNone = A.isNone → (binOp op t (.slice B n c) (.slice none 0 0)).run P w = .ok (.bool r) w) → k (.bool r) m → Good P σ m ⟨dst, .binOp op t x y t', ty, pos, aft, g⟩ k := by
      intro r hrun hk
      refine ⟨.bool r, m, OpOK.same fun W0 ρ w a' hr ho => ⟨.bool r, rfl, ?_⟩, hk⟩
      have hcx := ho x (by simp [Op.operands]) _ hx
      obtain ⟨_, _, ey⟩ : n' = 0 ∧ c' = 0 ∧ a'.eval y = .slice none 0 0 := ho y (by simp [Op.operands]) _ hy
      have hcx' : ∃ B n'' c'', a'.eval x = .slice B n'' c'' ∧ B.isNone = A.isNone := by
        cases A with
        | none => obtain ⟨_, _, hx⟩ := hcx; exact ⟨none, 0, 0, hx, rfl⟩
        | some a0 =>
          obtain ⟨_, ⟨_, r, _, _, hx⟩ | ⟨_, hn, b, c', hx⟩⟩ := hcx
          · exact ⟨_, _, _, hx, rfl⟩
          · exact ⟨some b, _, _, hx, rfl⟩
      obtain ⟨B, n'', c'', ex, hB⟩ := hcx'
      simp only [execOp, ex, ey, eqGuard_at_slice, Sem.run_bind, Sem.run_pure, Result.andThen_ok, hrun _ _ _ _ hB]
    have hr : ∀ (w : World) (B : Option Addr) (n c : Nat), (Op.equal t (.slice B n c) (.slice none 0 0)).run P w = .ok B.isNone w := by
      intro w B n c
      exact run_equalIn_nilSlice 9999 (slElem_spec he) w B n c
    split at h
    · exact key _ (fun w B n c hB => by simp only [binOp, Sem.run_bind, hr, Result.andThen_ok, Sem.run_pure, hB]) h
    · exact key _ (fun w B n c hB => by simp only [binOp, Sem.run_bind, hr, Result.andThen_ok, Sem.run_pure, hB]) h
    · exact h.elim
  · rename_i xs ys
    split at h
    · rename_i ts hts
      have key : ∀ b r, litsEq ts xs.toList ys.toList = some b → (∀ (w : World), (Op.equal t (.agg xs) (.agg ys)).run P w = .ok b w → (binOp op t (.agg xs) (.agg ys)).run P w = .ok (.bool r) w) → k (.bool r) m → Good P σ m ⟨dst, .binOp op t x y t', ty, pos, aft, g⟩ k := by
        intro b r hl hrun hk
        refine ⟨.bool r, m, OpOK.same fun W0 ρ w a' hr ho => ⟨.bool r, rfl, ?_⟩, hk⟩
        obtain ⟨xs', ex, hax⟩ := ho x (by simp [Op.operands]) _ hx
        obtain ⟨ys', ey, hay⟩ := ho y (by simp [Op.operands]) _ hy
        obtain ⟨e1, e2⟩ := litsEq_lits hl hax hay
        have e1' : xs' = xs := by have := congrArg List.toArray e1; simpa using this
        have e2' : ys' = ys := by have := congrArg List.toArray e2; simpa using this
        subst e1' e2'
        obtain ⟨hq, hg⟩ := run_equal_agg hts hl w
        have hgd : (eqGuard op t x y (.agg xs') (.agg ys')).run P w = .ok () w := by
          cases op <;> first
            | rfl
            | (simp only [eqGuard, Bool.not_true, Bool.false_eq_true, if_false, Sem.run_bind, Sem.run_pure, run_program, Result.andThen_ok, hg, Bool.not_false, if_true]; done)
        simp only [execOp, ex, ey, Sem.run_bind, hgd, Result.andThen_ok, hrun w hq, Sem.run_pure]
      split at h
      · exact key _ _ ‹_› (fun w hq => by simp only [binOp, Sem.run_bind, hq, Result.andThen_ok, Sem.run_pure]) h
      · exact key _ _ ‹_› (fun w hq => by simp only [binOp, Sem.run_bind, hq, Result.andThen_ok, Sem.run_pure]) h
      · exact h.elim
    · exact h.elim
  · exact h.elim

end Go.Abs
