/-
  Abs, part 11d: the same in the text's order, each operation with what it touches; new objects at numbers that are set beforehand. Conditions: none; generic in the program.
-/
import Derived.Test.YtmbijgnmbapchaaGreatDoorAbsDrawF
set_option linter.unusedSimpArgs false
set_option linter.unusedVariables false
set_option linter.unusedSectionVars false
namespace Go.Abs
open Go.RowKit

variable {P : Program}

/-! ### New objects at a number -/
theorem slot_ok {o : Oper} {σ : Fr} {v : Value} {ob : AObj} {mk : Nat → Value} {s : Nat} (hv : v = mk s)
    (h : ∀ (W0 : World) (ρ : List (Option Row)) (w : World) (a : Act), Ops ρ a σ o.op.operands.toList → W0.heap.size ≤ w.heap.size → ∃ (cap : Nat) (cs : List Value) (v' : Value), ob.kind = 1 ∧ All2 (conc1 ρ) ob.cells cs ∧ ob.cells.length = cap * ob.sz ∧ cap ≤ maxLen ∧
      (∀ ρ' : List (Option Row), ρ'[s]? = some (some ⟨w.heap.size, 0, ob.sz, cap⟩) → conc3 ρ' (mk s) v') ∧ (execOp a.eval o).run P w = .ok (.value v') (w.alloc (.cells cs.toArray ob.elem))) :
    LocOK P o σ v [(s, hole)] (some (s, ob)) := by
  intro m hm
  refine OpOK.step fun W0 ρ w a hr ho => ?_
  obtain ⟨cap, cs, v', hk, h1, h2, h3, h4, h5⟩ := h W0 ρ w a ho hr.below.size
  have hs : m[s]? = some hole := hm (s, hole) (by simp)
  have hal := hr.allocAt hs rfl ob.elem ob.sz cap h1 h2 h3
  have hoff := hr.off s hole hs rfl
  have hob : (⟨ob.cells, ob.elem, ob.sz, 1⟩ : AObj) = ob := by rw [← hk]
  rw [hob] at hal
  exact ⟨_, _, v', Ext.set hoff _, hal, by rw [hv]; exact h4 _ (List.getElem?_set_self (List.getElem?_eq_some_iff.1 hoff).1), .inl h5⟩

/-- The value of a new object. -/
def slotV (k : Nat) (x : Nat) (s : Nat) : Value := if k = 0 then .pointer (some ⟨s, 0, none⟩) else .slice (some ⟨s, 0, none⟩) x x

theorem slot_alloc {σ : Fr} {k : Value → Mem → Prop} {o : Oper} (ha : isAlloc o.op = true) (h : vop P σ [] k o) : ∃ ob kd x, k (slotV kd x 0) [ob] ∧ ∀ s, LocOK P o σ (slotV kd x s) [(s, hole)] (some (s, ob)) := by
  obtain ⟨dst, op, ty, pos, aft, g⟩ := o
  unfold vop at h
  cases op <;> simp only [isAlloc] at ha <;> simp only at h <;> first
    | (exact absurd ha (by decide))
    | skip
  case alloc t =>
    unfold valloc at h
    split at h
    · rename_i sz by_ z hi
      obtain ⟨hl, hs, h⟩ := h
      refine ⟨⟨z.cells.toList, t, sz, 1⟩, 0, 0, by simpa [slotV] using h, fun s => slot_ok (mk := slotV 0 0) rfl fun W0 ρ w a ho _ => ?_⟩
      have ha : All2 (conc1 ρ) z.cells.toList z.cells.toList := by
        refine All2.of_get rfl fun i x y hx hy => ?_
        rw [hx] at hy; injection hy with hy; subst hy
        have hmem : x ∈ z.cells.toList := List.mem_of_getElem? hx
        have hb := List.all_eq_true.1 hl x hmem
        unfold litB at hb
        split at hb <;> simp_all [conc1, conc0]
      refine ⟨1, _, .pointer (some ⟨w.heap.size, 0, none⟩), rfl, ha, by simp [← hs], by simp [maxLen], fun ρ' hρ => ⟨rfl, _, hρ, rfl⟩, ?_⟩
      simp only [execOp, Instr.alloc, Sem.run_bind, run_zeroValue hi, Result.andThen_ok]
      simp only [run_newVar, Sem.run_bind, Result.andThen_ok, Sem.run_pure, Array.toArray_toList]
    · exact h.elim
  case box t x =>
    unfold vbox at h
    split at h
    · rename_i v sz by_ z hx hi
      obtain ⟨ht, hs, h⟩ := h
      refine ⟨⟨v.cells.toList, t, sz, 1⟩, 0, 0, by simpa [slotV] using h, fun s => slot_ok (mk := slotV 0 0) rfl fun W0 ρ w a ho _ => ?_⟩
      obtain ⟨ha, _⟩ := conc1_cells (ho x (by simp [Op.operands]) _ hx) ht
      refine ⟨1, _, .pointer (some ⟨w.heap.size, 0, none⟩), rfl, ha, by simp [← hs], by simp [maxLen], fun ρ' hρ => ⟨rfl, _, hρ, rfl⟩, ?_⟩
      simp only [execOp, Instr.box, Sem.run_bind, run_newVar, Result.andThen_ok, Sem.run_pure, Array.toArray_toList]
    · exact h.elim
  case makeSlice t x y =>
    unfold vmake at h
    split at h
    · rename_i kl l kc c e hx hy he
      split at h
      · rename_i sz by_ z hi
        obtain ⟨hsz, hzs, hlit, h0, hlc, hby, h63, h⟩ := h
        obtain ⟨i0, hi0, g1, g2, g3⟩ := tinf_spec hi
        refine ⟨⟨(madeCells z.cells (c.toNat * sz)).toList, e, sz, 1⟩, 1, l.toNat, by simpa [slotV] using h, fun s => slot_ok (mk := slotV 1 l.toNat) rfl fun W0 ρ w a ho _ => ?_⟩
        have ex := conc3_int (ho x (by simp [Op.operands]) _ hx)
        have ey := conc3_int (ho y (by simp [Op.operands]) _ hy)
        have hlen : (madeCells z.cells (c.toNat * sz)).toList.length = c.toNat * sz := by simp [madeCells]
        have ha : All2 (conc1 ρ) (madeCells z.cells (c.toNat * sz)).toList (madeCells z.cells (c.toNat * sz)).toList := by
          refine All2.of_get rfl fun i x y hx hy => ?_
          rw [hx] at hy; injection hy with hy; subst hy
          have hmem : x ∈ (madeCells z.cells (c.toNat * sz)).toList := List.mem_of_getElem? hx
          simp only [madeCells, Array.toList_map, List.mem_map] at hmem
          obtain ⟨j, _, rfl⟩ := hmem
          have hj : j % z.cells.size < z.cells.size := Nat.mod_lt _ (by omega)
          have hb := List.all_eq_true.1 hlit (z.cells[j % z.cells.size]!) (by rw [getElem!_pos z.cells _ hj]; simp)
          unfold litB at hb
          split at hb <;> simp_all [conc1, conc0]
        refine ⟨c.toNat, _, .slice (some ⟨w.heap.size, 0, none⟩) l.toNat c.toNat, rfl, ha, hlen, by simp [maxLen]; omega, fun ρ' hρ => ⟨rfl, .inl ⟨rfl, _, hρ, by simp; omega, by simp⟩⟩, ?_⟩
        have := run_make (P := P) w t e i0 z (slElem_spec he) hi0 g3 kl kc l c h0 hlc (by rw [g2]; exact hby) h63
        rw [g1] at this
        simp only [execOp, ex, ey, Sem.run_bind, this, Result.andThen_ok, Sem.run_pure, Array.toArray_toList]
      · exact h.elim
    · exact h.elim
  case buildSlice t n parts =>
    unfold vbuildSlice at h
    split at h
    · rename_i e ps he hps
      split at h
      · rename_i sz by_ z hi
        obtain ⟨hsz, hzs, hlit, hsmall, cs, hfill, h⟩ := h
        refine ⟨⟨cs, e, sz, 1⟩, 1, n, by simpa [slotV] using h, fun s => slot_ok (mk := slotV 1 n) rfl fun W0 ρ w a ho _ => ?_⟩
        have hp := evparts_rel (ρ := ρ) (a := a) (fun x hx => ho x (by simpa [Op.operands] using hx)) hps
        have hlits : ∀ x ∈ (madeCells z.cells (n * sz)).toList, litB x = true := by
          intro x hmem
          simp only [madeCells, Array.toList_map, List.mem_map] at hmem
          obtain ⟨j, _, rfl⟩ := hmem
          have hj : j % z.cells.size < z.cells.size := Nat.mod_lt _ (by omega)
          exact List.all_eq_true.1 hlit (z.cells[j % z.cells.size]!) (by rw [getElem!_pos z.cells _ hj]; simp)
        obtain ⟨r', h1, h2⟩ := fill_rel (ys := madeCells z.cells (n * sz)) hp (lits_rel hlits) hfill
        have hlen : cs.length = n * sz := by
          have : ∀ (ps : List (Nat × Value)) (xs r : List Value), afill (fun i => some (i * sz, sz)) xs ps = some r → r.length = xs.length := by
            intro ps
            induction ps with
            | nil => intro xs r h; simp only [afill, Option.some.injEq] at h; subst h; rfl
            | cons p ps ih =>
              intro xs r h
              obtain ⟨i, v⟩ := p
              simp only [afill] at h
              split at h
              · rw [ih _ _ h, splice_length]
              · cases h
          rw [this _ _ _ hfill]; simp [madeCells]
        have hbnd : n ≤ maxLen := by
          have : n ≤ n * sz := Nat.le_mul_of_pos_right _ hsz
          unfold maxLen; omega
        refine ⟨n, _, .slice (some ⟨w.heap.size, 0, none⟩) n n, rfl, h2, hlen, hbnd, fun ρ' hρ => ⟨rfl, .inl ⟨rfl, _, hρ, by simp, by simp⟩⟩, ?_⟩
        have hparts : (parts.map fun (i, x) => (i, a.eval x)).toList = parts.toList.map fun p => (p.1, a.eval p.2) := by simp
        have hbig : ¬ (n * sz > 2 ^ 24) := by omega
        have hnew : ∀ (w : World) (c : Array Value), (newRow e c).run P w = .ok ⟨w.heap.size, 0, none⟩ (w.alloc (.cells c e)) := by
          intro w c; simp only [newRow, newObj, Sem.run_bind]; rfl
        by_cases h0 : n * sz = 0
        · have hmade : (Array.range 0).map (fun x => (#[] : Array Value)[x % (#[] : Array Value).size]!) = madeCells z.cells (n * sz) := by simp [h0, madeCells]
          rw [← hmade, ← hparts] at h1
          simp only [execOp, Instr.buildSlice, Sem.run_bind, run_underlying (slElem_spec he), Result.andThen_ok, run_sizeOf hi, h0, Sem.run_ite, gt_iff_lt, Nat.not_lt_zero, if_false, if_true, Sem.run_pure, h1, hnew, Array.toArray_toList]
        · have hmade : (Array.range (n * sz)).map (fun x => z.cells[x % z.cells.size]!) = madeCells z.cells (n * sz) := rfl
          rw [← hmade, ← hparts] at h1
          simp only [execOp, Instr.buildSlice, Sem.run_bind, run_underlying (slElem_spec he), Result.andThen_ok, run_sizeOf hi, h0, Sem.run_ite, hbig, if_false, run_zeroValue hi, Sem.run_pure, h1, hnew, Array.toArray_toList]
      · exact h.elim
    · exact h.elim

/-! ### Looks and stores -/
theorem look_loc {σ : Fr} {m : Mem} {k : Value → Mem → Prop} {o : Oper} (hc : opClass o.op = 1) (h : vop P σ m k o) : ∃ u deps, k u m ∧ LocOK P o σ u deps none ∧ (∀ p ∈ deps, m[p.1]? = some p.2) ∧ deps.map (·.1) = lookIds σ o.op := by
  obtain ⟨dst, op, ty, pos, aft, g⟩ := o
  unfold vop at h
  have one : ∀ {u : Value} {id : Nat} {ob : AObj}, m[id]? = some ob → k u m → (∀ m1 : Mem, m1[id]? = some ob → vop P σ m1 (fun v m' => v = u ∧ m' = m1) ⟨dst, op, ty, pos, aft, g⟩) → lookIds σ op = [id] →
      ∃ u deps, k u m ∧ LocOK P ⟨dst, op, ty, pos, aft, g⟩ σ u deps none ∧ (∀ p ∈ deps, m[p.1]? = some p.2) ∧ deps.map (·.1) = lookIds σ op := by
    intro u id ob hm hk hv hl
    exact ⟨u, [(id, ob)], hk, fun m1 hm1 => opOK_of_vop (hv m1 (hm1 (id, ob) (by simp))), by simpa using hm, by simp [hl]⟩
  have non : ∀ {u : Value}, k u m → (∀ m1 : Mem, vop P σ m1 (fun v m' => v = u ∧ m' = m1) ⟨dst, op, ty, pos, aft, g⟩) → lookIds σ op = [] →
      ∃ u deps, k u m ∧ LocOK P ⟨dst, op, ty, pos, aft, g⟩ σ u deps none ∧ (∀ p ∈ deps, m[p.1]? = some p.2) ∧ deps.map (·.1) = lookIds σ op := by
    intro u hk hv hl
    exact ⟨u, [], hk, fun m1 _ => opOK_of_vop (hv m1), by simp, by simp [hl]⟩
  cases op <;> simp only [opClass] at hc <;> simp only at h <;> first
    | (exact absurd hc (by decide))
    | skip
  case load t x =>
    unfold vload at h
    split at h
    · rename_i a0 gg sz by_ z hx hg hi
      obtain ⟨hs, o, hm, hk, h⟩ := h
      cases gg
      · simp only [Bool.false_eq_true, if_false] at h
        obtain ⟨v, hv, h⟩ := h
        refine one hm h (fun m1 hm1 => ?_) (by simp [lookIds, hx])
        simp only [vop, vload, hx, hg, hi]
        exact ⟨hs, o, hm1, hk, by simp only [Bool.false_eq_true, if_false]; exact ⟨v, hv, by simp⟩⟩
      · simp only [if_true] at h
        refine one hm h.2 (fun m1 hm1 => ?_) (by simp [lookIds, hx])
        simp only [vop, vload, hx, hg, hi]
        exact ⟨hs, o, hm1, hk, by simp only [if_true]; exact ⟨h.1, by simp⟩⟩
    · exact h.elim
  case convert s d x =>
    unfold vconvert at h
    split at h
    · split at h
      · exact non h.2 (fun m1 => by simp only [vop, vconvert]; simp [*, h.1]) (by simp [lookIds, *])
      · exact h.elim
    · rename_i a0 n c hx
      obtain ⟨h1, h2, hs, o, hm, hk, hsz, hle, xs, hcs, h⟩ := h
      refine one hm h (fun m1 hm1 => ?_) (by simp [lookIds, hx])
      simp only [vop, vconvert, hx]
      exact ⟨h1, h2, hs, o, hm1, hk, hsz, hle, xs, hcs, by simp⟩
    · exact h.elim
  case indexAddr t x y =>
    unfold vindexAddr at h
    split at h
    · rename_i a0 n c kk i e hx hy he
      split at h
      · rename_i sz by_ z hi
        obtain ⟨hs, hi0, o, hm, hk, hsz, h⟩ := h
        refine one hm h (fun m1 hm1 => ?_) (by simp [lookIds, hx])
        simp only [vop, vindexAddr, hx, hy, he, hi]
        exact ⟨hs, hi0, o, hm1, hk, hsz, by simp⟩
      · exact h.elim
    · rename_i a0 kk i hx hy
      split at h
      · rename_i n e he
        split at h
        · rename_i sz by_ z hi
          exact non h.2.2 (fun m1 => by simp only [vop, vindexAddr, hx, hy, he, hi]; exact ⟨h.1, h.2.1, by simp⟩) (by simp [lookIds, hx])
        · exact h.elim
      · exact h.elim
    · exact h.elim
  case slice t x lo hi mx =>
    unfold vslice at h
    obtain ⟨hmx, h⟩ := h
    have hb2 : ∀ (d : Nat) (lo' : Option Operand) (kk : Nat → Prop), vbound σ lo' d kk → ∃ l, kk l ∧ ∀ kk' : Nat → Prop, kk' l → vbound σ lo' d kk' := by
      intro d lo' kk h
      unfold vbound at h ⊢
      split at h
      · exact ⟨_, h, fun _ h => h⟩
      · split at h
        · exact ⟨_, h.2, fun _ h' => by simp [*, h.1]⟩
        · exact h.elim
    split at h
    · rename_i a0 n c hx
      split at h
      · rename_i e he
        split at h
        · rename_i sz by_ z hi'
          obtain ⟨hs, o, hm, hk, hsz, h⟩ := h
          obtain ⟨hh, ⟨hhn, h⟩, hhk⟩ := hb2 _ _ _ h
          obtain ⟨l, ⟨hlh, h1, h2⟩, hlk⟩ := hb2 _ _ _ h
          by_cases hc2 : l = 0 ∨ l < hh
          · refine one hm (h1 hc2) (fun m1 hm1 => ?_) (by simp [lookIds, hx])
            simp only [vop, vslice, hx, he, hi']
            exact ⟨hmx, hs, o, hm1, hk, hsz, hhk _ ⟨hhn, hlk _ ⟨hlh, fun _ => by simp, fun hn => absurd hc2 hn⟩⟩⟩
          · refine one hm (h2 hc2) (fun m1 hm1 => ?_) (by simp [lookIds, hx])
            simp only [vop, vslice, hx, he, hi']
            exact ⟨hmx, hs, o, hm1, hk, hsz, hhk _ ⟨hhn, hlk _ ⟨hlh, fun hn => absurd hn hc2, fun _ => by simp⟩⟩⟩
        · exact h.elim
      · exact h.elim
    · rename_i n c hx
      obtain ⟨he, h⟩ := h
      obtain ⟨hh, ⟨h0, h⟩, hhk⟩ := hb2 _ _ _ h
      obtain ⟨l, ⟨l0, h⟩, hlk⟩ := hb2 _ _ _ h
      refine non h (fun m1 => ?_) (by simp [lookIds, hx])
      simp only [vop, vslice, hx]
      exact ⟨hmx, he, hhk _ ⟨h0, hlk _ ⟨l0, by simp⟩⟩⟩
    · rename_i s hx
      obtain ⟨he, h⟩ := h
      obtain ⟨hh, ⟨h0, h⟩, hhk⟩ := hb2 _ _ _ h
      obtain ⟨l, ⟨l0, h⟩, hlk⟩ := hb2 _ _ _ h
      refine non h (fun m1 => ?_) (by simp [lookIds, hx])
      simp only [vop, vslice, hx]
      exact ⟨hmx, he, hhk _ ⟨h0, hlk _ ⟨l0, by simp⟩⟩⟩
    · exact h.elim
  case call c =>
    obtain ⟨callee, args, tys⟩ := c
    cases callee with
    | value f => exact absurd hc (by simp)
    | invoke r n => exact absurd hc (by simp)
    | builtin b => cases b <;> exact absurd hc (by simp)

theorem store_loc {σ : Fr} {m : Mem} {k : Value → Mem → Prop} {dst : Option Nat} {t : TypeId} {x y : Operand} {ty : TypeId} {pos : String} {aft : Array Edge} {g : Option (Nat × Bool)}
    (h : vstore P σ m k t x y) : ∃ id ob ob', k undef (m.set id ob') ∧ m[id]? = some ob ∧ storeIds σ (.store t x y) = [id] ∧ LocOK P ⟨dst, .store t x y, ty, pos, aft, g⟩ σ undef [(id, ob)] (some (id, ob')) := by
  unfold vstore at h
  split at h
  · rename_i a0 v sz by_ z hx hy hi
    obtain ⟨hs, ht, hsz, o, hm, hlive, hl, h⟩ := h
    refine ⟨a0.block, o, _, h, hm, by simp [storeIds, hx], fun m1 hm1 => opOK_of_vop ?_⟩
    simp only [vop, vstore, hx, hy, hi, app]
    exact ⟨hs, ht, hsz, o, hm1 (a0.block, o) (by simp), hlive, hl, by simp⟩
  · exact h.elim

/-- The blocks of an append. -/
def appIds (σ : Fr) (x y : Operand) : List Nat :=
  match ev σ x, ev σ y with
  | some (.slice (some a) _ _), some (.slice (some b) _ _) => [a.block, b.block]
  | _, _ => []
/-- An append in place. -/
theorem append_loc {σ : Fr} {m : Mem} {k : Value → Mem → Prop} {dst : Option Nat} {t t' : TypeId} {x y : Operand} {ty : TypeId} {pos : String} {aft : Array Edge} {g : Option (Nat × Bool)}
    (h : vappend P σ m (fun v m' => m'.length = m.length ∧ (appIds σ x y ≠ [] ∧ ∀ i ∈ appIds σ x y, i < m.length) ∧ k v m') t t' x y) : ∃ u deps wr, k u (app (some wr) m) ∧ (∀ p ∈ deps, m[p.1]? = some p.2) ∧ deps.map (·.1) = appIds σ x y ∧ (appIds σ x y).head? = some wr.1 ∧ LocOK P ⟨dst, .call ⟨.builtin .append, #[x, y], #[t, t']⟩, ty, pos, aft, g⟩ σ u deps (some wr) := by
  unfold vappend at h
  split at h
  · rename_i A n cx B c cy e hx hy he
    split at h
    · rename_i sz by_ z hti
      obtain ⟨rfl, hsz, hzs, hbytes, hbig, news, hsrc, h⟩ := h
      cases A with
      | none =>
        simp only at h
        by_cases hc : c = 0
        · exact absurd (h.1 hc).2.1.1 (by simp [appIds, hx])
        · exact absurd (h.2 (by omega)).2.1.1 (by simp [appIds, hx])
      | some a0 =>
        simp only at h
        obtain ⟨hsp, hoff, o, hm, hlive, hosz, helem, h | h⟩ := h
        · have := h.2.1
          simp at this
        · obtain ⟨hk1, hfit, h1, h2, h3⟩ := h
          cases B with
          | none => exact absurd h2.1 (by simp [appIds, hx, hy])
          | some b0 =>
            have hids : appIds σ x y = [a0.block, b0.block] := by simp [appIds, hx, hy]
            rcases hsrc with ⟨hc0, hnews⟩ | ⟨b, ob, hb, hs⟩
            · -- nothing is appended: the source need not be looked at
              have hlt : b0.block < m.length := h2.2 _ (by simp [hids])
              cases hbm : m[b0.block]? with
              | none => rw [List.getElem?_eq_none_iff] at hbm; omega
              | some ob =>
                refine ⟨.slice (some a0) (n + c) (n + c), [(a0.block, o), (b0.block, ob)], (a0.block, { o with cells := splice o.cells (n * sz) news }), h3, by simp [hm, hbm], by simp [hids], by simp [hids], fun m1 hm1 => opOK_of_vop ?_⟩
                simp only [vop, vappend, hx, hy, he, hti, app]
                exact ⟨trivial, hsz, hzs, hbytes, hbig, news, .inl ⟨hc0, hnews⟩, hsp, hoff, o, hm1 (a0.block, o) (by simp), hlive, hosz, helem, .inr ⟨hk1, hfit, by simp⟩⟩
            · injection hb with hb
              subst hb
              obtain ⟨s1, s2, s3, s4, s5, s6⟩ := hs
              refine ⟨.slice (some a0) (n + c) (n + c), [(a0.block, o), (b0.block, ob)], (a0.block, { o with cells := splice o.cells (n * sz) news }), h3, by simp [hm, s2], by simp [hids], by simp [hids], fun m1 hm1 => opOK_of_vop ?_⟩
              simp only [vop, vappend, hx, hy, he, hti, app]
              exact ⟨trivial, hsz, hzs, hbytes, hbig, news, .inr ⟨b0, ob, rfl, s1, hm1 (b0.block, ob) (by simp), s3, s4, s5, s6⟩, hsp, hoff, o, hm1 (a0.block, o) (by simp), hlive, hosz, helem, .inr ⟨hk1, hfit, by simp⟩⟩
    · exact h.elim
  · exact h.elim
/-! ### One operation -/
/-- What is wanted behind a new object. -/
def slotK (m : Mem) (s : Nat) (v : Value) (m' : Mem) (k : Foot → Value → Mem → Prop) : Prop :=
  match m' with
  | [ob] => m[s]? = some hole ∧ k (.loc [s] (some s)) (moveTo s v) (m.set s ob)
  | _ => False
def appK (σ : Fr) (m : Mem) (x y : Operand) (v : Value) (m' : Mem) (k : Foot → Value → Mem → Prop) : Prop :=
  (m'.length = m.length ∧ (appIds σ x y ≠ [] ∧ ∀ i ∈ appIds σ x y, i < m.length) ∧ k (.loc (appIds σ x y) (appIds σ x y).head?) v m')
def stepF (P : Program) (σ : Fr) (m : Mem) (s : Nat) (o : Oper) (k : Foot → Value → Mem → Prop) : Prop :=
  match o.op with
  | .alloc _ | .box .. | .makeSlice .. | .buildSlice .. => vop P σ [] (fun v m' => slotK m s v m' k) o
  | .store _ x _ => vop P σ m (fun v m' => k (.loc (storeIds σ o.op) (storeIds σ o.op).head?) v m') o
  | .load .. | .indexAddr .. | .slice .. => vop P σ m (fun v m' => k (.loc (lookIds σ o.op) none) v m') o
  | .convert _ d _ => if cvStr d then vop P σ m (fun v m' => k (.loc (lookIds σ o.op) none) v m') o else vop P σ m (fun v m' => k (.loc [] none) v m') o
  | .call c => match c.callee, c.args.toList with
    | .builtin .append, [x, y] => vop P σ m (fun v m' => k (.gen m m') v m') o ∨ vop P σ m (fun v m' => appK σ m x y v m' k) o
    | .builtin .len, _ | .builtin .max, _ | .builtin .min, _ => vop P σ m (fun v m' => k (.loc [] none) v m') o
    | _, _ => vop P σ m (fun v m' => k (.gen m m') v m') o
  | _ => vop P σ m (fun v m' => k (.loc [] none) v m') o ∧ opClass o.op = 0

theorem moveTo_slotV (kd x s : Nat) : moveTo s (slotV kd x 0) = slotV kd x s := by unfold slotV; split <;> rfl

theorem stepF_run {σ : Fr} {m : Mem} {s : Nat} {o : Oper} {k : Foot → Value → Mem → Prop} (h : stepF P σ m s o k) : ∃ f v m', k f v m' ∧ RunF P o σ m f v m' ∧ (opClass o.op = 0 → f = .loc [] none) ∧ (opClass o.op = 1 → ∃ ids, f = .loc ids none) := by
  have gen : opClass o.op = 2 → vop P σ m (fun v m' => k (.gen m m') v m') o → ∃ f v m', k f v m' ∧ RunF P o σ m f v m' ∧ (opClass o.op = 0 → f = .loc [] none) ∧ (opClass o.op = 1 → ∃ ids, f = .loc ids none) := by
    intro hc h
    obtain ⟨v, m', h1, h2⟩ := vop_sound h
    exact ⟨_, v, m', h2, .inr ⟨h1, rfl⟩, fun h => by omega, fun h => by omega⟩
  have pure : opClass o.op = 0 → vop P σ m (fun v m' => k (.loc [] none) v m') o → ∃ f v m', k f v m' ∧ RunF P o σ m f v m' ∧ (opClass o.op = 0 → f = .loc [] none) ∧ (opClass o.op = 1 → ∃ ids, f = .loc ids none) := by
    intro hc h
    obtain ⟨u, h1, h2⟩ := pure_det hc h
    exact ⟨_, u, m, h1, .inl ⟨[], none, fun m1 _ => opOK_of_vop (h2 m1), by simp, by simp, rfl, rfl⟩, fun _ => rfl, fun h => by omega⟩
  have look : opClass o.op = 1 → vop P σ m (fun v m' => k (.loc (lookIds σ o.op) none) v m') o → ∃ f v m', k f v m' ∧ RunF P o σ m f v m' ∧ (opClass o.op = 0 → f = .loc [] none) ∧ (opClass o.op = 1 → ∃ ids, f = .loc ids none) := by
    intro hc h
    obtain ⟨u, deps, h1, h2, h3, h4⟩ := look_loc hc h
    exact ⟨_, u, m, h1, .inl ⟨deps, none, h2, h3, by simp, by simp [footOf, h4], rfl⟩, fun h => by omega, fun _ => ⟨_, rfl⟩⟩
  have slot : isAlloc o.op = true → opClass o.op = 2 → vop P σ [] (fun v m' => slotK m s v m' k) o → ∃ f v m', k f v m' ∧ RunF P o σ m f v m' ∧ (opClass o.op = 0 → f = .loc [] none) ∧ (opClass o.op = 1 → ∃ ids, f = .loc ids none) := by
    intro ha hc h
    obtain ⟨ob, kd, x, ⟨h1, h2⟩, h3⟩ := slot_alloc ha h
    rw [moveTo_slotV] at h2
    exact ⟨_, _, _, h2, .inl ⟨[(s, hole)], some (s, ob), h3 s, by simpa using h1, by simp, rfl, rfl⟩, fun h => by omega, fun h => by omega⟩
  unfold stepF at h
  split at h
  · rename_i e; exact slot (by rw [e]; rfl) (by rw [e]; rfl) h
  · rename_i e; exact slot (by rw [e]; rfl) (by rw [e]; rfl) h
  · rename_i e; exact slot (by rw [e]; rfl) (by rw [e]; rfl) h
  · rename_i e; exact slot (by rw [e]; rfl) (by rw [e]; rfl) h
  · rename_i t x y e
    obtain ⟨dst, op, ty, pos, aft, g⟩ := o
    simp only at e
    subst e
    simp only [vop] at h
    obtain ⟨id, ob, ob', h1, h2, h3, h4⟩ := store_loc (dst := dst) (ty := ty) (pos := pos) (aft := aft) (g := g) h
    simp only [h3, List.head?_cons] at h1
    exact ⟨_, _, _, h1, .inl ⟨[(id, ob)], some (id, ob'), h4, by simpa using h2, by simp, rfl, rfl⟩, fun h => by simp [opClass] at h, fun h => by simp [opClass] at h⟩
  · rename_i e; exact look (by rw [e]; rfl) h
  · rename_i e; exact look (by rw [e]; rfl) h
  · rename_i e; exact look (by rw [e]; rfl) h
  · rename_i t d x e
    by_cases hd : cvStr d = true
    · rw [if_pos hd] at h; exact look (by rw [e]; simp [opClass, hd]) h
    · rw [if_neg hd] at h; exact pure (by rw [e]; simp [opClass, hd]) h
  · rename_i c e
    have c2 : (∀ b, c.callee ≠ .builtin b) → opClass o.op = 2 := fun hn => by
      rw [e]
      cases hcal : c.callee with
      | value f => simp [opClass, hcal]
      | invoke r n => simp [opClass, hcal]
      | builtin b => exact absurd hcal (hn b)
    cases hcal : c.callee with
    | value f => simp only [hcal] at h; exact gen (c2 (by simp [hcal])) h
    | invoke r n => simp only [hcal] at h; exact gen (c2 (by simp [hcal])) h
    | builtin b =>
      by_cases hb : b = .append
      · subst hb
        have hc2 : opClass o.op = 2 := by rw [e]; simp [opClass, hcal]
        simp only [hcal] at h
        split at h
        · rename_i x y _ e2
          rcases h with h | h
          · exact gen hc2 h
          · obtain ⟨dst, op, ty, pos, aft, g⟩ := o
            obtain ⟨callee, ⟨args⟩, tys⟩ := c
            simp only at e hcal e2
            subst e hcal e2
            simp only [vop] at h
            split at h
            · rename_i h1 _; injection h1 with _ h1; cases h1
            · rename_i x' y' t t' h1 h2
              obtain ⟨tys⟩ := tys
              simp only [List.cons.injEq, and_true] at h1 h2
              obtain ⟨rfl, rfl⟩ := h1
              subst h2
              obtain ⟨u, deps, wr, h1, h2, h3, h4, h5⟩ := append_loc (dst := dst) (ty := ty) (pos := pos) (aft := aft) (g := g) h
              refine ⟨_, u, _, h1, .inl ⟨deps, some wr, h5, h2, fun p hp => ?_, ?_, rfl⟩, fun h => by simp [opClass] at h, fun h => by simp [opClass] at h⟩
              · injection hp with hp
                subst hp
                have : wr.1 ∈ deps.map (·.1) := by rw [h3]; exact List.mem_of_head? h4
                obtain ⟨q, hq, e⟩ := List.mem_map.1 this
                exact ⟨q.2, by rw [← e]; exact hq⟩
              · simp [footOf, h3, h4]
            all_goals first
              | exact h.elim
              | simp_all
        all_goals first
          | exact gen hc2 h
          | simp_all
      · by_cases hp : b = .len ∨ b = .max ∨ b = .min
        · have hc0 : opClass o.op = 0 := by rw [e]; rcases hp with rfl | rfl | rfl <;> simp [opClass, hcal]
          rcases hp with rfl | rfl | rfl <;> (simp only [hcal] at h; exact pure hc0 h)
        · have hc2 : opClass o.op = 2 := by
            rw [e]
            cases b <;> first | (simp [opClass, hcal]; done) | simp_all
          refine gen hc2 ?_
          cases b <;> simp only [hcal] at h <;> first | exact h | simp_all
  · exact pure h.2 h.1

/-! ### The text's order -/
def chk (obl : List Foot) : List Nat → Foot → Prop
  | [], _ => True
  | i :: is, f => (match obl[i]? with | some g => apartF g f | none => False) ∧ chk obl is f
theorem chk_mem {obl : List Foot} {f : Foot} : ∀ {is : List Nat}, chk obl is f → ∀ i ∈ is, ∀ g, obl[i]? = some g → apartF g f
  | [], _, i, hi => by simp at hi
  | a :: is, h, i, hi => fun g hg => by
    rcases List.mem_cons.1 hi with rfl | hi
    · have := h.1; rw [hg] at this; exact this
    · exact chk_mem h.2 i hi g hg
def nextS (op : Op) (s : Nat) : Nat := if isAlloc op then s + 1 else s
/-- An operation that looks at nothing and turns nothing. -/
def purK (P : Program) (σ : Fr) (o : Oper) (k : Value → Prop) : Prop := ∃ u, (∀ m1 : Mem, vop P σ m1 (fun v m' => v = u ∧ m' = m1) o) ∧ k u
def vopsP (P : Program) (all : List Oper) (b : Nat) : List Bool → List Oper → List (List Nat) → Nat → List Foot → Fr → Mem → (Fr → Mem → Prop) → Prop
  | _, [], _, _, _, σ, m, k => k σ m
  | pu, o :: rest, T, c, obl, σ, m, k => vguard all σ o
      (fun σ => match pu.headD false with
        | true => purK P σ o fun u => chk obl (T.headD []) (.loc [] none) ∧ vopsP P all b pu.tail rest T.tail (nextS o.op c) (obl ++ [.loc [] none]) (updO σ o.dst u) m k
        | false => stepF P σ m (b + c) o fun f v m' => chk obl (T.headD []) f ∧ vopsP P all b pu.tail rest T.tail (nextS o.op c) (obl ++ [f]) (updO σ o.dst v) m' k)
      (fun σ => vopsP P all b pu.tail rest T.tail (nextS o.op c) (obl ++ [.loc [] none]) (updO σ o.dst undef) m k)
def vopsF (P : Program) (all : List Oper) (b : Nat) (l : List Oper) (T : List (List Nat)) (c : Nat) (obl : List Foot) (σ : Fr) (m : Mem) (k : Fr → Mem → Prop) : Prop := vopsP P all b [] l T c obl σ m k

/-- The feet that have been told are those of the operations so far. -/
structure Told (all : Array Oper) (B : List (Nat × Foot)) (obl : List Foot) : Prop where
  mem : ∀ e ∈ B, obl[e.1]? = some e.2
  pure : ∀ (i : Nat) f o, obl[i]? = some f → all[i]? = some o → opClass o.op = 0 → f = .loc [] none
  look : ∀ (i : Nat) f o, obl[i]? = some f → all[i]? = some o → opClass o.op = 1 → ∃ ids, f = .loc ids none

theorem apartF_nil' (f : Foot) : apartF (.loc [] none) f := by
  cases f with
  | loc is w => cases w <;> simp [apartF, offs, apartL]
  | gen m m' => simp [apartF, keepsL]
theorem Told.chkB {all : Array Oper} {B : List (Nat × Foot)} {obl : List Foot} (h : Told all B obl) {o : Oper} {f : Foot} (ho : all[obl.length]? = some o) (h0 : opClass o.op = 0 → f = .loc [] none) (h1 : opClass o.op = 1 → ∃ ids, f = .loc ids none)
    (hc : chk obl ((clashes all.toList).getD obl.length []) f) : chkB (masks all.toList) B obl.length f := by
  intro e he u1 u2
  have hob := h.mem e he
  have hlt : e.1 < obl.length := (List.getElem?_eq_some_iff.1 hob).1
  have hol : obl.length < all.toList.length := by simpa using (Array.getElem?_eq_some_iff.1 ho).1
  obtain ⟨oe, hoe⟩ : ∃ oe, all[e.1]? = some oe := ⟨_, Array.getElem?_eq_getElem (by simp at hol; omega)⟩
  have c3 : ∀ op : Op, opClass op ≤ 2 := fun op => by unfold opClass; split <;> first | decide | (split <;> decide)
  by_cases a0 : opClass oe.op = 0
  · rw [h.pure _ _ _ hob hoe a0]; exact apartF_nil' _
  by_cases b0 : opClass o.op = 0
  · rw [h0 b0]; exact apartF_nil _
  by_cases ab : opClass oe.op = 2 ∨ opClass o.op = 2
  · refine chk_mem hc e.1 ?_ _ hob
    have : (clashes all.toList).getD obl.length [] = clash (masks all.toList) all.toList obl.length := by
      simp only [clashes, List.getD_eq_getElem?_getD, List.getElem?_map, List.getElem?_range hol, Option.map_some, Option.getD_some]
    rw [this]
    refine List.mem_filter.2 ⟨List.mem_range.2 hlt, ?_⟩
    simp only [Array.getElem?_toList, hoe, ho, u1, Bool.not_false, Bool.true_and, Bool.and_eq_true, bne_iff_ne, ne_eq, a0, b0, not_false_eq_true, true_and, Bool.or_eq_true, beq_iff_eq]
    exact ab
  · have k1 := c3 oe.op
    have k2 := c3 o.op
    obtain ⟨is, e1⟩ := h.look _ _ _ hob hoe (by omega)
    obtain ⟨js, e2⟩ := h1 (by omega)
    rw [e1, e2]
    exact ⟨trivial, trivial⟩

theorem anyF_leads {all : Array Oper} {b : Nat} {Q : Fr → Mem → Prop} : ∀ (pu : List Bool) (l : List Oper) (s : Nat) (obl : List Foot) (B : List (Nat × Foot)) (listed : Array Bool) (σ : Fr) (m : Mem), (∀ j, l[j]? = all[obl.length + j]?) → closed all listed →
    Region.lexFrom .any all l.length obl.length listed = true → Told all B obl → vopsP P all.toList b pu l ((clashes all.toList).drop obl.length) s obl σ m Q →
    ∃ σ' m', Q σ' m' ∧ anyF P all B (fun σ1 m1 => σ1 = σ' ∧ m1 = m') l.length listed σ m
  | _, [], s, obl, B, listed, σ, m, _, _, hB, _, h => ⟨σ, m, h, by simpa [Region.lexFrom] using hB, rfl, rfl⟩
  | pu, o :: l, s, obl, B, listed, σ, m, hl, hcl, hB, ht, h => by
    have h0 : all[obl.length]? = some o := by simpa using (hl 0).symm
    simp only [List.length_cons, Region.lexFrom, Bool.and_eq_true] at hB
    obtain ⟨⟨hr, hf⟩, hB'⟩ := hB
    have hr' : obl.length ∈ Region.ready .any all listed := by simpa using hr
    have hl' : ∀ (f : Foot) j, l[j]? = all[(obl ++ [f]).length + j]? := fun f j => by have := hl (j + 1); simpa [Nat.add_assoc, Nat.add_comm 1 j] using this
    have told : ∀ f, (opClass o.op = 0 → f = .loc [] none) → (opClass o.op = 1 → ∃ ids, f = .loc ids none) → Told all ((obl.length, f) :: B) (obl ++ [f]) := by
      intro f c0 c1
      refine ⟨fun e he => ?_, fun i g og hi hog hc => ?_, fun i g og hi hog hc => ?_⟩
      · rcases List.mem_cons.1 he with rfl | he
        · simp
        · have := ht.mem e he
          rw [List.getElem?_append_left (List.getElem?_eq_some_iff.1 this).1]; exact this
      · rcases get_snoc hi with ⟨rfl, rfl⟩ | ⟨_, hi⟩
        · rw [h0] at hog; injection hog with hog; subst hog; exact c0 hc
        · exact ht.pure i g og hi hog hc
      · rcases get_snoc hi with ⟨rfl, rfl⟩ | ⟨_, hi⟩
        · rw [h0] at hog; injection hog with hog; subst hog; exact c1 hc
        · exact ht.look i g og hi hog hc
    have fin : ∀ f v m1, YF P all o σ m f v m1 → (opClass o.op = 0 → f = .loc [] none) → (opClass o.op = 1 → ∃ ids, f = .loc ids none) → chkB (masks all.toList) B obl.length f → vopsP P all.toList b pu.tail l ((clashes all.toList).drop obl.length).tail (nextS o.op s) (obl ++ [f]) (updO σ o.dst v) m1 Q →
        ∃ σ' m', Q σ' m' ∧ anyF P all B (fun σ1 m1 => σ1 = σ' ∧ m1 = m') (l.length + 1) listed σ m := by
      intro f v m1 hy c0 c1 hch hK
      obtain ⟨σ', m', h1, h2⟩ := anyF_leads pu.tail l _ (obl ++ [f]) ((obl.length, f) :: B) _ _ _ (hl' f) (closed_set hcl hr') (by simpa using hB') (told f c0 c1) (by rw [List.length_append, List.length_singleton, ← List.tail_drop]; exact hK)
      exact ⟨σ', m', h1, firstF h0 hch l.length listed σ m v m1 hcl (Region.free_spec h0 hf) hr' hy h2⟩
    simp only [vopsP] at h
    rcases wantA_of_guard h with ⟨hw, hrun⟩ | ⟨hw, hskip⟩
    · split at hrun
      · obtain ⟨u, hu, hk1, hk2⟩ := hrun
        refine fin (.loc [] none) u m (.inl ⟨hw, .inl ⟨[], none, fun m1 _ => opOK_of_vop (hu m1), by simp, by simp, rfl, rfl⟩⟩) (fun _ => rfl) (fun _ => ⟨[], rfl⟩) (fun e he _ _ => apartF_nil _) hk2
      · obtain ⟨f, v, m1, ⟨hk1, hk2⟩, hrun, c0, c1⟩ := stepF_run hrun
        exact fin f v m1 (.inl ⟨hw, hrun⟩) c0 c1 (ht.chkB h0 c0 c1 (by simpa [List.headD_eq_head?_getD, List.getD_eq_getElem?_getD] using hk1)) hk2
    · exact fin (.loc [] none) undef m (.inr ⟨hw, rfl, rfl, rfl⟩) (fun _ => rfl) (fun _ => ⟨[], rfl⟩) (fun e he _ _ => apartF_nil _) hskip

/-- The condition of such a region. -/
def RegF0 (P : Program) (l : List Oper) (kk : Fr → Mem → Prop) (σ : Fr) (m : Mem) : Prop := ∃ T n pu, clashes l = T ∧ allocs l = n ∧ vopsP P l m.length pu l T 0 [] σ (m ++ List.replicate n hole) kk

theorem drawF_leads {id : Nat} {l : List Oper} {N : Nat} {kk : Fr → Mem → Prop} {σ : Fr} {m : Mem}
    (hm : P.follows .mixedOrders = true) (hB : Region.lexB .any l.toArray = true) (hN : ∀ o ∈ l.toArray, ∀ d, o.dst = some d → d < N) (h : RegF0 P l kk σ m) :
    ∃ σ' m', kk σ' m' ∧ ∀ (Q : Exit → Act → World → Prop) (W0 : World) (ρ0 : List (Option Row)), (∀ ρ a w, Ext ρ0 ρ → Rel W0 ρ m' w → FRel ρ N a σ' → Q .normal a w) →
      ∀ (ρ : List (Option Row)) (a : Act) (w : World), Ext ρ0 ρ → Rel W0 ρ m w → FRel ρ N a σ → (Code.region id l.toArray true).wp P Q a w := by
  obtain ⟨T, n, pu, rfl, rfl, h⟩ := h
  simp only [Region.lexB, Bool.and_eq_true] at hB
  have hcl : closed l.toArray (Array.replicate l.toArray.size false) := by
    intro j oj _ hlj
    exfalso
    rcases Nat.lt_or_ge j l.length with h' | h' <;> simp [h'] at hlj
  obtain ⟨σ', m', h1, h2⟩ := anyF_leads (P := P) (all := l.toArray) (Q := kk) pu l 0 [] [] (Array.replicate l.toArray.size false) σ _ (by simp) hcl (by simpa using hB.2) ⟨by simp, by simp, by simp⟩ (by simpa using h)
  refine ⟨σ', m', h1, fun Q W0 ρ0 hQ ρ a w hp hr hf => wp_region_any hm ?_⟩
  have h3 := wpAny_of_anyF (N := N) (Q := Q) (W0 := W0) (ρ0 := ρ0) hN (kk := fun σ1 m1 => σ1 = σ' ∧ m1 = m') (fun ρ σ1 m1 a w hp hr hf ⟨e1, e2⟩ => by subst e1; subst e2; exact hQ ρ a w hp hr hf) _ _ σ _ _ a { w with drawn := w.drawn + 1 } h2 (hp.trans (Ext.app _ (List.replicate (allocs l) none))) (hr.drew'.holes _) (hf.mono (Ext.app _ _))
  simpa using h3
end Go.Abs
