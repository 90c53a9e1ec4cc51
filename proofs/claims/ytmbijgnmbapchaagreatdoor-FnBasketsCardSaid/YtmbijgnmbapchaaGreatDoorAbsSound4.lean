/-
  Abs, part 7: 'vop' is sound: slices, literals, closures, min and max, append. Conditions: none; generic in the program.
-/
import Derived.Test.YtmbijgnmbapchaaGreatDoorAbsSound3
set_option linter.unusedSimpArgs false
set_option linter.unusedVariables false
set_option linter.unusedSectionVars false
namespace Go.Abs
open Go.RowKit

variable {P : Program} {σ : Fr} {m : Mem} {k : Value → Mem → Prop}

theorem vbound_spec {x : Option Operand} {d : Nat} {kk : Nat → Prop} (h : vbound σ x d kk) : ∃ n : Nat, kk n ∧ ((x = none ∧ n = d) ∨ ∃ y ki, x = some y ∧ ev σ y = some (.int ki (n : Int))) := by
  unfold vbound at h
  split at h
  · exact ⟨d, h, .inl ⟨rfl, rfl⟩⟩
  · rename_i y
    split at h
    · rename_i ki i hy
      refine ⟨i.toNat, h.2, .inr ⟨y, ki, rfl, ?_⟩⟩
      rw [Int.toNat_of_nonneg h.1]; exact hy
    · exact h.elim

theorem run_sliceBound {kk : IntKind} {n y : Nat} {code : BoundsCode} (h : n ≤ y) (w : World) : (Instr.sliceBound (.int kk (n : Int)) y code).run P w = .ok n w := by
  have : (0 : Int) ≤ n ∧ (n : Int) ≤ y := by omega
  simp [Instr.sliceBound, asIntOf, this]

theorem run_sliceBounds {ρ : List (Option Row)} {a : Act} {s : Bool} {len cap : Nat} {lo hi : Option Operand} {l h : Nat} (ho : Ops ρ a σ (lo.toList ++ hi.toList))
    (hhi : (hi = none ∧ h = len) ∨ ∃ y ki, hi = some y ∧ ev σ y = some (.int ki (h : Int))) (hlo : (lo = none ∧ l = 0) ∨ ∃ y ki, lo = some y ∧ ev σ y = some (.int ki (l : Int)))
    (hlh : l ≤ h) (hc : h ≤ cap) (w : World) : (Instr.sliceBounds s len cap (lo.map a.eval) (hi.map a.eval) none).run P w = .ok (l, h, cap) w := by
  rcases hhi with ⟨rfl, rfl⟩ | ⟨y, ki, rfl, hy⟩ <;> rcases hlo with ⟨rfl, rfl⟩ | ⟨z, kj, rfl, hz⟩
  · simp [Instr.sliceBounds]
  · have ez := conc3_int (ho z (by simp) _ hz)
    simp only [Instr.sliceBounds, Option.map_some, Option.map_none, Sem.run_bind, Sem.run_pure, Result.andThen_ok, ez, run_sliceBound hlh]
  · have ey := conc3_int (ho y (by simp) _ hy)
    simp only [Instr.sliceBounds, Option.map_some, Option.map_none, Sem.run_bind, Sem.run_pure, Result.andThen_ok, ey, run_sliceBound hc]
  · have ez := conc3_int (ho z (by simp) _ hz)
    have ey := conc3_int (ho y (by simp) _ hy)
    simp only [Instr.sliceBounds, Option.map_some, Sem.run_bind, Sem.run_pure, Result.andThen_ok, ey, ez, run_sliceBound hc, run_sliceBound hlh]

theorem good_slice {dst : Option Nat} {t : TypeId} {x : Operand} {lo hi mx : Option Operand} {ty : TypeId} {pos : String} {aft : Array Edge} {g : Option (Nat × Bool)}
    (h : vslice P σ m k t x lo hi mx) : Good P σ m ⟨dst, .slice t x lo hi mx, ty, pos, aft, g⟩ k := by
  unfold vslice at h
  obtain ⟨hmx, h⟩ := h
  have hmx' : mx = none := by simpa using hmx
  subst hmx'
  have hops : ∀ {ρ : List (Option Row)} {a : Act}, Ops ρ a σ (Op.slice t x lo hi none).operands.toList → Ops ρ a σ (lo.toList ++ hi.toList) := by
    intro ρ a ho y hy
    refine ho y ?_
    cases lo <;> cases hi <;> simp_all [Op.operands]
  have hx0 : ∀ {ρ : List (Option Row)} {a : Act}, Ops ρ a σ (Op.slice t x lo hi none).operands.toList → ∀ u, ev σ x = some u → conc3 ρ u (a.eval x) := by
    intro ρ a ho
    exact ho x (by simp [Op.operands])
  split at h
  · rename_i a0 n c hx
    split at h
    · rename_i e he
      split at h
      · rename_i sz by_ z hi'
        obtain ⟨hs, o, hm, hk, hsz, h⟩ := h
        obtain ⟨hh, ⟨hhn, h⟩, hhi⟩ := vbound_spec h
        obtain ⟨l, ⟨hlh, h1, h2⟩, hlo⟩ := vbound_spec h
        have hrun : ∀ (w : World) (a : Act) (b : Addr) (cap : Nat) (ρ : List (Option Row)), Ops ρ a σ (lo.toList ++ hi.toList) → a.eval x = .slice (some b) n cap → n ≤ cap → (execOp a.eval ⟨dst, .slice t x lo hi none, ty, pos, aft, g⟩).run P w =
            .ok (.value (.slice (if cap = l then some b else some (b.add (l * sz))) (hh - l) (cap - l))) w := by
          intro w a b cap ρ ho ex hcap
          have hb := run_sliceBounds (P := P) (s := true) (len := n) (cap := cap) ho hhi hlo hlh (by omega) w
          simp only [execOp, ex, Option.map_none, Instr.sliceAt, Instr.slice, Sem.run_bind, run_underlying (slElem_spec he), Result.andThen_ok, hb, run_sizeOf hi', Sem.run_pure, Option.map_some]
        by_cases hc : l = 0 ∨ l < hh
        · refine ⟨_, m, OpOK.same fun W0 ρ w a hr ho => ?_, h1 hc⟩
          obtain ⟨_, ⟨_, r, hrr, hle, ex⟩ | ⟨hsp, _⟩⟩ := hx0 ho _ hx
          · have hrsz := (hr.obj _ o r hm hrr).sz hk
            refine ⟨_, ?_, hrun w a _ _ ρ (hops ho) ex (by omega)⟩
            refine ⟨rfl, .inl ⟨rfl, r, hrr, ?_, ?_⟩⟩
            · simp only; omega
            · have e1 : r.base + a0.off * r.sz + l * sz = r.base + (a0.off + l) * r.sz := by rw [hrsz, hsz, Nat.add_mul]; omega
              have e2 : r.cap - a0.off - l = r.cap - (a0.off + l) := by omega
              rcases hc with rfl | hc
              · simp [Addr.add_lit]
              · have : r.cap - a0.off ≠ l := by omega
                simp only [this, if_false, Addr.add_lit, e1, e2]
          · rw [hs] at hsp; cases hsp
        · refine ⟨_, m, OpOK.same fun W0 ρ w a hr ho => ?_, h2 hc⟩
          obtain ⟨_, ⟨_, r, hrr, hle, ex⟩ | ⟨hsp, _⟩⟩ := hx0 ho _ hx
          · refine ⟨_, ?_, hrun w a _ _ ρ (hops ho) ex (by omega)⟩
            have e0 : hh - l = 0 := by omega
            refine ⟨rfl, .inr ⟨rfl, rfl, ?_⟩⟩
            rw [e0]
            split
            · exact ⟨_, _, rfl⟩
            · exact ⟨_, _, rfl⟩
          · rw [hs] at hsp; cases hsp
      · exact h.elim
    · exact h.elim
  · rename_i n c hx
    obtain ⟨he', h⟩ := h
    obtain ⟨e, he, hi'⟩ : ∃ e, slElem P t = some e ∧ (tinf P e).isSome = true := by
      cases he : slElem P t with
      | none => simp [he] at he'
      | some e => exact ⟨e, rfl, by simpa [he] using he'⟩
    obtain ⟨⟨sz, by_, z⟩, hi'⟩ := Option.isSome_iff_exists.1 hi'
    obtain ⟨hh, ⟨rfl, h⟩, hhi⟩ := vbound_spec h
    obtain ⟨l, ⟨rfl, h1⟩, hlo⟩ := vbound_spec h
    refine ⟨.slice none 0 0, m, OpOK.same fun W0 ρ w a hr ho => ⟨.slice none 0 0, ⟨rfl, rfl, rfl⟩, ?_⟩, h1⟩
    obtain ⟨_, _, ex⟩ := hx0 ho _ hx
    have hb := run_sliceBounds (P := P) (s := true) (len := 0) (cap := 0) (hops ho) hhi hlo (Nat.le_refl 0) (Nat.le_refl 0) w
    simp only [execOp, ex, Option.map_none, Instr.sliceAt, Instr.slice, Sem.run_bind, run_underlying (slElem_spec he), Result.andThen_ok, hb, run_sizeOf hi', Sem.run_pure, Option.map_none, if_true, Nat.sub_self]
  · rename_i s hx
    obtain ⟨hu, h⟩ := h
    obtain ⟨hh, ⟨hhn, h⟩, hhi⟩ := vbound_spec h
    obtain ⟨l, ⟨hlh, h1⟩, hlo⟩ := vbound_spec h
    refine ⟨.string (s.extract l hh), m, OpOK.same fun W0 ρ w a hr ho => ⟨.string (s.extract l hh), rfl, ?_⟩, h1⟩
    have ex := conc3_str (hx0 ho _ hx)
    have hb := run_sliceBounds (P := P) (s := false) (len := s.size) (cap := s.size) (hops ho) hhi hlo hlh hhn w
    simp only [execOp, ex, Option.map_none, Instr.sliceAt, Instr.slice, Sem.run_bind, run_underlying hu, Result.andThen_ok, hb, Sem.run_pure, Option.isSome_none, Bool.false_eq_true, if_false]
  · exact h.elim

theorem splice_rel {R : Value → Value → Prop} : ∀ {vs ws xs ys : List Value} (off : Nat), All2 R xs ys → All2 R vs ws → All2 R (splice xs off vs) (splice ys off ws)
  | [], [], _, _, _, h, _ => h
  | v :: vs, w :: ws, xs, ys, off, h, hv => by
    simp only [splice]
    exact splice_rel (off + 1) (set_rel off h hv.1) hv.2
  | [], _ :: _, _, _, _, _, h => h.elim
  | _ :: _, [], _, _, _, _, h => h.elim
where
  set_rel {R : Value → Value → Prop} {v w : Value} : ∀ {xs ys : List Value} (off : Nat), All2 R xs ys → R v w → All2 R (xs.set off v) (ys.set off w)
  | [], [], _, _, _ => trivial
  | x :: xs, y :: ys, 0, h, hv => ⟨hv, h.2⟩
  | x :: xs, y :: ys, n + 1, h, hv => ⟨h.1, set_rel n h.2 hv⟩
  | [], _ :: _, _, h, _ => h.elim
  | _ :: _, [], _, h, _ => h.elim

theorem splice_length : ∀ (vs xs : List Value) (off : Nat), (splice xs off vs).length = xs.length
  | [], _, _ => rfl
  | v :: vs, xs, off => by simp [splice, splice_length vs]

theorem foldl_splice (off : Nat) : ∀ (l : List Value) (n : Nat) (cs : Array Value), ((l.zipIdx n).foldl (fun cs (p : Value × Nat) => cs.setIfInBounds (off + p.2) p.1) cs).toList = splice cs.toList (off + n) l
  | [], n, cs => by simp [splice]
  | v :: l, n, cs => by
    simp only [List.zipIdx_cons, List.foldl_cons, splice]
    rw [foldl_splice off l (n + 1) (cs.setIfInBounds (off + n) v)]
    simp [Nat.add_assoc]

/-- Parts, related. -/
def PRel (ρ : List (Option Row)) : List (Nat × Value) → List (Nat × Value) → Prop
  | [], [] => True
  | (i, v) :: ps, (j, w) :: qs => i = j ∧ conc3 ρ v w ∧ noTup v = true ∧ PRel ρ ps qs
  | _, _ => False

theorem fill_rel {ρ : List (Option Row)} {place : Nat → Option (Nat × Nat)} : ∀ {ps qs : List (Nat × Value)} {xs : List Value} {ys : Array Value} {r : List Value}, PRel ρ ps qs → All2 (conc1 ρ) xs ys.toList → afill place xs ps = some r →
    ∃ r', Instr.fill place ys qs = some r' ∧ All2 (conc1 ρ) r r'.toList
  | [], [], xs, ys, r, _, hx, h => by simp only [afill, Option.some.injEq] at h; subst h; exact ⟨ys, rfl, hx⟩
  | (i, v) :: ps, (j, w) :: qs, xs, ys, r, hp, hx, h => by
    obtain ⟨rfl, hc, ht, hp'⟩ := hp
    simp only [afill] at h
    split at h
    · cases h
    · rename_i off size hpl
      split at h
      · rename_i hcond
        obtain ⟨hcells, _⟩ := conc1_cells hc (by intro vs e; subst e; simp [noTup] at ht)
        have hl1 := hcells.length
        have hl2 := hx.length
        have hrel : All2 (conc1 ρ) (splice xs off v.cells.toList) (w.cells.zipIdx.foldl (fun cs (p : Value × Nat) => cs.setIfInBounds (off + p.2) p.1) ys).toList := by
          rw [← Array.foldl_toList, Array.toList_zipIdx]
          have := foldl_splice off w.cells.toList 0 ys
          rw [this]
          exact splice_rel off hx hcells
        obtain ⟨r', h1, h2⟩ := fill_rel hp' hrel h
        refine ⟨r', ?_, h2⟩
        have c1 : ¬ (w.cells.size ≠ size) := by
          have : v.cells.size = w.cells.size := by simpa using hl1
          have := hcond.1
          omega
        have c2 : ¬ (ys.size < off + w.cells.size) := by
          have e1 : v.cells.size = w.cells.size := by simpa using hl1
          have e2 : xs.length = ys.size := by simpa using hl2
          have := hcond.2
          omega
        have c3 : ¬ ((w.cells.size ≠ size) ∨ (ys.size < off + w.cells.size)) := by omega
        simp only [Instr.fill, hpl]
        rw [if_neg (by simpa using c3)]
        exact h1
      · cases h
  | [], _ :: _, _, _, _, h, _, _ => h.elim
  | _ :: _, [], _, _, _, h, _, _ => h.elim

theorem evparts_rel {ρ : List (Option Row)} {a : Act} : ∀ {parts : List (Nat × Operand)} {ps : List (Nat × Value)}, Ops ρ a σ (parts.map (·.2)) → evparts σ parts = some ps → PRel ρ ps (parts.map fun p => (p.1, a.eval p.2))
  | [], ps, _, h => by simp only [evparts, Option.some.injEq] at h; subst h; trivial
  | (i, x) :: parts, ps, ho, h => by
    simp only [evparts] at h
    split at h
    · rename_i v vs hv hvs
      split at h
      · rename_i ht
        injection h with h
        subst h
        exact ⟨rfl, ho x (by simp) v hv, ht, evparts_rel (fun y hy => ho y (by simp only [List.map_cons, List.mem_cons]; exact .inr hy)) hvs⟩
      · cases h
    · cases h

theorem lits_rel {ρ : List (Option Row)} {xs : List Value} (h : ∀ x ∈ xs, litB x = true) : All2 (conc1 ρ) xs xs := by
  refine All2.of_get rfl fun i x y hx hy => ?_
  rw [hx] at hy; injection hy with hy; subst hy
  have hb := h x (List.mem_of_getElem? hx)
  unfold litB at hb
  split at hb <;> simp_all [conc1, conc0]

theorem fill_mono {place place' : Nat → Option (Nat × Nat)} (hp : ∀ j q, place j = some q → place' j = some q) : ∀ {ps : List (Nat × Value)} {ys r : Array Value}, Instr.fill place ys ps = some r → Instr.fill place' ys ps = some r
  | [], _, _, h => h
  | (j, v) :: ps, ys, r, h => by
    simp only [Instr.fill] at h ⊢
    cases hq : place j with
    | none => rw [hq] at h; cases h
    | some q =>
      obtain ⟨off, size⟩ := q
      rw [hq] at h
      rw [hp j _ hq]
      simp only at h ⊢
      split at h
      · cases h
      · rename_i hc
        rw [if_neg hc]
        exact fill_mono hp h
theorem good_build {dst : Option Nat} {t : TypeId} {parts : Array (Nat × Operand)} {ty : TypeId} {pos : String} {aft : Array Edge} {g : Option (Nat × Bool)}
    (h : vbuild P σ m k t parts.toList) : Good P σ m ⟨dst, .build t parts, ty, pos, aft, g⟩ k := by
  unfold vbuild at h
  split at h
  · rename_i pl sz by_ z ps hpl hi hps
    obtain ⟨hlit, cs, hfill, h⟩ := h
    refine ⟨_, m, OpOK.same fun W0 ρ w a hr ho => ?_, h⟩
    have hp := evparts_rel (ρ := ρ) (a := a) (fun x hx => ho x (by simpa [Op.operands] using hx)) hps
    obtain ⟨r', h1, h2⟩ := fill_rel (ys := z.cells) hp (lits_rel fun x hx => List.all_eq_true.1 hlit x hx) hfill
    refine ⟨.agg r', ⟨r', rfl, by simpa using h2⟩, ?_⟩
    unfold placesOf at hpl
    split at hpl
    · rename_i fs hu
      obtain ⟨it, hit, _, _, hz⟩ := tinf_spec hi
      have hparts : (parts.map fun (i, x) => (i, a.eval x)).toList = parts.toList.map fun p => (p.1, a.eval p.2) := by simp
      have hb : P.built t (parts.map fun (i, x) => (i, a.eval x)).toList = some r' := by
        rw [hparts]
        unfold Program.built
        simp only [hit, hu, hz, hpl]
        have : (fun i : Nat => pl.toArray[i]?) = (fun i : Nat => pl[i]?) := by funext i; simp
        rw [this]; exact h1
      simp only [execOp, Sem.run_bind, run_build w t _ r' hb, Result.andThen_ok, Sem.run_pure]
    · rename_i n e hu
      obtain ⟨it, hit, _, _, hz⟩ := tinf_spec hi
      have hparts : (parts.map fun (i, x) => (i, a.eval x)).toList = parts.toList.map fun p => (p.1, a.eval p.2) := by simp
      have hb : P.built t (parts.map fun (i, x) => (i, a.eval x)).toList = some r' := by
        rw [hparts]
        unfold Program.built
        cases hie : P.info? e with
        | none => rw [hie] at hpl; cases hpl
        | some ie =>
          rw [hie] at hpl
          simp only [Option.map_some, Option.some.injEq] at hpl
          simp only [hit, hu, hz, hie]
          refine fill_mono (fun j q hq => ?_) h1
          rw [← hpl, List.getElem?_map] at hq
          by_cases hjn : j < n
          · rw [List.getElem?_range hjn] at hq
            simpa using hq
          · rw [List.getElem?_eq_none (by simpa using Nat.le_of_not_lt hjn)] at hq
            cases hq
      simp only [execOp, Sem.run_bind, run_build w t _ r' hb, Result.andThen_ok, Sem.run_pure]
    · cases hpl
  · exact h.elim

theorem good_buildSlice {dst : Option Nat} {t : TypeId} {n : Nat} {parts : Array (Nat × Operand)} {ty : TypeId} {pos : String} {aft : Array Edge} {g : Option (Nat × Bool)}
    (h : vbuildSlice P σ m k t n parts.toList) : Good P σ m ⟨dst, .buildSlice t n parts, ty, pos, aft, g⟩ k := by
  unfold vbuildSlice at h
  split at h
  · rename_i e ps he hps
    split at h
    · rename_i sz by_ z hi
      obtain ⟨hsz, hzs, hlit, hsmall, cs, hfill, h⟩ := h
      refine ⟨_, _, OpOK.step fun W0 ρ w a hr ho => ?_, h⟩
      have hp := evparts_rel (ρ := ρ) (a := a) (fun x hx => ho x (by simpa [Op.operands] using hx)) hps
      have hlits : ∀ x ∈ (madeCells z.cells (n * sz)).toList, litB x = true := by
        intro x hmem
        simp only [madeCells, Array.toList_map, List.mem_map] at hmem
        obtain ⟨j, _, rfl⟩ := hmem
        have hj : j % z.cells.size < z.cells.size := Nat.mod_lt _ (by omega)
        exact List.all_eq_true.1 hlit (z.cells[j % z.cells.size]!) (by rw [getElem!_pos z.cells _ hj]; simp)
      obtain ⟨r', h1, h2⟩ := fill_rel (ys := madeCells z.cells (n * sz)) hp (lits_rel hlits) hfill
      have hlen : cs.length = n * sz := by
        have : ∀ (ps : List (Nat × Value)) (xs r : List Value), afill (fun i => some (i * sz, sz)) xs ps = some r → r.length = xs.length := by
          intro ps
          induction ps with
          | nil => intro xs r h; simp only [afill, Option.some.injEq] at h; subst h; rfl
          | cons p ps ih =>
            intro xs r h
            obtain ⟨i, v⟩ := p
            simp only [afill] at h
            split at h
            · rw [ih _ _ h, splice_length]
            · cases h
        rw [this _ _ _ hfill]; simp [madeCells]
      have hal := hr.alloc e sz n h2 hlen (by
        have : n ≤ n * sz := Nat.le_mul_of_pos_right _ hsz
        unfold maxLen; omega)
      refine ⟨_, _, .slice (some ⟨w.heap.size, 0, none⟩) n n, Ext.app _ _, hal, ⟨rfl, .inl ⟨rfl, ⟨w.heap.size, 0, sz, n⟩, ?_, by simp, by simp⟩⟩, .inl ?_⟩
      · rw [List.getElem?_append_right (by rw [hr.len]; exact Nat.le_refl _)]; simp [hr.len]
      · have hparts : (parts.map fun (i, x) => (i, a.eval x)).toList = parts.toList.map fun p => (p.1, a.eval p.2) := by simp
        have hbig : ¬ (n * sz > 2 ^ 24) := by omega
        have hnew : ∀ (w : World) (c : Array Value), (newRow e c).run P w = .ok ⟨w.heap.size, 0, none⟩ (w.alloc (.cells c e)) := by
          intro w c; simp only [newRow, newObj, Sem.run_bind]; rfl
        by_cases h0 : n * sz = 0
        · have hmade : (Array.range 0).map (fun x => (#[] : Array Value)[x % (#[] : Array Value).size]!) = madeCells z.cells (n * sz) := by simp [h0, madeCells]
          rw [← hmade, ← hparts] at h1
          simp only [execOp, Instr.buildSlice, Sem.run_bind, run_underlying (slElem_spec he), Result.andThen_ok, run_sizeOf hi, h0, Sem.run_ite, gt_iff_lt, Nat.not_lt_zero, if_false, if_true, Sem.run_pure, h1, hnew, Array.toArray_toList]
        · have hmade : (Array.range (n * sz)).map (fun x => z.cells[x % z.cells.size]!) = madeCells z.cells (n * sz) := rfl
          rw [← hmade, ← hparts] at h1
          simp only [execOp, Instr.buildSlice, Sem.run_bind, run_underlying (slElem_spec he), Result.andThen_ok, run_sizeOf hi, h0, Sem.run_ite, hbig, if_false, run_zeroValue hi, Sem.run_pure, h1, hnew, Array.toArray_toList]
    · exact h.elim
  · exact h.elim

theorem concA_of_cap {ρ : List (Option Row)} {v v' : Value} (hb : capB v = true) (h : conc3 ρ v v') : concA ρ v v' := by
  unfold capB at hb
  split at hb
  · rename_i fn fs cs
    obtain ⟨h1, c, h2, h3⟩ : fs = #[] ∧ ∃ caps', v' = .func fn #[] caps' ∧ All2 (concA ρ) cs.toList caps'.toList := h
    simp only [Bool.and_eq_true, List.all_eq_true] at hb
    refine ⟨h1, c, h2, All2.of_get h3.length fun i x y hx hy => ?_⟩
    obtain ⟨y', hy', hR⟩ := h3.get i x hx
    rw [hy] at hy'; injection hy' with hy'; subst hy'
    have := hb.2 x (List.mem_of_getElem? hx)
    unfold concA at hR
    split at hR
    · simp at this
    · exact hR
  · cases hb
  · cases hb
  · rename_i n1 n2 n3
    unfold conc3 at h
    split at h
    · exact absurd rfl (n3 _)
    · unfold conc2 at h
      split at h
      · exact absurd rfl (n2 _)
      · unfold conc1 at h
        split at h
        · exact absurd rfl (n1 _ _ _)
        · unfold concA
          split
          · exact absurd rfl (n1 _ _ _)
          · exact h

theorem good_makeFunc {dst : Option Nat} {fn : Fn} {first caps : Array Operand} {ty : TypeId} {pos : String} {aft : Array Edge} {g : Option (Nat × Bool)}
    (h : vmakeFunc σ m k fn first.toList caps.toList) : Good P σ m ⟨dst, .makeFunc fn first caps, ty, pos, aft, g⟩ k := by
  unfold vmakeFunc at h
  split at h
  · rename_i f cs hf hcs
    obtain ⟨hall, h⟩ := h
    have hfirst : first = #[] := by
      obtain ⟨first⟩ := first
      simp at hf
      rw [hf]
    subst hfirst
    refine ⟨_, m, OpOK.same fun W0 ρ w a hr ho => ?_, h⟩
    have hargs := Ops.args (a := a) (ρ := ρ) (fun x hx => ho x (by simp [Op.operands]; simpa using hx)) hcs
    refine ⟨.func (.func f) #[] (caps.map a.eval), ⟨rfl, caps.map a.eval, rfl, ?_⟩, ?_⟩
    · rw [Array.toList_map]
      refine All2.of_get hargs.length fun i x y hx hy => ?_
      obtain ⟨y', hy', hR⟩ := hargs.get i x hx
      rw [hy] at hy'; injection hy' with hy'; subst hy'
      exact concA_of_cap (List.all_eq_true.1 hall x (List.mem_of_getElem? hx)) hR
    · simp [execOp, Instr.makeFunc]
  · exact h.elim

theorem good_index {dst : Option Nat} {t : TypeId} {x y : Operand} {ty : TypeId} {pos : String} {aft : Array Edge} {g : Option (Nat × Bool)}
    (h : vindex P σ m k t x y) : Good P σ m ⟨dst, .index t x y, ty, pos, aft, g⟩ k := by
  unfold vindex at h
  split at h
  · rename_i s kk i hx hy
    obtain ⟨hu, hi, b, hb, h⟩ := h
    refine ⟨.int .u8 b.toNat, m, OpOK.same fun W0 ρ w a hr ho => ⟨.int .u8 b.toNat, rfl, ?_⟩, h⟩
    have ex := conc3_str (ho x (by simp [Op.operands]) _ hx)
    have ey := conc3_int (ho y (by simp [Op.operands]) _ hy)
    have hlt : i.toNat < s.data.toList.length := (List.getElem?_eq_some_iff.1 hb).1
    have hlt' : i.toNat < s.size := by simpa using hlt
    have hb' : s[i.toNat]? = some b := by
      have : s[i.toNat]'hlt' = b := by
        have h2 := (List.getElem?_eq_some_iff.1 hb).2
        rw [← h2]; rfl
      rw [getElem?_pos s i.toNat hlt', this]
    simp only [execOp, Instr.index, ex, ey, asIntOf, Sem.run_bind, Sem.run_pure, Result.andThen_ok, run_underlying hu, hi, if_true, hb']
  · exact h.elim

theorem good_max {dst : Option Nat} {x y : Operand} {tys : Array TypeId} {ty : TypeId} {pos : String} {aft : Array Edge} {g : Option (Nat × Bool)}
    (h : vmax σ m k x y) : Good P σ m ⟨dst, .call ⟨.builtin .max, #[x, y], tys⟩, ty, pos, aft, g⟩ k := by
  unfold vmax at h
  split at h
  · rename_i ka i kb j hx hy
    obtain ⟨rfl, h⟩ := h
    refine ⟨.int ka (max i j), m, OpOK.same fun W0 ρ w a hr ho => ⟨.int ka (max i j), rfl, ?_⟩, h⟩
    have ex := conc3_int (ho x (by simp [Op.operands, Call.operands]) _ hx)
    have ey := conc3_int (ho y (by simp [Op.operands, Call.operands]) _ hy)
    have e : (if i < j then j else i) = max i j := by by_cases h : i < j <;> simp [h] <;> omega
    simp [execOp, resolve, invoke, builtin, ex, ey, Builtin.max_, Builtin.max2, e]
  · exact h.elim
theorem good_min {dst : Option Nat} {x y : Operand} {tys : Array TypeId} {ty : TypeId} {pos : String} {aft : Array Edge} {g : Option (Nat × Bool)}
    (h : vmin σ m k x y) : Good P σ m ⟨dst, .call ⟨.builtin .min, #[x, y], tys⟩, ty, pos, aft, g⟩ k := by
  unfold vmin at h
  split at h
  · rename_i ka i kb j hx hy
    obtain ⟨rfl, h⟩ := h
    refine ⟨.int ka (min i j), m, OpOK.same fun W0 ρ w a hr ho => ⟨.int ka (min i j), rfl, ?_⟩, h⟩
    have ex := conc3_int (ho x (by simp [Op.operands, Call.operands]) _ hx)
    have ey := conc3_int (ho y (by simp [Op.operands, Call.operands]) _ hy)
    have e : (if j < i then j else i) = min i j := by by_cases h : j < i <;> simp [h] <;> omega
    simp [execOp, resolve, invoke, builtin, ex, ey, Builtin.min_, Builtin.min2, e]
  · exact h.elim

/-! ### append -/
theorem Src.spec {W0 : World} {ρ : List (Option Row)} {w : World} {B : Option Addr} {n sz c : Nat} {news : List Value} {v' : Value} (hr : Rel W0 ρ m w) (h : Src m B n sz news) (hv : conc3 ρ (.slice B n c) v') :
    ∃ B' c', v' = .slice B' n c' ∧ news.length = n * sz ∧ ((B' = none ∧ n = 0 ∧ news = [] ∧ c' = 0) ∨ ∃ b' news', B' = some b' ∧ news'.length = n * sz ∧ All2 (conc1 ρ) news news' ∧ (∀ (j : Nat) u, news'[j]? = some u → w.cell? (b'.add j) = some u)) := by
  cases B with
  | none =>
    obtain ⟨hn, hc, hv⟩ := hv
    rcases h with ⟨_, rfl⟩ | ⟨b, o, hb, _⟩
    · exact ⟨none, 0, by rw [hv, hn], by simp [hn], .inl ⟨rfl, hn, rfl, rfl⟩⟩
    · cases hb
  | some b =>
    obtain ⟨hc, hv⟩ := hv
    rcases h with ⟨rfl, rfl⟩ | ⟨b0, o, hb, hsp, hm, hk, hsz, hl, rfl⟩
    · rcases hv with ⟨_, r, _, _, hv⟩ | ⟨_, _, a', c', hv⟩
      · exact ⟨_, _, hv, by simp, .inr ⟨_, [], rfl, by simp, trivial, by simp⟩⟩
      · exact ⟨_, _, hv, by simp, .inr ⟨_, [], rfl, by simp, trivial, by simp⟩⟩
    · injection hb with hb
      subst hb
      rcases hv with ⟨_, r, hrr, hle, hv⟩ | ⟨hsp', _⟩
      · have ho := hr.obj _ o r hm hrr
        have hrsz := ho.sz hk
        obtain ⟨xs, hxl, ha, hxs⟩ := ho.readRow hk (n * sz) (b.off * sz) (by rw [← Nat.add_mul]; exact hl)
        refine ⟨_, _, hv, ?_, .inr ⟨_, xs, rfl, hxl, ha, fun j u hu => ?_⟩⟩
        · rw [List.length_take, List.length_drop]
          have : b.off * sz + n * sz ≤ o.cells.length := by rw [← Nat.add_mul]; exact hl
          omega
        · have := hxs j u hu
          rw [Addr.add_lit, hrsz, hsz]
          exact this
      · rw [hsp] at hsp'; cases hsp'

theorem conc1_oneCell {ρ : List (Option Row)} {v v' : Value} (h : conc1 ρ v v') : v'.oneCell' = true := by
  obtain ⟨h1, h2⟩ := conc1_one h
  cases v' <;> simp_all [Value.oneCell']

/-- Behind an append: the elder row is dead, the new one owns. -/
theorem Rel.appended {W0 : World} {ρ : List (Option Row)} {w w' : World} (hr : Rel W0 ρ m w) {dead : Option Nat} {row : Option Nat} {m1 : Mem}
    (hm1 : ∀ i, m1[i]? = if dead = some i then (m[i]?).map fun o => { o with kind := 3 } else m[i]?) (hlen : m1.length = m.length)
    (hdl : ∀ (i : Nat) o, m[i]? = some o → ¬ o.live → dead ≠ some i) (hg : w.grownBy w' row) (hrow : ∀ k, row = some k → ∃ i o r, dead = some i ∧ m[i]? = some o ∧ o.live ∧ ρ[i]? = some (some r) ∧ r.blk = k)
    {e : TypeId} {sz n cap : Nat} {cur : Array Value} {g : Nat} (hgrow : row = some g ∨ g = w.heap.size) (hb : W0.heap.size ≤ g) (hh : w'.heap[g]? = some (.cells cur e (0, 0))) (hcap : cap ≤ maxLen) (hcs : cur.size = cap * sz)
    {cells : List Value} (hcl : cells.length ≤ cur.size) (hcc : ∀ (j : Nat) v, cells[j]? = some v → ∃ v', cur[j]? = some v' ∧ conc1 ρ v v') :
    Rel W0 (ρ ++ [some ⟨g, 0, sz, cap⟩]) (m1 ++ [⟨cells, e, sz, 2⟩]) w' := by
  have hp : Ext ρ (ρ ++ [some ⟨g, 0, sz, cap⟩]) := Ext.app _ _
  have hB := hr.below.size
  have hbel : Below W0.heap.size W0 w' := hr.below.grown hg hB fun k hk => by
    obtain ⟨i, o, r, _, hmi, hl, hri, rfl⟩ := hrow k hk
    exact ((hr.obj i o r hmi hri).2 hl).2.2.1
  have old : ∀ (i : Nat) o, m1[i]? = some o → o.kind = 0 ∨ o.live → dead ≠ some i ∧ m[i]? = some o := by
    intro i o hi hk
    rw [hm1 i] at hi
    by_cases hd : dead = some i
    · rw [if_pos hd] at hi
      cases hmi : m[i]? with
      | none => simp [hmi] at hi
      | some o' =>
        simp [hmi] at hi
        subst hi
        rcases hk with hk | hk | hk <;> simp at hk
    · rw [if_neg hd] at hi; exact ⟨hd, hi⟩
  have apart : ∀ (i : Nat) o r, dead ≠ some i → m[i]? = some o → o.kind = 0 ∨ o.live → ρ[i]? = some (some r) → some r.blk ≠ row := by
    intro i o r hd hi hk hri he
    obtain ⟨j, oj, rj, hdj, hmj, hlj, hrj, hbk⟩ := hrow _ he.symm
    rcases hk with hk | hk
    · have h1 := ((hr.obj i o r hi hri).1 hk).2.1
      have h2 := ((hr.obj j oj rj hmj hrj).2 hlj).2.2.1
      omega
    · exact hr.inj j i oj o rj r (fun e => hd (by rw [hdj, e])) hmj hi hlj hk hrj hri hbk
  have hkind : ∀ (i : Nat) o, m1[i]? = some o → o.kind ≠ 3 → m[i]? = some o := by
    intro i o hi hk
    rw [hm1 i] at hi
    split at hi
    · cases hmi : m[i]? with
      | none => simp [hmi] at hi
      | some o' =>
        simp [hmi] at hi
        subst hi
        exact absurd rfl hk
    · exact hi
  refine ⟨hbel, hr.tab, by simp [hr.len, hlen], fun i o hi hk => ?_, fun i o hi hk => ?_, ?_, ?_⟩
  · rcases get_snoc hi with ⟨rfl, _⟩ | ⟨_, hi⟩
    · rw [hlen]; exact ⟨⟨g, 0, sz, cap⟩, by rw [← hr.len]; simp⟩
    · have : ∃ o', m[i]? = some o' ∧ o'.kind ≠ 4 := by
        by_cases h3 : o.kind = 3
        · rw [hm1 i] at hi
          split at hi
          · rename_i hd
            cases hmi : m[i]? with
            | none => simp [hmi] at hi
            | some o' =>
              refine ⟨o', rfl, fun h4 => ?_⟩
              exact absurd hd (hdl i o' hmi (by unfold AObj.live; omega))
          · exact ⟨o, hi, hk⟩
        · exact ⟨o, hkind i o hi h3, hk⟩
      obtain ⟨o', h2, h3⟩ := this
      obtain ⟨r, h1⟩ := hr.row i o' h2 h3
      exact ⟨r, hp.get i r h1⟩
  · rcases get_snoc hi with ⟨_, rfl⟩ | ⟨_, hi⟩
    · simp at hk
    · have h1 := hr.off i o (hkind i o hi (by omega)) hk
      rw [List.getElem?_append_left (List.getElem?_eq_some_iff.1 h1).1]; exact h1
  · intro i o r hmi hri
    by_cases hi : i < m.length
    · rw [List.getElem?_append_left (by rw [hlen]; exact hi)] at hmi
      rw [List.getElem?_append_left (by rw [hr.len]; exact hi)] at hri
      by_cases hk : o.kind = 0 ∨ o.live
      · obtain ⟨hd, hmi'⟩ := old i o hmi hk
        have ho := hr.obj i o r hmi' hri
        exact (ho.world fun _ => hg.block _ (ho.blk_lt hB hk) (apart i o r hd hmi' hk hri)).mono hp
      · exact ⟨fun h => absurd (.inl h) hk, fun h => absurd (.inr h) hk⟩
    · have hi' : i = m.length := by
        have := (List.getElem?_eq_some_iff.1 hmi).1
        simp [hlen] at this; omega
      subst hi'
      rw [List.getElem?_append_right (by omega)] at hmi
      rw [List.getElem?_append_right (by rw [hr.len]; exact Nat.le_refl _)] at hri
      simp [hlen] at hmi
      simp [hr.len] at hri
      subst hmi
      subst hri
      refine ⟨fun hk => by simp at hk, fun _ => ⟨rfl, rfl, hb, hcap, cur, hh, hcs, hcl, fun h => by simp at h, fun j v hj => ?_⟩⟩
      obtain ⟨v', h1, h2⟩ := hcc j v hj
      exact ⟨v', h1, conc1_mono hp h2⟩
  · intro i j o o' r r' hij hi hj hlo hlo' hri hrj
    have key : ∀ (i : Nat) o r, (m1 ++ [(⟨cells, e, sz, 2⟩ : AObj)])[i]? = some o → (ρ ++ [some (⟨g, 0, sz, cap⟩ : Row)])[i]? = some (some r) → o.live →
        (i < m.length ∧ m[i]? = some o ∧ ρ[i]? = some (some r) ∧ r.blk ≠ g) ∨ (i = m.length ∧ r.blk = g) := by
      intro i o r hmi hri hlo
      by_cases hi : i < m.length
      · rw [List.getElem?_append_left (by rw [hlen]; exact hi)] at hmi
        rw [List.getElem?_append_left (by rw [hr.len]; exact hi)] at hri
        obtain ⟨hd, hmi'⟩ := old i o hmi (.inr hlo)
        refine .inl ⟨hi, hmi', hri, fun hbk => ?_⟩
        rcases hgrow with hgr | hgr
        · exact apart i o r hd hmi' (.inr hlo) hri (by rw [hbk, hgr])
        · have := (hr.obj i o r hmi' hri).blk_lt hB (.inr hlo)
          omega
      · have hi' : i = m.length := by
          have := (List.getElem?_eq_some_iff.1 hmi).1
          simp [hlen] at this; omega
        subst hi'
        rw [List.getElem?_append_right (by rw [hr.len]; exact Nat.le_refl _)] at hri
        simp [hr.len] at hri
        exact .inr ⟨rfl, by rw [← hri]⟩
    rcases key i o r hi hri hlo with ⟨a1, a2, a3, a4⟩ | ⟨a1, a2⟩ <;> rcases key j o' r' hj hrj hlo' with ⟨b1, b2, b3, b4⟩ | ⟨b1, b2⟩
    · exact hr.inj i j o o' r r' hij a2 b2 hlo hlo' a3 b3
    · rw [b2]; exact a4
    · rw [a2]; exact fun e => b4 e.symm
    · omega

end Go.Abs
