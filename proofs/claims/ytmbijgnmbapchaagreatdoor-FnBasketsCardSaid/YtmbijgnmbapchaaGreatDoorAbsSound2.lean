/-
  Abs, part 5: 'vop' is sound: the operations that look at memory. Conditions: none; generic in the program.
-/
import Derived.Test.YtmbijgnmbapchaaGreatDoorAbsSound
set_option linter.unusedSimpArgs false
set_option linter.unusedVariables false
set_option linter.unusedSectionVars false
namespace Go.Abs
open Go.RowKit

variable {P : Program} {σ : Fr} {m : Mem} {k : Value → Mem → Prop}

theorem tinf_spec {t : TypeId} {sz by_ : Nat} {z : Option Value} (h : tinf P t = some (sz, by_, z)) : ∃ i, P.info? t = some i ∧ i.size = sz ∧ i.bytes = by_ ∧ i.zero = z := by
  unfold tinf at h
  cases hi : P.info? t with
  | none => simp [hi] at h
  | some i => simp [hi] at h; exact ⟨i, rfl, h⟩
theorem run_isAgg {t : TypeId} {g : Bool} (h : aggB P t = some g) (w : World) : (isAgg t).run P w = .ok g w := by
  unfold aggB at h
  unfold isAgg
  split at h <;> simp_all [run_underlying]
theorem run_sizeOf {t : TypeId} {sz by_ : Nat} {z : Option Value} (h : tinf P t = some (sz, by_, z)) (w : World) : (sizeOf t).run P w = .ok sz w := by
  obtain ⟨i, hi, hs, _⟩ := tinf_spec h
  simp [sizeOf, typeInfo, hi, hs]
theorem run_zeroValue {t : TypeId} {sz by_ : Nat} {z : Value} (h : tinf P t = some (sz, by_, some z)) (w : World) : (zeroValue t).run P w = .ok z w := by
  obtain ⟨i, hi, _, _, hz⟩ := tinf_spec h
  simp [zeroValue, typeInfo, hi, hz]

theorem run_load_cell {w : World} {a : Addr} {v : Value} (h : w.cell? a = some v) : (load a).run P w = .ok v w := by
  simp [load, Sem.run, h]

theorem run_loadCellsFrom {w : World} {b off : Nat} : ∀ (n i : Nat) (acc : Array Value) (xs : List Value), xs.length = n → (∀ (j : Nat) v, xs[j]? = some v → w.cell? ⟨b, off + (i + j), none⟩ = some v) →
    (loadCellsFrom ⟨b, off, none⟩ i n acc).run P w = .ok (acc ++ xs.toArray) w
  | 0, i, acc, xs, hl, _ => by
    have : xs = [] := List.eq_nil_of_length_eq_zero hl
    subst this
    simp [loadCellsFrom, Sem.run]
  | n + 1, i, acc, [], hl, _ => by simp at hl
  | n + 1, i, acc, x :: xs, hl, h => by
    have h0 := h 0 x (by simp)
    have hadd : (⟨b, off, none⟩ : Addr).add i = ⟨b, off + i, none⟩ := Addr.add_lit b off i
    simp only [loadCellsFrom, Sem.run_bind, hadd]
    rw [run_load_cell (by simpa using h0)]
    simp only [Result.andThen_ok]
    rw [run_loadCellsFrom n (i + 1) (acc.push x) xs (by simpa using hl) fun j v hj => by
      have := h (j + 1) v (by simpa using hj)
      rw [show i + 1 + j = i + (j + 1) from by omega]; exact this]
    simp
theorem run_loadCells {w : World} {b off : Nat} (xs : List Value) (h : ∀ (j : Nat) v, xs[j]? = some v → w.cell? ⟨b, off + j, none⟩ = some v) :
    (loadCells ⟨b, off, none⟩ xs.length).run P w = .ok xs.toArray w := by
  have := run_loadCellsFrom (P := P) (w := w) (b := b) (off := off) xs.length 0 #[] xs rfl (by simpa using h)
  simpa [loadCells] using this

/-- A row of cells of an object, read. -/
theorem ORel.readRow {W0 : World} {ρ : List (Option Row)} {w : World} {o : AObj} {r : Row} (h : ORel W0 ρ w o r) (hk : o.kind = 0 ∨ o.live) : ∀ (n off : Nat), off + n ≤ o.cells.length →
    ∃ xs, xs.length = n ∧ All2 (conc1 ρ) ((o.cells.drop off).take n) xs ∧ ∀ (j : Nat) v, xs[j]? = some v → w.cell? ⟨r.blk, r.base + off + j, none⟩ = some v
  | 0, off, _ => ⟨[], rfl, by simp [All2], by simp⟩
  | n + 1, off, hn => by
    have hlt : off < o.cells.length := by omega
    obtain ⟨v', hv, hc⟩ := h.read hk (j := off) (List.getElem?_eq_getElem hlt)
    obtain ⟨xs, hl, ha, hx⟩ := ORel.readRow h hk n (off + 1) (by omega)
    refine ⟨v' :: xs, by simp [hl], ?_, ?_⟩
    · rw [List.drop_eq_getElem_cons hlt]
      exact ⟨hc, ha⟩
    · intro j v hj
      cases j with
      | zero => simp at hj; subst hj; simpa using hv
      | succ j => simp at hj; have := hx j v hj; rw [show r.base + off + (j + 1) = r.base + (off + 1) + j from by omega]; exact this

theorem conc3_of_conc1 {ρ : List (Option Row)} {v v' : Value} (h : conc1 ρ v v') : conc3 ρ v v' := by
  unfold conc3
  split
  · simp [conc1, conc0] at h
  · unfold conc2
    split
    · simp [conc1, conc0] at h
    · exact h

theorem good_load {dst : Option Nat} {t : TypeId} {x : Operand} {ty : TypeId} {pos : String} {aft : Array Edge} {g : Option (Nat × Bool)}
    (h : vload P σ m k t x) : Good P σ m ⟨dst, .load t x, ty, pos, aft, g⟩ k := by
  unfold vload at h
  split at h
  · rename_i a0 gg sz by_ z hx hg hi
    obtain ⟨_, o, hm, hk, h⟩ := h
    cases gg
    · simp only [Bool.false_eq_true, if_false] at h
      obtain ⟨v, hv, h⟩ := h
      refine ⟨v, m, OpOK.same fun W0 ρ w a hr ho => ?_, h⟩
      obtain ⟨_, r, hrr, ex⟩ := conc3_ptr (ho x (by simp [Op.operands]) _ hx)
      obtain ⟨v', hv', hc⟩ := (hr.obj _ o r hm hrr).read hk hv
      refine ⟨v', conc3_of_conc1 hc, ?_⟩
      simp only [execOp, Instr.loadAt, ex, Instr.sureAddr, loadVar, Sem.run_bind, Sem.run_pure, Result.andThen_ok, run_isAgg hg, Bool.false_eq_true, if_false]
      rw [run_load_cell hv']
      rfl
    · simp only [if_true] at h
      obtain ⟨hl, h⟩ := h
      refine ⟨_, m, OpOK.same fun W0 ρ w a hr ho => ?_, h⟩
      obtain ⟨_, r, hrr, ex⟩ := conc3_ptr (ho x (by simp [Op.operands]) _ hx)
      obtain ⟨xs, hxl, ha, hxs⟩ := (hr.obj _ o r hm hrr).readRow hk sz a0.off hl
      refine ⟨.agg xs.toArray, ⟨xs.toArray, rfl, by simpa using ha⟩, ?_⟩
      have hrun := run_loadCells (P := P) xs hxs
      rw [hxl] at hrun
      simp only [execOp, Instr.loadAt, ex, Instr.sureAddr, loadVar, Sem.run_bind, Sem.run_pure, Result.andThen_ok, run_isAgg hg, if_true, run_sizeOf hi, hrun]
  · exact h.elim

theorem good_convert {dst : Option Nat} {s d : TypeId} {x : Operand} {ty : TypeId} {pos : String} {aft : Array Edge} {g : Option (Nat × Bool)}
    (h : vconvert P σ m k s d x) : Good P σ m ⟨dst, .convert s d x, ty, pos, aft, g⟩ k := by
  unfold vconvert at h
  split at h
  · rename_i k0 n hv
    split at h
    · rename_i kk hk
      obtain ⟨hs, h⟩ := h
      refine ⟨.int kk (kk.wrap n), m, OpOK.same fun W0 ρ w a hr ho => ⟨.int kk (kk.wrap n), rfl, ?_⟩, h⟩
      have hx := conc3_int (ho x (by simp [Op.operands]) _ hv)
      have hd : P.underlying d = some (.int kk) := by
        unfold ukind at hk
        split at hk
        · injection hk with hk; subst hk; assumption
        · cases hk
      obtain ⟨ds, hds⟩ := Option.isSome_iff_exists.1 hs
      simp [execOp, hx, convert, run_underlying hds, run_underlying hd, Conv.intToInt]
    · exact h.elim
  · rename_i a0 n c hx
    obtain ⟨_, hb, hs, o, hm, hk, hsz, hle, xs, hcs, h⟩ := h
    refine ⟨.string (strOfNums xs), m, OpOK.same fun W0 ρ w a hr ho => ⟨.string (strOfNums xs), rfl, ?_⟩, h⟩
    unfold bytesT at hb
    simp only [Bool.and_eq_true] at hb
    obtain ⟨hb1, hb2⟩ := hb
    split at hb1
    · rename_i e he
      have hue : P.underlying e = some (.int .u8) := by
        split at hb1
        · assumption
        · cases hb1
      have hd : P.underlying d = some .string := by
        split at hb2
        · assumption
        · cases hb2
      have hnl : xs.length = n := by
        have := congrArg List.length hcs
        simp at this; omega
      obtain ⟨_, ⟨_, r, hrr, hcap, ex⟩ | ⟨hs', _⟩⟩ := ho x (by simp [Op.operands]) _ hx
      · have hro := hr.obj _ o r hm hrr
        have hrsz : r.sz = 1 := (hro.sz hk).trans hsz
        obtain ⟨ys, hyl, hya, hyc⟩ := hro.readRow hk n a0.off hle
        have hcell : ∀ i, i < n → w.cell? ⟨r.blk, r.base + a0.off * r.sz + i, none⟩ = some (.int .u8 (xs.getD i 0)) := by
          intro i hi
          obtain ⟨y, hy, hR⟩ := hya.get i (.int .u8 (xs.getD i 0)) (by
            rw [hcs]
            have : i < xs.length := by omega
            simp [List.getElem?_eq_getElem this])
          have := hyc i y hy
          rw [hrsz, Nat.mul_one, this]
          simpa [conc1, conc0] using hR
        have := run_convert_bytes_arg (P := P) w s e (slElem_spec he) hue r.blk (r.base + a0.off * r.sz) n (r.cap - a0.off) xs hnl hcell d hd
        simp only [execOp, ex]
        rw [Sem.run_bind] 
        rw [this]
        rfl
      · rw [hs] at hs'; cases hs'
    · cases hb1
  · exact h.elim

theorem good_fieldAddr {dst : Option Nat} {t : TypeId} {x : Operand} {i : Nat} {ty : TypeId} {pos : String} {aft : Array Edge} {g : Option (Nat × Bool)}
    (h : vfieldAddr P σ m k t x i) : Good P σ m ⟨dst, .fieldAddr t x i, ty, pos, aft, g⟩ k := by
  unfold vfieldAddr at h
  split at h
  · rename_i a0 off hx ho'
    obtain ⟨hs, h⟩ := h
    refine ⟨_, m, OpOK.same fun W0 ρ w a hr ho => ?_, h⟩
    obtain ⟨_, r, hrr, ex⟩ := conc3_ptr (ho x (by simp [Op.operands]) _ hx)
    refine ⟨.pointer (some ⟨r.blk, r.base + (a0.off + off), none⟩), ⟨rfl, r, hrr, rfl⟩, ?_⟩
    unfold fieldOff at ho'
    split at ho'
    · rename_i fs hfs
      split at ho'
      · rename_i f hf
        split at ho'
        · rename_i hz
          injection ho' with ho'
          subst ho'
          obtain ⟨i0, hi0, hsz⟩ := (Option.any_eq_true_iff_get _ _).1 hz |> fun ⟨h1, h2⟩ => (⟨_, (Option.some_get h1).symm, h2⟩ : ∃ i0, P.info? f.type = some i0 ∧ (i0.size != 0) = true)
          have hsz' : ¬ i0.size = 0 := by simpa using hsz
          simp only [execOp, Instr.fieldAt, ex, Instr.sureAddr, Sem.run_bind, Sem.run_pure, Result.andThen_ok, run_underlying hfs, hf, fieldPlace, sizeOf, typeInfo, run_program, hi0, Sem.run_ite, hsz', if_false, Addr.add_lit, Nat.add_assoc]
        · cases ho'
      · cases ho'
    · cases ho'
  · exact h.elim

theorem arrElem_spec {t : TypeId} {n : Nat} {e : TypeId} (h : arrElem P t = some (n, e)) : P.underlying t = some (.array n e) := by
  unfold arrElem at h
  split at h
  · injection h with h; injection h with h1 h2; subst h1; subst h2; assumption
  · cases h
theorem good_indexAddr {dst : Option Nat} {t : TypeId} {x y : Operand} {ty : TypeId} {pos : String} {aft : Array Edge} {g : Option (Nat × Bool)}
    (h : vindexAddr P σ m k t x y) : Good P σ m ⟨dst, .indexAddr t x y, ty, pos, aft, g⟩ k := by
  unfold vindexAddr at h
  split at h
  · rename_i a0 n c kk i e hx hy he
    split at h
    · rename_i sz by_ z hi
      obtain ⟨hs, hi0, o, hm, hk, hsz, h⟩ := h
      refine ⟨_, m, OpOK.same fun W0 ρ w a hr ho => ?_, h⟩
      have hcx := ho x (by simp [Op.operands]) _ hx
      have ey := conc3_int (ho y (by simp [Op.operands]) _ hy)
      obtain ⟨_, ⟨_, r, hrr, hle, ex⟩ | ⟨_, hn, _⟩⟩ := hcx
      · have hrsz := (hr.obj _ o r hm hrr).sz hk
        refine ⟨.pointer (some ⟨r.blk, r.base + (a0.off + i.toNat) * sz, none⟩), ⟨rfl, r, hrr, rfl⟩, ?_⟩
        have hmul : r.base + a0.off * sz + i.toNat * sz = r.base + (a0.off + i.toNat) * sz := by rw [Nat.add_mul]; omega
        simp only [execOp, Instr.indexAt, ex, ey, asIntOf, Sem.run_bind, Sem.run_pure, Result.andThen_ok, run_underlying (slElem_spec he), Sem.run_ite, hi0, and_self, if_true, run_sizeOf hi, Addr.add_lit, hrsz, hsz, hmul]
      · omega
    · exact h.elim
  · rename_i a0 kk i hx hy
    split at h
    · rename_i n e he
      split at h
      · rename_i sz by_ z hi
        obtain ⟨hs, hi0, h⟩ := h
        refine ⟨_, m, OpOK.same fun W0 ρ w a hr ho => ?_, h⟩
        obtain ⟨_, r, hrr, ex⟩ := conc3_ptr (ho x (by simp [Op.operands]) _ hx)
        have ey := conc3_int (ho y (by simp [Op.operands]) _ hy)
        refine ⟨.pointer (some ⟨r.blk, r.base + (a0.off + i.toNat * sz), none⟩), ⟨rfl, r, hrr, rfl⟩, ?_⟩
        simp only [execOp, Instr.indexAt, ex, ey, asIntOf, Instr.sureAddr, Sem.run_bind, Sem.run_pure, Result.andThen_ok, run_underlying (arrElem_spec he), Sem.run_ite, hi0, and_self, if_true, run_sizeOf hi, Addr.add_lit, Nat.add_assoc]
      · exact h.elim
    · exact h.elim
  · exact h.elim

theorem conc1_cells {ρ : List (Option Row)} {v v' : Value} (h : conc3 ρ v v') (ht : ∀ vs, v ≠ .tuple vs) : All2 (conc1 ρ) v.cells.toList v'.cells.toList ∧ (∀ vs, v' ≠ .tuple vs) := by
  unfold conc3 at h
  split at h
  · exact absurd rfl (ht _)
  · unfold conc2 at h
    split at h
    · obtain ⟨cs', rfl, ha⟩ := h
      exact ⟨by simpa [Value.cells] using ha, by simp⟩
    · rename_i hn
      have hv : v.cells = #[v] := by cases v <;> first | rfl | exact absurd rfl (hn _)
      have hv' : v'.cells = #[v'] ∧ ∀ vs, v' ≠ .tuple vs := by
        unfold conc1 at h
        split at h
        · obtain ⟨_, c, rfl, _⟩ := h; simp [Value.cells]
        · unfold conc0 at h
          split at h <;> first
            | (obtain ⟨_, r, _, rfl⟩ := h; simp [Value.cells])
            | (obtain ⟨_, ⟨_, r, _, _, rfl⟩ | ⟨_, _, a', c', rfl⟩⟩ := h <;> simp [Value.cells])
            | (obtain ⟨_, _, rfl⟩ := h; simp [Value.cells])
            | (subst h; simp [Value.cells])
            | exact h.elim
      rw [hv, hv'.1]
      exact ⟨⟨h, trivial⟩, hv'.2⟩

theorem run_newVar (t : TypeId) (v : Value) (w : World) : (newVar t v).run P w = .ok ⟨w.heap.size, 0, none⟩ (w.alloc (.cells v.cells t)) := by
  simp only [newVar, newRow, newObj, Sem.run_bind]; rfl

theorem good_box {dst : Option Nat} {t : TypeId} {x : Operand} {ty : TypeId} {pos : String} {aft : Array Edge} {g : Option (Nat × Bool)}
    (h : vbox P σ m k t x) : Good P σ m ⟨dst, .box t x, ty, pos, aft, g⟩ k := by
  unfold vbox at h
  split at h
  · rename_i v sz by_ z hx hi
    obtain ⟨ht, hs, h⟩ := h
    refine ⟨_, _, OpOK.step fun W0 ρ w a hr ho => ?_, h⟩
    obtain ⟨ha, _⟩ := conc1_cells (ho x (by simp [Op.operands]) _ hx) ht
    refine ⟨_, _, .pointer (some ⟨w.heap.size, 0, none⟩), Ext.app _ _, hr.alloc t sz 1 ha (by simp [← hs]) (by simp [maxLen]), ⟨rfl, ⟨w.heap.size, 0, sz, 1⟩, ?_, rfl⟩, .inl ?_⟩
    · rw [List.getElem?_append_right (by rw [hr.len]; exact Nat.le_refl _)]; simp [hr.len]
    · simp only [execOp, Instr.box, Sem.run_bind, run_newVar, Result.andThen_ok, Sem.run_pure, Array.toArray_toList]
  · exact h.elim

theorem good_alloc {dst : Option Nat} {t : TypeId} {ty : TypeId} {pos : String} {aft : Array Edge} {g : Option (Nat × Bool)}
    (h : valloc P m k t) : Good P σ m ⟨dst, .alloc t, ty, pos, aft, g⟩ k := by
  unfold valloc at h
  split at h
  · rename_i sz by_ z hi
    obtain ⟨hl, hs, h⟩ := h
    refine ⟨_, _, OpOK.step fun W0 ρ w a hr ho => ?_, h⟩
    have ha : All2 (conc1 ρ) z.cells.toList z.cells.toList := by
      refine All2.of_get rfl fun i x y hx hy => ?_
      rw [hx] at hy; injection hy with hy; subst hy
      have hmem : x ∈ z.cells.toList := List.mem_of_getElem? hx
      have hb := List.all_eq_true.1 hl x hmem
      unfold litB at hb
      split at hb <;> simp_all [conc1, conc0]
    refine ⟨_, _, .pointer (some ⟨w.heap.size, 0, none⟩), Ext.app _ _, hr.alloc t sz 1 ha (by simp [← hs]) (by simp [maxLen]), ⟨rfl, ⟨w.heap.size, 0, sz, 1⟩, ?_, rfl⟩, .inl ?_⟩
    · rw [List.getElem?_append_right (by rw [hr.len]; exact Nat.le_refl _)]; simp [hr.len]
    · simp only [execOp, Instr.alloc, Sem.run_bind, run_zeroValue hi, Result.andThen_ok]
      simp only [run_newVar, Sem.run_bind, Result.andThen_ok, Sem.run_pure, Array.toArray_toList]
  · exact h.elim

theorem run_storeCells {W0 : World} {ρ : List (Option Row)} {i : Nat} {r : Row} : ∀ (vs vs' : List Value) (m : Mem) (w : World) (o : AObj) (off n : Nat), Rel W0 ρ m w → m[i]? = some o → ρ[i]? = some (some r) → o.live → All2 (conc1 ρ) vs vs' → off + n + vs.length ≤ o.cells.length →
    (∀ v ∈ vs', (∀ x, v ≠ .agg x) ∧ (∀ x, v ≠ .tuple x)) →
    ∃ w', Rel W0 ρ (m.set i { o with cells := splice o.cells (off + n) vs }) w' ∧ (storeCells ⟨r.blk, off, none⟩ vs' n).run P w = .ok () w'
  | [], [], m, w, o, off, n, hr, hm, _, _, _, _, _ => by
    have hlt : i < m.length := (List.getElem?_eq_some_iff.1 hm).1
    refine ⟨w, ?_, by simp [storeCells, Sem.run]⟩
    have : m.set i { o with cells := splice o.cells (off + n) [] } = m := by
      simp only [splice]
      have ho : m[i] = o := (List.getElem?_eq_some_iff.1 hm).2
      conv => rhs; rw [← List.set_getElem_self (as := m) (i := i) hlt]
      rw [ho]
    rw [this]; exact hr
  | [], _ :: _, _, _, _, _, _, _, _, _, _, h, _, _ => h.elim
  | _ :: _, [], _, _, _, _, _, _, _, _, _, h, _, _ => h.elim
  | v :: vs, v' :: vs', m, w, o, off, n, hr, hm, hrr, hlive, ha, hl, hone => by
    have hlt : i < m.length := (List.getElem?_eq_some_iff.1 hm).1
    simp only [List.length_cons] at hl
    have ho := hr.obj i o r hm hrr
    have h1 := hr.set hm hrr hlive (j := off + n) (by omega) ha.1
    have hlive' : ({ o with cells := o.cells.set (off + n) v } : AObj).live := hlive
    obtain ⟨w', h2, h3⟩ := run_storeCells vs vs' _ _ { o with cells := o.cells.set (off + n) v } off (n + 1) h1 (by simp [hlt]) hrr hlive' ha.2 (by simp; omega) (fun v hv => hone v (by simp [hv]))
    refine ⟨w', ?_, ?_⟩
    · simp only [List.set_set, splice] at h2 ⊢
      rw [show off + n + 1 = off + (n + 1) from by omega]
      exact h2
    · obtain ⟨g1, g2, g3, g4, c, g5, g6, g7, g8, g9⟩ := ho.2 hlive
      have hcell : ∃ u, w.cell? ⟨r.blk, off + n, none⟩ = some u := by
        have : off + n < c.size := by omega
        exact ⟨c[off + n], by simp [World.cell?, g5, this]⟩
      obtain ⟨u, hu⟩ := hcell
      have hfz : w.frozen? ⟨r.blk, off + n, none⟩ = false := by simp [World.frozen?, g5]
      have hst : (store ⟨r.blk, off + n, none⟩ v').run P w = .ok () (w.setCell ⟨r.blk, off + n, none⟩ v') := by
        obtain ⟨n1, n2⟩ := hone v' (by simp)
        cases v' <;> simp_all [store, Sem.run]
      simp only [storeCells, Sem.run_bind, Addr.add_lit, hst, Result.andThen_ok]
      exact h3

theorem conc1_one {ρ : List (Option Row)} {v v' : Value} (h : conc1 ρ v v') : (∀ x, v' ≠ .agg x) ∧ (∀ x, v' ≠ .tuple x) := by
  unfold conc1 at h
  split at h
  · obtain ⟨_, c, rfl, _⟩ := h; simp
  · unfold conc0 at h
    split at h <;> first
      | (obtain ⟨_, r, _, rfl⟩ := h; simp)
      | (obtain ⟨_, ⟨_, r, _, _, rfl⟩ | ⟨_, _, a', c', rfl⟩⟩ := h <;> simp)
      | (obtain ⟨_, _, rfl⟩ := h; simp)
      | (subst h; simp)
      | exact h.elim
theorem All2.mem_right {R : Value → Value → Prop} : ∀ {xs ys : List Value}, All2 R xs ys → ∀ y ∈ ys, ∃ x, R x y
  | [], [], _, y, hy => by simp at hy
  | x :: xs, y :: ys, h, z, hz => by
    rcases List.mem_cons.1 hz with rfl | hz
    · exact ⟨x, h.1⟩
    · exact All2.mem_right h.2 z hz
  | [], _ :: _, h, _, _ => h.elim
  | _ :: _, [], h, _, _ => h.elim

theorem good_store {dst : Option Nat} {t : TypeId} {x y : Operand} {ty : TypeId} {pos : String} {aft : Array Edge} {g : Option (Nat × Bool)}
    (h : vstore P σ m k t x y) : Good P σ m ⟨dst, .store t x y, ty, pos, aft, g⟩ k := by
  unfold vstore at h
  split at h
  · rename_i a0 v sz by_ z hx hy hi
    obtain ⟨hs, ht, hsz, o, hm, hlive, hl, h⟩ := h
    refine ⟨_, _, OpOK.step fun W0 ρ w a hr ho => ?_, h⟩
    obtain ⟨_, r, hrr, ex⟩ := conc3_ptr (ho x (by simp [Op.operands]) _ hx)
    obtain ⟨ha, _⟩ := conc1_cells (ho y (by simp [Op.operands]) _ hy) ht
    have hb := ((hr.obj _ o r hm hrr).2 hlive).1
    obtain ⟨w', h1, h2⟩ := run_storeCells (P := P) v.cells.toList (a.eval y).cells.toList m w o a0.off 0 hr hm hrr hlive ha (by simp [hsz]; exact hl) (fun z hz => let ⟨_, hR⟩ := ha.mem_right z hz; conc1_one hR)
    refine ⟨ρ, w', undef, Ext.refl _, by simpa using h1, conc3_undef ρ, .inr ⟨?_, rfl⟩⟩
    have hsz' : (a.eval y).cells.size = sz := by have := ha.length; simp at this; omega
    simp only [execOp, Instr.storeAt, ex, Instr.sureAddr, storeVar, Sem.run_bind, Sem.run_pure, Result.andThen_ok, run_sizeOf hi, hsz', ne_eq, not_true_eq_false, if_false, hb, Nat.zero_add, h2]
  · exact h.elim

theorem good_make {dst : Option Nat} {t : TypeId} {x y : Operand} {ty : TypeId} {pos : String} {aft : Array Edge} {g : Option (Nat × Bool)}
    (h : vmake P σ m k t x y) : Good P σ m ⟨dst, .makeSlice t x y, ty, pos, aft, g⟩ k := by
  unfold vmake at h
  split at h
  · rename_i kl l kc c e hx hy he
    split at h
    · rename_i sz by_ z hi
      obtain ⟨hsz, hzs, hlit, h0, hlc, hby, h63, h⟩ := h
      obtain ⟨i0, hi0, g1, g2, g3⟩ := tinf_spec hi
      refine ⟨_, _, OpOK.step fun W0 ρ w a hr ho => ?_, h⟩
      have ex := conc3_int (ho x (by simp [Op.operands]) _ hx)
      have ey := conc3_int (ho y (by simp [Op.operands]) _ hy)
      have hlen : (madeCells z.cells (c.toNat * sz)).toList.length = c.toNat * sz := by simp [madeCells]
      have ha : All2 (conc1 ρ) (madeCells z.cells (c.toNat * sz)).toList (madeCells z.cells (c.toNat * sz)).toList := by
        refine All2.of_get rfl fun i x y hx hy => ?_
        rw [hx] at hy; injection hy with hy; subst hy
        have hmem : x ∈ (madeCells z.cells (c.toNat * sz)).toList := List.mem_of_getElem? hx
        simp only [madeCells, Array.toList_map, List.mem_map] at hmem
        obtain ⟨j, _, rfl⟩ := hmem
        have hj : j % z.cells.size < z.cells.size := Nat.mod_lt _ (by omega)
        have hb := List.all_eq_true.1 hlit (z.cells[j % z.cells.size]!) (by rw [getElem!_pos z.cells _ hj]; simp)
        unfold litB at hb
        split at hb <;> simp_all [conc1, conc0]
      refine ⟨_, _, .slice (some ⟨w.heap.size, 0, none⟩) l.toNat c.toNat, Ext.app _ _, hr.alloc e sz c.toNat ha hlen (by simp [maxLen]; omega), ⟨rfl, .inl ⟨rfl, ⟨w.heap.size, 0, sz, c.toNat⟩, ?_, by simp; omega, by simp⟩⟩, .inl ?_⟩
      · rw [List.getElem?_append_right (by rw [hr.len]; exact Nat.le_refl _)]; simp [hr.len]
      · have := run_make (P := P) w t e i0 z (slElem_spec he) hi0 g3 kl kc l c h0 hlc (by rw [g2]; exact hby) h63
        rw [g1] at this
        simp only [execOp, ex, ey, Sem.run_bind, this, Result.andThen_ok, Sem.run_pure, Array.toArray_toList]
    · exact h.elim
  · exact h.elim

theorem run_callFunc_enter {g : FuncId} (h : callable P g = true) (args : Array Value) (w : World) : (callFunc g args).run P w = .ok (.enter g args) w := by
  unfold callable at h
  split at h
  · rename_i fn hf
    simp only [Bool.and_eq_true, Bool.not_eq_true'] at h
    have hb : fn.body.isNone = false := by cases hb : fn.body <;> simp_all
    have hn : (fn.name == "runtime.NumGoroutine") = false := h.1
    simp only [callFunc, Sem.run_bind, run_program, Result.andThen_ok, hf, hn, hb, Bool.false_eq_true, if_false, Sem.run_pure]
  · cases h

theorem conc3_of_conc0 {ρ : List (Option Row)} {v v' : Value} (h : conc0 ρ v v') : conc3 ρ v v' := by
  refine conc3_of_conc1 ?_
  unfold conc1
  split
  · simp [conc0] at h
  · exact h

theorem conc1_of_concA {ρ : List (Option Row)} {v v' : Value} (h : concA ρ v v') : conc1 ρ v v' := by
  unfold concA at h
  split at h
  · obtain ⟨h1, c, h2, h3⟩ := h
    refine ⟨h1, c, h2, h3.mono fun x y hxy => ?_⟩
    unfold concA
    split
    · simp [conc0] at hxy
    · exact hxy
  · unfold conc1
    split
    · simp [conc0] at h
    · exact h
theorem good_call {dst : Option Nat} {f : Operand} {args : Array Operand} {tys : Array TypeId} {ty : TypeId} {pos : String} {aft : Array Edge} {gd : Option (Nat × Bool)}
    (h : vcall P σ m k f args.toList) : Good P σ m ⟨dst, .call ⟨.value f, args, tys⟩, ty, pos, aft, gd⟩ k := by
  unfold vcall at h
  split at h
  · rename_i g fs caps vs hf hvs
    obtain ⟨hcl, v, m', hc, h⟩ := h
    refine ⟨v, m', fun W0 ρ w a hr ho K Q hK => ?_, h⟩
    obtain ⟨hfs, caps', hfe, hcaps⟩ := ho f (by simp [Op.operands, Call.operands]) _ hf
    have hargs := Ops.args (a := a) (fun x hx => ho x (by simp [Op.operands, Call.operands]; right; simpa using hx)) hvs
    have hrun : (execOp a.eval ⟨dst, .call ⟨.value f, args, tys⟩, ty, pos, aft, gd⟩).run P w = .ok (.enter g (args.map a.eval ++ caps')) w := by
      simp only [execOp, resolve, hfe, Deferred.ofValue]
      simp [invoke, run_callFunc_enter hcl]
    unfold Oper.wp
    rw [hrun]
    refine (hc.run W0 ρ w _ hr ?_).mono fun e w' ⟨ρ', v', h1, h2, h3, he⟩ => ?_
    · rw [Array.toList_append, Array.toList_map]
      exact hargs.append (hcaps.mono fun _ _ h => conc3_of_conc1 (conc1_of_concA h))
    · subst he
      exact hK ρ' w' v' h1 h2 h3
  · exact h.elim

theorem vload_spec {t : TypeId} {x : Operand} (h : vload P σ m k t x) : ∃ v, k v m ∧ ∀ (W0 : World) (ρ : List (Option Row)) (w : World) (pv : Value), Rel W0 ρ m w → (∀ u, ev σ x = some u → conc3 ρ u pv) →
    ∃ v' a', conc3 ρ v v' ∧ pv = .pointer (some a') ∧ (loadVar t a').run P w = .ok v' w := by
  unfold vload at h
  split at h
  · rename_i a0 gg sz by_ z hx hg hi
    obtain ⟨_, o, hm, hk, h⟩ := h
    cases gg
    · simp only [Bool.false_eq_true, if_false] at h
      obtain ⟨v, hv, h⟩ := h
      refine ⟨v, h, fun W0 ρ w pv hr ho => ?_⟩
      obtain ⟨_, r, hrr, ex⟩ := conc3_ptr (ho _ hx)
      obtain ⟨v', hv', hc⟩ := (hr.obj _ o r hm hrr).read hk hv
      refine ⟨v', _, conc3_of_conc1 hc, ex, ?_⟩
      simp only [loadVar, Sem.run_bind, Result.andThen_ok, run_isAgg hg, Bool.false_eq_true, if_false]
      rw [run_load_cell hv']
    · simp only [if_true] at h
      obtain ⟨hl, h⟩ := h
      refine ⟨_, h, fun W0 ρ w pv hr ho => ?_⟩
      obtain ⟨_, r, hrr, ex⟩ := conc3_ptr (ho _ hx)
      obtain ⟨xs, hxl, ha, hxs⟩ := (hr.obj _ o r hm hrr).readRow hk sz a0.off hl
      refine ⟨.agg xs.toArray, _, ⟨xs.toArray, rfl, by simpa using ha⟩, ex, ?_⟩
      have hrun := run_loadCells (P := P) xs hxs
      rw [hxl] at hrun
      simp only [loadVar, Sem.run_bind, Sem.run_pure, Result.andThen_ok, run_isAgg hg, if_true, run_sizeOf hi, hrun]
  · exact h.elim

end Go.Abs
