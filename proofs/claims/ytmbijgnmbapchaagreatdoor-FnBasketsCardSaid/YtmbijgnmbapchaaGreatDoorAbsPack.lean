/-
  Abs, part 15: what a call is handed, as an abstract memory: every argument of integers, strings, structs of these and slices of these. Conditions: none; generic in the program.
-/
import Derived.Test.YtmbijgnmbapchaaGreatDoorAbsData
import Derived.Lib.SmallJoins
set_option linter.unusedSimpArgs false
set_option linter.unusedVariables false
set_option linter.unusedSectionVars false
namespace Go.Abs
open Go.RowKit Go.WideShapes Go.ChangeShapes Go.Deep

/-- The shapes of cells. -/
inductive S where
  | int (k : IntKind)
  | str
  | sl (row : List S)

/-- 'v' is a cell of this shape, in the memory 'm'. -/
def CV : Nat → Mem → S → Value → Prop
  | 0, _, _, _ => False
  | _ + 1, _, .int k, v => ∃ n, v = .int k n ∧ k.min ≤ n ∧ n ≤ k.max
  | _ + 1, _, .str, v => ∃ s, v = .string s ∧ s.size ≤ maxLen
  | f + 1, m, .sl row, v => ∃ a n rows, v = .slice a n n ∧ n ≤ maxLen ∧ Rd m a n row.length rows ∧ ∀ r ∈ rows, ∀ (j : Nat) s c, row[j]? = some s → r[j]? = some c → CV f m s c

theorem CV.ext : ∀ {f : Nat} {m : Mem} {s : S} {v : Value} (j : Mem), CV f m s v → CV f (m ++ j) s v
  | 0, _, _, _, _, h => h
  | _ + 1, _, .int _, _, _, h => h
  | _ + 1, _, .str, _, _, h => h
  | f + 1, m, .sl row, v, j, h => by
    obtain ⟨a, n, rows, hv, hn, hr, hc⟩ := h
    exact ⟨a, n, rows, hv, hn, hr.ext j, fun r hr' i s c hs hcc => CV.ext j (hc r hr' i s c hs hcc)⟩

/-- The types of a row's cells. -/
def cellTys (P : Program) (e : TypeId) : List TypeId :=
  match P.underlying e with
  | some (.struct fs) => fs.toList.map (·.type)
  | _ => [e]
def oneB (P : Program) (e : TypeId) : Bool :=
  match P.underlying e with
  | some (.struct fs) => oneCellFields P fs && P.cellsOf e == fs.size
  | some (.array _ _) => false
  | _ => P.cellsOf e == 1
/-- The type is of this shape. -/
def TS (P : Program) : Nat → TypeId → S → Bool
  | 0, _, _ => false
  | _ + 1, t, .int k => match P.underlying t with | some (.int k') => decide (k' = k) | _ => false
  | _ + 1, t, .str => match P.underlying t with | some .string => true | _ => false
  | f + 1, t, .sl row => match P.underlying t with
    | some (.slice e) => oneB P e && (cellTys P e).length == row.length && decide (0 < row.length) && ((cellTys P e).zip row).all fun p => TS P f p.1 p.2
    | _ => false

/-- A memory of what stands there already. -/
def Rel0 (W : World) (ρ : List (Option Row)) (m : Mem) : Prop :=
  ρ.length = m.length ∧ (∀ (i : Nat) o, m[i]? = some o → ∃ r, ρ[i]? = some (some r)) ∧ ∀ (i : Nat) o r, m[i]? = some o → ρ[i]? = some (some r) → o.kind = 0 ∧ r.sz = o.sz ∧ r.blk < W.heap.size ∧
    ∀ (j : Nat) v, o.cells[j]? = some v → ∃ v', W.cell? ⟨r.blk, r.base + j, none⟩ = some v' ∧ conc1 ρ v v'

theorem Rel0.rel {W : World} {ρ : List (Option Row)} {m : Mem} (h : Rel0 W ρ m) (ht : Tabs W) : Rel W ρ m W := by
  refine ⟨Below.refl _ _, ht, h.1, fun i o hm _ => h.2.1 i o hm, fun i o hm hk => ?_, fun i o r hm hr => ?_, fun i j o o' r r' _ hm _ hl _ hr _ => ?_⟩
  · obtain ⟨r, hr⟩ := h.2.1 i o hm
    have := (h.2.2 i o r hm hr).1
    omega
  · obtain ⟨hk, hs, hb, hc⟩ := h.2.2 i o r hm hr
    exact ⟨fun _ => ⟨hs, hb, hc⟩, fun hl => by simp [AObj.live, hk] at hl⟩
  · have hk := (h.2.2 i o r hm hr).1
    simp [AObj.live, hk] at hl
theorem Rel0.nil (W : World) : Rel0 W [] [] := ⟨rfl, fun i o hm => by simp at hm, fun i o r hm => by simp at hm⟩
theorem Rel0.add {W : World} {ρ : List (Option Row)} {m : Mem} (h : Rel0 W ρ m) (r : Row) (o : AObj) (hk : o.kind = 0) (hs : r.sz = o.sz) (hb : r.blk < W.heap.size)
    (hc : ∀ (j : Nat) v, o.cells[j]? = some v → ∃ v', W.cell? ⟨r.blk, r.base + j, none⟩ = some v' ∧ conc1 ρ v v') : Rel0 W (ρ ++ [some r]) (m ++ [o]) := by
  have hp : Ext ρ (ρ ++ [some r]) := Ext.app _ _
  refine ⟨by simp [h.1], fun i o' hm => ?_, fun i o' r' hm hr => ?_⟩
  · rcases get_snoc hm with ⟨rfl, _⟩ | ⟨_, hm⟩
    · exact ⟨r, by rw [← h.1]; simp⟩
    · obtain ⟨r', hr'⟩ := h.2.1 i o' hm
      exact ⟨r', hp.get i r' hr'⟩
  · rcases get_snoc hm with ⟨rfl, rfl⟩ | ⟨hl, hm⟩
    · rcases get_snoc hr with ⟨_, e⟩ | ⟨hl, _⟩
      · injection e with e
        subst e
        exact ⟨hk, hs, hb, fun j v hj => let ⟨v', a, b⟩ := hc j v hj; ⟨v', a, conc1_mono hp b⟩⟩
      · rw [h.1] at hl; omega
    · rcases get_snoc hr with ⟨rfl, _⟩ | ⟨_, hr⟩
      · rw [h.1] at hl; omega
      · obtain ⟨h1, h2, h3, h4⟩ := h.2.2 i o' r' hm hr
        exact ⟨h1, h2, h3, fun j v hj => let ⟨v', a, b⟩ := h4 j v hj; ⟨v', a, conc1_mono hp b⟩⟩

theorem add_spot {a : Addr} (h : a.spot = none) (j : Nat) : a.add j = ⟨a.block, a.off + j, none⟩ := by
  cases a with
  | mk b o s => simp at h; subst h; unfold Addr.add; split <;> simp_all
theorem conc1_of0 {ρ : List (Option Row)} {v v' : Value} (h : conc0 ρ v v') : conc1 ρ v v' := by
  unfold conc1
  split
  · simp [conc0] at h
  · exact h

theorem flatten_all {Q : Nat → Value → Prop} {C : Nat} : ∀ {rs : List (List Value)} (b : Nat), (∀ r ∈ rs, r.length = C) → (∀ (i j : Nat) r x, rs[i]? = some r → r[j]? = some x → Q (b + i * C + j) x) →
    ∀ (k : Nat) x, rs.flatten[k]? = some x → Q (b + k) x
  | [], _, _, _, k, x, h => by simp at h
  | r :: rs, b, hl, hq, k, x, h => by
    rw [List.flatten_cons] at h
    have hr : r.length = C := hl r (by simp)
    by_cases hk : k < r.length
    · rw [List.getElem?_append_left hk] at h
      simpa using hq 0 k r x (by simp) h
    · rw [List.getElem?_append_right (by omega)] at h
      have := flatten_all (Q := Q) (C := C) (b + C) (fun y hy => hl y (by simp [hy])) (fun i j r' x' hi hj => by
        have := hq (i + 1) j r' x' (by simpa using hi) hj
        rw [Nat.add_mul, Nat.one_mul] at this
        rw [show b + C + i * C + j = b + (i * C + C) + j by omega]; exact this) (k - r.length) x h
      rw [show b + C + (k - r.length) = b + k by omega] at this
      exact this

section
variable {H : Type} {enc : TypeId × Value → H} {P : Program} {W : World} {base : Nat} {spare : Nat → Bool} {held : Bool}

/-- A cell can be packed. -/
def Packs (P : Program) (W : World) (f : Nat) (s : S) (c' : Value) : Prop :=
  ∀ ρ m, Rel0 W ρ m → ∃ ρ1 m1 c, Rel0 W (ρ ++ ρ1) (m ++ m1) ∧ conc0 (ρ ++ ρ1) c c' ∧ CV f (m ++ m1) s c

theorem packs_row {f : Nat} : ∀ {row : List S} {cs' : List Value}, cs'.length = row.length → (∀ (j : Nat) s c', row[j]? = some s → cs'[j]? = some c' → Packs P W f s c') → ∀ ρ m, Rel0 W ρ m →
    ∃ ρ1 m1 cs, Rel0 W (ρ ++ ρ1) (m ++ m1) ∧ All2 (conc0 (ρ ++ ρ1)) cs cs' ∧ cs.length = row.length ∧ ∀ (j : Nat) s c, row[j]? = some s → cs[j]? = some c → CV f (m ++ m1) s c
  | [], [], _, _, ρ, m, h => ⟨[], [], [], by simpa using h, trivial, rfl, fun j s c hj => by simp at hj⟩
  | s :: row, c' :: cs', hl, hp, ρ, m, h => by
    obtain ⟨ρ1, m1, c, h1, hc, hv⟩ := hp 0 s c' (by simp) (by simp) ρ m h
    obtain ⟨ρ2, m2, cs, h2, ha, hlen, hcv⟩ := packs_row (row := row) (cs' := cs') (by simpa using hl) (fun j s c' hj hj' => hp (j + 1) s c' (by simpa using hj) (by simpa using hj')) _ _ h1
    refine ⟨ρ1 ++ ρ2, m1 ++ m2, c :: cs, by rw [← List.append_assoc, ← List.append_assoc]; exact h2, ?_, by simp [hlen], fun j s' c hj hj' => ?_⟩
    · rw [← List.append_assoc]
      exact ⟨conc0_mono (Ext.app _ _) hc, ha⟩
    · rw [← List.append_assoc]
      cases j with
      | zero => simp at hj hj'; subst hj; subst hj'; exact hv.ext m2
      | succ j => exact hcv j s' c (by simpa using hj) (by simpa using hj')
  | [], _ :: _, hl, _, _, _, _ => by simp at hl
  | _ :: _, [], hl, _, _, _, _ => by simp at hl

theorem packs_rows {f : Nat} {row : List S} : ∀ {rs : List (List Value)}, (∀ r ∈ rs, r.length = row.length ∧ ∀ (j : Nat) s c', row[j]? = some s → r[j]? = some c' → Packs P W f s c') → ∀ ρ m, Rel0 W ρ m →
    ∃ (ρ1 : List (Option Row)) (m1 : Mem) (rows : List (List Value)), Rel0 W (ρ ++ ρ1) (m ++ m1) ∧ rows.length = rs.length ∧ (∀ r ∈ rows, r.length = row.length) ∧ All2 (conc0 (ρ ++ ρ1)) rows.flatten rs.flatten ∧
      ∀ r ∈ rows, ∀ (j : Nat) s c, row[j]? = some s → r[j]? = some c → CV f (m ++ m1) s c
  | [], _, ρ, m, h => ⟨[], [], [], by simpa using h, rfl, by simp, trivial, by simp⟩
  | r' :: rs, hp, ρ, m, h => by
    obtain ⟨hl, hp0⟩ := hp r' (by simp)
    obtain ⟨ρ1, m1, r, h1, ha, hlen, hcv⟩ := packs_row (P := P) hl hp0 ρ m h
    obtain ⟨ρ2, m2, rows, h2, hl2, hs2, ha2, hcv2⟩ := packs_rows (rs := rs) (fun x hx => hp x (by simp [hx])) _ _ h1
    refine ⟨ρ1 ++ ρ2, m1 ++ m2, r :: rows, by rw [← List.append_assoc, ← List.append_assoc]; exact h2, by simp [hl2], ?_, ?_, ?_⟩
    · intro x hx
      rcases List.mem_cons.1 hx with rfl | hx
      · exact hlen
      · exact hs2 x hx
    · rw [← List.append_assoc, List.flatten_cons, List.flatten_cons]
      exact All2.append (ha.mono fun _ _ => conc0_mono (Ext.app _ _)) ha2
    · intro x hx j s c hj hj'
      rw [← List.append_assoc]
      rcases List.mem_cons.1 hx with rfl | hx
      · exact (hcv j s c hj hj').ext m2
      · exact hcv2 x hx j s c hj hj'

/-- The cells of a row, each with its own reading. -/
theorem row_trod {n : Nat} {e : TypeId} {cs : List Value} {x : DataW H × List MemPlace} (hone : oneB P e = true) (h : DataW.trod enc P W base spare held n e cs = some x) (hC : cs.length = P.cellsOf e) :
    cs.length = (cellTys P e).length ∧ ∀ (j : Nat) t, (cellTys P e)[j]? = some t → ∃ c n' y, cs[j]? = some c ∧ DataW.trod enc P W base spare held n' t [c] = some y := by
  unfold oneB at hone
  unfold cellTys
  split at hone
  · rename_i fs he
    simp only [Bool.and_eq_true, beq_iff_eq] at hone
    simp only [he]
    obtain ⟨xs, n', _, _, hl, hxl, hf⟩ := DataW.trod_struct he h
    refine ⟨by simp [hl, hone.2], fun j t hj => ?_⟩
    simp only [List.getElem?_map, Option.map_eq_some_iff] at hj
    obtain ⟨fl, hfl, rfl⟩ := hj
    have hfl' : fs[j]? = some fl := by simpa using hfl
    obtain ⟨ho, hk⟩ := hone_of hone.1 j fl hfl'
    have hjl : j < cs.length := by
      have := (Array.getElem?_eq_some_iff.1 hfl').1
      rw [hl, hone.2]; exact this
    have h1 := hf j fl hfl'
    have hxj : j < xs.length := by rw [hxl]; exact (Array.getElem?_eq_some_iff.1 hfl').1
    rw [ho, hk, List.drop_eq_getElem_cons hjl, List.getElem?_eq_getElem hxj] at h1
    exact ⟨cs[j], n', xs[j], List.getElem?_eq_getElem hjl, h1⟩
  · cases hone
  · rename_i hns hna
    simp only [beq_iff_eq] at hone
    have : (match P.underlying e with | some (.struct fs) => fs.toList.map (·.type) | _ => [e]) = [e] := by
      split
      · rename_i fs he; exact absurd he (hns fs)
      · rfl
    rw [this]
    rw [hone] at hC
    match cs, hC with
    | [c], _ =>
      refine ⟨rfl, fun j t hj => ?_⟩
      cases j with
      | zero => simp at hj; subst hj; exact ⟨c, n, x, rfl, h⟩
      | succ j => simp at hj

theorem pack : ∀ (f : Nat) {t : TypeId} {s : S} {n : Nat} {c' : Value} {x : DataW H × List MemPlace}, TS P f t s = true → DataW.trod enc P W base spare held n t [c'] = some x → Packs P W f s c'
  | 0, _, _, _, _, _, hts, _ => by simp [TS] at hts
  | f + 1, t, .int k, n, c', x, hts, h => by
    intro ρ m hr
    unfold TS at hts
    split at hts
    · rename_i k' ht
      have hk : k' = k := by simpa using hts
      subst hk
      obtain ⟨i, hi, _, hw⟩ := DataW.trod_int ht h
      simp at hi
      subst hi
      simp [Lit.wf] at hw
      exact ⟨[], [], .int k' i, by simpa using hr, by simp [conc0], i, rfl, hw.1, hw.2⟩
    · cases hts
  | f + 1, t, .str, n, c', x, hts, h => by
    intro ρ m hr
    unfold TS at hts
    split at hts
    · rename_i ht
      obtain ⟨s, hs, _, hw⟩ := DataW.trod_string ht h
      simp at hs
      subst hs
      exact ⟨[], [], .string s, by simpa using hr, by simp [conc0], s, rfl, hw⟩
    · cases hts
  | f + 1, t, .sl row, n, c', x, hts, h => by
    intro ρ m hr
    unfold TS at hts
    split at hts
    · rename_i e ht
      simp only [Bool.and_eq_true, beq_iff_eq, decide_eq_true_eq] at hts
      obtain ⟨⟨⟨hone, hlr⟩, hpos⟩, hall⟩ := hts
      rcases open_slice ht h with ⟨hc, _⟩ | ⟨a, len, cap, mm, n', D, Pl, hc, hb, hlc, hcap, hmm, hx, hi⟩
      · simp at hc
        subst hc
        exact ⟨[], [], .slice none 0 0, by simpa using hr, by simp [conc0], none, 0, [], rfl, Nat.zero_le _, Rd.nil _ _ _, by simp⟩
      · simp at hc
        subst hc
        by_cases h0 : len = 0
        · subst h0
          exact ⟨[], [], .slice (some ⟨0, 0, some 0⟩) 0 0, by simpa using hr, by simp [conc0], _, 0, [], rfl, Nat.zero_le _, Rd.nil _ _ _, by simp⟩
        · have hlm : len ≤ mm := by rw [hmm]; split <;> omega
          have hrow : ∀ i, i < len → ∃ r : List Value, r.length = row.length ∧ (∀ (j : Nat) s c', row[j]? = some s → r[j]? = some c' → Packs P W f s c') ∧ ∀ (j : Nat) c, r[j]? = some c → W.cell? ((a.add (i * row.length)).add j) = some c := by
            intro i hil
            obtain ⟨cs, hcs, htr⟩ := hi i (by omega)
            obtain ⟨_, hcl, hat⟩ := World.cells?_some hcs
            obtain ⟨hl, hrt⟩ := row_trod hone htr hcl
            rw [hlr] at hl
            have hCe : P.cellsOf e = row.length := by omega
            refine ⟨cs, hl, fun j s c' hj hc' => ?_, fun j c hj => ?_⟩
            · have hjr : j < row.length := (List.getElem?_eq_some_iff.1 hj).1
              have htj : (cellTys P e)[j]? = some ((cellTys P e)[j]'(by omega)) := List.getElem?_eq_getElem (by omega)
              obtain ⟨c, n'', y, hcj, hty⟩ := hrt j _ htj
              rw [hcj] at hc'
              injection hc' with hc'
              subst hc'
              refine pack f ?_ hty
              have hz : ((cellTys P e).zip row)[j]? = some ((cellTys P e)[j]'(by omega), s) := by
                rw [List.getElem?_zip_eq_some]; exact ⟨htj, hj⟩
              exact List.all_eq_true.1 hall _ (List.mem_of_getElem? hz)
            · have hjl : j < cs.length := (List.getElem?_eq_some_iff.1 hj).1
              rw [← hCe, hat j (by omega), hj]
          let R : Nat → List Value := fun i => if hi : i < len then (hrow i hi).choose else []
          have hR : ∀ i (hi : i < len), R i = (hrow i hi).choose := fun i hi => by simp [R, hi]
          have hRm : ∀ r ∈ (List.range len).map R, r.length = row.length ∧ ∀ (j : Nat) s c', row[j]? = some s → r[j]? = some c' → Packs P W f s c' := by
            intro r hr'
            obtain ⟨i, hi', rfl⟩ := List.mem_map.1 hr'
            have hil := List.mem_range.1 hi'
            rw [hR i hil]
            exact ⟨(hrow i hil).choose_spec.1, (hrow i hil).choose_spec.2.1⟩
          obtain ⟨ρ1, m1, rows, h1, hlen, hsz, ha, hcv⟩ := packs_rows (P := P) hRm ρ m hr
          have hcell : ∀ (k : Nat) x, ((List.range len).map R).flatten[k]? = some x → W.cell? (a.add (0 + k)) = some x := by
            refine flatten_all (Q := fun k x => W.cell? (a.add k) = some x) (C := row.length) 0 (fun r hr' => (hRm r hr').1) fun i j r x hir hjx => ?_
            rw [List.getElem?_map, Option.map_eq_some_iff] at hir
            obtain ⟨i', hi', rfl⟩ := hir
            have hil : i < len := by
              have := (List.getElem?_eq_some_iff.1 hi').1
              simpa using this
            have : i' = i := by simpa [hil] using hi'.symm
            subst this
            rw [hR i' hil] at hjx
            have := (hrow i' hil).choose_spec.2.2 j x hjx
            rw [Nat.zero_add, ← this, Go.Deep.add_add]
          have hfl : rows.flatten.length = ((List.range len).map R).flatten.length := by
            have := ha.length
            exact this
          have hpos' : 0 < ((List.range len).map R).flatten.length := by
            rw [flatten_length fun r hr' => (hRm r hr').1]
            simp
            exact Nat.mul_pos (by omega) hpos
          have hspot : a.spot = none ∧ a.block < W.heap.size := by
            have := hcell 0 _ (List.getElem?_eq_getElem hpos')
            rw [show a.add (0 + 0) = a from by simp [Addr.add]] at this
            unfold World.cell? at this
            split at this
            · rename_i c' _ _ hb'
              split at this
              · cases this
              · rename_i hsp
                exact ⟨by simpa using hsp, (Array.getElem?_eq_some_iff.1 hb').1⟩
            · cases this
          have hadd := h1.add ⟨a.block, a.off, row.length, cap⟩ ⟨rows.flatten, e, row.length, 0⟩ rfl rfl hspot.2 (fun j v hj => by
            obtain ⟨v', hv', hc'⟩ := ha.get j v hj
            refine ⟨v', ?_, conc1_of0 hc'⟩
            have := hcell j v' hv'
            rw [Nat.zero_add] at this
            rw [add_spot hspot.1] at this
            exact this)
          have hrl : rows.length = len := by simpa using hlen
          refine ⟨ρ1 ++ [some ⟨a.block, a.off, row.length, cap⟩], m1 ++ [⟨rows.flatten, e, row.length, 0⟩], .slice (some ⟨(m ++ m1).length, 0, none⟩) len len, by rw [← List.append_assoc, ← List.append_assoc]; exact hadd, ?_, ?_⟩
          · refine ⟨rfl, .inl ⟨rfl, ⟨a.block, a.off, row.length, cap⟩, ?_, by simpa using hlc, ?_⟩⟩
            · rw [← List.append_assoc, List.getElem?_append_right (by rw [h1.1]; exact Nat.le_refl _), h1.1]
              simp
            · have : a = ⟨a.block, a.off, none⟩ := by
                have := hspot.1
                cases a; simp_all
              simp only [Nat.zero_mul, Nat.add_zero, Nat.sub_zero]
              rw [← this]
          · rw [← List.append_assoc]
            have hrd := Rd.new (m ++ m1) [] (rows := rows) (sz := row.length) e 0 (by omega) hsz
            rw [hrl] at hrd
            exact ⟨_, len, rows, rfl, by omega, hrd, fun r hr' j s c hj hc => (hcv r hr' j s c hj hc).ext _⟩
    · cases hts

/-- The shapes of arguments: one cell, or a struct of such. -/
inductive A where
  | one (s : S)
  | agg (row : List S)
def TA (P : Program) (f : Nat) (t : TypeId) : A → Bool
  | .one s => TS P f t s
  | .agg row => (match P.underlying t with | some (.struct _) => true | _ => false) && oneB P t && (cellTys P t).length == row.length && ((cellTys P t).zip row).all fun p => TS P f p.1 p.2
def AV (f : Nat) (m : Mem) : A → Value → Prop
  | .one s, v => CV f m s v
  | .agg row, v => ∃ cs : List Value, v = .agg cs.toArray ∧ cs.length = row.length ∧ ∀ (j : Nat) s c, row[j]? = some s → cs[j]? = some c → CV f m s c
theorem AV.ext {f : Nat} {m : Mem} {s : A} {v : Value} (j : Mem) (h : AV f m s v) : AV f (m ++ j) s v := by
  cases s with
  | one s => exact CV.ext j h
  | agg row => obtain ⟨cs, h1, h2, h3⟩ := h; exact ⟨cs, h1, h2, fun i s c hs hc => (h3 i s c hs hc).ext j⟩

theorem conc3_of0 {ρ : List (Option Row)} {v v' : Value} (h : conc0 ρ v v') : conc3 ρ v v' := by
  unfold conc3
  split
  · simp [conc0] at h
  · unfold conc2
    split
    · simp [conc0] at h
    · exact conc1_of0 h

theorem one_cells {r : Reach} {b0 : Nat} {f : Nat} {t : TypeId} {s : S} {v : Value} (hts : TS P f t s = true) (hv : Value.okWide P W r b0 t v) : v.cells = #[v] := by
  cases f with
  | zero => simp [TS] at hts
  | succ f =>
    cases s with
    | int k =>
      unfold TS at hts
      split at hts
      · rename_i ht; obtain ⟨n, rfl⟩ := okWide_int ht hv; rfl
      · cases hts
    | str =>
      unfold TS at hts
      split at hts
      · rename_i ht; obtain ⟨n, rfl⟩ := okWide_string ht hv; rfl
      · cases hts
    | sl row =>
      unfold TS at hts
      split at hts
      · rename_i ht; obtain ⟨a, l, c, rfl⟩ := okWide_slice ht hv; rfl
      · cases hts

theorem packA {r : Reach} {b0 f : Nat} {t : TypeId} {a : A} {v' : Value} {d : DataW H} {ps : List MemPlace} (hts : TA P f t a = true) (hv : Value.okWide P W r b0 t v') (h : DataW.Trod enc P W base spare held t v' d ps)
    {ρ : List (Option Row)} {m : Mem} (hr : Rel0 W ρ m) : ∃ ρ1 m1 v, Rel0 W (ρ ++ ρ1) (m ++ m1) ∧ conc3 (ρ ++ ρ1) v v' ∧ AV f (m ++ m1) a v := by
  obtain ⟨n, hn⟩ := h
  cases a with
  | one s =>
    rw [one_cells hts hv] at hn
    obtain ⟨ρ1, m1, c, h1, hc, hcv⟩ := pack f hts hn ρ m hr
    exact ⟨ρ1, m1, c, h1, conc3_of0 hc, hcv⟩
  | agg row =>
    simp only [TA, Bool.and_eq_true, beq_iff_eq] at hts
    obtain ⟨⟨⟨hst, hone⟩, hlr⟩, hall⟩ := hts
    split at hst
    · rename_i fs ht
      obtain ⟨cs, rfl, hC⟩ := okWide_struct ht hv
      have hn' : DataW.trod enc P W base spare held n t cs.toList = some (d, ps) := hn
      obtain ⟨hl, hrt⟩ := row_trod hone hn' (by simpa using hC)
      rw [hlr] at hl
      obtain ⟨ρ1, m1, c, h1, ha, hcl, hcv⟩ := packs_row (P := P) (W := W) (f := f) (row := row) hl (fun j s c' hj hc' => by
        have hjr : j < row.length := (List.getElem?_eq_some_iff.1 hj).1
        have htj : (cellTys P t)[j]? = some ((cellTys P t)[j]'(by omega)) := List.getElem?_eq_getElem (by omega)
        obtain ⟨c, n'', y, hcj, hty⟩ := hrt j _ htj
        rw [hcj] at hc'
        injection hc' with hc'
        subst hc'
        refine pack f ?_ hty
        have hz : ((cellTys P t).zip row)[j]? = some ((cellTys P t)[j]'(by omega), s) := by
          rw [List.getElem?_zip_eq_some]; exact ⟨htj, hj⟩
        exact List.all_eq_true.1 hall _ (List.mem_of_getElem? hz)) ρ m hr
      refine ⟨ρ1, m1, .agg c.toArray, h1, ?_, c, rfl, hcl, hcv⟩
      exact ⟨cs, rfl, by simpa using ha.mono fun _ _ => conc1_of0⟩
    · cases hst

/-- All arguments. -/
def AVs (f : Nat) (m : Mem) : List A → List Value → Prop
  | [], [] => True
  | a :: as, v :: vs => AV f m a v ∧ AVs f m as vs
  | _, _ => False
theorem AVs.ext {f : Nat} {m : Mem} (j : Mem) : ∀ {as : List A} {vs : List Value}, AVs f m as vs → AVs f (m ++ j) as vs
  | [], [], h => h
  | _ :: _, _ :: _, h => ⟨h.1.ext j, AVs.ext j h.2⟩
  | [], _ :: _, h => h.elim
  | _ :: _, [], h => h.elim
def TAs (P : Program) (f : Nat) : List TypeId → List A → Bool
  | [], [] => true
  | t :: ts, a :: as => TA P f t a && TAs P f ts as
  | _, _ => false

theorem packAll {r : Reach} {b0 f : Nat} : ∀ {ts : List TypeId} {as : List A} {vs' : List Value} {ds : List (DataW H)} {ps : List MemPlace}, TAs P f ts as = true →
    (∀ (j : Nat) t v, ts[j]? = some t → vs'[j]? = some v → Value.okWide P W r b0 t v) → DataW.TrodAll enc P W base spare held ts vs' ds ps → ∀ {ρ : List (Option Row)} {m : Mem}, Rel0 W ρ m →
    ∃ ρ1 m1 vs, Rel0 W (ρ ++ ρ1) (m ++ m1) ∧ All2 (conc3 (ρ ++ ρ1)) vs vs' ∧ AVs f (m ++ m1) as vs
  | [], [], vs', ds, ps, _, _, h, ρ, m, hr => by
    obtain ⟨rfl, _, _⟩ := trodAll_nil h
    exact ⟨[], [], [], by simpa using hr, trivial, trivial⟩
  | t :: ts, a :: as, vs', ds, ps, hts, hok, h, ρ, m, hr => by
    simp only [TAs, Bool.and_eq_true] at hts
    obtain ⟨v, vs1, d, ds1, p, q, rfl, rfl, rfl, h1, h2⟩ := trodAll_cons h
    obtain ⟨ρ1, m1, x, r1, c1, a1⟩ := packA hts.1 (hok 0 t v (by simp) (by simp)) h1 hr
    obtain ⟨ρ2, m2, xs, r2, c2, a2⟩ := packAll hts.2 (fun j t v hj hv => hok (j + 1) t v (by simpa using hj) (by simpa using hv)) h2 r1
    refine ⟨ρ1 ++ ρ2, m1 ++ m2, x :: xs, by rw [← List.append_assoc, ← List.append_assoc]; exact r2, ?_, ?_⟩
    · rw [← List.append_assoc]; exact ⟨conc3_mono (Ext.app _ _) c1, c2⟩
    · rw [← List.append_assoc]; exact ⟨a1.ext _, a2⟩
  | [], _ :: _, _, _, _, hts, _, _, _, _, _ => by simp [TAs] at hts
  | _ :: _, [], _, _, _, hts, _, _, _, _, _ => by simp [TAs] at hts
end

end Go.Abs
