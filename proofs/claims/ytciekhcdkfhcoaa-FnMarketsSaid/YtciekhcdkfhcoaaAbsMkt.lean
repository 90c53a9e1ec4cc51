/-
  Markets: rows of two whole numbers and two lists of whole numbers. Conditions: none.
-/
import Derived.Test.YtciekhcdkfhcoaaAbsStr
set_option linter.unusedSimpArgs false
set_option linter.unusedVariables false
set_option linter.unusedSectionVars false
namespace Go.Abs
open Go.Proofs

abbrev Mk := Int × Int × List Int × List Int
def mkRow4 (x : Mk) (a b : Option Addr) : List Value := [.int .i64 x.1, .int .i64 x.2.1, .slice a x.2.2.1.length x.2.2.1.length, .slice b x.2.2.2.length x.2.2.2.length]
/-- The row at a place of an object. -/
def MkAt (m : Mem) (o : AObj) (i : Nat) (x : Mk) (a b : Option Addr) : Prop :=
  i * 4 + 4 ≤ o.cells.length ∧ (o.cells.drop (i * 4)).take 4 = mkRow4 x a b ∧ o.cells[i * 4]? = some (.int .i64 x.1) ∧ o.cells[i * 4 + 1]? = some (.int .i64 x.2.1) ∧
    o.cells[i * 4 + 2]? = some (.slice a x.2.2.1.length x.2.2.1.length) ∧ o.cells[i * 4 + 3]? = some (.slice b x.2.2.2.length x.2.2.2.length) ∧ RdI m a x.2.2.1 ∧ RdI m b x.2.2.2
def RdM (m : Mem) (a : Option Addr) (xs : List Mk) : Prop :=
  ∀ (i : Nat) (h : i < xs.length), ∃ id off o ad bd, a = some ⟨id, off, none⟩ ∧ m[id]? = some o ∧ o.kind ≤ 2 ∧ o.sz = 4 ∧ MkAt m o (off + i) xs[i] ad bd
theorem RdI.pre' {m m' : Mem} {a : Option Addr} {xs : List Int} (h : RdI m a xs) (hp : m <+: m') : RdI m' a xs := by obtain ⟨j, rfl⟩ := hp; exact h.ext j
theorem MkAt.pre {m m' : Mem} {o : AObj} {i : Nat} {x : Mk} {a b : Option Addr} (h : MkAt m o i x a b) (hp : m <+: m') : MkAt m' o i x a b := by
  obtain ⟨h1, h2, h3, h4, h5, h6, h7, h8⟩ := h
  exact ⟨h1, h2, h3, h4, h5, h6, h7.pre' hp, h8.pre' hp⟩
theorem RdM.pre {m m' : Mem} {a : Option Addr} {xs : List Mk} (h : RdM m a xs) (hp : m <+: m') : RdM m' a xs := fun i hi => by
  obtain ⟨id, off, o, ad, bd, h1, h2, h3, h4, h5⟩ := h i hi
  exact ⟨id, off, o, ad, bd, h1, prefix_get hp h2, h3, h4, h5.pre hp⟩
/-- Four cells make a row. -/
theorem row4 {c : List Value} {i : Nat} {p q r s : Value} (h0 : c[i]? = some p) (h1 : c[i + 1]? = some q) (h2 : c[i + 2]? = some r) (h3 : c[i + 3]? = some s) : i + 4 ≤ c.length ∧ (c.drop i).take 4 = [p, q, r, s] := by
  have hl : i + 3 < c.length := (List.getElem?_eq_some_iff.1 h3).1
  refine ⟨by omega, ?_⟩
  rw [List.drop_eq_getElem_cons (by omega), List.drop_eq_getElem_cons (by omega), List.drop_eq_getElem_cons (by omega), List.drop_eq_getElem_cons (by omega)]
  rw [List.getElem?_eq_getElem (by omega)] at h0 h1 h2 h3
  injection h0 with h0; injection h1 with h1; injection h2 with h2; injection h3 with h3
  simp [h0, h1, h2, h3, List.take]
theorem MkAt.of {m : Mem} {o : AObj} {i : Nat} {x : Mk} {a b : Option Addr} (h0 : o.cells[i * 4]? = some (.int .i64 x.1)) (h1 : o.cells[i * 4 + 1]? = some (.int .i64 x.2.1))
    (h2 : o.cells[i * 4 + 2]? = some (.slice a x.2.2.1.length x.2.2.1.length)) (h3 : o.cells[i * 4 + 3]? = some (.slice b x.2.2.2.length x.2.2.2.length)) (ha : RdI m a x.2.2.1) (hb : RdI m b x.2.2.2) : MkAt m o i x a b :=
  ⟨(row4 h0 h1 h2 h3).1, (row4 h0 h1 h2 h3).2, h0, h1, h2, h3, ha, hb⟩
theorem CV.slM {f : Nat} {m : Mem} {v : Value} (h : CV f m (.sl [I64, I64, .sl [I64], .sl [I64]]) v) :
    ∃ a, ∃ xs : List Mk, v = .slice a xs.length xs.length ∧ xs.length ≤ maxLen ∧ (∀ x ∈ xs, x.2.2.1.length ≤ maxLen ∧ x.2.2.2.length ≤ maxLen) ∧ RdM m a xs := by
  cases f with
  | zero => exact h.elim
  | succ f =>
    obtain ⟨a, n, rows, rfl, hn, hr, hc⟩ := h
    have hrow : ∀ r ∈ rows, ∃ ad bd, ∃ x : Mk, r = mkRow4 x ad bd ∧ (x.2.2.1.length ≤ maxLen ∧ x.2.2.2.length ≤ maxLen) ∧ RdI m ad x.2.2.1 ∧ RdI m bd x.2.2.2 := fun r hr' => by
      obtain ⟨w, x, y, z, rfl⟩ := list4 (hr.2.1 r hr')
      obtain ⟨w, rfl, _⟩ := CV.int (hc _ hr' 0 _ _ rfl rfl)
      obtain ⟨x, rfl, _⟩ := CV.int (hc _ hr' 1 _ _ rfl rfl)
      obtain ⟨ad, ys, rfl, h1, h2, _⟩ := CV.sl1 (hc _ hr' 2 _ _ rfl rfl)
      obtain ⟨bd, zs, rfl, h3, h4, _⟩ := CV.sl1 (hc _ hr' 3 _ _ rfl rfl)
      exact ⟨ad, bd, (w, x, ys, zs), rfl, ⟨h1, h3⟩, h2, h4⟩
    have key : ∀ l : List (List Value), (∀ r ∈ l, ∃ ad bd, ∃ x : Mk, r = mkRow4 x ad bd ∧ (x.2.2.1.length ≤ maxLen ∧ x.2.2.2.length ≤ maxLen) ∧ RdI m ad x.2.2.1 ∧ RdI m bd x.2.2.2) →
        ∃ xs : List Mk, xs.length = l.length ∧ (∀ x ∈ xs, x.2.2.1.length ≤ maxLen ∧ x.2.2.2.length ≤ maxLen) ∧ ∀ (i : Nat) (h : i < xs.length), ∃ ad bd, l[i]? = some (mkRow4 xs[i] ad bd) ∧ RdI m ad xs[i].2.2.1 ∧ RdI m bd xs[i].2.2.2 := by
      intro l
      induction l with
      | nil => exact fun _ => ⟨[], rfl, by simp, fun i h => by simp at h⟩
      | cons r l ih =>
        intro h
        obtain ⟨xs, h1, h2, h3⟩ := ih fun x hx => h x (by simp [hx])
        obtain ⟨ad, bd, x, rfl, g1, g2⟩ := h r (by simp)
        refine ⟨x :: xs, by simp [h1], fun y hy => ?_, fun i hi => ?_⟩
        · rcases List.mem_cons.1 hy with rfl | hy
          · exact g1
          · exact h2 y hy
        · cases i with
          | zero => exact ⟨ad, bd, rfl, g2⟩
          | succ i => simpa using h3 i (by simpa using hi)
    obtain ⟨xs, h1, h2, h3⟩ := key rows hrow
    have hlen : xs.length = n := h1.trans hr.1
    refine ⟨a, xs, by rw [hlen], by rw [hlen]; exact hn, h2, fun i hi => ?_⟩
    obtain ⟨ad, bd, g1, g2, g3⟩ := h3 i hi
    obtain ⟨id, off, o, r, e1, e2, e3, e4, e5, _, e7, e8, e6⟩ := Rd.at_ hr (i := i) (by omega)
    rw [g1] at e5
    injection e5 with e5
    subst e5
    refine ⟨id, off, o, ad, bd, e1, e2, e3, e4, e8, e7, ?_, e6 1 _ rfl, e6 2 _ rfl, e6 3 _ rfl, g2, g3⟩
    have := e6 0 _ rfl
    simpa using this
/-- A market's value. -/
def MkV (m : Mem) (v : Value) (x : Mk) : Prop := ∃ a b, v = .agg (mkRow4 x a b).toArray ∧ RdI m a x.2.2.1 ∧ RdI m b x.2.2.2
/-- How many numbers the first markets hold. -/
def sumMk (xs : List Mk) : Nat := (xs.map fun x => x.2.2.1.length + x.2.2.2.length).sum
theorem sumMk_succ {xs : List Mk} {k : Nat} (h : k < xs.length) : sumMk (xs.take (k + 1)) = sumMk (xs.take k) + (xs[k].2.2.1.length + xs[k].2.2.2.length) := by
  unfold sumMk
  rw [List.take_add_one, List.getElem?_eq_getElem h, List.map_append, List.sum_append]; simp
theorem sumMk_take (xs : List Mk) (k : Nat) : sumMk (xs.take k) ≤ sumMk xs := by
  have : sumMk xs = sumMk (xs.take k) + sumMk (xs.drop k) := by
    conv => lhs; rw [← List.take_append_drop k xs]
    unfold sumMk
    rw [List.map_append, List.sum_append]
  omega
theorem sumMk_at {xs : List Mk} {k : Nat} (h : k < xs.length) : xs[k].2.2.1.length + xs[k].2.2.2.length ≤ sumMk xs := by
  have := sumMk_succ h
  have := sumMk_take xs (k + 1)
  omega
theorem sumMk_mem {xs : List Mk} {x : Mk} (h : x ∈ xs) : x.2.2.1.length + x.2.2.2.length ≤ sumMk xs := by
  obtain ⟨i, hi, rfl⟩ := List.getElem_of_mem h
  exact sumMk_at hi
theorem pre_of {m j m' : Mem} (h : m ++ j <+: m') : m <+: m' := (List.prefix_append _ _).trans h
/-- Only the objects from `lo` up to `hi` may differ. -/
def FrameM (lo hi : Nat) (m m' : Mem) : Prop := m'.length = m.length ∧ ∀ i, i < lo ∨ hi ≤ i → m'[i]? = m[i]?
theorem FrameM.refl (lo hi : Nat) (m : Mem) : FrameM lo hi m m := ⟨rfl, fun _ _ => rfl⟩
theorem FrameM.trans {lo hi : Nat} {m m' m'' : Mem} (h : FrameM lo hi m m') (h' : FrameM lo hi m' m'') : FrameM lo hi m m'' := ⟨h'.1.trans h.1, fun i hi => (h'.2 i hi).trans (h.2 i hi)⟩
theorem FrameM.set {lo hi id : Nat} {m m' : Mem} (h : FrameM lo hi m m') (h1 : lo ≤ id) (h2 : id < hi) (o : AObj) : FrameM lo hi m (m'.set id o) :=
  ⟨by simp [h.1], fun i hi => by rw [List.getElem?_set_ne (by omega)]; exact h.2 i hi⟩
theorem FrameM.pre {lo hi : Nat} {m0 m m' : Mem} (h : FrameM lo hi m m') (hp : m0 <+: m) (hl : m0.length ≤ lo) : m0 <+: m' := by
  rw [List.prefix_iff_eq_take]
  apply List.ext_getElem?
  intro i
  rw [List.getElem?_take]
  by_cases hi : i < m0.length
  · rw [if_pos hi, h.2 i (.inl (by omega))]
    exact (prefix_get hp (List.getElem?_eq_getElem hi)).symm ▸ List.getElem?_eq_getElem hi
  · rw [if_neg hi]; exact List.getElem?_eq_none (by omega)
/-- Markets of one's own: all objects are new since `lo`. -/
def OwnM (m : Mem) (lo id : Nat) (e : TypeId) (xs : List Mk) (n : Nat) : Prop :=
  ∃ o, m[id]? = some o ∧ lo ≤ id ∧ (o.kind = 1 ∧ o.sz = 4 ∧ o.cells.length = xs.length * 4) ∧ ∀ (i : Nat) (h : i < xs.length), i < n →
    ∃ j1 j2, lo ≤ j1 ∧ lo ≤ j2 ∧ o.cells[i * 4]? = some (.int .i64 xs[i].1) ∧ o.cells[i * 4 + 1]? = some (.int .i64 xs[i].2.1) ∧
      o.cells[i * 4 + 2]? = some (.slice (some ⟨j1, 0, none⟩) xs[i].2.2.1.length xs[i].2.2.1.length) ∧ o.cells[i * 4 + 3]? = some (.slice (some ⟨j2, 0, none⟩) xs[i].2.2.2.length xs[i].2.2.2.length) ∧
      m[j1]? = some ⟨xs[i].2.2.1.map (Value.int .i64), e, 1, 1⟩ ∧ m[j2]? = some ⟨xs[i].2.2.2.map (Value.int .i64), e, 1, 1⟩
theorem OwnM.rd {m : Mem} {lo id : Nat} {e : TypeId} {xs : List Mk} (h : OwnM m lo id e xs xs.length) : RdM m (some ⟨id, 0, none⟩) xs := fun i hi => by
  obtain ⟨o, h1, h2, ⟨h3, h4, h5⟩, h6⟩ := h
  obtain ⟨j1, j2, _, _, g1, g2, g3, g4, g5, g6⟩ := h6 i hi hi
  refine ⟨id, 0, o, some ⟨j1, 0, none⟩, some ⟨j2, 0, none⟩, rfl, h1, by omega, h4, ?_⟩
  rw [Nat.zero_add]
  exact MkAt.of g1 g2 g3 g4 (RdI.of_get (o := ⟨_, _, 1, 1⟩) g5 (by simp) rfl rfl) (RdI.of_get (o := ⟨_, _, 1, 1⟩) g6 (by simp) rfl rfl)
theorem OwnM.pre {m m' : Mem} {lo id : Nat} {e : TypeId} {xs : List Mk} {n : Nat} (h : OwnM m lo id e xs n) (hp : m <+: m') : OwnM m' lo id e xs n := by
  obtain ⟨o, h1, h2, h3, h6⟩ := h
  refine ⟨o, prefix_get hp h1, h2, h3, fun i hi hn => ?_⟩
  obtain ⟨j1, j2, q1, q2, g1, g2, g3, g4, g5, g6⟩ := h6 i hi hn
  exact ⟨j1, j2, q1, q2, g1, g2, g3, g4, prefix_get hp g5, prefix_get hp g6⟩
theorem set4_old {c : List Value} {k i : Nat} {p q r s : Value} (h : i < k * 4) : ((((c.set (k * 4) p).set (k * 4 + 1) q).set (k * 4 + 1 + 1) r).set (k * 4 + 1 + 1 + 1) s)[i]? = c[i]? := by
  rw [List.getElem?_set_ne (by omega), List.getElem?_set_ne (by omega), List.getElem?_set_ne (by omega), List.getElem?_set_ne (by omega)]
theorem set4_new {c : List Value} {k : Nat} {p q r s : Value} (h : k * 4 + 4 ≤ c.length) :
    ((((c.set (k * 4) p).set (k * 4 + 1) q).set (k * 4 + 1 + 1) r).set (k * 4 + 1 + 1 + 1) s)[k * 4]? = some p ∧ ((((c.set (k * 4) p).set (k * 4 + 1) q).set (k * 4 + 1 + 1) r).set (k * 4 + 1 + 1 + 1) s)[k * 4 + 1]? = some q ∧
    ((((c.set (k * 4) p).set (k * 4 + 1) q).set (k * 4 + 1 + 1) r).set (k * 4 + 1 + 1 + 1) s)[k * 4 + 2]? = some r ∧ ((((c.set (k * 4) p).set (k * 4 + 1) q).set (k * 4 + 1 + 1) r).set (k * 4 + 1 + 1 + 1) s)[k * 4 + 3]? = some s := by
  refine ⟨?_, ?_, ?_, ?_⟩
  · rw [List.getElem?_set_ne (by omega), List.getElem?_set_ne (by omega), List.getElem?_set_ne (by omega), List.getElem?_set_self (by omega)]
  · rw [List.getElem?_set_ne (by omega), List.getElem?_set_ne (by omega), List.getElem?_set_self (by simp; omega)]
  · rw [List.getElem?_set_ne (by omega), List.getElem?_set_self (by simp; omega)]
  · rw [List.getElem?_set_self (by simp; omega)]
theorem OwnM.step {m' m1 : Mem} {lo id k : Nat} {e : TypeId} {xs : List Mk} {o0 : AObj} (ho : m'[id]? = some o0) (hlo : lo ≤ id) (hk0 : o0.cells.length = xs.length * 4) (hlt : k < xs.length)
    (hall : ∀ (i : Nat) (h : i < xs.length), i < k →
    ∃ j1 j2, lo ≤ j1 ∧ lo ≤ j2 ∧ o0.cells[i * 4]? = some (.int .i64 xs[i].1) ∧ o0.cells[i * 4 + 1]? = some (.int .i64 xs[i].2.1) ∧
      o0.cells[i * 4 + 2]? = some (.slice (some ⟨j1, 0, none⟩) xs[i].2.2.1.length xs[i].2.2.1.length) ∧ o0.cells[i * 4 + 3]? = some (.slice (some ⟨j2, 0, none⟩) xs[i].2.2.2.length xs[i].2.2.2.length) ∧
      m'[j1]? = some ⟨xs[i].2.2.1.map (Value.int .i64), e, 1, 1⟩ ∧ m'[j2]? = some ⟨xs[i].2.2.2.map (Value.int .i64), e, 1, 1⟩)
    (hsz : o0.sz = 4) (hp : m' <+: m1) {j1 j2 : Nat} (hj1 : m'.length ≤ j1) (hj2 : m'.length ≤ j2) (g1 : m1[j1]? = some ⟨xs[k].2.2.1.map (Value.int .i64), e, 1, 1⟩) (g2 : m1[j2]? = some ⟨xs[k].2.2.2.map (Value.int .i64), e, 1, 1⟩) (ty : TypeId) :
    OwnM (m1.set id ⟨((((o0.cells.set (k * 4) (.int .i64 xs[k].1)).set (k * 4 + 1) (.int .i64 xs[k].2.1)).set (k * 4 + 1 + 1) (.slice (some ⟨j1, 0, none⟩) xs[k].2.2.1.length xs[k].2.2.1.length)).set (k * 4 + 1 + 1 + 1) (.slice (some ⟨j2, 0, none⟩) xs[k].2.2.2.length xs[k].2.2.2.length)), ty, 4, 1⟩) lo id e xs (k + 1) := by
  have hml : id < m'.length := (List.getElem?_eq_some_iff.1 ho).1
  have hl1 := hp.length_le
  refine ⟨_, List.getElem?_set_self (by omega), hlo, ⟨rfl, rfl, by simp [hk0]⟩, fun i hi hik => ?_⟩
  by_cases hik' : i = k
  · subst hik'
    obtain ⟨q1, q2, q3, q4⟩ := set4_new (c := o0.cells) (k := i) (p := .int .i64 xs[i].1) (q := .int .i64 xs[i].2.1) (r := .slice (some ⟨j1, 0, none⟩) xs[i].2.2.1.length xs[i].2.2.1.length) (s := .slice (some ⟨j2, 0, none⟩) xs[i].2.2.2.length xs[i].2.2.2.length) (by omega)
    refine ⟨j1, j2, by omega, by omega, q1, q2, q3, q4, ?_, ?_⟩
    · rw [List.getElem?_set_ne (by omega)]; exact g1
    · rw [List.getElem?_set_ne (by omega)]; exact g2
  · obtain ⟨i1, i2, a1, a2, a3, a4, a5, a6, a7, a8⟩ := hall i hi (by omega)
    have hne : ∀ j xs', m'[j]? = some (⟨xs', e, 1, 1⟩ : AObj) → id ≠ j := by
      rintro j xs' h rfl
      rw [ho] at h
      injection h with h
      rw [h] at hsz
      simp at hsz
    refine ⟨i1, i2, a1, a2, ?_, ?_, ?_, ?_, ?_, ?_⟩
    · rw [set4_old (by omega)]; exact a3
    · rw [set4_old (by omega)]; exact a4
    · rw [set4_old (by omega)]; exact a5
    · rw [set4_old (by omega)]; exact a6
    · rw [List.getElem?_set_ne (hne _ _ a7)]; exact prefix_get hp a7
    · rw [List.getElem?_set_ne (hne _ _ a8)]; exact prefix_get hp a8
/-! ### Marking -/
def MkMain (m2 : Mem) (id : Nat) (xs : List Mk) (o' : AObj) : Prop :=
  o'.kind = 1 ∧ o'.sz = 4 ∧ o'.cells.length = xs.length * 4 ∧ ∃ o, m2[id]? = some o ∧ o.sz = 4 ∧ ∀ i, i < xs.length → o'.cells[i * 4 + 2]? = o.cells[i * 4 + 2]? ∧ o'.cells[i * 4 + 3]? = o.cells[i * 4 + 3]?
def MkShape (m2 m' : Mem) (id : Nat) (e : TypeId) (xs : List Mk) : Prop :=
  (∃ o', m'[id]? = some o' ∧ MkMain m2 id xs o') ∧
    ∀ (j : Nat) (ys : List Int), m2[j]? = some ⟨ys.map (Value.int .i64), e, 1, 1⟩ → ∃ zs : List Int, zs.length = ys.length ∧ m'[j]? = some ⟨zs.map (Value.int .i64), e, 1, 1⟩
theorem MkShape.inner {m2 m' : Mem} {id j : Nat} {e : TypeId} {xs : List Mk} {ys zs : List Int} (h : MkShape m2 m' id e xs) (hj : m2[j]? = some ⟨ys.map (Value.int .i64), e, 1, 1⟩) (hl : zs.length = ys.length) :
    MkShape m2 (m'.set j ⟨zs.map (Value.int .i64), e, 1, 1⟩) id e xs := by
  obtain ⟨⟨o', h1, h2, h3, h4, o, h5, h6, h7⟩, h8⟩ := h
  have hne : j ≠ id := by
    rintro rfl
    rw [hj] at h5
    injection h5 with h5
    rw [← h5] at h6
    simp at h6
  refine ⟨⟨o', by rw [List.getElem?_set_ne hne]; exact h1, h2, h3, h4, o, h5, h6, h7⟩, fun i ws hi => ?_⟩
  by_cases hij : j = i
  · subst hij
    rw [hj] at hi
    injection hi with hi
    obtain ⟨zs', _, g2⟩ := h8 j ys hj
    have hw : ws.length = ys.length := by
      have := congrArg (fun o : AObj => o.cells.length) hi
      simpa using this.symm
    exact ⟨zs, hl.trans hw.symm, List.getElem?_set_self (List.getElem?_eq_some_iff.1 g2).1⟩
  · rw [List.getElem?_set_ne hij]; exact h8 i ws hi
theorem MkShape.main {m2 m' : Mem} {id : Nat} {e : TypeId} {xs : List Mk} (h : MkShape m2 m' id e xs) {o' : AObj} (ho : MkMain m2 id xs o') : MkShape m2 (m'.set id o') id e xs := by
  obtain ⟨⟨o1, h1, _⟩, h8⟩ := h
  refine ⟨⟨o', List.getElem?_set_self (List.getElem?_eq_some_iff.1 h1).1, ho⟩, fun i ws hi => ?_⟩
  have hne : id ≠ i := by
    rintro rfl
    obtain ⟨_, _, _, o, h5, h6, _⟩ := ho
    rw [hi] at h5
    injection h5 with h5
    rw [← h5] at h6
    simp at h6
  rw [List.getElem?_set_ne hne]; exact h8 i ws hi
theorem MkMain.set {m2 : Mem} {id : Nat} {xs : List Mk} {c : List Value} {ty : TypeId} (h : MkMain m2 id xs ⟨c, ty, 4, 1⟩) (k : Nat) (v : Value) (j : Nat) (hj : j < 2) : MkMain m2 id xs ⟨c.set (k * 4 + j) v, ty, 4, 1⟩ := by
  obtain ⟨_, _, h4, o, h5, h6, h7⟩ := h
  refine ⟨rfl, rfl, by simpa using h4, o, h5, h6, fun i hi => ?_⟩
  obtain ⟨g1, g2⟩ := h7 i hi
  constructor
  · rw [← g1]; exact List.getElem?_set_ne (by omega)
  · rw [← g2]; exact List.getElem?_set_ne (by omega)
theorem OwnM.shape {m2 m3 : Mem} {lo id : Nat} {e : TypeId} {xs : List Mk} (h : OwnM m2 lo id e xs xs.length) (hp : m2 <+: m3) : MkShape m2 m3 id e xs := by
  obtain ⟨o, h1, h2, ⟨h3, h4, h5⟩, h6⟩ := h
  exact ⟨⟨o, prefix_get hp h1, h3, h4, h5, o, h1, h4, fun i hi => ⟨rfl, rfl⟩⟩, fun j ys hj => ⟨ys, rfl, prefix_get hp hj⟩⟩
theorem mkCells_ints (b : Int) (n : Nat) : ∃ zs : List Int, zs.length = n ∧ mkCells 1 b n = zs.map (Value.int .i64) := by
  refine ⟨(List.range n).map fun i : Nat => b + (i : Int), by simp, ?_⟩
  unfold mkCells mkRows
  generalize List.range n = l
  induction l with
  | nil => rfl
  | cons x l ih =>
    rw [List.map_cons, List.flatten_cons, ih]
    simp [mkRow]
end Go.Abs
