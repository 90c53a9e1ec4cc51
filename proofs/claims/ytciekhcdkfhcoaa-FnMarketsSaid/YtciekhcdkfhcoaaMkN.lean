/-
  Markets, part 14: drawn markets in the memory. Conditions: none.
-/
import Derived.Test.YtciekhcdkfhcoaaMkM
import Derived.Test.YtciekhcdkfhcoaaDraw2
set_option linter.unusedSimpArgs false
set_option linter.unusedVariables false
set_option linter.unusedSectionVars false
namespace Go.Proofs.Ytciekhcdkfhcoaa
open Go.Abs Go.RowKit

/-- An object of numbers. -/
def IntsAt (m : Mem) (id : Nat) (l : List Int) : Prop := ∃ o : AObj, m[id]? = some o ∧ 1 ≤ o.kind ∧ o.kind ≤ 2 ∧ o.sz = 1 ∧ o.elem = 2 ∧ o.cells = l.map (Value.int .i64)
theorem IntsAt.pre {m m' : Mem} {id : Nat} {l : List Int} (h : IntsAt m id l) (hp : m <+: m') : IntsAt m' id l := by
  obtain ⟨o, h1, h2⟩ := h; exact ⟨o, prefix_get hp h1, h2⟩
theorem IntsAt.rd {m : Mem} {id : Nat} {l : List Int} (h : IntsAt m id l) : RdI m (some ⟨id, 0, none⟩) l := by
  obtain ⟨o, h1, h2, h3, h4, h5, h6⟩ := h; exact RdI.of_get h1 h3 h4 h6
theorem IntsAt.lt {m : Mem} {id : Nat} {l : List Int} (h : IntsAt m id l) : id < m.length := lt_of_get h.choose_spec.1
theorem IntsAt.rest {m m' : Mem} {S : List Nat} {id : Nat} {l : List Int} (h : IntsAt m id l) (hr : RestS S m m') (hne : id ∉ S) : IntsAt m' id l := by
  obtain ⟨o, h1, h2⟩ := h; exact ⟨o, hr.get _ _ hne h1, h2⟩
/-- A row of a market. -/
def MRow (m : Mem) (B : Nat) (cells : List Value) (i s p : Nat) : Prop := ∃ (d st : Int) (a b : List Int), cells[i * 4]? = some (.int .i64 d) ∧ cells[i * 4 + 1]? = some (.int .i64 st) ∧ cells[i * 4 + 2]? = some (.slice (some ⟨s, 0, none⟩) a.length a.length) ∧ cells[i * 4 + 3]? = some (.slice (some ⟨p, 0, none⟩) b.length b.length) ∧
  IntsAt m s a ∧ IntsAt m p b ∧ 0 < a.length ∧ a.length ≤ B ∧ 0 < b.length ∧ b.length ≤ B
/-- Markets, their slices objects of their own. -/
structure MAt (B lo : Nat) (m : Mem) (im : Nat) (o : AObj) (ss ps : List Nat) (n : Nat) : Prop where
  o_at : m[im]? = some o
  k1 : 1 ≤ o.kind
  k2 : o.kind ≤ 2
  sz : o.sz = 4
  el : o.elem = 35
  clen : o.cells.length = n * 4
  ls : ss.length = n
  lp : ps.length = n
  nd : (ss ++ ps).Nodup
  lo_ : lo ≤ im
  los : ∀ i ∈ ss ++ ps, lo ≤ i ∧ i ≠ im
  row : ∀ i (h1 : i < ss.length) (h2 : i < ps.length), MRow m B o.cells i ss[i] ps[i]
theorem MRow.rest {m m' : Mem} {B : Nat} {S : List Nat} {cells : List Value} {i s p : Nat} (h : MRow m B cells i s p) (hr : RestS S m m') (h1 : s ∉ S) (h2 : p ∉ S) : MRow m' B cells i s p := by
  obtain ⟨d, st, a, b, g1, g2, g3, g4, g5, g6, g7⟩ := h
  exact ⟨d, st, a, b, g1, g2, g3, g4, g5.rest hr h1, g6.rest hr h2, g7⟩
theorem MRow.lt {m : Mem} {B : Nat} {cells : List Value} {i s p : Nat} (h : MRow m B cells i s p) : s < m.length ∧ p < m.length := by
  obtain ⟨d, st, a, b, g1, g2, g3, g4, g5, g6, g7⟩ := h
  exact ⟨g5.lt, g6.lt⟩
theorem MAt.rest {B lo : Nat} {m m' : Mem} {S : List Nat} {im : Nat} {o : AObj} {ss ps : List Nat} {n : Nat} (h : MAt B lo m im o ss ps n) (hr : RestS S m m') (h1 : im ∉ S) (h2 : ∀ i ∈ ss ++ ps, i ∉ S) : MAt B lo m' im o ss ps n :=
  ⟨hr.get _ _ h1 h.o_at, h.k1, h.k2, h.sz, h.el, h.clen, h.ls, h.lp, h.nd, h.lo_, h.los, fun i q1 q2 => (h.row i q1 q2).rest hr (h2 _ (List.mem_append_left _ (List.getElem_mem q1))) (h2 _ (List.mem_append_right _ (List.getElem_mem q2)))⟩
theorem MAt.ids_lt {B lo : Nat} {m : Mem} {im : Nat} {o : AObj} {ss ps : List Nat} {n : Nat} (h : MAt B lo m im o ss ps n) : ∀ i ∈ ss ++ ps, i < m.length := fun i hi => by
  rcases List.mem_append.1 hi with hi | hi
  · obtain ⟨j, hj, rfl⟩ := List.getElem_of_mem hi
    exact (h.row j hj (by rw [h.lp, ← h.ls]; exact hj)).lt.1
  · obtain ⟨j, hj, rfl⟩ := List.getElem_of_mem hi
    exact (h.row j (by rw [h.ls, ← h.lp]; exact hj) hj).lt.2
/-- A market more. -/
theorem MAt.push {B lo : Nat} {m m2 : Mem} {im im2 s p : Nat} {o : AObj} {ss ps : List Nat} {n : Nat} (h : MAt B lo m im o ss ps n) (d st : Int) (a b : List Int) (hs : IntsAt m s a) (hp : IntsAt m p b) (hsl : lo ≤ s) (hpl : lo ≤ p) (hsp : s ≠ p) (hsi : s ≠ im) (hpi : p ≠ im)
    (hsn : s ∉ ss ++ ps) (hpn : p ∉ ss ++ ps) (ha : 0 < a.length ∧ a.length ≤ B) (hb : 0 < b.length ∧ b.length ≤ B)
    (hg : Grown m im ⟨o.cells ++ [.int .i64 d, .int .i64 st, .slice (some ⟨s, 0, none⟩) a.length a.length, .slice (some ⟨p, 0, none⟩) b.length b.length], 35, 4, 2⟩ m2 im2) :
    MAt B lo m2 im2 ⟨o.cells ++ [.int .i64 d, .int .i64 st, .slice (some ⟨s, 0, none⟩) a.length a.length, .slice (some ⟨p, 0, none⟩) b.length b.length], 35, 4, 2⟩ (ss ++ [s]) (ps ++ [p]) (n + 1) := by
  have hr : RestS [im] m m2 := ⟨by have := hg.len; omega, fun i o h1 h2 => hg.old i o (by simpa using h1) h2⟩
  have himl := lt_of_get h.o_at
  have hlt := h.ids_lt
  have hnd := List.pairwise_append.1 h.nd
  have hcl := h.clen
  have hls := h.ls
  have hlp := h.lp
  have hlo := h.lo_
  refine ⟨hg.new, by simp, by simp, rfl, rfl, by simp [hcl]; omega, by simp [h.ls], by simp [h.lp], ?_, by rw [hg.at_]; omega, fun i hi => ?_, fun i h1 h2 => ?_⟩
  · refine List.pairwise_append.2 ⟨List.pairwise_append.2 ⟨hnd.1, by simp, fun x hx y hy e => ?_⟩, List.pairwise_append.2 ⟨hnd.2.1, by simp, fun x hx y hy e => ?_⟩, fun x hx y hy e => ?_⟩
    · simp at hy; subst hy; subst e; exact hsn (List.mem_append_left _ hx)
    · simp at hy; subst hy; subst e; exact hpn (List.mem_append_right _ hx)
    · subst e
      rcases List.mem_append.1 hx with hx | hx <;> rcases List.mem_append.1 hy with hy | hy
      · exact hnd.2.2 x hx x hy rfl
      · simp at hy; subst hy; exact hpn (List.mem_append_left _ hx)
      · simp at hx; subst hx; exact hsn (List.mem_append_right _ hy)
      · simp at hx hy; exact hsp (hx ▸ hy)
  · have hi' : i ∈ ss ++ ps ∨ i = s ∨ i = p := by simp at hi ⊢; rcases hi with h | h | h | h <;> simp [h]
    have := hg.at_
    rcases hi' with hi | rfl | rfl
    · have := hlt i hi; exact ⟨(h.los i hi).1, by omega⟩
    · have := hs.lt; exact ⟨hsl, by omega⟩
    · have := hp.lt; exact ⟨hpl, by omega⟩
  · by_cases e : i < n
    · have g1 : i < ss.length := by omega
      have g2 : i < ps.length := by omega
      rw [List.getElem_append_left g1, List.getElem_append_left g2]
      have hq := (h.row i g1 g2).rest hr (by simpa using (h.los _ (List.mem_append_left _ (List.getElem_mem g1))).2) (by simpa using (h.los _ (List.mem_append_right _ (List.getElem_mem g2))).2)
      obtain ⟨d', st', a', b', q1, q2, q3, q4, q5⟩ := hq
      refine ⟨d', st', a', b', ?_, ?_, ?_, ?_, q5⟩
      · simp only; rw [List.getElem?_append_left (by omega)]; exact q1
      · simp only; rw [List.getElem?_append_left (by omega)]; exact q2
      · simp only; rw [List.getElem?_append_left (by omega)]; exact q3
      · simp only; rw [List.getElem?_append_left (by omega)]; exact q4
    · have ei : i = n := by simp at h1; omega
      subst ei
      have e1 : (ss ++ [s])[i] = s := by rw [List.getElem_append_right (by omega)]; simp
      have e2 : (ps ++ [p])[i] = p := by rw [List.getElem_append_right (by omega)]; simp
      rw [e1, e2]
      refine ⟨d, st, a, b, ?_, ?_, ?_, ?_, hs.rest hr (by simpa using hsi), hp.rest hr (by simpa using hpi), ha.1, ha.2, hb.1, hb.2⟩
      · simp only; rw [List.getElem?_append_right (by omega)]; simp [hcl]
      · simp only; rw [List.getElem?_append_right (by omega), show i * 4 + 1 - o.cells.length = 1 by omega]; rfl
      · simp only; rw [List.getElem?_append_right (by omega), show i * 4 + 2 - o.cells.length = 2 by omega]; rfl
      · simp only; rw [List.getElem?_append_right (by omega), show i * 4 + 3 - o.cells.length = 3 by omega]; rfl
/-- A day or a stall is changed. -/
theorem MAt.setInt {B lo : Nat} {m : Mem} {im : Nat} {o : AObj} {ss ps : List Nat} {n : Nat} (h : MAt B lo m im o ss ps n) {q f : Nat} (hf : f < 2) (x : Int) :
    MAt B lo (m.set im ⟨o.cells.set (q * 4 + f) (.int .i64 x), o.elem, 4, o.kind⟩) im ⟨o.cells.set (q * 4 + f) (.int .i64 x), o.elem, 4, o.kind⟩ ss ps n := by
  have hr : RestS [im] m (m.set im ⟨o.cells.set (q * 4 + f) (.int .i64 x), o.elem, 4, o.kind⟩) := RestS.set _ (by simp) _
  refine ⟨get_set h.o_at _, h.k1, h.k2, rfl, h.el, by simp [h.clen], h.ls, h.lp, h.nd, h.lo_, h.los, fun i h1 h2 => ?_⟩
  have hq := (h.row i h1 h2).rest hr (by simpa using (h.los _ (List.mem_append_left _ (List.getElem_mem h1))).2) (by simpa using (h.los _ (List.mem_append_right _ (List.getElem_mem h2))).2)
  obtain ⟨d, st, a, b, q1, q2, q3, q4, q5⟩ := hq
  have hcl := h.clen
  have hls := h.ls
  refine ⟨if q * 4 + f = i * 4 then x else d, if q * 4 + f = i * 4 + 1 then x else st, a, b, ?_, ?_, ?_, ?_, q5⟩
  · simp only; rw [List.getElem?_set]
    by_cases e : q * 4 + f = i * 4
    · rw [if_pos e, if_pos (by omega), if_pos e]
    · rw [if_neg e, if_neg e]; exact q1
  · simp only; rw [List.getElem?_set]
    by_cases e : q * 4 + f = i * 4 + 1
    · rw [if_pos e, if_pos (by omega), if_pos e]
    · rw [if_neg e, if_neg e]; exact q2
  · simp only; rw [List.getElem?_set_ne (by omega)]; exact q3
  · simp only; rw [List.getElem?_set_ne (by omega)]; exact q4
/-- A number of a slice is changed. -/
theorem MAt.setIn {B lo : Nat} {m : Mem} {im : Nat} {o : AObj} {ss ps : List Nat} {n : Nat} (h : MAt B lo m im o ss ps n) {id : Nat} (hid : id ≠ im) {a : List Int} {z : AObj} (hz : m[id]? = some z) (hz1 : 1 ≤ z.kind) (hz2 : z.kind ≤ 2) (hz3 : z.sz = 1) (hz4 : z.elem = 2) (hz5 : z.cells = a.map (Value.int .i64)) (x : Int) :
    MAt B lo (m.set id ⟨(a.set 0 x).map (Value.int .i64), z.elem, 1, z.kind⟩) im o ss ps n := by
  have hr : RestS [id] m (m.set id ⟨(a.set 0 x).map (Value.int .i64), z.elem, 1, z.kind⟩) := RestS.set _ (by simp) _
  have key : ∀ j l, IntsAt m j l → ∃ l', IntsAt (m.set id ⟨(a.set 0 x).map (Value.int .i64), z.elem, 1, z.kind⟩) j l' ∧ l'.length = l.length := fun j l hj => by
    by_cases e : j = id
    · subst e
      obtain ⟨y, y1, y2, y3, y4, y5, y6⟩ := hj
      rw [hz] at y1
      injection y1 with y1
      subst y1
      rw [hz5] at y6
      have hl : a.length = l.length := by have := congrArg List.length y6; simpa using this
      exact ⟨a.set 0 x, ⟨_, get_set hz _, hz1, hz2, rfl, hz4, rfl⟩, by simp [hl]⟩
    · exact ⟨l, hj.rest hr (by simpa using e), rfl⟩
  refine ⟨hr.get _ _ (by simpa using Ne.symm hid) h.o_at, h.k1, h.k2, h.sz, h.el, h.clen, h.ls, h.lp, h.nd, h.lo_, h.los, fun i h1 h2 => ?_⟩
  obtain ⟨d, st, a', b', q1, q2, q3, q4, q5, q6, q7, q8, q9, q10⟩ := h.row i h1 h2
  obtain ⟨a2, ha2, ha3⟩ := key _ _ q5
  obtain ⟨b2, hb2, hb3⟩ := key _ _ q6
  exact ⟨d, st, a2, b2, q1, q2, by rw [ha3]; exact q3, by rw [hb3]; exact q4, ha2, hb2, by omega, by omega, by omega, by omega⟩
theorem nodup_get {l : List Nat} (h : l.Nodup) {i j : Nat} (hi : i < l.length) (hj : j < l.length) (hne : i ≠ j) : l[i] ≠ l[j] := by
  rcases Nat.lt_or_gt_of_ne hne with h1 | h1
  · exact List.pairwise_iff_getElem.1 h i j hi hj h1
  · exact Ne.symm (List.pairwise_iff_getElem.1 h j i hj hi h1)
/-- A number more in the sales of a market. -/
theorem MAt.app {B lo : Nat} {m m2 : Mem} {im s2 : Nat} {o : AObj} {ss ps : List Nat} {n q : Nat} (h : MAt B lo m im o ss ps n) (hq : q < ss.length) (hq' : q < ps.length) {a : List Int} (hsa : IntsAt m ss[q] a) (hal : a.length ≤ B) (x : Int)
    (hg : Grown m ss[q] ⟨a.map (Value.int .i64) ++ [.int .i64 x], 2, 1, 2⟩ m2 s2) :
    MAt (B + 1) lo (m2.set im ⟨o.cells.set (q * 4 + 2) (.slice (some ⟨s2, 0, none⟩) (a.length + 1) (a.length + 1)), o.elem, 4, o.kind⟩) im ⟨o.cells.set (q * 4 + 2) (.slice (some ⟨s2, 0, none⟩) (a.length + 1) (a.length + 1)), o.elem, 4, o.kind⟩ (ss.set q s2) ps n := by
  have hcl := h.clen
  have hls := h.ls
  have hlt := h.ids_lt
  have himl := lt_of_get h.o_at
  have hat := hg.at_
  have hmq := List.mem_append_left ps (List.getElem_mem hq)
  have ho2 := hg.old _ _ (Ne.symm (h.los _ hmq).2) h.o_at
  have hr : RestS [ss[q], im] m (m2.set im ⟨o.cells.set (q * 4 + 2) (.slice (some ⟨s2, 0, none⟩) (a.length + 1) (a.length + 1)), o.elem, 4, o.kind⟩) := ⟨by have := hg.len; simp; omega, fun j y h1 h2 => by
    simp at h1
    rw [List.getElem?_set_ne (Ne.symm h1.2)]; exact hg.old _ _ h1.1 h2⟩
  have hnd := List.pairwise_append.1 h.nd
  refine ⟨get_set ho2 _, h.k1, h.k2, rfl, h.el, by simp [h.clen], by simp [h.ls], h.lp, ?_, h.lo_, fun i hi => ?_, fun i h1 h2 => ?_⟩
  · refine List.pairwise_append.2 ⟨?_, hnd.2.1, fun y hy z hz e => ?_⟩
    · rw [List.pairwise_iff_getElem]
      intro i j hi hj hij
      simp only [List.length_set] at hi hj
      rw [List.getElem_set, List.getElem_set]
      have hi2 := hlt _ (List.mem_append_left ps (List.getElem_mem hi))
      have hj2 := hlt _ (List.mem_append_left ps (List.getElem_mem hj))
      split <;> split
      · omega
      · omega
      · omega
      · exact nodup_get hnd.1 hi hj (by omega)
    · rcases List.mem_or_eq_of_mem_set hy with hy | rfl
      · exact hnd.2.2 y hy z hz e
      · have := hlt _ (List.mem_append_right ss hz); omega
  · rcases List.mem_append.1 hi with hi | hi
    · rcases List.mem_or_eq_of_mem_set hi with hi | rfl
      · exact h.los _ (List.mem_append_left _ hi)
      · have := h.lo_; exact ⟨by omega, by omega⟩
    · exact h.los _ (List.mem_append_right _ hi)
  · simp only [List.length_set] at h1
    obtain ⟨d, st, a', b', q1, q2, q3, q4, q5, q6, q7, q8, q9, q10⟩ := h.row i h1 h2
    have hpi := List.mem_append_right ss (List.getElem_mem h2)
    have hpne : ps[i] ∉ [ss[q], im] := by
      simp
      exact ⟨fun e => hnd.2.2 _ (List.getElem_mem hq) _ (List.getElem_mem h2) e.symm, (h.los _ hpi).2⟩
    rw [List.getElem_set]
    by_cases e : q = i
    · subst e
      rw [if_pos rfl]
      refine ⟨d, st, a ++ [x], b', ?_, ?_, ?_, ?_, ⟨⟨(a ++ [x]).map (Value.int .i64), 2, 1, 2⟩, ?_, by simp, by simp, rfl, rfl, rfl⟩, q6.rest hr hpne, by simp, by simp; omega, q9, by omega⟩
      · simp only; rw [List.getElem?_set_ne (by omega)]; exact q1
      · simp only; rw [List.getElem?_set_ne (by omega)]; exact q2
      · simp only; rw [List.getElem?_set_self (by omega)]; simp
      · simp only; rw [List.getElem?_set_ne (by omega)]; exact q4
      · rw [List.getElem?_set_ne (by omega), hg.new]; simp
    · rw [if_neg e]
      have hsi := List.mem_append_left ps (List.getElem_mem h1)
      refine ⟨d, st, a', b', ?_, ?_, ?_, ?_, q5.rest hr ?_, q6.rest hr hpne, q7, by omega, q9, by omega⟩
      · simp only; rw [List.getElem?_set_ne (by omega)]; exact q1
      · simp only; rw [List.getElem?_set_ne (by omega)]; exact q2
      · simp only; rw [List.getElem?_set_ne (by omega)]; exact q3
      · simp only; rw [List.getElem?_set_ne (by omega)]; exact q4
      · simp
        exact ⟨nodup_get hnd.1 h1 hq (Ne.symm e), (h.los _ hsi).2⟩
/-- What is there, as one reads it. -/
theorem MAt.rd {B lo : Nat} {m : Mem} {im : Nat} {o : AObj} {ss ps : List Nat} {n : Nat} (h : MAt B lo m im o ss ps n) : ∃ xs : List Mk, xs.length = n ∧ RdM m (some ⟨im, 0, none⟩) xs ∧ ∀ x ∈ xs, x.2.2.1.length ≤ B ∧ x.2.2.2.length ≤ B := by
  have key : ∀ k, k ≤ n → ∃ xs : List Mk, xs.length = k ∧ (∀ i (hi : i < xs.length), ∃ ad bd, MkAt m o (0 + i) xs[i] ad bd ∧ xs[i].2.2.1.length ≤ B ∧ xs[i].2.2.2.length ≤ B) := by
    intro k
    induction k with
    | zero => exact fun _ => ⟨[], rfl, fun i hi => by simp at hi⟩
    | succ k ih =>
      intro hk
      obtain ⟨xs, h1, h2⟩ := ih (by omega)
      obtain ⟨d, st, a, b, q1, q2, q3, q4, q5, q6, q7, q8, q9, q10⟩ := h.row k (by rw [h.ls]; omega) (by rw [h.lp]; omega)
      refine ⟨xs ++ [(d, st, a, b)], by simp [h1], fun i hi => ?_⟩
      by_cases e : i < xs.length
      · rw [List.getElem_append_left e]; exact h2 i e
      · have ei : i = k := by simp at hi; omega
        subst ei
        have e2 : (xs ++ [((d, st, a, b) : Mk)])[i] = (d, st, a, b) := by rw [List.getElem_append_right (by omega)]; simp [h1]
        rw [e2]
        refine ⟨some ⟨ss[i]'(by rw [h.ls]; omega), 0, none⟩, some ⟨ps[i]'(by rw [h.lp]; omega), 0, none⟩, ?_, by omega, by omega⟩
        rw [Nat.zero_add]
        obtain ⟨g1, g2⟩ := row4 q1 q2 q3 q4
        exact ⟨g1, g2, q1, q2, q3, q4, q5.rd, q6.rd⟩
  obtain ⟨xs, h1, h2⟩ := key n (Nat.le_refl _)
  refine ⟨xs, h1, fun i hi => ?_, fun x hx => ?_⟩
  · obtain ⟨ad, bd, h3, _⟩ := h2 i hi
    exact ⟨im, 0, o, ad, bd, rfl, h.o_at, h.k2, h.sz, h3⟩
  · obtain ⟨i, hi, rfl⟩ := List.getElem_of_mem hx
    obtain ⟨ad, bd, _, h4⟩ := h2 i hi
    exact h4
end Go.Proofs.Ytciekhcdkfhcoaa
