/-
  Abs, part 17: rows of structs, copied one at a time. Conditions: none; generic in the program.
-/
import Derived.Test.YtmbijgnmbapchaaGreatDoorAbsLaw
set_option linter.unusedSimpArgs false
set_option linter.unusedVariables false
set_option linter.unusedSectionVars false
namespace Go.Abs
open Go.RowKit

/-- The slice holds these. -/
def RdG {α : Type} (g : α → List Value) (sz : Nat) (m : Mem) (a : Option Addr) (xs : List α) : Prop := Rd m a xs.length sz (xs.map g)
theorem RdG.ext {α : Type} {g : α → List Value} {sz : Nat} {m : Mem} {a : Option Addr} {xs : List α} (h : RdG g sz m a xs) (j : Mem) : RdG g sz (m ++ j) a xs := Rd.ext h j
theorem RdI.ext {m : Mem} {a : Option Addr} {xs : List Int} (h : RdI m a xs) (j : Mem) : RdI (m ++ j) a xs := Rd.ext h j
theorem RdG.at_ {α : Type} {g : α → List Value} {sz : Nat} {m : Mem} {a : Option Addr} {xs : List α} (h : RdG g sz m a xs) {i : Nat} (hi : i < xs.length) :
    ∃ id off o, a = some ⟨id, off, none⟩ ∧ m[id]? = some o ∧ o.kind ≤ 2 ∧ o.sz = sz ∧ (off + i) * sz + sz ≤ o.cells.length ∧ (o.cells.drop ((off + i) * sz)).take sz = g xs[i] ∧
      ∀ (j : Nat) v, (g xs[i])[j]? = some v → o.cells[(off + i) * sz + j]? = some v := by
  obtain ⟨id, off, o, r, ha, hm, hk, hsz, hr, _, h1, h2, hc⟩ := Rd.at_ h hi
  simp only [List.getElem?_map, List.getElem?_eq_getElem hi, Option.map_some, Option.some.injEq] at hr
  subst hr
  exact ⟨id, off, o, ha, hm, hk, hsz, h2, h1, hc⟩
theorem R2.at_ {m : Mem} {a : Option Addr} {xs : List I2} (h : RdG v2 2 m a xs) {i : Nat} (hi : i < xs.length) :
    ∃ id off o, a = some ⟨id, off, none⟩ ∧ m[id]? = some o ∧ o.kind ≤ 2 ∧ o.sz = 2 ∧ (off + i) * 2 + 2 ≤ o.cells.length ∧ (o.cells.drop ((off + i) * 2)).take 2 = v2 xs[i] ∧
      o.cells[(off + i) * 2]? = some (.int .i64 xs[i].1) ∧ o.cells[(off + i) * 2 + 1]? = some (.int .i64 xs[i].2) := by
  obtain ⟨id, off, o, ha, hm, hk, hsz, h2, h1, hc⟩ := RdG.at_ h hi
  exact ⟨id, off, o, ha, hm, hk, hsz, h2, h1, by have := hc 0 _ rfl; simpa using this, hc 1 _ rfl⟩
theorem R3.at_ {m : Mem} {a : Option Addr} {xs : List I3} (h : RdG v3 3 m a xs) {i : Nat} (hi : i < xs.length) :
    ∃ id off o, a = some ⟨id, off, none⟩ ∧ m[id]? = some o ∧ o.kind ≤ 2 ∧ o.sz = 3 ∧ (off + i) * 3 + 3 ≤ o.cells.length ∧ (o.cells.drop ((off + i) * 3)).take 3 = v3 xs[i] ∧
      o.cells[(off + i) * 3]? = some (.int .i64 xs[i].1) ∧ o.cells[(off + i) * 3 + 1]? = some (.int .i64 xs[i].2.1) ∧ o.cells[(off + i) * 3 + 2]? = some (.int .i64 xs[i].2.2) := by
  obtain ⟨id, off, o, ha, hm, hk, hsz, h2, h1, hc⟩ := RdG.at_ h hi
  exact ⟨id, off, o, ha, hm, hk, hsz, h2, h1, by have := hc 0 _ rfl; simpa using this, hc 1 _ rfl, hc 2 _ rfl⟩

theorem R2.cell {m : Mem} {id off : Nat} {o : AObj} {xs : List I2} (h : RdG v2 2 m (some ⟨id, off, none⟩) xs) (hm : m[id]? = some o) {i : Nat} (hi : i < xs.length) :
    o.cells[(off + i) * 2]? = some (.int .i64 xs[i].1) ∧ o.cells[(off + i) * 2 + 1]? = some (.int .i64 xs[i].2) := by
  obtain ⟨id', off', o', ha, hm', _, _, _, _, h0, h1⟩ := R2.at_ h hi
  simp at ha
  obtain ⟨rfl, rfl⟩ := ha
  rw [hm] at hm'
  injection hm' with hm'
  subst hm'
  exact ⟨h0, h1⟩

/-- A row made of one value's cells, over and over. -/
theorem made_rows (z : Array Value) (n : Nat) (hz : 0 < z.size) : (madeCells z (n * z.size)).toList = (List.replicate n z.toList).flatten := by
  apply List.ext_getElem?
  intro j
  by_cases hj : j < n * z.size
  · have hall : ∀ r ∈ List.replicate n z.toList, r.length = z.size := by intro r hr; rw [(List.mem_replicate.1 hr).2]; simp
    have hd : j / z.size < n := Nat.div_lt_of_lt_mul (by rw [Nat.mul_comm]; exact hj)
    have hm : j % z.size < z.size := Nat.mod_lt _ hz
    have hrow := flatten_row (i := j / z.size) (r := z.toList) hall (by simp [hd])
    have hjj : j / z.size * z.size + j % z.size = j := Nat.div_add_mod' j z.size
    have h1 := congrArg (fun l => l[j % z.size]?) hrow
    simp only [List.getElem?_take, hm, if_true, List.getElem?_drop, hjj] at h1
    rw [h1]
    simp [madeCells, hj, hm]
  · rw [List.getElem?_eq_none, List.getElem?_eq_none]
    · rw [flatten_length (sz := z.size) (by intro r hr; rw [(List.mem_replicate.1 hr).2]; simp)]
      simp; omega
    · simp [madeCells]; omega

theorem splice_mid (A B vs C : List Value) (h : B.length = vs.length) : splice (A ++ B ++ C) A.length vs = A ++ vs ++ C := by
  induction vs generalizing A B with
  | nil => have : B = [] := List.length_eq_zero_iff.1 (by simpa using h); subst this; rfl
  | cons v vs ih =>
    match B, h with
    | b :: B, h =>
      simp only [splice]
      have e : (A ++ b :: B ++ C).set A.length v = (A ++ [v]) ++ B ++ C := by
        rw [List.append_assoc, List.set_append_right _ _ (Nat.le_refl _), Nat.sub_self]; simp
      rw [e]
      have := ih (A ++ [v]) B (by simpa using h)
      rw [List.length_append, List.length_singleton] at this
      rw [this]; simp
/-- A row stored. -/
theorem splice_rows {sz : Nat} {rows : List (List Value)} (hr : ∀ r ∈ rows, r.length = sz) {k : Nat} (hk : k < rows.length) {r : List Value} (h : r.length = sz) : splice rows.flatten (k * sz) r = (rows.set k r).flatten := by
  have hsplit : rows = rows.take k ++ rows[k] :: rows.drop (k + 1) := by rw [← List.drop_eq_getElem_cons hk, List.take_append_drop]
  have hl : (rows.take k).flatten.length = k * sz := by
    rw [flatten_length (sz := sz) fun x hx => hr x (List.mem_of_mem_take hx), List.length_take, Nat.min_eq_left (by omega)]
  have h1 : rows.flatten = (rows.take k).flatten ++ rows[k] ++ (rows.drop (k + 1)).flatten := by
    refine (congrArg List.flatten hsplit).trans ?_
    rw [List.flatten_append, List.flatten_cons, List.append_assoc]
  have h2 : (rows.set k r).flatten = (rows.take k).flatten ++ r ++ (rows.drop (k + 1)).flatten := by
    rw [List.set_eq_take_append_cons_drop, if_pos hk]
    simp
  rw [h1, h2, ← hl]
  exact splice_mid _ _ _ _ (by rw [hr _ (List.getElem_mem hk), h])

/-- The first k of the list, and noughts behind. -/
def partRows {α : Type} (g : α → List Value) (z : List Value) (xs : List α) (k : Nat) : List (List Value) := (xs.take k).map g ++ List.replicate (xs.length - k) z
theorem partRows_zero {α : Type} (g : α → List Value) (z : List Value) (xs : List α) : partRows g z xs 0 = List.replicate xs.length z := by simp [partRows]
theorem partRows_all {α : Type} (g : α → List Value) (z : List Value) (xs : List α) : partRows g z xs xs.length = xs.map g := by simp [partRows]
theorem partRows_length {α : Type} (g : α → List Value) (z : List Value) (xs : List α) {k : Nat} (hk : k ≤ xs.length) : (partRows g z xs k).length = xs.length := by simp [partRows]; omega
theorem partRows_sz {α : Type} {g : α → List Value} {z : List Value} {sz : Nat} (hg : ∀ x, (g x).length = sz) (hz : z.length = sz) (xs : List α) (k : Nat) : ∀ r ∈ partRows g z xs k, r.length = sz := by
  intro r hr
  rcases List.mem_append.1 hr with hr | hr
  · obtain ⟨x, _, rfl⟩ := List.mem_map.1 hr; exact hg x
  · rw [(List.mem_replicate.1 hr).2]; exact hz
theorem partRows_set {α : Type} (g : α → List Value) (z : List Value) (xs : List α) {k : Nat} (hk : k < xs.length) : (partRows g z xs k).set k (g xs[k]) = partRows g z xs (k + 1) := by
  unfold partRows
  have hl : ((xs.take k).map g).length = k := by simp; omega
  rw [List.set_append_right _ _ (by omega), hl, Nat.sub_self, show xs.length - k = xs.length - (k + 1) + 1 by omega, List.replicate_succ, List.set_cons_zero, List.take_add_one, List.getElem?_eq_getElem hk, List.map_append, Option.toList_some, List.map_cons, List.map_nil, List.append_assoc, List.singleton_append]
/-- One step of a copy. -/
theorem splice_part {α : Type} {g : α → List Value} {z : List Value} {sz : Nat} (hg : ∀ x, (g x).length = sz) (hz : z.length = sz) (xs : List α) {k : Nat} (hk : k < xs.length) :
    splice (partRows g z xs k).flatten (k * sz) (g xs[k]) = (partRows g z xs (k + 1)).flatten := by
  rw [splice_rows (partRows_sz hg hz xs k) (by rw [partRows_length g z xs (by omega)]; exact hk) (hg _), partRows_set g z xs hk]
theorem partRows_flat_length {α : Type} {g : α → List Value} {z : List Value} {sz : Nat} (hg : ∀ x, (g x).length = sz) (hz : z.length = sz) (xs : List α) {k : Nat} (hk : k ≤ xs.length) : (partRows g z xs k).flatten.length = xs.length * sz := by
  rw [flatten_length (partRows_sz hg hz xs k), partRows_length g z xs hk]
/-- Its cells. -/
def partCells {α : Type} (g : α → List Value) (z : List Value) (xs : List α) (k : Nat) : List Value := (partRows g z xs k).flatten
theorem partCells_length {α : Type} {g : α → List Value} {z : List Value} {sz : Nat} (hg : ∀ x, (g x).length = sz) (hz : z.length = sz) (xs : List α) {k : Nat} (hk : k ≤ xs.length) : (partCells g z xs k).length = xs.length * sz := partRows_flat_length hg hz xs hk
theorem partCells_set {α : Type} {g : α → List Value} {z : List Value} {sz : Nat} (hg : ∀ x, (g x).length = sz) (hz : z.length = sz) (xs : List α) {k : Nat} (hk : k < xs.length) :
    splice (partCells g z xs k) (k * sz) (g xs[k]) = partCells g z xs (k + 1) := splice_part hg hz xs hk
theorem partCells_all {α : Type} (g : α → List Value) (z : List Value) (xs : List α) : partCells g z xs xs.length = (xs.map g).flatten := by rw [partCells, partRows_all]
theorem partCells_zero {α : Type} (g : α → List Value) (z : Array Value) (xs : List α) (hz : 0 < z.size) : (madeCells z (xs.length * z.size)).toList = partCells g z.toList xs 0 := by rw [partCells, partRows_zero, made_rows z _ hz]
theorem RdG.copied {α : Type} {g : α → List Value} {sz : Nat} (hg : ∀ x, (g x).length = sz) (m l : Mem) (xs : List α) (e : TypeId) (kd : Nat) (hk : kd ≤ 2) :
    RdG g sz (m ++ ⟨(xs.map g).flatten, e, sz, kd⟩ :: l) (some ⟨m.length, 0, none⟩) xs := by
  have := Rd.new m l (rows := xs.map g) (sz := sz) e kd hk (by intro r hr; obtain ⟨x, _, rfl⟩ := List.mem_map.1 hr; exact hg x)
  simpa [RdG] using this
theorem RdG.of_get {α : Type} {g : α → List Value} {sz : Nat} (hg : ∀ x, (g x).length = sz) {m : Mem} {id : Nat} (xs : List α) {o : AObj} (hm : m[id]? = some o) (hk : o.kind ≤ 2) (hsz : o.sz = sz) (hc : o.cells = (xs.map g).flatten) : RdG g sz m (some ⟨id, 0, none⟩) xs := by
  have := Rd.of_get (rows := xs.map g) hm hk hsz (by intro r hr; obtain ⟨x, _, rfl⟩ := List.mem_map.1 hr; exact hg x) hc
  simpa [RdG] using this
end Go.Abs
