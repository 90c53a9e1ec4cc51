/-
  Abs, part 19: rows that are overwritten one at a time, marks. Conditions: none; generic in the program.
-/
import Derived.Test.YtielbajlpnplaaaAbsKeep
namespace Go.Abs
open Go.RowKit

/-- The first k rows anew, the others as they were. -/
def overRows (news olds : List (List Value)) (k : Nat) : List (List Value) := news.take k ++ olds.drop k
def overCells (news olds : List (List Value)) (k : Nat) : List Value := (overRows news olds k).flatten
theorem overRows_length {news olds : List (List Value)} (h : news.length = olds.length) (k : Nat) : (overRows news olds k).length = olds.length := by
  simp [overRows]; omega
theorem overRows_sz {news olds : List (List Value)} {sz : Nat} (hn : ∀ r ∈ news, r.length = sz) (ho : ∀ r ∈ olds, r.length = sz) (k : Nat) : ∀ r ∈ overRows news olds k, r.length = sz := by
  intro r hr
  rcases List.mem_append.1 hr with hr | hr
  · exact hn r (List.mem_of_mem_take hr)
  · exact ho r (List.mem_of_mem_drop hr)
theorem overCells_zero (news olds : List (List Value)) : overCells news olds 0 = olds.flatten := by simp [overCells, overRows]
theorem overCells_all {news olds : List (List Value)} (h : news.length = olds.length) : overCells news olds olds.length = news.flatten := by
  rw [overCells, overRows, List.take_of_length_le (by omega), List.drop_of_length_le (Nat.le_refl _), List.append_nil]
theorem overCells_length {news olds : List (List Value)} {sz : Nat} (h : news.length = olds.length) (hn : ∀ r ∈ news, r.length = sz) (ho : ∀ r ∈ olds, r.length = sz) (k : Nat) : (overCells news olds k).length = olds.length * sz := by
  rw [overCells, flatten_length (overRows_sz hn ho k), overRows_length h]
theorem overCells_set {news olds : List (List Value)} {sz : Nat} (h : news.length = olds.length) (hn : ∀ r ∈ news, r.length = sz) (ho : ∀ r ∈ olds, r.length = sz) {k : Nat} (hk : k < olds.length) :
    splice (overCells news olds k) (k * sz) (news[k]'(by omega)) = overCells news olds (k + 1) := by
  unfold overCells
  rw [splice_rows (overRows_sz hn ho k) (by rw [overRows_length h]; exact hk) (hn _ (List.getElem_mem _))]
  congr 1
  unfold overRows
  have hl : (news.take k).length = k := by simp; omega
  rw [List.set_append_right _ _ (by omega), hl, Nat.sub_self, List.drop_eq_getElem_cons hk, List.set_cons_zero, List.take_add_one, List.getElem?_eq_getElem (by omega), Option.toList_some, List.append_assoc, List.singleton_append]

/-- Numbers that go on. -/
def mkRow (sz : Nat) (b : Int) (i : Nat) : List Value := (List.range sz).map fun j => .int .i64 (b + ((i * sz + j : Nat) : Int))
def mkRows (sz : Nat) (b : Int) (n : Nat) : List (List Value) := (List.range n).map (mkRow sz b)
theorem mkRow_length (sz : Nat) (b : Int) (i : Nat) : (mkRow sz b i).length = sz := by simp [mkRow]
theorem mkRows_length (sz : Nat) (b : Int) (n : Nat) : (mkRows sz b n).length = n := by simp [mkRows]
theorem mkRows_sz (sz : Nat) (b : Int) (n : Nat) : ∀ r ∈ mkRows sz b n, r.length = sz := by
  intro r hr
  obtain ⟨i, _, rfl⟩ := List.mem_map.1 hr
  exact mkRow_length sz b i
theorem mkRows_get (sz : Nat) (b : Int) (n k : Nat) (h : k < (mkRows sz b n).length) : (mkRows sz b n)[k] = mkRow sz b k := by simp [mkRows]
/-- The cells of n rows of marks. -/
def mkCells (sz : Nat) (b : Int) (n : Nat) : List Value := (mkRows sz b n).flatten
theorem mkCells_length (sz : Nat) (b : Int) (n : Nat) : (mkCells sz b n).length = n * sz := by rw [mkCells, flatten_length (mkRows_sz sz b n), mkRows_length]
/-- The rows have been marked up to here. -/
def marking {α : Type} (g : α → List Value) (sz : Nat) (b : Int) (xs : List α) (k : Nat) : List Value := overCells (mkRows sz b xs.length) (xs.map g) k
section
variable {α : Type} {g : α → List Value} {sz : Nat} (hg : ∀ x, (g x).length = sz)
include hg
omit hg in
theorem marking_zero (b : Int) (xs : List α) : marking g sz b xs 0 = (xs.map g).flatten := overCells_zero _ _
omit hg in
theorem marking_all (b : Int) (xs : List α) : marking g sz b xs xs.length = mkCells sz b xs.length := by
  have := overCells_all (news := mkRows sz b xs.length) (olds := xs.map g) (by simp [mkRows_length])
  rw [List.length_map] at this
  exact this
theorem marking_length (b : Int) (xs : List α) (k : Nat) : (marking g sz b xs k).length = xs.length * sz := by
  have := overCells_length (news := mkRows sz b xs.length) (olds := xs.map g) (by simp [mkRows_length]) (mkRows_sz sz b _) (by intro r hr; obtain ⟨x, _, rfl⟩ := List.mem_map.1 hr; exact hg x) k
  rw [List.length_map] at this
  exact this
theorem marking_set (b : Int) (xs : List α) {k : Nat} (hk : k < xs.length) : splice (marking g sz b xs k) (k * sz) (mkRow sz b k) = marking g sz b xs (k + 1) := by
  have := overCells_set (news := mkRows sz b xs.length) (olds := xs.map g) (k := k) (by simp [mkRows_length]) (mkRows_sz sz b _) (by intro r hr; obtain ⟨x, _, rfl⟩ := List.mem_map.1 hr; exact hg x) (by simpa using hk)
  rw [mkRows_get] at this
  exact this
end
theorem mkRow1 (b : Int) (k : Nat) : mkRow 1 b k = [.int .i64 (b + k)] := by simp [mkRow, List.range_succ]
theorem mkRow2 (b : Int) (k : Nat) : mkRow 2 b k = [.int .i64 (b + (k * 2 : Nat)), .int .i64 (b + (k * 2 : Nat) + 1)] := by
  simp [mkRow, List.range_succ]; omega
theorem mkRow3 (b : Int) (k : Nat) : mkRow 3 b k = [.int .i64 (b + (k * 3 : Nat)), .int .i64 (b + (k * 3 : Nat) + 1), .int .i64 (b + (k * 3 : Nat) + 2)] := by
  simp [mkRow, List.range_succ]; omega
theorem RdMk.of_get {sz : Nat} {b : Int} {m : Mem} {id : Nat} (n : Nat) {o : AObj} (hm : m[id]? = some o) (hk : o.kind ≤ 2) (hsz : o.sz = sz) (hc : o.cells = mkCells sz b n) : RdG (mkRow sz b) sz m (some ⟨id, 0, none⟩) (List.range n) :=
  RdG.of_get (mkRow_length sz b) (List.range n) hm hk hsz hc
theorem RdMk.nil (sz : Nat) (b : Int) (m : Mem) (a : Option Addr) : RdG (mkRow sz b) sz m a [] := Rd.nil m a sz
theorem RdG.nil {α : Type} (g : α → List Value) (sz : Nat) (m : Mem) (a : Option Addr) : RdG g sz m a [] := Rd.nil m a sz
theorem RdI.nil (m : Mem) (a : Option Addr) : RdI m a [] := Rd.nil m a 1
theorem mkCells_lit (sz : Nat) (b : Int) (n : Nat) : (mkCells sz b n).all litB = true := by
  rw [List.all_eq_true]
  intro v hv
  obtain ⟨r, hr, hv⟩ := List.mem_flatten.1 hv
  obtain ⟨i, _, rfl⟩ := List.mem_map.1 hr
  obtain ⟨j, _, rfl⟩ := List.mem_map.1 hv
  rfl
end Go.Abs
