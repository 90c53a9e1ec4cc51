/-
  Abs, part 19: rows that are overwritten one at a time, marks. Conditions: none; generic in the program.
-/
import Derived.Test.YtmbijgnmbapchaaGreatDoorAbsKeep
set_option linter.unusedSimpArgs false
set_option linter.unusedVariables false
set_option linter.unusedSectionVars false
namespace Go.Abs
open Go.RowKit

/-- The first k rows anew, the others as they were. -/
def overRows (news olds : List (List Value)) (k : Nat) : List (List Value) := news.take k ++ olds.drop k
def overCells (news olds : List (List Value)) (k : Nat) : List Value := (overRows news olds k).flatten
theorem overRows_length {news olds : List (List Value)} (h : news.length = olds.length) (k : Nat) : (overRows news olds k).length = olds.length := by
  simp [overRows]; omega
theorem overRows_sz {news olds : List (List Value)} {sz : Nat} (hn : ∀ r ∈ news, r.length = sz) (ho : ∀ r ∈ olds, r.length = sz) (k : Nat) : ∀ r ∈ overRows news olds k, r.length = sz := by
  intro r hr
  rcases List.mem_append.1 hr with hr | hr
  · exact hn r (List.mem_of_mem_take hr)
  · exact ho r (List.mem_of_mem_drop hr)
theorem overCells_zero (news olds : List (List Value)) : overCells news olds 0 = olds.flatten := by simp [overCells, overRows]
theorem overCells_all {news olds : List (List Value)} (h : news.length = olds.length) : overCells news olds olds.length = news.flatten := by
  rw [overCells, overRows, List.take_of_length_le (by omega), List.drop_of_length_le (Nat.le_refl _), List.append_nil]
theorem overCells_length {news olds : List (List Value)} {sz : Nat} (h : news.length = olds.length) (hn : ∀ r ∈ news, r.length = sz) (ho : ∀ r ∈ olds, r.length = sz) (k : Nat) : (overCells news olds k).length = olds.length * sz := by
  rw [overCells, flatten_length (overRows_sz hn ho k), overRows_length h]
theorem overCells_set {news olds : List (List Value)} {sz : Nat} (h : news.length = olds.length) (hn : ∀ r ∈ news, r.length = sz) (ho : ∀ r ∈ olds, r.length = sz) {k : Nat} (hk : k < olds.length) :
    splice (overCells news olds k) (k * sz) (news[k]'(by omega)) = overCells news olds (k + 1) := by
  unfold overCells
  rw [splice_rows (overRows_sz hn ho k) (by rw [overRows_length h]; exact hk) (hn _ (List.getElem_mem _))]
  congr 1
  unfold overRows
  have hl : (news.take k).length = k := by simp; omega
  rw [List.set_append_right _ _ (by omega), hl, Nat.sub_self, List.drop_eq_getElem_cons hk, List.set_cons_zero, List.take_add_one, List.getElem?_eq_getElem (by omega), Option.toList_some, List.append_assoc, List.singleton_append]

/-- Numbers that go on. -/
def mkRow (sz : Nat) (b : Int) (i : Nat) : List Value := (List.range sz).map fun j => .int .i64 (b + ((i * sz + j : Nat) : Int))
def mkRows (sz : Nat) (b : Int) (n : Nat) : List (List Value) := (List.range n).map (mkRow sz b)
theorem mkRow_length (sz : Nat) (b : Int) (i : Nat) : (mkRow sz b i).length = sz := by simp [mkRow]
theorem mkRows_length (sz : Nat) (b : Int) (n : Nat) : (mkRows sz b n).length = n := by simp [mkRows]
theorem mkRows_sz (sz : Nat) (b : Int) (n : Nat) : ∀ r ∈ mkRows sz b n, r.length = sz := by
  intro r hr
  obtain ⟨i, _, rfl⟩ := List.mem_map.1 hr
  exact mkRow_length sz b i
theorem mkRows_get (sz : Nat) (b : Int) (n k : Nat) (h : k < (mkRows sz b n).length) : (mkRows sz b n)[k] = mkRow sz b k := by simp [mkRows]
/-- The cells of n rows of marks. -/
def mkCells (sz : Nat) (b : Int) (n : Nat) : List Value := (mkRows sz b n).flatten
theorem mkCells_length (sz : Nat) (b : Int) (n : Nat) : (mkCells sz b n).length = n * sz := by rw [mkCells, flatten_length (mkRows_sz sz b n), mkRows_length]
/-- The rows have been marked up to here. -/
def marking {α : Type} (g : α → List Value) (sz : Nat) (b : Int) (xs : List α) (k : Nat) : List Value := overCells (mkRows sz b xs.length) (xs.map g) k
section
variable {α : Type} {g : α → List Value} {sz : Nat} (hg : ∀ x, (g x).length = sz)
include hg
omit hg in
theorem marking_zero (b : Int) (xs : List α) : marking g sz b xs 0 = (xs.map g).flatten := overCells_zero _ _
omit hg in
theorem marking_all (b : Int) (xs : List α) : marking g sz b xs xs.length = mkCells sz b xs.length := by
  have := overCells_all (news := mkRows sz b xs.length) (olds := xs.map g) (by simp [mkRows_length])
  rw [List.length_map] at this
  exact this
theorem marking_length (b : Int) (xs : List α) (k : Nat) : (marking g sz b xs k).length = xs.length * sz := by
  have := overCells_length (news := mkRows sz b xs.length) (olds := xs.map g) (by simp [mkRows_length]) (mkRows_sz sz b _) (by intro r hr; obtain ⟨x, _, rfl⟩ := List.mem_map.1 hr; exact hg x) k
  rw [List.length_map] at this
  exact this
theorem marking_set (b : Int) (xs : List α) {k : Nat} (hk : k < xs.length) : splice (marking g sz b xs k) (k * sz) (mkRow sz b k) = marking g sz b xs (k + 1) := by
  have := overCells_set (news := mkRows sz b xs.length) (olds := xs.map g) (k := k) (by simp [mkRows_length]) (mkRows_sz sz b _) (by intro r hr; obtain ⟨x, _, rfl⟩ := List.mem_map.1 hr; exact hg x) (by simpa using hk)
  rw [mkRows_get] at this
  exact this
end
theorem mkRow1 (b : Int) (k : Nat) : mkRow 1 b k = [.int .i64 (b + k)] := by simp [mkRow, List.range_succ]
theorem mkRow2 (b : Int) (k : Nat) : mkRow 2 b k = [.int .i64 (b + (k : Int) * 2), .int .i64 (b + (k : Int) * 2 + 1)] := by
  simp [mkRow, List.range_succ]; omega
theorem mkRow3 (b : Int) (k : Nat) : mkRow 3 b k = [.int .i64 (b + (k : Int) * 3), .int .i64 (b + (k : Int) * 3 + 1), .int .i64 (b + (k : Int) * 3 + 1 + 1)] := by
  simp [mkRow, List.range_succ]; omega
theorem marking_set1 (b : Int) (xs : List Int) {k : Nat} (hk : k < xs.length) : (marking vI 1 b xs k).set k (.int .i64 (b + k)) = marking vI 1 b xs (k + 1) := by
  have := marking_set (g := vI) (sz := 1) (fun _ => rfl) b xs hk
  rw [mkRow1, Nat.mul_one] at this
  exact this
theorem marking_set2 {α : Type} {g : α → List Value} (hg : ∀ x, (g x).length = 2) (b : Int) (xs : List α) {k : Nat} (hk : k < xs.length) :
    ((marking g 2 b xs k).set (k * 2) (.int .i64 (b + (k : Int) * 2))).set (k * 2 + 1) (.int .i64 (b + (k : Int) * 2 + 1)) = marking g 2 b xs (k + 1) := by
  have := marking_set (g := g) (sz := 2) hg b xs hk
  rw [mkRow2] at this
  exact this
theorem marking_set3 {α : Type} {g : α → List Value} (hg : ∀ x, (g x).length = 3) (b : Int) (xs : List α) {k : Nat} (hk : k < xs.length) :
    (((marking g 3 b xs k).set (k * 3) (.int .i64 (b + (k : Int) * 3))).set (k * 3 + 1) (.int .i64 (b + (k : Int) * 3 + 1))).set (k * 3 + 2) (.int .i64 (b + (k : Int) * 3 + 1 + 1)) = marking g 3 b xs (k + 1) := by
  have := marking_set (g := g) (sz := 3) hg b xs hk
  rw [mkRow3] at this
  exact this
theorem mkAt {sz : Nat} {b : Int} {m : Mem} {a : Option Addr} {n : Nat} (h : RdG (mkRow sz b) sz m a (List.range n)) {k : Nat} (hk : k < n) :
    ∃ id off o, a = some ⟨id, off, none⟩ ∧ m[id]? = some o ∧ o.kind ≤ 2 ∧ o.sz = sz ∧ (off + k) * sz + sz ≤ o.cells.length ∧ ∀ (j : Nat) v, (mkRow sz b k)[j]? = some v → o.cells[(off + k) * sz + j]? = some v := by
  obtain ⟨id, off, o, h1, h2, h3, h4, h5, h6, h7⟩ := RdG.at_ h (i := k) (by simpa using hk)
  rw [List.getElem_range] at h7
  exact ⟨id, off, o, h1, h2, h3, h4, h5, h7⟩
theorem set_self {m : Mem} {i : Nat} {o : AObj} (h : m[i]? = some o) : m.set i o = m := by
  apply List.ext_getElem?
  intro j
  by_cases hij : i = j
  · subst hij
    rw [List.getElem?_set_self (List.getElem?_eq_some_iff.1 h).1, h]
  · rw [List.getElem?_set_ne hij]
theorem get_set {m : Mem} {i : Nat} {o : AObj} (h : m[i]? = some o) (o' : AObj) : (m.set i o')[i]? = some o' := List.getElem?_set_self (List.getElem?_eq_some_iff.1 h).1
theorem partI_zero (xs : List Int) : List.replicate xs.length (Value.int .i64 0) = partCells vI [.int .i64 0] xs 0 := by simp [partCells, partRows]
theorem partI_set (xs : List Int) {k : Nat} (hk : k < xs.length) : (partCells vI [.int .i64 0] xs k).set k (.int .i64 xs[k]) = partCells vI [.int .i64 0] xs (k + 1) := by
  have := partCells_set (g := vI) (z := [.int .i64 0]) (sz := 1) (fun _ => rfl) rfl xs hk
  rw [Nat.mul_one] at this
  exact this
theorem partI_length (xs : List Int) {k : Nat} (hk : k ≤ xs.length) : (partCells vI [.int .i64 0] xs k).length = xs.length := by
  have := partCells_length (g := vI) (z := [.int .i64 0]) (sz := 1) (fun _ => rfl) rfl xs hk
  omega
theorem partI_all (xs : List Int) : partCells vI [.int .i64 0] xs xs.length = xs.map (Value.int .i64) := by rw [partCells_all, flatten_vI]

/-! ### Loops that count -/
def NextT (J : Nat → Fr → Mem → Prop) (n k : Nat) (σ : Fr) (m : Mem) (_ : Tok (J, σ)) : Prop := k < n ∧ J (k + 1) σ m
theorem next_ {J : Nat → Fr → Mem → Prop} {n k : Nat} {σ : Fr} {m : Mem} {t : Tok (J, σ)} (h : k < n) (hJ : J (k + 1) σ m) : NextT J n k σ m t := ⟨h, hJ⟩
theorem loopN {P : Program} {N : Nat} {fm : List Nat} {b : Code} {K : Post} {σ : Fr} {m : Mem} {t : Tok (b, K, σ)} (n : Nat) (J : Nat → Fr → Mem → Prop) (h0 : J 0 σ m)
    (round : ∀ k σ m, k ≤ n → J k σ m → vc P N fm b (thenA (fun σ' m' => NextT J n k σ' m' ⟨⟩) K) σ m) : LoopT P N fm b K σ m t := by
  refine awp_loopA (fun c σ m => ∃ k, c = n - k ∧ k ≤ n ∧ J k σ m) (n - 0) ⟨0, rfl, Nat.zero_le _, h0⟩ ?_
  rintro c σ m ⟨k, rfl, hk, hJ⟩
  exact (awp_of_vc b _ σ m (round k σ m hk hJ)).mono (thenA_mono fun σ' m' h => ⟨n - (k + 1), by have := h.1; omega, k + 1, rfl, h.1, h.2⟩)
theorem RdMk.of_get {sz : Nat} {b : Int} {m : Mem} {id : Nat} (n : Nat) {o : AObj} (hm : m[id]? = some o) (hk : o.kind ≤ 2) (hsz : o.sz = sz) (hc : o.cells = mkCells sz b n) : RdG (mkRow sz b) sz m (some ⟨id, 0, none⟩) (List.range n) :=
  RdG.of_get (mkRow_length sz b) (List.range n) hm hk hsz hc
theorem RdMk.nil (sz : Nat) (b : Int) (m : Mem) (a : Option Addr) : RdG (mkRow sz b) sz m a [] := Rd.nil m a sz
theorem RdG.nil {α : Type} (g : α → List Value) (sz : Nat) (m : Mem) (a : Option Addr) : RdG g sz m a [] := Rd.nil m a sz
theorem RdI.nil (m : Mem) (a : Option Addr) : RdI m a [] := Rd.nil m a 1
theorem mkCells_lit (sz : Nat) (b : Int) (n : Nat) : (mkCells sz b n).all litB = true := by
  rw [List.all_eq_true]
  intro v hv
  obtain ⟨r, hr, hv⟩ := List.mem_flatten.1 hv
  obtain ⟨i, _, rfl⟩ := List.mem_map.1 hr
  obtain ⟨j, _, rfl⟩ := List.mem_map.1 hv
  rfl
end Go.Abs
