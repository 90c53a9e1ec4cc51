/-
  Abs, part 14: slices that read as lists; wraps; the rule for loops in the form in which it is met. Conditions: none; generic in the program.
-/
import Derived.Test.YtmbijgnmbapchaaGreatDoorAbsEvalF
import Derived.IntWalk
set_option linter.unusedSimpArgs false
set_option linter.unusedVariables false
set_option linter.unusedSectionVars false
namespace Go.Abs
open Go.RowKit

variable {P : Program}

/-- The slice value '.slice a n n' holds these rows, each of sz cells. -/
def Rd (m : Mem) (a : Option Addr) (n sz : Nat) (rows : List (List Value)) : Prop :=
  rows.length = n ∧ (∀ r ∈ rows, r.length = sz) ∧ (0 < n → ∃ id off o, a = some ⟨id, off, none⟩ ∧ m[id]? = some o ∧ o.kind ≤ 2 ∧ o.sz = sz ∧ (o.cells.drop (off * sz)).take (n * sz) = rows.flatten)

theorem flatten_length {sz : Nat} : ∀ {rows : List (List Value)}, (∀ r ∈ rows, r.length = sz) → rows.flatten.length = rows.length * sz
  | [], _ => by simp
  | r :: rows, h => by
    rw [List.flatten_cons, List.length_append, flatten_length (fun x hx => h x (by simp [hx])), h r (by simp), List.length_cons, Nat.add_mul]
    omega
theorem flatten_row {sz : Nat} : ∀ {rows : List (List Value)} {i : Nat} {r : List Value}, (∀ r ∈ rows, r.length = sz) → rows[i]? = some r → (rows.flatten.drop (i * sz)).take sz = r
  | [], i, r, _, h => by simp at h
  | x :: rows, 0, r, h, hi => by
    simp at hi
    subst hi
    rw [Nat.zero_mul, List.drop_zero, List.flatten_cons, List.take_left' (h x (by simp))]
  | x :: rows, i + 1, r, h, hi => by
    simp at hi
    rw [List.flatten_cons, Nat.add_mul, Nat.one_mul, Nat.add_comm (i * sz) sz, ← List.drop_drop, List.drop_left' (h x (by simp))]
    exact flatten_row (fun y hy => h y (by simp [hy])) hi

theorem Rd.at_ {m : Mem} {a : Option Addr} {n sz : Nat} {rows : List (List Value)} (h : Rd m a n sz rows) {i : Nat} (hi : i < n) :
    ∃ id off o r, a = some ⟨id, off, none⟩ ∧ m[id]? = some o ∧ o.kind ≤ 2 ∧ o.sz = sz ∧ rows[i]? = some r ∧ r.length = sz ∧ (o.cells.drop ((off + i) * sz)).take sz = r ∧ (off + i) * sz + sz ≤ o.cells.length ∧
      ∀ (j : Nat) v, r[j]? = some v → o.cells[(off + i) * sz + j]? = some v := by
  obtain ⟨hl, hr, hn⟩ := h
  obtain ⟨id, off, o, ha, hm, hk, hsz, hc⟩ := hn (by omega)
  have hri : rows[i]? = some rows[i] := List.getElem?_eq_getElem (by omega)
  have hlen : rows[i].length = sz := hr _ (List.getElem_mem _)
  have hfl := flatten_length hr
  have h1 := flatten_row hr hri
  rw [← hc, List.drop_take, List.drop_drop, List.take_take, ← Nat.add_mul] at h1
  have hmul : sz ≤ n * sz - i * sz := by
    rw [← Nat.sub_mul]; exact Nat.le_mul_of_pos_left _ (by omega)
  rw [Nat.min_eq_left hmul] at h1
  have hle : (off + i) * sz + sz ≤ o.cells.length := by
    have := congrArg List.length h1
    rw [List.length_take, List.length_drop, hlen] at this
    by_cases h0 : sz = 0
    · have h2 := congrArg List.length hc
      subst h0; simp
    · omega
  refine ⟨id, off, o, rows[i], ha, hm, hk, hsz, hri, hlen, h1, hle, fun j v hj => ?_⟩
  rw [← h1, List.getElem?_take] at hj
  split at hj
  · rw [List.getElem?_drop] at hj; exact hj
  · cases hj

theorem Rd.ext {m : Mem} {a : Option Addr} {n sz : Nat} {rows : List (List Value)} (h : Rd m a n sz rows) (j : Mem) : Rd (m ++ j) a n sz rows :=
  ⟨h.1, h.2.1, fun hn => let ⟨id, off, o, ha, hm, h'⟩ := h.2.2 hn; ⟨id, off, o, ha, get_old hm, h'⟩⟩
theorem Rd.nil (m : Mem) (a : Option Addr) (sz : Nat) : Rd m a 0 sz [] := ⟨rfl, by simp, fun h => absurd h (by omega)⟩
theorem Rd.new (m l : Mem) {rows : List (List Value)} {sz : Nat} (e : TypeId) (kd : Nat) (hk : kd ≤ 2) (hr : ∀ r ∈ rows, r.length = sz) : Rd (m ++ ⟨rows.flatten, e, sz, kd⟩ :: l) (some ⟨m.length, 0, none⟩) rows.length sz rows := by
  refine ⟨rfl, hr, fun _ => ⟨m.length, 0, ⟨rows.flatten, e, sz, kd⟩, rfl, by simp, hk, rfl, ?_⟩⟩
  rw [Nat.zero_mul, List.drop_zero, List.take_of_length_le (by rw [flatten_length hr]; exact Nat.le_refl _)]

/-- Whole numbers. -/
def vI (x : Int) : List Value := [.int .i64 x]
def RdI (m : Mem) (a : Option Addr) (xs : List Int) : Prop := Rd m a xs.length 1 (xs.map vI)
theorem RdI.at_ {m : Mem} {a : Option Addr} {xs : List Int} (h : RdI m a xs) {i : Nat} (hi : i < xs.length) :
    ∃ id off o, a = some ⟨id, off, none⟩ ∧ m[id]? = some o ∧ o.kind ≤ 2 ∧ o.sz = 1 ∧ o.cells[off + i]? = some (.int .i64 xs[i]) := by
  obtain ⟨id, off, o, r, ha, hm, hk, hsz, hr, _, _, _, hc⟩ := Rd.at_ h hi
  refine ⟨id, off, o, ha, hm, hk, hsz, ?_⟩
  simp only [List.getElem?_map, List.getElem?_eq_getElem hi, Option.map_some, Option.some.injEq] at hr
  subst hr
  have := hc 0 _ (by simp [vI]; rfl)
  simpa using this

theorem Rd.of_get {m : Mem} {id : Nat} {o : AObj} {rows : List (List Value)} {sz : Nat} (hm : m[id]? = some o) (hk : o.kind ≤ 2) (hsz : o.sz = sz) (hr : ∀ r ∈ rows, r.length = sz) (hc : o.cells = rows.flatten) : Rd m (some ⟨id, 0, none⟩) rows.length sz rows := by
  refine ⟨rfl, hr, fun _ => ⟨id, 0, o, rfl, hm, hk, hsz, ?_⟩⟩
  rw [Nat.zero_mul, List.drop_zero, hc, List.take_of_length_le (by rw [flatten_length hr]; exact Nat.le_refl _)]
theorem flatten_vI : ∀ xs : List Int, (xs.map vI).flatten = xs.map (Value.int .i64)
  | [] => rfl
  | x :: xs => by simp [vI]; exact flatten_vI xs
theorem RdI.of_get {m : Mem} {id : Nat} {o : AObj} {xs : List Int} (hm : m[id]? = some o) (hk : o.kind ≤ 2) (hsz : o.sz = 1) (hc : o.cells = xs.map (Value.int .i64)) : RdI m (some ⟨id, 0, none⟩) xs := by
  have := Rd.of_get (rows := xs.map vI) hm hk hsz (by intro r hr; obtain ⟨x, _, rfl⟩ := List.mem_map.1 hr; rfl) (by rw [hc, flatten_vI])
  simpa [RdI] using this
theorem all_take_succ {α : Type} {p : α → Bool} {xs : List α} {k : Nat} (h : k < xs.length) (h1 : (xs.take k).all p = true) (h2 : p xs[k] = true) : (xs.take (k + 1)).all p = true := by
  rw [List.take_add_one, List.getElem?_eq_getElem h, List.all_append, h1]
  simp [h2]
theorem all_false_of {α : Type} {p : α → Bool} {xs : List α} {k : Nat} (h : k < xs.length) (h2 : p xs[k] = false) : xs.all p = false := by
  rw [List.all_eq_false]
  exact ⟨xs[k], List.getElem_mem _, by simp [h2]⟩

/-! ### Wraps -/
theorem wrapI {x : Int} (h1 : -9223372036854775808 ≤ x) (h2 : x < 9223372036854775808) : IntKind.i64.wrap x = x := by rw [IntKind.wrap_i64]; omega

/-- The invariant holds anew, and what was counted is less. -/
def InvT (I : Nat → Fr → Mem → Prop) (n : Nat) (σ : Fr) (m : Mem) (_ : Tok (I, σ)) : Prop := ∃ n', n' < n ∧ I n' σ m
theorem invT {I : Nat → Fr → Mem → Prop} {n : Nat} {σ : Fr} {m : Mem} {t : Tok (I, σ)} (n' : Nat) (h : n' < n) (hI : I n' σ m) : InvT I n σ m t := ⟨n', h, hI⟩
theorem loopT {N : Nat} {fm : List Nat} {b : Code} {K : Post} {σ : Fr} {m : Mem} {t : Tok (b, K, σ)} (I : Nat → Fr → Mem → Prop) (n : Nat) (h0 : I n σ m)
    (round : ∀ n σ m, I n σ m → vc P N fm b (thenA (fun σ' m' => InvT I n σ' m' ⟨⟩) K) σ m) : LoopT P N fm b K σ m t := awp_loop I n h0 round

end Go.Abs
