/-
  Baskets, part 29: numbers in words, plain facts. Conditions: none.
-/
import Derived.Test.YtmbijgnmbapchaaGreatDoorBkBB
import Derived.Test.YtmbijgnmbapchaaGreatDoorDec
import Derived.Shelf.Strings.Prefix
import Derived.Test.YtmbijgnmbapchaaGreatDoorBkE
set_option linter.unusedSimpArgs false
set_option linter.unusedVariables false
set_option linter.unusedSectionVars false
namespace Go.Proofs.YtmbijgnmbapchaaGreatDoor
open Go.Abs Go.RowKit Go.Law

def isDig (c : UInt8) : Bool := decide (48 ≤ c.toNat) && decide (c.toNat ≤ 57)
/-- The number of these digits. -/
def valL (l : List UInt8) : Nat := l.foldl (fun n c => 10 * n + (c.toNat - 48)) 0
theorem valL_snoc (l : List UInt8) (c : UInt8) : valL (l ++ [c]) = 10 * valL l + (c.toNat - 48) := by simp [valL]
theorem digs_succ {l : List UInt8} {k : Nat} (h : k < l.length) : (l.take (k + 1)).all isDig = ((l.take k).all isDig && isDig l[k]) := by
  rw [List.take_add_one, List.getElem?_eq_getElem h, Option.toList_some, List.all_append]; simp
theorem valL_succ {l : List UInt8} {k : Nat} (h : k < l.length) : valL (l.take (k + 1)) = 10 * valL (l.take k) + (l[k].toNat - 48) := by
  rw [List.take_add_one, List.getElem?_eq_getElem h, Option.toList_some, valL_snoc]
theorem valL_lt : ∀ (k : Nat) (l : List UInt8), k ≤ l.length → (l.take k).all isDig = true → valL (l.take k) < 10 ^ k
  | 0, l, _, _ => by simp [valL]
  | k + 1, l, hk, h => by
    have hlt : k < l.length := hk
    rw [digs_succ hlt, Bool.and_eq_true] at h
    have ih := valL_lt k l (by omega) h.1
    rw [valL_succ hlt, Nat.pow_succ]
    have : l[k].toNat ≤ 57 := by have := h.2; simp [isDig] at this; omega
    omega
theorem pow18 {k : Nat} (h : k ≤ 18) : 10 ^ k ≤ 1000000000000000000 := Nat.pow_le_pow_right (by decide) h
/-- The text without a sign. -/
def stripB (s : ByteArray) : ByteArray := if s.data.toList.head? = some 45 then s.extract 1 s.size else s
theorem strip_size (s : ByteArray) : (stripB s).size ≤ s.size := by
  unfold stripB
  split
  · rw [ByteArray.size_extract]; omega
  · exact Nat.le_refl _
/-- The number that a text tells, where it tells one. -/
def signN (s : ByteArray) : Int := if (stripB s).size < s.size then -(valL (stripB s).data.toList : Int) else (valL (stripB s).data.toList : Int)
def numB (s : ByteArray) : Option Int :=
  if (stripB s).size < 1 ∨ 18 < (stripB s).size ∨ (stripB s).data.toList.all isDig = false then none
  else if decT (signN s) = s then some (signN s) else none
def numV : Option Int → Value
  | none => .tuple #[.int .i64 0, .bool false]
  | some n => .tuple #[.int .i64 n, .bool true]
theorem signN_in {s : ByteArray} (h1 : (stripB s).size ≤ 18) (h2 : (stripB s).data.toList.all isDig = true) : -1000000000000000000 < signN s ∧ signN s < 1000000000000000000 ∧ valL (stripB s).data.toList < 1000000000000000000 := by
  have hl : (stripB s).data.toList.length = (stripB s).size := bytes_size _
  have h := valL_lt (stripB s).size (stripB s).data.toList (by omega) (by rw [List.take_of_length_le (by omega)]; exact h2)
  rw [List.take_of_length_le (by omega)] at h
  have := pow18 h1
  unfold signN
  split <;> omega
theorem numB_in {s : ByteArray} {n : Int} (h : numB s = some n) : in64 n := by
  unfold numB at h
  split at h
  · cases h
  · rename_i g
    have g1 : (stripB s).size ≤ 18 := by omega
    have g2 : (stripB s).data.toList.all isDig = true := by
      cases hh : (stripB s).data.toList.all isDig with
      | true => rfl
      | false => exact absurd (.inr (.inr hh)) g
    have := signN_in g1 g2
    split at h
    · injection h with h; subst h; unfold in64; omega
    · cases h
theorem trimP_eq (s : ByteArray) : (⟨(Go.Lib.trimPrefix s.data.toList [45]).toArray⟩ : ByteArray) = stripB s := by
  unfold stripB Go.Lib.trimPrefix Go.Lib.hasPrefix
  cases h : s.data.toList with
  | nil =>
    refine WideShapes.bytes_inj ?_
    simp [List.isPrefixOf, h]
  | cons x l =>
    by_cases hx : x = 45
    · subst hx
      have e1 : ([45] : List UInt8).isPrefixOf (45 :: l) = true := by simp [List.isPrefixOf]
      rw [e1, if_pos rfl, if_pos (by simp), extract_list, h]
      have : s.size = (45 :: l).length := by rw [← bytes_size, h]
      rw [this, List.take_length]; rfl
    · have e1 : ([45] : List UInt8).isPrefixOf (x :: l) = false := by simp [List.isPrefixOf]; exact fun e => hx e.symm
      rw [e1, if_neg (by simp), if_neg (by simpa using hx)]
      refine WideShapes.bytes_inj ?_
      simp [h]
theorem trimP_c (s : ByteArray) (m : Mem) : ACalls Tryz.prog 61 [.string s, .string ⟨#[45]⟩] m (.string (stripB s)) m :=
  acalls_of_lit rfl rfl fun w => (Any.strings_TrimPrefix { Tryz.lays101 with } s ⟨#[45]⟩ w).mono fun e w' ⟨h1, h2⟩ => ⟨by rw [h1, ← trimP_eq], h2⟩
end Go.Proofs.YtmbijgnmbapchaaGreatDoor
namespace Go.Proofs.YtmbijgnmbapchaaGreatDoor
open Go.Abs Go.RowKit Go.Law

/-- A basket: its stakes, its layers, its border. -/
abbrev Bk := Int × List LyT × ByteArray
abbrev kwS : ByteArray := ⟨#[115, 116, 97, 107, 101, 115]⟩
abbrev kwW : ByteArray := ⟨#[119, 101, 97, 118, 101]⟩
abbrev kwB : ByteArray := ⟨#[98, 111, 114, 100, 101, 114]⟩
def stkF (s : Bk) : Option Int → Int × Bk
  | none => (3, s)
  | some n => (stakesK s.1 n, (if stakesK s.1 n = 0 then n else s.1), s.2.1, s.2.2)
def lyF (s : Bk) (x : ByteArray) : Option Int → Int × Bk
  | none => (3, s)
  | some n => (layerK s.1 s.2.1.length s.2.2 (x, n), s.1, (if layerK s.1 s.2.1.length s.2.2 (x, n) = 0 then s.2.1 ++ [(x, n)] else s.2.1), s.2.2)
def boF (s : Bk) (x : ByteArray) : Int × Bk := (borderK s.1 s.2.2 x, s.1, s.2.1, (if borderK s.1 s.2.2 x = 0 then x else s.2.2))
/-- What a row's words make of a basket, and the report. -/
def rowF (s : Bk) (ws : List ByteArray) : Int × Bk :=
  if ws = [] ∨ (ws.getD 0 B0).data.toList.head? = some 33 then (0, s)
  else if ws.getD 0 B0 = kwB then (if ws.length = 2 then boF s (ws.getD 1 B0) else (2, s))
  else if ws.getD 0 B0 = kwS then (if ws.length = 2 then stkF s (numB (ws.getD 1 B0)) else (2, s))
  else if ws.getD 0 B0 = kwW then (if ws.length = 3 then lyF s (ws.getD 1 B0) (numB (ws.getD 2 B0)) else (2, s))
  else (1, s)
/-- A basket that rows can make. -/
def BkOk (s : Bk) : Prop := okB s.1 s.2.1 s.2.2 = true
theorem BkOk.st {s : Bk} (h : BkOk s) : (s.1 = 0 ∧ s.2.1 = [] ∧ s.2.2.size = 0) ∨ (3 ≤ s.1 ∧ s.1 ≤ 60 ∧ laysTo s.1 s.2.1 s.2.1.length = true ∧ (s.2.2.size = 0 ∨ borderK s.1 B0 s.2.2 = 0)) := by
  obtain ⟨st, ls, b⟩ := s
  unfold BkOk okB at h
  simp only at h ⊢
  split at h
  · simp only [Bool.and_eq_true, decide_eq_true_eq] at h; exact .inl ⟨by assumption, h.1, h.2⟩
  · simp only [Bool.and_eq_true, Bool.or_eq_true, decide_eq_true_eq] at h
    have := h.1.1
    simp [inB] at this
    exact .inr ⟨this.1, this.2, h.1.2, h.2⟩
theorem BkOk.of {s : Bk} (h1 : 3 ≤ s.1 ∧ s.1 ≤ 60) (h2 : laysTo s.1 s.2.1 s.2.1.length = true) (h3 : s.2.2.size = 0 ∨ borderK s.1 B0 s.2.2 = 0) : BkOk s := by
  unfold BkOk okB
  rw [if_neg (by omega)]
  have : inB s.1 3 60 = true := by simp [inB, h1]
  rcases h3 with h3 | h3 <;> simp [this, h2, h3]
theorem BkOk.zero : BkOk (0, [], B0) := rfl
theorem BkOk.nl {s : Bk} (h : BkOk s) : s.2.1.length ≤ 40 := by
  rcases h.st with ⟨_, h, _⟩ | ⟨_, _, h, _⟩
  · rw [h]; exact Nat.zero_le _
  · exact laysTo_le h
theorem BkOk.stakes {s : Bk} (h : BkOk s) : s.1 = 0 ∨ 3 ≤ s.1 ∧ s.1 ≤ 60 := by
  rcases h.st with ⟨h, _⟩ | ⟨h1, h2, _⟩
  · exact .inl h
  · exact .inr ⟨h1, h2⟩
theorem layerK_B0 {st : Int} {k : Nat} {b : ByteArray} {p : LyT} (h : layerK st k b p = 0) : b.size = 0 ∧ layerK st k B0 p = 0 ∧ st ≠ 0 := by
  have h0 := h
  unfold layerK at h
  repeat' split at h
  all_goals first | (exfalso; omega) | skip
  rename_i h1 h2 h3 h4
  have hb : b.size = 0 := by
    rcases Nat.eq_zero_or_pos b.size with e | e
    · exact e
    · exact absurd (.inr (by omega)) h3
  refine ⟨hb, ?_, fun e => h3 (.inl e)⟩
  rw [← h0]
  unfold layerK
  have e0 : B0.size = 0 := rfl
  simp only [e0, hb]
theorem stk_ok {s : Bk} (h : BkOk s) (o : Option Int) : BkOk (stkF s o).2 := by
  cases o with
  | none => exact h
  | some n =>
    simp only [stkF]
    by_cases e : stakesK s.1 n = 0
    · rw [if_pos e]
      unfold stakesK at e
      split at e
      · omega
      · split at e
        · omega
        · rename_i g1 g2
          have g2' : s.1 = 0 := by omega
          rcases h.st with ⟨h1, h2, h3⟩ | ⟨h1, _⟩
          · refine .of ?_ ?_ (.inl h3)
            · simp [inB] at g1; exact g1
            · simp only [h2]; rfl
          · omega
    · rw [if_neg e]; exact h
theorem ly_ok {s : Bk} (h : BkOk s) (x : ByteArray) (o : Option Int) : BkOk (lyF s x o).2 := by
  cases o with
  | none => exact h
  | some n =>
    simp only [lyF]
    by_cases e : layerK s.1 s.2.1.length s.2.2 (x, n) = 0
    · rw [if_pos e]
      obtain ⟨h1, h2, h3⟩ := layerK_B0 e
      rcases h.st with ⟨g1, _, _⟩ | ⟨g1, g2, g3, g4⟩
      · exact absurd g1 h3
      · refine .of ⟨g1, g2⟩ ?_ (.inl h1)
        show laysTo s.1 (s.2.1 ++ [(x, n)]) (s.2.1 ++ [(x, n)]).length = true
        unfold laysTo
        rw [List.length_append, List.length_singleton, List.range_succ, List.all_append, Bool.and_eq_true]
        constructor
        · rw [List.all_eq_true]
          intro i hi
          have hi' : i < s.2.1.length := by simpa using hi
          have := allTo_get g3 hi'
          rw [getL hi'] at this
          rw [getL (by simp; omega), List.getElem_append_left hi']
          exact this
        · simp [h2]
    · rw [if_neg e]; exact h
theorem borderK_B0 {st : Int} {b w : ByteArray} (h : borderK st b w = 0) : borderK st B0 w = 0 ∧ st ≠ 0 := by
  have h0 := h
  unfold borderK at h
  split at h
  · omega
  · split at h
    · omega
    · split at h
      · omega
      · rename_i g1 g2 g3
        refine ⟨?_, g2⟩
        rw [← h0]
        unfold borderK
        have hb : b.size = 0 := by omega
        have e0 : B0.size = 0 := rfl
        simp only [e0, hb]
theorem bo_ok {s : Bk} (h : BkOk s) (x : ByteArray) : BkOk (boF s x).2 := by
  simp only [boF]
  by_cases e : borderK s.1 s.2.2 x = 0
  · rw [if_pos e]
    obtain ⟨h1, h2⟩ := borderK_B0 e
    rcases h.st with ⟨g1, _, _⟩ | ⟨g1, g2, g3, g4⟩
    · exact absurd g1 h2
    · exact .of ⟨g1, g2⟩ g3 (.inr h1)
  · rw [if_neg e]; exact h
theorem row_ok {s : Bk} (h : BkOk s) (ws : List ByteArray) : BkOk (rowF s ws).2 := by
  unfold rowF
  repeat' split
  all_goals first | exact h | exact bo_ok h _ | exact stk_ok h _ | exact ly_ok h _ _
/-- A report's kind. -/
theorem kind_in {x : Int} (h : x = 0 ∨ x = 1 ∨ x = 2 ∨ x = 3 ∨ x = 4 ∨ x = 5 ∨ x = 6 ∨ x = 7) : 0 ≤ x ∧ x ≤ 7 := by omega
theorem stk_kind (s : Bk) (o : Option Int) : 0 ≤ (stkF s o).1 ∧ (stkF s o).1 ≤ 7 := by
  cases o with
  | none => exact kind_in (by simp [stkF])
  | some n => simp only [stkF]; unfold stakesK; repeat' split
              all_goals exact kind_in (by simp)
theorem ly_kind (s : Bk) (x : ByteArray) (o : Option Int) : 0 ≤ (lyF s x o).1 ∧ (lyF s x o).1 ≤ 7 := by
  cases o with
  | none => exact kind_in (by simp [lyF])
  | some n => simp only [lyF]; unfold layerK; repeat' split
              all_goals exact kind_in (by simp)
theorem bo_kind (s : Bk) (x : ByteArray) : 0 ≤ (boF s x).1 ∧ (boF s x).1 ≤ 7 := by
  simp only [boF]; unfold borderK; repeat' split
  all_goals exact kind_in (by simp)
theorem row_kind (s : Bk) (ws : List ByteArray) : 0 ≤ (rowF s ws).1 ∧ (rowF s ws).1 ≤ 7 := by
  unfold rowF
  repeat' split
  all_goals first | exact bo_kind _ _ | exact stk_kind _ _ | exact ly_kind _ _ _ | exact kind_in (by simp)

/-! ### All rows of a text -/
/-- A report behind the others, where there is room. -/
def addR (r : List I2) (k : Nat) (kd : Int) : List I2 := if kd ≠ 0 ∧ r.length < 20 then r ++ [((k : Int) + 1, kd)] else r
/-- The basket and the reports behind the first k rows. -/
def runTo (rows : List ByteArray) : Nat → Bk × List I2
  | 0 => ((0, [], B0), [])
  | k + 1 => ((rowF (runTo rows k).1 (wordsOf (piecesB 32 (rows.getD k B0)))).2, addR (runTo rows k).2 k (rowF (runTo rows k).1 (wordsOf (piecesB 32 (rows.getD k B0)))).1)
theorem getB {xs : List ByteArray} {k : Nat} (h : k < xs.length) : xs.getD k B0 = xs[k] := by simp [List.getD_eq_getElem?_getD, List.getElem?_eq_getElem h]
theorem run_ok (rows : List ByteArray) : ∀ k, BkOk (runTo rows k).1
  | 0 => .zero
  | k + 1 => row_ok (run_ok rows k) _
theorem run_reports (rows : List ByteArray) : ∀ k, (runTo rows k).2.length ≤ 20
  | 0 => Nat.zero_le _
  | k + 1 => by
    have := run_reports rows k
    simp only [runTo, addR]
    split
    · simp; omega
    · exact this
/-- Rows of reports rise, and their kinds are told ones. -/
def Rises (k : Nat) (r : List I2) : Prop := (∀ p ∈ r, 1 ≤ p.1 ∧ p.1 ≤ k ∧ 1 ≤ p.2 ∧ p.2 ≤ 7) ∧ ∀ i (h : i + 1 < r.length), (r[i]'(by omega)).1 < r[i + 1].1
theorem Rises.add {k : Nat} {r : List I2} (h : Rises k r) {kd : Int} (hk : 0 ≤ kd ∧ kd ≤ 7) : Rises (k + 1) (addR r k kd) := by
  obtain ⟨h1, h2⟩ := h
  unfold addR
  split
  · rename_i g
    refine ⟨fun p hp => ?_, fun i h => ?_⟩
    · rcases List.mem_append.1 hp with hp | hp
      · have := h1 p hp; omega
      · rw [List.mem_singleton.1 hp]
        show 1 ≤ (k : Int) + 1 ∧ (k : Int) + 1 ≤ ((k + 1 : Nat) : Int) ∧ 1 ≤ kd ∧ kd ≤ 7
        omega
    · rw [List.length_append, List.length_singleton] at h
      by_cases hi : i + 1 < r.length
      · have := h2 i hi
        rw [List.getElem_append_left hi, List.getElem_append_left (by omega)]
        exact this
      · have e : i + 1 = r.length := by omega
        have := h1 r[i] (List.getElem_mem _)
        rw [List.getElem_append_left (by omega), List.getElem_append_right (by omega), List.getElem_singleton]
        show (r[i]).1 < (k : Int) + 1
        omega
  · exact ⟨fun p hp => by have := h1 p hp; omega, h2⟩
theorem run_rises (rows : List ByteArray) : ∀ k, Rises k (runTo rows k).2
  | 0 => ⟨fun p hp => absurd hp (List.not_mem_nil), fun i h => absurd h (Nat.not_lt_zero _)⟩
  | k + 1 => (run_rises rows k).add (row_kind _ _)
def readB (t : ByteArray) : Bk × List I2 := runTo (piecesB 10 t) (piecesB 10 t).length
end Go.Proofs.YtmbijgnmbapchaaGreatDoor
namespace Go.Proofs.YtmbijgnmbapchaaGreatDoor
open Go.Abs Go.RowKit Go.Law

theorem l01Digit_c (c : UInt8) (m : Mem) : ACalls Tryz.prog 64 [.int .u8 c.toNat] m (.bool (isDig c)) m := by
  refine acalls_of_vc Tryz.func64 rfl Tryz.fol (by kernel_rfl) ?_
  simp only [Tryz.f64]
  simp -dsimp -implicitDefEqProofs
  refine ⟨fun g => GC.eq ?_, fun g => GC.eq ?_⟩
  · simp at g
    have h1 : 48 ≤ c.toNat := by omega
    simp [isDig, h1]; omega
  · simp at g
    have h1 : ¬ 48 ≤ c.toNat := by omega
    simp [isDig, h1]
theorem pow17 {k : Nat} (h : k ≤ 17) : 10 ^ k ≤ 100000000000000000 := Nat.pow_le_pow_right (by decide) h
theorem digs_no {l : List UInt8} {k : Nat} (h : k < l.length) (hd : isDig l[k] = false) : l.all isDig = false := by
  rw [List.all_eq_false]
  exact ⟨l[k], List.getElem_mem _, by simp [hd]⟩
theorem dig_no {c : UInt8} (h : isDig c = false) : (decide ((c.toNat : Int) < 48) || decide (57 < (c.toNat : Int))) = true := by
  unfold isDig at h
  simp at h ⊢
  omega
theorem dig_yes {c : UInt8} (h : isDig c = true) : ∃ D : Nat, c.toNat = 48 + D ∧ D ≤ 9 := by
  unfold isDig at h
  simp at h
  exact ⟨c.toNat - 48, by omega, by omega⟩
theorem dig_yes2 {c : UInt8} (h : isDig c = true) : decide ((c.toNat : Int) < 48) = false ∧ decide (57 < (c.toNat : Int)) = false := by
  obtain ⟨D, h1, h2⟩ := dig_yes h
  simp; omega
theorem numB_none {s : ByteArray} (h : (stripB s).data.toList.all isDig = false) : numB s = none := by
  unfold numB; rw [if_pos (.inr (.inr h))]
theorem numB_short {s : ByteArray} (h : (stripB s).size < 1 ∨ 18 < (stripB s).size) : numB s = none := by
  unfold numB; rw [if_pos (h.elim .inl fun x => .inr (.inl x))]
theorem numB_some {s : ByteArray} (h1 : 1 ≤ (stripB s).size) (h2 : (stripB s).size ≤ 18) (h : (stripB s).data.toList.all isDig = true) : numB s = if decT (signN s) = s then some (signN s) else none := by
  unfold numB; rw [if_neg]
  rintro (g | g | g)
  · omega
  · omega
  · rw [h] at g; cases g
theorem implNum_c (s : ByteArray) (hs : s.size ≤ maxLen) (m : Mem) : ACalls Tryz.prog 44 [.string s] m (numV (numB s)) m := by
  obtain ⟨t, ht⟩ : ∃ t, t = stripB s := ⟨_, rfl⟩
  have hts : t.size ≤ s.size := by rw [ht]; exact strip_size s
  have htl : t.data.toList.length = t.size := bytes_size t
  have hnone : t.data.toList.all isDig = false → numB s = none := fun h => numB_none (by rw [← ht]; exact h)
  have hsome' : 1 ≤ t.size → t.size ≤ 18 → t.data.toList.all isDig = true → numB s = if decT (signN s) = s then some (signN s) else none := fun h1 h2 h3 => numB_some (by rw [← ht]; exact h1) (by rw [← ht]; exact h2) (by rw [← ht]; exact h3)
  have htc := trimP_c s m
  rw [← ht] at htc
  refine acalls_of_vc Tryz.func44 rfl Tryz.fol (by kernel_rfl) ?_
  simp only [Tryz.f44]
  simp -dsimp -implicitDefEqProofs
  refine callsTo Tryz.cal61 htc ?_
  simp -dsimp -implicitDefEqProofs
  refine ⟨fun g1 => GC.eq (by rw [numB_short (by rw [← ht]; exact .inl (by simp at g1; omega))]; rfl), fun g1 => ⟨fun g2 => GC.eq (by rw [numB_short (by rw [← ht]; exact .inr (by simp at g2; omega))]; rfl), fun g2 => ?_⟩⟩
  have hl1 : ¬ t.size < 1 := by simp at g1; omega
  have hl2 : ¬ 18 < t.size := by simp at g2; omega
  have hsome := hsome' (by omega) (by omega)
  refine loopN t.size (fun k σ m' => m' = m ∧ (σ 0 = some (.string s) ∧ σ 4 = some (.string t) ∧ σ 5 = some (.int .i64 ((valL (t.data.toList.take k) : Nat) : Int)) ∧ σ 6 = some (.int .i64 k)) ∧ (t.data.toList.take k).all isDig = true) ⟨rfl, ⟨by simp, by simp, by simp [valL], by simp⟩, by simp⟩ ?_
  rintro k σ m' hk ⟨rfl, ⟨s0, s4, s5, s6⟩, hok⟩
  obtain ⟨V, hV⟩ : ∃ V, V = valL (t.data.toList.take k) := ⟨_, rfl⟩
  have hVl := valL_lt k t.data.toList (by omega) hok
  have hp18 := pow18 (show k ≤ 18 by omega)
  rw [← hV] at hVl s5
  by_cases hlt : k < t.size
  · obtain ⟨c, hb⟩ : ∃ c, t.data[k]'hlt = c := ⟨_, rfl⟩
    have hltL : k < t.data.toList.length := by omega
    have hbL : t.data.toList[k] = c := by rw [← hb]; simp
    have hw : IntKind.i64.wrap ((k : Int) + 1) = k + 1 := wrapI (by omega) (by omega)
    have hp17 := pow17 (show k ≤ 17 by omega)
    cases hd : isDig c
    · have hno := hnone (digs_no hltL (by rw [hbL]; exact hd))
      have gNO := dig_no hd
      simp -dsimp -implicitDefEqProofs [s0, s4, s5, s6, hlt, hb, hd, gNO]
      refine ⟨fun g => GC.eq (by rw [hno]; rfl), fun g => ⟨fun g' => GC.eq (by rw [hno]; rfl), fun g' => ?_⟩⟩
      rw [g, g'] at gNO; cases gNO
    · obtain ⟨D, hD, hD9⟩ := dig_yes hd
      have w1 : IntKind.u8.wrap ((c.toNat : Int) - 48) = (D : Int) := by rw [hD, wrapB (by omega) (by omega)]; omega
      have w2 : IntKind.i64.wrap (D : Int) = D := wrapI (by omega) (by omega)
      have w3 : IntKind.i64.wrap ((V : Int) * 10) = 10 * (V : Int) := by rw [wrapI (by omega) (by omega)]; omega
      have w4 : IntKind.i64.wrap (10 * (V : Int) + D) = 10 * (V : Int) + D := wrapI (by omega) (by omega)
      have gY := dig_yes2 hd
      have hVs := valL_succ hltL
      rw [← hV, hbL, show c.toNat - 48 = D by omega] at hVs
      have hds := digs_succ hltL
      rw [hbL, hd, hok] at hds
      simp -dsimp -implicitDefEqProofs [s0, s4, s5, s6, hlt, hb, hd, gY, w1, w2, w3, w4, hw]
      exact next_ hlt ⟨rfl, ⟨by simp [s0], by simp [s4], by rw [hVs]; simp [w1, w2, w3, w4], by simp [hw]⟩, hds⟩
  · obtain rfl : k = t.size := by omega
    have hfull : t.data.toList.take t.size = t.data.toList := List.take_of_length_le (by omega)
    rw [hfull] at hok hV
    have hs2 : signN s = if t.size < s.size then -(V : Int) else (V : Int) := by unfold signN; rw [← ht, ← hV]
    have hyes := hsome hok
    by_cases hsz : t.size < s.size
    · rw [if_pos hsz] at hs2
      have hin : in64 (-(V : Int)) := by unfold in64; omega
      have hwn : IntKind.i64.wrap (-(V : Int)) = -(V : Int) := wrapI (by omega) (by omega)
      rw [hs2] at hyes
      simp -dsimp -implicitDefEqProofs [s0, s4, s5, s6, hsz, hwn, bytes_beq]
      refine callsTo Tryz.cal27 (implDecimal_c _ hin _) ?_
      simp -dsimp -implicitDefEqProofs [s0, s4, s5, s6, hsz, hwn, bytes_beq]
      refine sp2 (fun g => GC.eq ?_) (fun g => GC.eq ?_)
      · rw [hyes, if_neg (by simpa using g)]; rfl
      · rw [hyes, if_pos (by simpa using g)]; rfl
    · rw [if_neg hsz] at hs2
      have hin : in64 (V : Int) := by unfold in64; omega
      rw [hs2] at hyes
      simp -dsimp -implicitDefEqProofs [s0, s4, s5, s6, hsz, bytes_beq]
      refine callsTo Tryz.cal27 (implDecimal_c _ hin _) ?_
      simp -dsimp -implicitDefEqProofs [s0, s4, s5, s6, hsz, bytes_beq]
      refine sp2 (fun g => GC.eq ?_) (fun g => GC.eq ?_)
      · rw [hyes, if_neg (by simpa using g)]; rfl
      · rw [hyes, if_pos (by simpa using g)]; rfl

theorem specNum_c (s : ByteArray) (hs : s.size ≤ maxLen) (m : Mem) : ACalls Tryz.prog 47 [.string s] m (numV (numB s)) m := by
  obtain ⟨t, ht⟩ : ∃ t, t = stripB s := ⟨_, rfl⟩
  have hts : t.size ≤ s.size := by rw [ht]; exact strip_size s
  have htl : t.data.toList.length = t.size := bytes_size t
  have hnone : t.data.toList.all isDig = false → numB s = none := fun h => numB_none (by rw [← ht]; exact h)
  have hsome' : 1 ≤ t.size → t.size ≤ 18 → t.data.toList.all isDig = true → numB s = if decT (signN s) = s then some (signN s) else none := fun h1 h2 h3 => numB_some (by rw [← ht]; exact h1) (by rw [← ht]; exact h2) (by rw [← ht]; exact h3)
  have hbE := emptyE s
  by_cases h0 : s.size = 0
  · refine acalls_of_vc Tryz.func47 rfl Tryz.fol (by kernel_rfl) ?_
    simp only [Tryz.f47]
    simp -dsimp -implicitDefEqProofs [hbE, h0]
    exact GC.eq (by rw [numB_short (by rw [← ht]; exact .inl (by omega))]; rfl)
  have h0' : 0 < s.size := by omega
  obtain ⟨c0, hc0⟩ : ∃ c, s.data[0]'h0' = c := ⟨_, rfl⟩
  have hhd : s.data.toList.head? = some c0 := by
    rw [← hc0, List.head?_eq_getElem?, List.getElem?_eq_getElem (by rw [bytes_size]; exact h0')]; simp
  by_cases h45 : c0 = 45
  · have e : s.extract 1 s.size = t := by rw [ht]; unfold stripB; rw [hhd, h45, if_pos rfl]
    refine acalls_of_vc Tryz.func47 rfl Tryz.fol (by kernel_rfl) ?_
    simp only [Tryz.f47]
    simp -dsimp -implicitDefEqProofs [hbE, h0, h0', hc0, h45, e]
    refine ⟨by omega, ?_⟩
    refine ⟨fun g1 => GC.eq (by rw [numB_short (by rw [← ht]; exact .inl (by simp at g1; omega))]; rfl), fun g1 => ⟨fun g2 => GC.eq (by rw [numB_short (by rw [← ht]; exact .inr (by simp at g2; omega))]; rfl), fun g2 => ?_⟩⟩
    have hl1 : ¬ t.size < 1 := by simp at g1; omega
    have hl2 : ¬ 18 < t.size := by simp at g2; omega
    have hsome := hsome' (by omega) (by omega)
    refine loopN t.size (fun k σ m' => m' = m ∧ (σ 0 = some (.string s) ∧ σ 4 = some (.string t) ∧ σ 5 = some (.int .i64 ((valL (t.data.toList.take k) : Nat) : Int)) ∧ σ 6 = some (.int .i64 k)) ∧ (t.data.toList.take k).all isDig = true) ⟨rfl, ⟨by simp, by simp, by simp [valL], by simp⟩, by simp⟩ ?_
    rintro k σ m' hk ⟨rfl, ⟨s0, s4, s5, s6⟩, hok⟩
    obtain ⟨V, hV⟩ : ∃ V, V = valL (t.data.toList.take k) := ⟨_, rfl⟩
    have hVl := valL_lt k t.data.toList (by omega) hok
    have hp18 := pow18 (show k ≤ 18 by omega)
    rw [← hV] at hVl s5
    by_cases hlt : k < t.size
    · obtain ⟨c, hb⟩ : ∃ c, t.data[k]'hlt = c := ⟨_, rfl⟩
      have hltL : k < t.data.toList.length := by omega
      have hbL : t.data.toList[k] = c := by rw [← hb]; simp
      have hw : IntKind.i64.wrap ((k : Int) + 1) = k + 1 := wrapI (by omega) (by omega)
      have hp17 := pow17 (show k ≤ 17 by omega)
      cases hd : isDig c
      · have hno := hnone (digs_no hltL (by rw [hbL]; exact hd))
        have gNO := dig_no hd
        simp -dsimp -implicitDefEqProofs [s0, s4, s5, s6, hlt, hb, hd, gNO]
        refine callsTo Tryz.cal64 (l01Digit_c c _) ?_
        simp -dsimp -implicitDefEqProofs [s0, s4, s5, s6, hlt, hb, hd, gNO]
        exact GC.eq (by rw [hno]; rfl)
      · obtain ⟨D, hD, hD9⟩ := dig_yes hd
        have w1 : IntKind.u8.wrap ((c.toNat : Int) - 48) = (D : Int) := by rw [hD, wrapB (by omega) (by omega)]; omega
        have w2 : IntKind.i64.wrap (D : Int) = D := wrapI (by omega) (by omega)
        have w3 : IntKind.i64.wrap (10 * (V : Int)) = 10 * (V : Int) := wrapI (by omega) (by omega)
        have w4 : IntKind.i64.wrap (10 * (V : Int) + D) = 10 * (V : Int) + D := wrapI (by omega) (by omega)
        have gY := dig_yes2 hd
        have hVs := valL_succ hltL
        rw [← hV, hbL, show c.toNat - 48 = D by omega] at hVs
        have hds := digs_succ hltL
        rw [hbL, hd, hok] at hds
        simp -dsimp -implicitDefEqProofs [s0, s4, s5, s6, hlt, hb, hd, gY, w1, w2, w3, w4, hw]
        refine callsTo Tryz.cal64 (l01Digit_c c _) ?_
        simp -dsimp -implicitDefEqProofs [s0, s4, s5, s6, hlt, hb, hd, gY, w1, w2, w3, w4, hw]
        exact next_ hlt ⟨rfl, ⟨by simp [s0], by simp [s4], by rw [hVs]; simp [w1, w2, w3, w4], by simp [hw]⟩, hds⟩
    · obtain rfl : k = t.size := by omega
      have hfull : t.data.toList.take t.size = t.data.toList := List.take_of_length_le (by omega)
      rw [hfull] at hok hV
      have hs2 : signN s = if t.size < s.size then -(V : Int) else (V : Int) := by unfold signN; rw [← ht, ← hV]
      have hyes := hsome hok
      by_cases hsz : t.size < s.size
      · rw [if_pos hsz] at hs2
        have hin : in64 (-(V : Int)) := by unfold in64; omega
        have hwn : IntKind.i64.wrap (-(V : Int)) = -(V : Int) := wrapI (by omega) (by omega)
        rw [hs2] at hyes
        simp -dsimp -implicitDefEqProofs [s0, s4, s5, s6, hsz, hwn, bytes_beq]
        refine callsTo Tryz.cal37 (l01Dec_c _ hin _) ?_
        simp -dsimp -implicitDefEqProofs [s0, s4, s5, s6, hsz, hwn, bytes_beq]
        refine sp2 (fun g => GC.eq ?_) (fun g => GC.eq ?_)
        · rw [hyes, if_neg (by simpa using g)]; rfl
        · rw [hyes, if_pos (by simpa using g)]; rfl
      · rw [if_neg hsz] at hs2
        have hin : in64 (V : Int) := by unfold in64; omega
        rw [hs2] at hyes
        simp -dsimp -implicitDefEqProofs [s0, s4, s5, s6, hsz, bytes_beq]
        refine callsTo Tryz.cal37 (l01Dec_c _ hin _) ?_
        simp -dsimp -implicitDefEqProofs [s0, s4, s5, s6, hsz, bytes_beq]
        refine sp2 (fun g => GC.eq ?_) (fun g => GC.eq ?_)
        · rw [hyes, if_neg (by simpa using g)]; rfl
        · rw [hyes, if_pos (by simpa using g)]; rfl

  · have e : s = t := by rw [ht]; unfold stripB; rw [hhd, if_neg (by simpa using h45)]
    have h45' : ((c0.toNat : Int) == 45) = false := by
      refine beq_eq_false_iff_ne.2 fun x => h45 (UInt8.toNat_inj.1 (by simpa using (by omega : c0.toNat = 45)))
    refine acalls_of_vc Tryz.func47 rfl Tryz.fol (by kernel_rfl) ?_
    simp only [Tryz.f47]
    simp -dsimp -implicitDefEqProofs [hbE, h0, h0', hc0, h45']
    obtain rfl : t = s := e.symm
    refine ⟨fun g1 => GC.eq (by rw [numB_short (by rw [← ht]; exact .inl (by simp at g1; omega))]; rfl), fun g1 => ⟨fun g2 => GC.eq (by rw [numB_short (by rw [← ht]; exact .inr (by simp at g2; omega))]; rfl), fun g2 => ?_⟩⟩
    have hl1 : ¬ t.size < 1 := by simp at g1; omega
    have hl2 : ¬ 18 < t.size := by simp at g2; omega
    have hsome := hsome' (by omega) (by omega)
    refine loopN t.size (fun k σ m' => m' = m ∧ (σ 0 = some (.string t) ∧ σ 4 = some (.string t) ∧ σ 5 = some (.int .i64 ((valL (t.data.toList.take k) : Nat) : Int)) ∧ σ 6 = some (.int .i64 k)) ∧ (t.data.toList.take k).all isDig = true) ⟨rfl, ⟨by simp, by simp, by simp [valL], by simp⟩, by simp⟩ ?_
    rintro k σ m' hk ⟨rfl, ⟨s0, s4, s5, s6⟩, hok⟩
    obtain ⟨V, hV⟩ : ∃ V, V = valL (t.data.toList.take k) := ⟨_, rfl⟩
    have hVl := valL_lt k t.data.toList (by omega) hok
    have hp18 := pow18 (show k ≤ 18 by omega)
    rw [← hV] at hVl s5
    by_cases hlt : k < t.size
    · obtain ⟨c, hb⟩ : ∃ c, t.data[k]'hlt = c := ⟨_, rfl⟩
      have hltL : k < t.data.toList.length := by omega
      have hbL : t.data.toList[k] = c := by rw [← hb]; simp
      have hw : IntKind.i64.wrap ((k : Int) + 1) = k + 1 := wrapI (by omega) (by omega)
      have hp17 := pow17 (show k ≤ 17 by omega)
      cases hd : isDig c
      · have hno := hnone (digs_no hltL (by rw [hbL]; exact hd))
        have gNO := dig_no hd
        simp -dsimp -implicitDefEqProofs [s0, s4, s5, s6, hlt, hb, hd, gNO]
        refine callsTo Tryz.cal64 (l01Digit_c c _) ?_
        simp -dsimp -implicitDefEqProofs [s0, s4, s5, s6, hlt, hb, hd, gNO]
        exact GC.eq (by rw [hno]; rfl)
      · obtain ⟨D, hD, hD9⟩ := dig_yes hd
        have w1 : IntKind.u8.wrap ((c.toNat : Int) - 48) = (D : Int) := by rw [hD, wrapB (by omega) (by omega)]; omega
        have w2 : IntKind.i64.wrap (D : Int) = D := wrapI (by omega) (by omega)
        have w3 : IntKind.i64.wrap (10 * (V : Int)) = 10 * (V : Int) := wrapI (by omega) (by omega)
        have w4 : IntKind.i64.wrap (10 * (V : Int) + D) = 10 * (V : Int) + D := wrapI (by omega) (by omega)
        have gY := dig_yes2 hd
        have hVs := valL_succ hltL
        rw [← hV, hbL, show c.toNat - 48 = D by omega] at hVs
        have hds := digs_succ hltL
        rw [hbL, hd, hok] at hds
        simp -dsimp -implicitDefEqProofs [s0, s4, s5, s6, hlt, hb, hd, gY, w1, w2, w3, w4, hw]
        refine callsTo Tryz.cal64 (l01Digit_c c _) ?_
        simp -dsimp -implicitDefEqProofs [s0, s4, s5, s6, hlt, hb, hd, gY, w1, w2, w3, w4, hw]
        exact next_ hlt ⟨rfl, ⟨by simp [s0], by simp [s4], by rw [hVs]; simp [w1, w2, w3, w4], by simp [hw]⟩, hds⟩
    · obtain rfl : k = t.size := by omega
      have hfull : t.data.toList.take t.size = t.data.toList := List.take_of_length_le (by omega)
      rw [hfull] at hok hV
      have hs2 : signN t = if t.size < t.size then -(V : Int) else (V : Int) := by unfold signN; rw [← ht, ← hV]
      have hyes := hsome hok
      by_cases hsz : t.size < t.size
      · exact absurd hsz (Nat.lt_irrefl _)
      · rw [if_neg hsz] at hs2
        have hin : in64 (V : Int) := by unfold in64; omega
        rw [hs2] at hyes
        simp -dsimp -implicitDefEqProofs [s0, s4, s5, s6, hsz, bytes_beq]
        refine callsTo Tryz.cal37 (l01Dec_c _ hin _) ?_
        simp -dsimp -implicitDefEqProofs [s0, s4, s5, s6, hsz, bytes_beq]
        refine sp2 (fun g => GC.eq ?_) (fun g => GC.eq ?_)
        · rw [hyes, if_neg (by simpa using g)]; rfl
        · rw [hyes, if_pos (by simpa using g)]; rfl

end Go.Proofs.YtmbijgnmbapchaaGreatDoor
namespace Go.Proofs.YtmbijgnmbapchaaGreatDoor
open Go.Abs Go.RowKit Go.Law

theorem kw_true {w : ByteArray} {l : List UInt8} (h : w = ⟨l.toArray⟩) : (w.toList == l) = true := by
  subst h; rw [Go.Lib.toList_data]; simp
theorem kw_false {w : ByteArray} {l : List UInt8} (h : ¬ w = ⟨l.toArray⟩) : (w.toList == l) = false := by
  refine beq_eq_false_iff_ne.2 fun e => h ?_
  rw [Go.Lib.toList_data] at e
  rw [← e]
theorem rowF_b {s : Bk} {w0 : ByteArray} {ws : List ByteArray} (h : w0 = kwB) : rowF s (w0 :: ws) = if ws.length + 1 = 2 then boF s (ws.getD 0 B0) else (2, s) := by
  subst h
  unfold rowF
  rw [if_neg (by rintro (h | h); · cases h
                 · exact absurd h (show ¬ kwB.data.toList.head? = some 33 by decide)), if_pos (by rfl)]
  rfl
theorem rowF_s {s : Bk} {w0 : ByteArray} {ws : List ByteArray} (h : w0 = kwS) : rowF s (w0 :: ws) = if ws.length + 1 = 2 then stkF s (numB (ws.getD 0 B0)) else (2, s) := by
  subst h
  unfold rowF
  rw [if_neg (by rintro (h | h); · cases h
                 · exact absurd h (show ¬ kwS.data.toList.head? = some 33 by decide)), if_neg (by show ¬ kwS = kwB; decide), if_pos (by rfl)]
  rfl
theorem rowF_w {s : Bk} {w0 : ByteArray} {ws : List ByteArray} (h : w0 = kwW) : rowF s (w0 :: ws) = if ws.length + 1 = 3 then lyF s (ws.getD 0 B0) (numB (ws.getD 1 B0)) else (2, s) := by
  subst h
  unfold rowF
  rw [if_neg (by rintro (h | h); · cases h
                 · exact absurd h (show ¬ kwW.data.toList.head? = some 33 by decide)), if_neg (by show ¬ kwW = kwB; decide), if_neg (by show ¬ kwW = kwS; decide), if_pos (by rfl)]
  rfl
theorem rowF_o {s : Bk} {w0 : ByteArray} {ws : List ByteArray} (h : ¬ w0.data.toList.head? = some 33) (h1 : ¬ w0 = kwB) (h2 : ¬ w0 = kwS) (h3 : ¬ w0 = kwW) : rowF s (w0 :: ws) = (1, s) := by
  unfold rowF
  rw [if_neg (by rintro (g | g); · cases g
                 · exact h g), if_neg (by exact h1), if_neg (by exact h2), if_neg (by exact h3)]
theorem rowF_33 {s : Bk} {w0 : ByteArray} {ws : List ByteArray} (h : w0.data.toList.head? = some 33) : rowF s (w0 :: ws) = (0, s) := by
  unfold rowF
  rw [if_pos (.inr h)]
theorem bkTurn_same {id j : Nat} {st : Int} {ls : List LyT} {b : ByteArray} {m : Mem} (h : BkAt m id j st ls b) (k : Int) {r : Int × Bk} (hr : r = (k, (st, ls, b))) : BkTurn id j r.2.1 r.2.2.1 r.2.2.2 r.1 m (.int .i64 k) m := by
  subst hr
  exact ⟨rfl, RestS.refl _ _, j, .inl rfl, h⟩
theorem len_two {α : Type} {l : List α} (h : l.length = 2) : ∃ x y, l = [x, y] := by
  match l, h with
  | [x, y], _ => exact ⟨x, y, rfl⟩
theorem wrap2 : IntKind.i64.wrap 2 = 2 := by decide
theorem wrap1 : IntKind.i64.wrap 1 = 1 := by decide

theorem addRow_c (id j jw kd : Nat) (st : Int) (ls : List LyT) (b w0 : ByteArray) (ws : List ByteArray) (m : Mem) (h : BkAt m id j st ls b) (hok : BkOk (st, ls, b)) (hw : m[jw]? = some ⟨.string w0 :: ws.map Value.string, 9, 1, kd⟩) (hkd : kd ≤ 2)
    (h33 : ¬ w0.data.toList.head? = some 33) (hsz : ∀ w ∈ ws, w.size ≤ maxLen) (hl : ws.length ≤ 1048577) :
    ∃ v m', ACalls Tryz.prog 23 [.pointer (some ⟨id, 0, none⟩), .slice (some ⟨jw, 0, none⟩) (ws.length + 1) (ws.length + 1)] m v m' ∧ BkTurn id j (rowF (st, ls, b) (w0 :: ws)).2.1 (rowF (st, ls, b) (w0 :: ws)).2.2.1 (rowF (st, ls, b) (w0 :: ws)).2.2.2 (rowF (st, ls, b) (w0 :: ws)).1 m v m' := by
  obtain ⟨r, hr⟩ : ∃ r, r = rowF (st, ls, b) (w0 :: ws) := ⟨_, rfl⟩
  rw [← hr]
  have hst : st = 0 ∨ 3 ≤ st ∧ st ≤ 60 := hok.stakes
  have hnl : ls.length ≤ 40 := hok.nl
  by_cases hB : w0 = kwB
  · have eB := kw_true (w := w0) (l := [98, 111, 114, 100, 101, 114]) hB
    have eS := kw_false (w := w0) (l := [115, 116, 97, 107, 101, 115]) (by rw [hB]; decide)
    have eW := kw_false (w := w0) (l := [119, 101, 97, 118, 101]) (by rw [hB]; decide)
    rw [rowF_b hB] at hr
    by_cases hn : ws.length + 1 = 2
    · rw [if_pos hn] at hr
      obtain ⟨x, rfl⟩ : ∃ x, ws = [x] := List.length_eq_one_iff.1 (by omega)
      have hx := hsz x (by simp)
      obtain ⟨v2, m2, hc2, rfl, hr2, j2, hj2, hB2⟩ := setBorder_c id j st x ls b m h hx hst
      simp only [List.map_cons, List.map_nil] at hw
      refine ecalls_of_vc Tryz.func23 rfl Tryz.fol (by kernel_rfl) ?_
      simp only [Tryz.f23]
      simp -dsimp -implicitDefEqProofs [withO_of hw, hkd, eB, eS, eW, wrap1, wrap2]
      refine callsTo Tryz.cal40 hc2 ?_
      simp -dsimp -implicitDefEqProofs [withO_of hw, hkd, eB, eS, eW, wrap1, wrap2]
      exact ⟨_, _, GC.refl _ _ _, by rw [hr]; exact ⟨rfl, hr2, j2, hj2, hB2⟩⟩
    · rw [if_neg hn] at hr
      have hn' : ((ws.length : Int) + 1 != 2) = true := by simp; omega
      refine ecalls_of_vc Tryz.func23 rfl Tryz.fol (by kernel_rfl) ?_
      simp only [Tryz.f23]
      simp -dsimp -implicitDefEqProofs [withO_of hw, hkd, eB, eS, eW, wrap1, wrap2, hn']
      exact ⟨_, _, GC.refl _ _ _, bkTurn_same h 2 hr⟩
  have eB := kw_false (w := w0) (l := [98, 111, 114, 100, 101, 114]) hB
  by_cases hS : w0 = kwS
  · have eS := kw_true (w := w0) (l := [115, 116, 97, 107, 101, 115]) hS
    have eW := kw_false (w := w0) (l := [119, 101, 97, 118, 101]) (by rw [hS]; decide)
    rw [rowF_s hS] at hr
    by_cases hn : ws.length + 1 = 2
    · rw [if_pos hn] at hr
      obtain ⟨x, rfl⟩ : ∃ x, ws = [x] := List.length_eq_one_iff.1 (by omega)
      have hx := hsz x (by simp)
      simp only [List.map_cons, List.map_nil] at hw
      have hnum := implNum_c x hx m
      have hr' : r = stkF (st, ls, b) (numB x) := hr
      cases hN : numB x with
      | none =>
        rw [hN] at hnum hr'
        simp only [numV] at hnum
        refine ecalls_of_vc Tryz.func23 rfl Tryz.fol (by kernel_rfl) ?_
        simp only [Tryz.f23]
        simp -dsimp -implicitDefEqProofs [withO_of hw, hkd, eB, eS, eW, wrap1, wrap2]
        refine callsTo Tryz.cal44 hnum ?_
        simp -dsimp -implicitDefEqProofs [withO_of hw, hkd, eB, eS, eW, wrap1, wrap2]
        exact ⟨_, _, GC.refl _ _ _, bkTurn_same h 3 hr'⟩
      | some n =>
        rw [hN] at hnum hr'
        simp only [numV] at hnum
        obtain ⟨v2, m2, hc2, rfl, hr2, j2, hj2, hB2⟩ := setStakes_c id j st n ls b m h (by omega)
        refine ecalls_of_vc Tryz.func23 rfl Tryz.fol (by kernel_rfl) ?_
        simp only [Tryz.f23]
        simp -dsimp -implicitDefEqProofs [withO_of hw, hkd, eB, eS, eW, wrap1, wrap2]
        refine callsTo Tryz.cal44 hnum ?_
        simp -dsimp -implicitDefEqProofs [withO_of hw, hkd, eB, eS, eW, wrap1, wrap2]
        refine callsTo Tryz.cal38 hc2 ?_
        simp -dsimp -implicitDefEqProofs [withO_of hw, hkd, eB, eS, eW, wrap1, wrap2]
        exact ⟨_, _, GC.refl _ _ _, by rw [hr']; exact ⟨rfl, hr2, j2, hj2, hB2⟩⟩
    · rw [if_neg hn] at hr
      have hn' : ((ws.length : Int) + 1 != 2) = true := by simp; omega
      refine ecalls_of_vc Tryz.func23 rfl Tryz.fol (by kernel_rfl) ?_
      simp only [Tryz.f23]
      simp -dsimp -implicitDefEqProofs [withO_of hw, hkd, eB, eS, eW, wrap1, wrap2, hn']
      exact ⟨_, _, GC.refl _ _ _, bkTurn_same h 2 hr⟩
  have eS := kw_false (w := w0) (l := [115, 116, 97, 107, 101, 115]) hS
  by_cases hW : w0 = kwW
  · have eW := kw_true (w := w0) (l := [119, 101, 97, 118, 101]) hW
    rw [rowF_w hW] at hr
    by_cases hn : ws.length + 1 = 3
    · rw [if_pos hn] at hr
      obtain ⟨x, y, rfl⟩ : ∃ x y, ws = [x, y] := len_two (by omega)
      have hx := hsz x (by simp)
      have hy := hsz y (by simp)
      simp only [List.map_cons, List.map_nil] at hw
      have hnum := implNum_c y hy m
      have hr' : r = lyF (st, ls, b) x (numB y) := hr
      cases hN : numB y with
      | none =>
        rw [hN] at hnum hr'
        simp only [numV] at hnum
        refine ecalls_of_vc Tryz.func23 rfl Tryz.fol (by kernel_rfl) ?_
        simp only [Tryz.f23]
        simp -dsimp -implicitDefEqProofs [withO_of hw, hkd, eB, eS, eW, wrap1, wrap2]
        refine callsTo Tryz.cal44 hnum ?_
        simp -dsimp -implicitDefEqProofs [withO_of hw, hkd, eB, eS, eW, wrap1, wrap2]
        exact ⟨_, _, GC.refl _ _ _, bkTurn_same h 3 hr'⟩
      | some n =>
        rw [hN] at hnum hr'
        simp only [numV] at hnum
        obtain ⟨v2, m2, hc2, rfl, hr2, j2, hj2, hB2⟩ := addLayer_c id j st (x, n) ls b m h hx hnl
        simp only [vl] at hc2
        refine ecalls_of_vc Tryz.func23 rfl Tryz.fol (by kernel_rfl) ?_
        simp only [Tryz.f23]
        simp -dsimp -implicitDefEqProofs [withO_of hw, hkd, eB, eS, eW, wrap1, wrap2]
        refine callsTo Tryz.cal44 hnum ?_
        simp -dsimp -implicitDefEqProofs [withO_of hw, hkd, eB, eS, eW, wrap1, wrap2]
        refine callsTo Tryz.cal39 hc2 ?_
        simp -dsimp -implicitDefEqProofs [withO_of hw, hkd, eB, eS, eW, wrap1, wrap2]
        exact ⟨_, _, GC.refl _ _ _, by rw [hr']; exact ⟨rfl, hr2, j2, hj2, hB2⟩⟩
    · rw [if_neg hn] at hr
      have hn' : ((ws.length : Int) + 1 != 3) = true := by simp; omega
      refine ecalls_of_vc Tryz.func23 rfl Tryz.fol (by kernel_rfl) ?_
      simp only [Tryz.f23]
      simp -dsimp -implicitDefEqProofs [withO_of hw, hkd, eB, eS, eW, wrap1, wrap2, hn']
      exact ⟨_, _, GC.refl _ _ _, bkTurn_same h 2 hr⟩
  have eW := kw_false (w := w0) (l := [119, 101, 97, 118, 101]) hW
  rw [rowF_o h33 hB hS hW] at hr
  refine ecalls_of_vc Tryz.func23 rfl Tryz.fol (by kernel_rfl) ?_
  simp only [Tryz.f23]
  simp -dsimp -implicitDefEqProofs [withO_of hw, hkd, eB, eS, eW, wrap1, wrap2]
  exact ⟨_, _, GC.refl _ _ _, bkTurn_same h 1 hr⟩
theorem pieces_le (c : UInt8) : ∀ (s : List UInt8), ∀ l ∈ piecesL c s, l.length ≤ s.length
  | [], l, hl => by rw [List.mem_singleton.1 hl]; exact Nat.le_refl _
  | b :: s, l, hl => by
    have ih := pieces_le c s
    unfold piecesL at hl
    split at hl
    · rcases List.mem_cons.1 hl with rfl | hl
      · simp
      · have := ih l hl; simp; omega
    · split at hl
      · rw [List.mem_singleton.1 hl]; simp
      · rename_i p ps hps
        rw [hps] at ih
        rcases List.mem_cons.1 hl with rfl | hl
        · have := ih p (by simp); simp; omega
        · have := ih l (by simp [hl]); simp; omega
/-- What a row leaves. -/
def RowQ (id j : Nat) (s : Bk) (ws : List ByteArray) (m : Mem) (v : Value) (m' : Mem) : Prop :=
  v = .int .i64 (rowF s ws).1 ∧ RestS [id, j] m m' ∧ ∃ j', (j' = j ∨ m.length ≤ j') ∧ BkAt m' id j' (rowF s ws).2.1 (rowF s ws).2.2.1 (rowF s ws).2.2.2
theorem RowQ.same {id j : Nat} {st : Int} {ls : List LyT} {b : ByteArray} {ws : List ByteArray} {m m' : Mem} (h : BkAt m id j st ls b) (hp : m <+: m') {k : Int} (hr : rowF (st, ls, b) ws = (k, (st, ls, b))) : RowQ id j (st, ls, b) ws m (.int .i64 k) m' := by
  unfold RowQ
  rw [hr]
  exact ⟨rfl, .of_pre hp, j, .inl rfl, h.rest (RestS.of_pre (S := []) hp) (by simp) (by simp)⟩
theorem RowQ.turn {id j j' : Nat} {st : Int} {ls : List LyT} {b : ByteArray} {ws : List ByteArray} {m m1 m' : Mem} {k : Int} {s' : Bk} (hp : m <+: m1) (hr : rowF (st, ls, b) ws = (k, s')) (h : RestS [id, j] m1 m') (hj : j' = j ∨ m1.length ≤ j') (hB : BkAt m' id j' s'.1 s'.2.1 s'.2.2) : RowQ id j (st, ls, b) ws m (.int .i64 k) m' := by
  unfold RowQ
  rw [hr]
  have := hp.length_le
  exact ⟨rfl, (RestS.of_pre hp).trans h, j', by omega, hB⟩
theorem words_small {s : ByteArray} : ∀ w ∈ wordsOf (piecesB 32 s), w.size ≤ s.size ∧ ¬ w.size = 0 := by
  intro w hw
  unfold wordsOf at hw
  obtain ⟨h1, h2⟩ := List.mem_filter.1 hw
  refine ⟨?_, by simpa using h2⟩
  unfold piecesB at h1
  obtain ⟨l, hl, rfl⟩ := List.mem_map.1 h1
  have := pieces_le 32 s.data.toList l hl
  rw [bytes_size] at this
  exact this
theorem row_c (id j : Nat) (st : Int) (ls : List LyT) (b row : ByteArray) (m : Mem) (h : BkAt m id j st ls b) (hok : BkOk (st, ls, b)) (hrow : row.size ≤ 1048576) :
    ∃ v m', ACalls Tryz.prog 25 [.pointer (some ⟨id, 0, none⟩), .string row] m v m' ∧ RowQ id j (st, ls, b) (wordsOf (piecesB 32 row)) m v m' := by
  have hst : st = 0 ∨ 3 ≤ st ∧ st ≤ 60 := hok.stakes
  have hnl : ls.length ≤ 40 := hok.nl
  obtain ⟨v1, m1, hc1, jw, rfl, hp, hjw, kd, hw, hk1, hk2⟩ := specWords_c row hrow m
  have hsm := words_small (s := row)
  have hlen : (wordsOf (piecesB 32 row)).length ≤ 1048577 := by
    have h1 : (wordsOf (piecesB 32 row)).length ≤ (piecesB 32 row).length := List.length_filter_le _ _
    have h2 := Go.Lib.countB_le ⟨#[32]⟩ (by decide) row.size row (Nat.le_refl _)
    rw [pieces_len] at h1
    omega
  have hB1 : BkAt m1 id j st ls b := h.rest (RestS.of_pre (S := []) hp) (by simp) (by simp)
  cases hws : wordsOf (piecesB 32 row) with
  | nil =>
    rw [hws] at hc1 hw
    simp only [List.length_nil, List.map_nil] at hc1 hw
    refine ecalls_of_vc Tryz.func25 rfl Tryz.fol (by kernel_rfl) ?_
    simp only [Tryz.f25]
    simp -dsimp -implicitDefEqProofs
    refine callsTo Tryz.cal45 hc1 ?_
    simp -dsimp -implicitDefEqProofs
    exact ⟨_, _, GC.refl _ _ _, RowQ.same h hp rfl⟩
  | cons w0 ws =>
    rw [hws] at hc1 hw hsm hlen
    simp only [List.length_cons, List.map_cons] at hc1 hw hlen
    have hw0 := hsm w0 (by simp)
    have hpos : 0 < w0.size := by omega
    have hsz : ∀ w ∈ ws, w.size ≤ maxLen := fun w hw => by
      have := (hsm w (by simp [hw])).1
      have e : maxLen = 9223372036854775807 := rfl
      omega
    have hz0 : ((ws.length : Int) + 1 == 0) = false := beq_eq_false_iff_ne.2 (by omega)
    obtain ⟨c0, hc0⟩ : ∃ c, w0.data[0]'hpos = c := ⟨_, rfl⟩
    have hhd : w0.data.toList.head? = some c0 := by
      rw [← hc0, List.head?_eq_getElem?, List.getElem?_eq_getElem (by rw [bytes_size]; exact hpos)]; simp
    by_cases h33 : c0 = 33
    · have e33 : ((c0.toNat : Int) == 33) = true := by rw [h33]; rfl
      refine ecalls_of_vc Tryz.func25 rfl Tryz.fol (by kernel_rfl) ?_
      simp only [Tryz.f25]
      simp -dsimp -implicitDefEqProofs [withO_of hw, hk2, hpos, hc0, hz0, e33]
      refine callsTo Tryz.cal45 hc1 ?_
      simp -dsimp -implicitDefEqProofs [withO_of hw, hk2, hpos, hc0, hz0, e33]
      exact ⟨_, _, GC.refl _ _ _, RowQ.same h hp (rowF_33 (by rw [hhd, h33]))⟩
    have e33 : ((c0.toNat : Int) == 33) = false := by
      refine beq_eq_false_iff_ne.2 fun x => h33 (UInt8.toNat_inj.1 (by simpa using (by omega : c0.toNat = 33)))
    have h33' : ¬ w0.data.toList.head? = some 33 := by rw [hhd]; simpa using h33
    by_cases hB : w0 = kwB
    · have eB := kw_true (w := w0) (l := [98, 111, 114, 100, 101, 114]) hB
      have eS := kw_false (w := w0) (l := [115, 116, 97, 107, 101, 115]) (by rw [hB]; decide)
      have eW := kw_false (w := w0) (l := [119, 101, 97, 118, 101]) (by rw [hB]; decide)
      have hr := rowF_b (s := (st, ls, b)) (ws := ws) hB
      by_cases hn : ws.length + 1 = 2
      · rw [if_pos hn] at hr
        obtain ⟨x, rfl⟩ : ∃ x, ws = [x] := List.length_eq_one_iff.1 (by omega)
        have hx := hsz x (by simp)
        obtain ⟨v2, m2, hc2, rfl, hr2, j2, hj2, hB2⟩ := l17Border_c id j st x ls b m1 hB1 hx hst
        simp only [List.map_cons, List.map_nil] at hw
        refine ecalls_of_vc Tryz.func25 rfl Tryz.fol (by kernel_rfl) ?_
        simp only [Tryz.f25]
        simp -dsimp -implicitDefEqProofs [withO_of hw, hk2, hpos, hc0, hz0, e33, eB, eS, eW, wrap1, wrap2]
        refine callsTo Tryz.cal45 hc1 ?_
        simp -dsimp -implicitDefEqProofs [withO_of hw, hk2, hpos, hc0, hz0, e33, eB, eS, eW, wrap1, wrap2]
        refine callsTo Tryz.cal46 hc2 ?_
        simp -dsimp -implicitDefEqProofs [withO_of hw, hk2, hpos, hc0, hz0, e33, eB, eS, eW, wrap1, wrap2]
        exact ⟨_, _, GC.refl _ _ _, RowQ.turn hp hr hr2 hj2 hB2⟩
      · rw [if_neg hn] at hr
        have hn' : ((ws.length : Int) + 1 != 2) = true := by simp; omega
        refine ecalls_of_vc Tryz.func25 rfl Tryz.fol (by kernel_rfl) ?_
        simp only [Tryz.f25]
        simp -dsimp -implicitDefEqProofs [withO_of hw, hk2, hpos, hc0, hz0, e33, eB, eS, eW, wrap1, wrap2, hn']
        refine callsTo Tryz.cal45 hc1 ?_
        simp -dsimp -implicitDefEqProofs [withO_of hw, hk2, hpos, hc0, hz0, e33, eB, eS, eW, wrap1, wrap2, hn']
        exact ⟨_, _, GC.refl _ _ _, RowQ.same h hp hr⟩
    have eB := kw_false (w := w0) (l := [98, 111, 114, 100, 101, 114]) hB
    by_cases hS : w0 = kwS
    · have eS := kw_true (w := w0) (l := [115, 116, 97, 107, 101, 115]) hS
      have eW := kw_false (w := w0) (l := [119, 101, 97, 118, 101]) (by rw [hS]; decide)
      have hr := rowF_s (s := (st, ls, b)) (ws := ws) hS
      by_cases hn : ws.length + 1 = 2
      · rw [if_pos hn] at hr
        obtain ⟨x, rfl⟩ : ∃ x, ws = [x] := List.length_eq_one_iff.1 (by omega)
        have hx := hsz x (by simp)
        simp only [List.map_cons, List.map_nil] at hw
        have hnum := specNum_c x hx m1
        have hr' : rowF (st, ls, b) [w0, x] = stkF (st, ls, b) (numB x) := hr
        cases hN : numB x with
        | none =>
          rw [hN] at hnum hr'
          simp only [numV] at hnum
          refine ecalls_of_vc Tryz.func25 rfl Tryz.fol (by kernel_rfl) ?_
          simp only [Tryz.f25]
          simp -dsimp -implicitDefEqProofs [withO_of hw, hk2, hpos, hc0, hz0, e33, eB, eS, eW, wrap1, wrap2]
          refine callsTo Tryz.cal45 hc1 ?_
          simp -dsimp -implicitDefEqProofs [withO_of hw, hk2, hpos, hc0, hz0, e33, eB, eS, eW, wrap1, wrap2]
          refine callsTo Tryz.cal47 hnum ?_
          simp -dsimp -implicitDefEqProofs [withO_of hw, hk2, hpos, hc0, hz0, e33, eB, eS, eW, wrap1, wrap2]
          exact ⟨_, _, GC.refl _ _ _, RowQ.same h hp hr'⟩
        | some n =>
          rw [hN] at hnum hr'
          simp only [numV] at hnum
          obtain ⟨v2, m2, hc2, rfl, hr2, j2, hj2, hB2⟩ := l17Stakes_c id j st n ls b m1 hB1 (by omega)
          refine ecalls_of_vc Tryz.func25 rfl Tryz.fol (by kernel_rfl) ?_
          simp only [Tryz.f25]
          simp -dsimp -implicitDefEqProofs [withO_of hw, hk2, hpos, hc0, hz0, e33, eB, eS, eW, wrap1, wrap2]
          refine callsTo Tryz.cal45 hc1 ?_
          simp -dsimp -implicitDefEqProofs [withO_of hw, hk2, hpos, hc0, hz0, e33, eB, eS, eW, wrap1, wrap2]
          refine callsTo Tryz.cal47 hnum ?_
          simp -dsimp -implicitDefEqProofs [withO_of hw, hk2, hpos, hc0, hz0, e33, eB, eS, eW, wrap1, wrap2]
          refine callsTo Tryz.cal48 hc2 ?_
          simp -dsimp -implicitDefEqProofs [withO_of hw, hk2, hpos, hc0, hz0, e33, eB, eS, eW, wrap1, wrap2]
          exact ⟨_, _, GC.refl _ _ _, RowQ.turn hp hr' hr2 hj2 hB2⟩
      · rw [if_neg hn] at hr
        have hn' : ((ws.length : Int) + 1 != 2) = true := by simp; omega
        refine ecalls_of_vc Tryz.func25 rfl Tryz.fol (by kernel_rfl) ?_
        simp only [Tryz.f25]
        simp -dsimp -implicitDefEqProofs [withO_of hw, hk2, hpos, hc0, hz0, e33, eB, eS, eW, wrap1, wrap2, hn']
        refine callsTo Tryz.cal45 hc1 ?_
        simp -dsimp -implicitDefEqProofs [withO_of hw, hk2, hpos, hc0, hz0, e33, eB, eS, eW, wrap1, wrap2, hn']
        exact ⟨_, _, GC.refl _ _ _, RowQ.same h hp hr⟩
    have eS := kw_false (w := w0) (l := [115, 116, 97, 107, 101, 115]) hS
    by_cases hW : w0 = kwW
    · have eW := kw_true (w := w0) (l := [119, 101, 97, 118, 101]) hW
      have hr := rowF_w (s := (st, ls, b)) (ws := ws) hW
      by_cases hn : ws.length + 1 = 3
      · rw [if_pos hn] at hr
        obtain ⟨x, y, rfl⟩ : ∃ x y, ws = [x, y] := len_two (by omega)
        have hx := hsz x (by simp)
        have hy := hsz y (by simp)
        simp only [List.map_cons, List.map_nil] at hw
        have hnum := specNum_c y hy m1
        have hr' : rowF (st, ls, b) [w0, x, y] = lyF (st, ls, b) x (numB y) := hr
        cases hN : numB y with
        | none =>
          rw [hN] at hnum hr'
          simp only [numV] at hnum
          refine ecalls_of_vc Tryz.func25 rfl Tryz.fol (by kernel_rfl) ?_
          simp only [Tryz.f25]
          simp -dsimp -implicitDefEqProofs [withO_of hw, hk2, hpos, hc0, hz0, e33, eB, eS, eW, wrap1, wrap2]
          refine callsTo Tryz.cal45 hc1 ?_
          simp -dsimp -implicitDefEqProofs [withO_of hw, hk2, hpos, hc0, hz0, e33, eB, eS, eW, wrap1, wrap2]
          refine callsTo Tryz.cal47 hnum ?_
          simp -dsimp -implicitDefEqProofs [withO_of hw, hk2, hpos, hc0, hz0, e33, eB, eS, eW, wrap1, wrap2]
          exact ⟨_, _, GC.refl _ _ _, RowQ.same h hp hr'⟩
        | some n =>
          rw [hN] at hnum hr'
          simp only [numV] at hnum
          obtain ⟨v2, m2, hc2, rfl, hr2, j2, hj2, hB2⟩ := l17Layer_c id j st (x, n) ls b m1 hB1 hx hnl
          simp only [vl] at hc2
          refine ecalls_of_vc Tryz.func25 rfl Tryz.fol (by kernel_rfl) ?_
          simp only [Tryz.f25]
          simp -dsimp -implicitDefEqProofs [withO_of hw, hk2, hpos, hc0, hz0, e33, eB, eS, eW, wrap1, wrap2]
          refine callsTo Tryz.cal45 hc1 ?_
          simp -dsimp -implicitDefEqProofs [withO_of hw, hk2, hpos, hc0, hz0, e33, eB, eS, eW, wrap1, wrap2]
          refine callsTo Tryz.cal47 hnum ?_
          simp -dsimp -implicitDefEqProofs [withO_of hw, hk2, hpos, hc0, hz0, e33, eB, eS, eW, wrap1, wrap2]
          refine callsTo Tryz.cal49 hc2 ?_
          simp -dsimp -implicitDefEqProofs [withO_of hw, hk2, hpos, hc0, hz0, e33, eB, eS, eW, wrap1, wrap2]
          exact ⟨_, _, GC.refl _ _ _, RowQ.turn hp hr' hr2 hj2 hB2⟩
      · rw [if_neg hn] at hr
        have hn' : ((ws.length : Int) + 1 != 3) = true := by simp; omega
        refine ecalls_of_vc Tryz.func25 rfl Tryz.fol (by kernel_rfl) ?_
        simp only [Tryz.f25]
        simp -dsimp -implicitDefEqProofs [withO_of hw, hk2, hpos, hc0, hz0, e33, eB, eS, eW, wrap1, wrap2, hn']
        refine callsTo Tryz.cal45 hc1 ?_
        simp -dsimp -implicitDefEqProofs [withO_of hw, hk2, hpos, hc0, hz0, e33, eB, eS, eW, wrap1, wrap2, hn']
        exact ⟨_, _, GC.refl _ _ _, RowQ.same h hp hr⟩
    have eW := kw_false (w := w0) (l := [119, 101, 97, 118, 101]) hW
    have hr := rowF_o (s := (st, ls, b)) (ws := ws) h33' hB hS hW
    refine ecalls_of_vc Tryz.func25 rfl Tryz.fol (by kernel_rfl) ?_
    simp only [Tryz.f25]
    simp -dsimp -implicitDefEqProofs [withO_of hw, hk2, hpos, hc0, hz0, e33, eB, eS, eW, wrap1, wrap2]
    refine callsTo Tryz.cal45 hc1 ?_
    simp -dsimp -implicitDefEqProofs [withO_of hw, hk2, hpos, hc0, hz0, e33, eB, eS, eW, wrap1, wrap2]
    exact ⟨_, _, GC.refl _ _ _, RowQ.same h hp hr⟩
end Go.Proofs.YtmbijgnmbapchaaGreatDoor
namespace Go.Proofs.YtmbijgnmbapchaaGreatDoor
open Go.Abs Go.RowKit Go.Law

/-- Reports in an object of their own. -/
def RpAt (m : Mem) (j : Nat) (rs : List I2) : Prop := ∃ kd, m[j]? = some ⟨(rs.map v2).flatten, 36, 2, kd⟩ ∧ 1 ≤ kd ∧ kd ≤ 2
/-- How things stand in the middle of reading. -/
structure Mid (m m' : Mem) (ci id ro jl rj : Nat) (xs : List ByteArray) (s : Bk) (rs : List I2) : Prop where
  pre : m <+: m'
  cell : m'[ci]? = some ⟨[.int .i64 0, .slice none 0 0, .string ⟨#[]⟩], 27, 3, 1⟩
  bk : BkAt m' id jl s.1 s.2.1 s.2.2
  rp : RpAt m' rj rs
  rows : ∃ kd, m'[ro]? = some ⟨xs.map Value.string, 9, 1, kd⟩ ∧ kd ≤ 2
  lo : m.length ≤ ci ∧ m.length ≤ id ∧ m.length ≤ jl ∧ m.length ≤ rj
  ne : ci ≠ id ∧ ci ≠ jl ∧ ci ≠ rj ∧ ro ≠ id ∧ ro ≠ jl ∧ ro ≠ rj ∧ ro ≠ ci ∧ rj ≠ id ∧ rj ≠ jl
theorem Mid.more {m m' m3 : Mem} {ci id ro jl rj : Nat} {xs : List ByteArray} {s : Bk} {rs : List I2} (h : Mid m m' ci id ro jl rj xs s rs) (hp : m' <+: m3) : Mid m m3 ci id ro jl rj xs s rs := by
  obtain ⟨kd, r1, r2, r3⟩ := h.rp
  obtain ⟨kd8, q1, q2⟩ := h.rows
  exact ⟨h.pre.trans hp, prefix_get hp h.cell, h.bk.rest (RestS.of_pre (S := []) hp) (by simp) (by simp), ⟨kd, prefix_get hp r1, r2, r3⟩, ⟨kd8, prefix_get hp q1, q2⟩, h.lo, h.ne⟩
theorem Mid.turn {m m' m3 : Mem} {ci id ro jl j2 rj : Nat} {xs : List ByteArray} {s s' : Bk} {rs : List I2} (h : Mid m m' ci id ro jl rj xs s rs) (hr : RestS [id, jl] m' m3) (hj : j2 = jl ∨ m'.length ≤ j2) (hB : BkAt m3 id j2 s'.1 s'.2.1 s'.2.2) : Mid m m3 ci id ro j2 rj xs s' rs := by
  obtain ⟨kd, r1, r2, r3⟩ := h.rp
  obtain ⟨kd8, q1, q2⟩ := h.rows
  have l1 := lt_of_get h.cell
  have l2 := lt_of_get r1
  have l3 := lt_of_get q1
  have hlo := h.lo
  have hne := h.ne
  have hml := h.pre.length_le
  exact ⟨restPre hr h.pre (by omega) (by omega), hr.get _ _ (by simp; omega) h.cell, hB, ⟨kd, hr.get _ _ (by simp; omega) r1, r2, r3⟩, ⟨kd8, hr.get _ _ (by simp; omega) q1, q2⟩, by omega, by omega⟩
theorem Mid.grow {m m' m6 : Mem} {ci id ro jl rj id6 : Nat} {xs : List ByteArray} {s : Bk} {rs : List I2} {p : I2} {l : Mem} (h : Mid m m' ci id ro jl rj xs s rs) (gr : Abs.Grown (m' ++ l) rj ⟨(rs.map v2).flatten ++ v2 p, 36, 2, 2⟩ m6 id6) : Mid m m6 ci id ro jl id6 xs s (rs ++ [p]) := by
  obtain ⟨kd, r1, r2, r3⟩ := h.rp
  obtain ⟨kd8, q1, q2⟩ := h.rows
  have l1 := lt_of_get h.cell
  have l2 := lt_of_get r1
  have l3 := lt_of_get q1
  have l4 := h.bk.lt
  have hlo := h.lo
  have hne := h.ne
  have hml := h.pre.length_le
  have hat := gr.at_
  have hlen := gr.len
  simp at hat hlen
  have hr : RestS [rj] m' m6 := ⟨by omega, fun i o h1 h2 => gr.old i o (by simpa using h1) (get_old h2)⟩
  exact ⟨gr.pre _ (pre_app h.pre _) (by omega), hr.get _ _ (by simp; omega) h.cell, h.bk.rest hr (by simp; omega) (by simp; omega), ⟨2, by rw [gr.new]; simp, by decide, by decide⟩, ⟨kd8, hr.get _ _ (by simp; omega) q1, q2⟩, by omega, by omega⟩

/-- What is read: the basket, the reports, the code. -/
def readR (t : ByteArray) : Bk × List I2 × Int := if 3000 < t.size then ((0, [], B0), [], 2) else ((readB t).1, (readB t).2, 0)
def LyO (m : Mem) (lo : Nat) (A : Option Addr) (ls : List LyT) : Prop := (A = none ∧ ls = []) ∨ ∃ j kd, A = some ⟨j, 0, none⟩ ∧ lo ≤ j ∧ m[j]? = some ⟨(ls.map vl).flatten, 54, 2, kd⟩ ∧ 1 ≤ kd ∧ kd ≤ 2
def RpO (m : Mem) (lo : Nat) (R : Option Addr) (rs : List I2) : Prop := (R = none ∧ rs = []) ∨ ∃ j kd, R = some ⟨j, 0, none⟩ ∧ lo ≤ j ∧ m[j]? = some ⟨(rs.map v2).flatten, 36, 2, kd⟩ ∧ 1 ≤ kd ∧ kd ≤ 2
def ReadQ (r : Bk × List I2 × Int) (m : Mem) (v : Value) (m' : Mem) : Prop :=
  ∃ A R, v = .tuple #[.agg (bkC r.1.1 A r.1.2.1.length r.1.2.2).toArray, .slice R r.2.1.length r.2.1.length, .int .i64 r.2.2] ∧ m <+: m' ∧ LyO m' m.length A r.1.2.1 ∧ RpO m' m.length R r.2.1 ∧ ∀ a a' : Addr, A = some a → R = some a' → a.block ≠ a'.block
theorem readBig {t : ByteArray} (h : 3000 < t.size) (m l : Mem) : ReadQ (readR t) m (.tuple #[.agg #[.int .i64 0, .slice none 0 0, .string ⟨#[]⟩], .slice none 0 0, .int .i64 2]) (m ++ l) := by
  unfold readR
  rw [if_pos h]
  exact ⟨none, none, rfl, ⟨l, rfl⟩, .inl ⟨rfl, rfl⟩, .inl ⟨rfl, rfl⟩, fun a a' h => by cases h⟩
/-- The basket is copied into the answer's cell. -/
theorem Mid.done {m m' : Mem} {ci id ro jl rj : Nat} {xs : List ByteArray} {st : Int} {ls : List LyT} {b : ByteArray} {rs : List I2} (h : Mid m m' ci id ro jl rj xs (st, ls, b) rs) :
    ∃ A, m'[id]? = some ⟨[.int .i64 st, .slice A ls.length ls.length, .string b], 27, 3, 1⟩ ∧ ∀ mF, mF = m'.set ci ⟨[.int .i64 st, .slice A ls.length ls.length, .string b], 27, 3, 1⟩ →
      mF[ci]? = some ⟨[.int .i64 st, .slice A ls.length ls.length, .string b], 27, 3, 1⟩ ∧
      ReadQ ((st, ls, b), rs, 0) m (.tuple #[.agg #[.int .i64 st, .slice A ls.length ls.length, .string b], .slice (some ⟨rj, 0, none⟩) rs.length rs.length, .int .i64 0]) mF := by
  obtain ⟨kd, r1, r2, r3⟩ := h.rp
  obtain ⟨A, h1, h2⟩ := h.bk
  have hlo := h.lo
  have hne := h.ne
  refine ⟨A, h1, fun mF hF => ?_⟩
  subst hF
  refine ⟨get_set h.cell _, A, some ⟨rj, 0, none⟩, rfl, pre_set h.pre (by omega) _, ?_, .inr ⟨rj, kd, rfl, by omega, by rw [List.getElem?_set_ne (by omega)]; exact r1, r2, r3⟩, fun a a' ha ha' => ?_⟩
  · rcases h2 with ⟨g1, g2, _⟩ | ⟨g1, g2, kd2, g3, g4, g5⟩
    · exact .inl ⟨g1, g2⟩
    · exact .inr ⟨jl, kd2, g1, by omega, by rw [List.getElem?_set_ne (by omega)]; exact g3, g4, g5⟩
  · rcases h2 with ⟨g1, g2, _⟩ | ⟨g1, g2, kd2, g3, g4, g5⟩
    · rw [g1] at ha; cases ha
    · rw [g1] at ha
      injection ha with ha; injection ha' with ha'
      rw [← ha, ← ha']; show jl ≠ rj; omega
theorem rows_le {t : ByteArray} (ht : t.size ≤ 1048576) : (piecesB 10 t).length ≤ 1048577 ∧ ∀ x ∈ piecesB 10 t, x.size ≤ 1048576 := by
  constructor
  · have := Go.Lib.countB_le ⟨#[10]⟩ (by decide) t.size t (Nat.le_refl _)
    rw [pieces_len]; omega
  · intro x hx
    unfold piecesB at hx
    obtain ⟨l, hl, rfl⟩ := List.mem_map.1 hx
    have := pieces_le 10 t.data.toList l hl
    rw [bytes_size] at this
    show l.toArray.size ≤ _
    simp; omega
theorem run_next {xs : List ByteArray} {k : Nat} (h : k < xs.length) {s : Bk} {rs : List I2} (hS : runTo xs k = (s, rs)) : runTo xs (k + 1) = ((rowF s (wordsOf (piecesB 32 xs[k]))).2, addR rs k (rowF s (wordsOf (piecesB 32 xs[k]))).1) := by
  simp only [runTo, hS, getB h]
theorem madeR : madeCells #[.int .i64 0, .int .i64 0] 2 = #[.int .i64 0, .int .i64 0] := by
  have := made_rows #[.int .i64 0, .int .i64 0] 1 (by simp)
  exact Array.toList_inj.1 (by simpa using this)
theorem addR_no {rs : List I2} {k : Nat} {kd : Int} (h : ¬ (kd ≠ 0 ∧ rs.length < 20)) : addR rs k kd = rs := if_neg h
theorem addR_yes {rs : List I2} {k : Nat} {kd : Int} (h : kd ≠ 0 ∧ rs.length < 20) : addR rs k kd = rs ++ [((k : Int) + 1, kd)] := if_pos h

set_option maxRecDepth 20000 in
theorem specRead_c (t : ByteArray) (ht : t.size ≤ 1048576) (m : Mem) : ∃ v m', ACalls Tryz.prog 7 [.string t] m v m' ∧ ReadQ (readR t) m v m' := by
  by_cases hbig : 3000 < t.size
  · have hb : (3000 : Int) < t.size := by omega
    refine ecalls_of_vc Tryz.func7 rfl Tryz.fol (by kernel_rfl) ?_
    simp only [Tryz.f7]
    simp -dsimp -implicitDefEqProofs [hb]
    exact ⟨_, _, GC.refl _ _ _, readBig hbig _ _⟩
  have hb : ¬ (3000 : Int) < t.size := by omega
  obtain ⟨m0, hm0⟩ : ∃ m0 : Mem, m0 = m ++ [⟨[.int .i64 0, .slice none 0 0, .string ⟨#[]⟩], 27, 3, 1⟩, ⟨[], 54, 2, 1⟩, ⟨[.int .i64 0, .slice (some ⟨m.length + 1, 0, none⟩) 0 0, .string ⟨#[]⟩], 27, 3, 1⟩, ⟨[], 36, 2, 1⟩] := ⟨_, rfl⟩
  have hm0' := hm0.symm
  have hp0 : m <+: m0 := by rw [hm0]; exact ⟨_, rfl⟩
  have t0 : m0[m.length]? = some ⟨[.int .i64 0, .slice none 0 0, .string ⟨#[]⟩], 27, 3, 1⟩ := by rw [hm0]; simp
  have t1 : m0[m.length + 1]? = some ⟨[], 54, 2, 1⟩ := by rw [hm0]; simp
  have t2 : m0[m.length + 2]? = some ⟨[.int .i64 0, .slice (some ⟨m.length + 1, 0, none⟩) 0 0, .string ⟨#[]⟩], 27, 3, 1⟩ := by rw [hm0]; simp
  have t3 : m0[m.length + 3]? = some ⟨[], 36, 2, 1⟩ := by rw [hm0]; simp
  have hl0 : m0.length = m.length + 4 := by rw [hm0]; simp
  obtain ⟨v1, m1, hc1, ro, rfl, hp1, hro, kd8, o8, hk81, hk82⟩ := specSplit_c t 10 ht m0
  obtain ⟨hxl, hxs⟩ := rows_le ht
  obtain ⟨xs, hX⟩ : ∃ xs, xs = piecesB 10 t := ⟨_, rfl⟩
  have hread : readR t = ((runTo xs xs.length).1, (runTo xs xs.length).2, 0) := by unfold readR readB; rw [if_neg hbig, hX]
  rw [hread]
  rw [← hX] at hc1 o8 hxl hxs
  have hM0 : Mid m m1 m.length (m.length + 2) ro (m.length + 1) (m.length + 3) xs (0, [], B0) [] :=
    ⟨hp0.trans hp1, prefix_get hp1 t0, ⟨_, prefix_get hp1 t2, .inr ⟨rfl, by omega, 1, prefix_get hp1 t1, by decide, by decide⟩⟩, ⟨1, prefix_get hp1 t3, by decide, by decide⟩, ⟨kd8, o8, hk82⟩, by omega, by omega⟩
  refine ecalls_of_vc Tryz.func7 rfl Tryz.fol (by kernel_rfl) ?_
  simp only [Tryz.f7]
  simp -dsimp -implicitDefEqProofs [hb, hm0']
  refine callsTo Tryz.cal24 hc1 ?_
  simp -dsimp -implicitDefEqProofs [hb, hm0']
  refine loopN xs.length (fun k σ m' => ∃ jl rj, Mid m m' m.length (m.length + 2) ro jl rj xs (runTo xs k).1 (runTo xs k).2 ∧ σ 2 = some (.pointer (some ⟨m.length, 0, none⟩)) ∧ σ 5 = some (.pointer (some ⟨m.length + 2, 0, none⟩)) ∧
      σ 6 = some (.slice (some ⟨rj, 0, none⟩) (runTo xs k).2.length (runTo xs k).2.length) ∧ σ 7 = some (.slice (some ⟨ro, 0, none⟩) xs.length xs.length) ∧ σ 8 = some (.int .i64 k)) ⟨m.length + 1, m.length + 3, hM0, by simp, by simp, by simp [runTo], by simp, by simp⟩ ?_
  rintro k σ m' hk ⟨jl, rj, hM, s2, s5, s6, s7, s8⟩
  obtain ⟨⟨⟨st, ls, b⟩, rs⟩, hS⟩ : ∃ S, S = runTo xs k := ⟨_, rfl⟩
  have hS' := hS.symm
  have hok := run_ok xs k
  have hrl := run_reports xs k
  rw [hS'] at hM s6 hok hrl
  simp only at hM s6 hok hrl
  obtain ⟨kd, o8', hk8⟩ := hM.rows
  by_cases hlt : k < xs.length
  · have hnx := run_next hlt hS'
    have hgk : (xs.map Value.string)[k]? = some (.string xs[k]) := by rw [List.getElem?_map, List.getElem?_eq_getElem hlt]; rfl
    have hw : IntKind.i64.wrap ((k : Int) + 1) = k + 1 := wrapI (by omega) (by omega)
    obtain ⟨v2, m2, hc2, rfl, hr2, j2, hj2, hB2⟩ := row_c (m.length + 2) jl st ls b xs[k] m' hM.bk hok (hxs _ (List.getElem_mem hlt))
    obtain ⟨q, hq⟩ : ∃ q, q = rowF (st, ls, b) (wordsOf (piecesB 32 xs[k])) := ⟨_, rfl⟩
    rw [← hq] at hnx hc2 hB2
    have hM2 := hM.turn hr2 hj2 hB2
    by_cases hcond : q.1 ≠ 0 ∧ rs.length < 20
    · rw [addR_yes hcond] at hnx
      have e1 : (q.1 != 0) = true := by simpa using hcond.1
      have e2 : (rs.length : Int) < 20 := by omega
      obtain ⟨kdr, hor, hr11, hr12⟩ := hM2.rp
      simp -dsimp -implicitDefEqProofs [s2, s5, s6, s7, s8, hlt, withO_of o8', hk8, withC_of hgk, hw, e1, e2, madeR]
      refine callsTo Tryz.cal25 hc2 ?_
      simp -dsimp -implicitDefEqProofs [s2, s5, s6, s7, s8, hlt, withO_of o8', hk8, withC_of hgk, hw, e1, e2, madeR]
      refine appTo_grow (n := rs.length) (c := 1) (e := 36) (sz := 2) (by_ := 16) (z := .agg #[.int .i64 0, .int .i64 0]) (by kernel_rfl) (by kernel_rfl) ⟨by decide, rfl⟩ (get_old hor) ⟨hr11, hr12⟩ ⟨rfl, rfl⟩ (by simp [flatten_length (sz := 2) (rows := rs.map v2) (by intro r hr; obtain ⟨x, _, rfl⟩ := List.mem_map.1 hr; rfl)]) (by omega) (Src.obj (o := ⟨[.int .i64 ((k : Int) + 1), .int .i64 q.1], 36, 2, 1⟩) (by simp) (by simp) rfl rfl) ?_
      intro m6 id6 gr
      simp -dsimp -implicitDefEqProofs [s2, s5, s6, s7, s8, hlt, withO_of o8', hk8, withC_of hgk, hw, e1, e2, madeR]
      exact next_ hlt ⟨j2, id6, by rw [hnx]; exact hM2.grow gr, by simp [s2], by simp [s5], by rw [hnx]; simp, by simp [s7], by simp [hw]⟩
    · rw [addR_no hcond] at hnx
      by_cases hz : q.1 = 0
      · have e1 : (q.1 != 0) = false := by simpa using hz
        simp -dsimp -implicitDefEqProofs [s2, s5, s6, s7, s8, hlt, withO_of o8', hk8, withC_of hgk, hw, e1]
        refine callsTo Tryz.cal25 hc2 ?_
        simp -dsimp -implicitDefEqProofs [s2, s5, s6, s7, s8, hlt, withO_of o8', hk8, withC_of hgk, hw, e1]
        exact next_ hlt ⟨j2, rj, by rw [hnx]; exact hM2, by simp [s2], by simp [s5], by rw [hnx]; simp [s6], by simp [s7], by simp [hw]⟩
      · have e1 : (q.1 != 0) = true := by simpa using hz
        have e2 : ¬ (rs.length : Int) < 20 := by omega
        simp -dsimp -implicitDefEqProofs [s2, s5, s6, s7, s8, hlt, withO_of o8', hk8, withC_of hgk, hw, e1, e2]
        refine callsTo Tryz.cal25 hc2 ?_
        simp -dsimp -implicitDefEqProofs [s2, s5, s6, s7, s8, hlt, withO_of o8', hk8, withC_of hgk, hw, e1, e2]
        exact next_ hlt ⟨j2, rj, by rw [hnx]; exact hM2, by simp [s2], by simp [s5], by rw [hnx]; simp [s6], by simp [s7], by simp [hw]⟩
  · obtain rfl : k = xs.length := by omega
    obtain ⟨A, g1, g2⟩ := hM.done
    obtain ⟨mF, hF⟩ : ∃ mF, mF = m'.set m.length ⟨[.int .i64 st, .slice A ls.length ls.length, .string b], 27, 3, 1⟩ := ⟨_, rfl⟩
    obtain ⟨g3, g4⟩ := g2 mF hF
    have hcell := hM.cell
    rw [hS']
    simp -dsimp -implicitDefEqProofs [s2, s5, s6, s7, s8, withO_of g1, withO_of hcell, hF.symm, withO_of g3]
    exact ⟨_, _, GC.refl _ _ _, g4⟩
set_option maxRecDepth 20000 in
theorem implRead_c (t : ByteArray) (ht : t.size ≤ 1048576) (m : Mem) : ∃ v m', ACalls Tryz.prog 6 [.string t] m v m' ∧ ReadQ (readR t) m v m' := by
  by_cases hbig : 3000 < t.size
  · have hb : (3000 : Int) < t.size := by omega
    refine ecalls_of_vc Tryz.func6 rfl Tryz.fol (by kernel_rfl) ?_
    simp only [Tryz.f6]
    simp -dsimp -implicitDefEqProofs [hb]
    exact ⟨_, _, GC.refl _ _ _, readBig hbig _ _⟩
  have hb : ¬ (3000 : Int) < t.size := by omega
  obtain ⟨m0, hm0⟩ : ∃ m0 : Mem, m0 = m ++ [⟨[.int .i64 0, .slice none 0 0, .string ⟨#[]⟩], 27, 3, 1⟩, ⟨[], 36, 2, 1⟩, ⟨[.int .i64 0, .slice none 0 0, .string ⟨#[]⟩], 27, 3, 1⟩] := ⟨_, rfl⟩
  have hm0' := hm0.symm
  have hp0 : m <+: m0 := by rw [hm0]; exact ⟨_, rfl⟩
  have t0 : m0[m.length]? = some ⟨[.int .i64 0, .slice none 0 0, .string ⟨#[]⟩], 27, 3, 1⟩ := by rw [hm0]; simp
  have t1 : m0[m.length + 1]? = some ⟨[], 36, 2, 1⟩ := by rw [hm0]; simp
  have t2 : m0[m.length + 2]? = some ⟨[.int .i64 0, .slice none 0 0, .string ⟨#[]⟩], 27, 3, 1⟩ := by rw [hm0]; simp
  have hl0 : m0.length = m.length + 3 := by rw [hm0]; simp
  have hc1 := split_c t 10 ht m0
  obtain ⟨hxl, hxs⟩ := rows_le ht
  obtain ⟨xs, hX⟩ : ∃ xs, xs = piecesB 10 t := ⟨_, rfl⟩
  have hread : readR t = ((runTo xs xs.length).1, (runTo xs xs.length).2, 0) := by unfold readR readB; rw [if_neg hbig, hX]
  rw [hread]
  rw [← hX] at hc1 hxl hxs
  obtain ⟨ro, hro⟩ : ∃ ro, ro = m0.length := ⟨_, rfl⟩
  obtain ⟨m1, hm1⟩ : ∃ m1 : Mem, m1 = m0 ++ [⟨xs.map Value.string, 9, 1, 1⟩] := ⟨_, rfl⟩
  have hp1 : m0 <+: m1 := by rw [hm1]; exact ⟨_, rfl⟩
  have o8 : m1[ro]? = some ⟨xs.map Value.string, 9, 1, 1⟩ := by rw [hm1, hro]; simp
  rw [← hm1, ← hro] at hc1
  have hM0 : Mid m m1 m.length (m.length + 2) ro (m.length + 2) (m.length + 1) xs (0, [], B0) [] :=
    ⟨hp0.trans hp1, prefix_get hp1 t0, ⟨_, prefix_get hp1 t2, .inl ⟨rfl, rfl, rfl⟩⟩, ⟨1, prefix_get hp1 t1, by decide, by decide⟩, ⟨1, o8, by decide⟩, by omega, by omega⟩
  have hset := set_self t2
  refine ecalls_of_vc Tryz.func6 rfl Tryz.fol (by kernel_rfl) ?_
  simp only [Tryz.f6]
  simp -dsimp -implicitDefEqProofs [hb, hm0', withO_of t2, hset]
  refine callsTo Tryz.cal21 hc1 ?_
  simp -dsimp -implicitDefEqProofs [hb, hm0', withO_of t2, hset]
  refine loopN xs.length (fun k σ m' => ∃ jl rj, Mid m m' m.length (m.length + 2) ro jl rj xs (runTo xs k).1 (runTo xs k).2 ∧ σ 2 = some (.pointer (some ⟨m.length, 0, none⟩)) ∧ σ 5 = some (.pointer (some ⟨m.length + 2, 0, none⟩)) ∧
      σ 6 = some (.slice (some ⟨rj, 0, none⟩) (runTo xs k).2.length (runTo xs k).2.length) ∧ σ 18 = some (.slice (some ⟨ro, 0, none⟩) xs.length xs.length) ∧ σ 19 = some (.int .i64 xs.length) ∧ σ 20 = some (.int .i64 k)) ⟨m.length + 2, m.length + 1, hM0, by simp, by simp, by simp [runTo], by simp, by simp, by simp⟩ ?_
  rintro k σ m' hk ⟨jl, rj, hM, s2, s5, s6, s18, s19, s20⟩
  obtain ⟨⟨⟨st, ls, b⟩, rs⟩, hS⟩ : ∃ S, S = runTo xs k := ⟨_, rfl⟩
  have hS' := hS.symm
  have hok := run_ok xs k
  have hrl := run_reports xs k
  rw [hS'] at hM s6 hok hrl
  simp only at hM s6 hok hrl
  obtain ⟨kd, o8', hk8⟩ := hM.rows
  by_cases hlt : k < xs.length
  · have hnx := run_next hlt hS'
    have hgk : (xs.map Value.string)[k]? = some (.string xs[k]) := by rw [List.getElem?_map, List.getElem?_eq_getElem hlt]; rfl
    have hw : IntKind.i64.wrap ((k : Int) + 1) = k + 1 := wrapI (by omega) (by omega)
    have hxk := hxs _ (List.getElem_mem hlt)
    obtain ⟨v3, m3, hc3, jw, rfl, hp3, hjw, kdw, hww, hk1, hk2⟩ := implWords_c xs[k] hxk m'
    have hsm := words_small (s := xs[k])
    have hlen : (wordsOf (piecesB 32 xs[k])).length ≤ 1048577 := by
      have h1 : (wordsOf (piecesB 32 xs[k])).length ≤ (piecesB 32 xs[k]).length := List.length_filter_le _ _
      have h2 := Go.Lib.countB_le ⟨#[32]⟩ (by decide) xs[k].size xs[k] (Nat.le_refl _)
      rw [pieces_len] at h1
      omega
    have hM3 := hM.more hp3
    cases hws : wordsOf (piecesB 32 xs[k]) with
    | nil =>
      rw [hws] at hc3 hnx
      simp only [List.length_nil] at hc3
      rw [show rowF (st, ls, b) [] = (0, (st, ls, b)) from rfl, addR_no (by simp)] at hnx
      simp -dsimp -implicitDefEqProofs [s2, s5, s6, s18, s19, s20, hlt, withO_of o8', hk8, withC_of hgk, hw]
      refine callsTo Tryz.cal22 hc3 ?_
      simp -dsimp -implicitDefEqProofs [s2, s5, s6, s18, s19, s20, hlt, withO_of o8', hk8, withC_of hgk, hw]
      exact next_ hlt ⟨jl, rj, by rw [hnx]; exact hM3, by simp [s2], by simp [s5], by rw [hnx]; simp [s6], by simp [s18], by simp [s19], by simp [hw]⟩
    | cons w0 ws =>
      rw [hws] at hc3 hww hsm hlen hnx
      simp only [List.length_cons, List.map_cons] at hc3 hww hlen
      have hw0 := hsm w0 (by simp)
      have hpos : 0 < w0.size := by omega
      have hsz : ∀ w ∈ ws, w.size ≤ maxLen := fun w hw => by
        have := (hsm w (by simp [hw])).1
        have e : maxLen = 9223372036854775807 := rfl
        omega
      have hz0 : ((ws.length : Int) + 1 == 0) = false := beq_eq_false_iff_ne.2 (by omega)
      obtain ⟨c0, hc0⟩ : ∃ c, w0.data[0]'hpos = c := ⟨_, rfl⟩
      have hhd : w0.data.toList.head? = some c0 := by
        rw [← hc0, List.head?_eq_getElem?, List.getElem?_eq_getElem (by rw [bytes_size]; exact hpos)]; simp
      by_cases h33 : c0 = 33
      · have e33 : ((c0.toNat : Int) == 33) = true := by rw [h33]; rfl
        rw [rowF_33 (by rw [hhd, h33]), addR_no (by simp)] at hnx
        simp -dsimp -implicitDefEqProofs [s2, s5, s6, s18, s19, s20, hlt, withO_of o8', hk8, withC_of hgk, hw, withO_of hww, hk2, hpos, hc0, hz0, e33]
        refine callsTo Tryz.cal22 hc3 ?_
        simp -dsimp -implicitDefEqProofs [s2, s5, s6, s18, s19, s20, hlt, withO_of o8', hk8, withC_of hgk, hw, withO_of hww, hk2, hpos, hc0, hz0, e33]
        exact next_ hlt ⟨jl, rj, by rw [hnx]; exact hM3, by simp [s2], by simp [s5], by rw [hnx]; simp [s6], by simp [s18], by simp [s19], by simp [hw]⟩
      have e33 : ((c0.toNat : Int) == 33) = false := by
        refine beq_eq_false_iff_ne.2 fun x => h33 (UInt8.toNat_inj.1 (by simpa using (by omega : c0.toNat = 33)))
      have h33' : ¬ w0.data.toList.head? = some 33 := by rw [hhd]; simpa using h33
      obtain ⟨v2, m2, hc2, rfl, hr2, j2, hj2, hB2⟩ := addRow_c (m.length + 2) jl jw kdw st ls b w0 ws m3 hM3.bk hok hww hk2 h33' hsz (by omega)
      obtain ⟨q, hq⟩ : ∃ q, q = rowF (st, ls, b) (w0 :: ws) := ⟨_, rfl⟩
      rw [← hq] at hnx hc2 hB2
      have hM2 := hM3.turn hr2 hj2 hB2
      by_cases hcond : q.1 ≠ 0 ∧ rs.length < 20
      · rw [addR_yes hcond] at hnx
        have e1 : (q.1 != 0) = true := by simpa using hcond.1
        have e2 : (rs.length : Int) < 20 := by omega
        obtain ⟨kdr, hor, hr11, hr12⟩ := hM2.rp
        simp -dsimp -implicitDefEqProofs [s2, s5, s6, s18, s19, s20, hlt, withO_of o8', hk8, withC_of hgk, hw, withO_of hww, hk2, hpos, hc0, hz0, e33, e1, e2, madeR]
        refine callsTo Tryz.cal22 hc3 ?_
        simp -dsimp -implicitDefEqProofs [s2, s5, s6, s18, s19, s20, hlt, withO_of o8', hk8, withC_of hgk, hw, withO_of hww, hk2, hpos, hc0, hz0, e33, e1, e2, madeR]
        refine callsTo Tryz.cal23 hc2 ?_
        simp -dsimp -implicitDefEqProofs [s2, s5, s6, s18, s19, s20, hlt, withO_of o8', hk8, withC_of hgk, hw, withO_of hww, hk2, hpos, hc0, hz0, e33, e1, e2, madeR]
        refine appTo_grow (n := rs.length) (c := 1) (e := 36) (sz := 2) (by_ := 16) (z := .agg #[.int .i64 0, .int .i64 0]) (by kernel_rfl) (by kernel_rfl) ⟨by decide, rfl⟩ (get_old hor) ⟨hr11, hr12⟩ ⟨rfl, rfl⟩ (by simp [flatten_length (sz := 2) (rows := rs.map v2) (by intro r hr; obtain ⟨x, _, rfl⟩ := List.mem_map.1 hr; rfl)]) (by omega) (Src.obj (o := ⟨[.int .i64 ((k : Int) + 1), .int .i64 q.1], 36, 2, 1⟩) (by simp) (by simp) rfl rfl) ?_
        intro m6 id6 gr
        simp -dsimp -implicitDefEqProofs [s2, s5, s6, s18, s19, s20, hlt, withO_of o8', hk8, withC_of hgk, hw, withO_of hww, hk2, hpos, hc0, hz0, e33, e1, e2, madeR]
        exact next_ hlt ⟨j2, id6, by rw [hnx]; exact hM2.grow gr, by simp [s2], by simp [s5], by rw [hnx]; simp, by simp [s18], by simp [s19], by simp [hw]⟩
      · rw [addR_no hcond] at hnx
        by_cases hz : q.1 = 0
        · have e1 : (q.1 != 0) = false := by simpa using hz
          simp -dsimp -implicitDefEqProofs [s2, s5, s6, s18, s19, s20, hlt, withO_of o8', hk8, withC_of hgk, hw, withO_of hww, hk2, hpos, hc0, hz0, e33, e1]
          refine callsTo Tryz.cal22 hc3 ?_
          simp -dsimp -implicitDefEqProofs [s2, s5, s6, s18, s19, s20, hlt, withO_of o8', hk8, withC_of hgk, hw, withO_of hww, hk2, hpos, hc0, hz0, e33, e1]
          refine callsTo Tryz.cal23 hc2 ?_
          simp -dsimp -implicitDefEqProofs [s2, s5, s6, s18, s19, s20, hlt, withO_of o8', hk8, withC_of hgk, hw, withO_of hww, hk2, hpos, hc0, hz0, e33, e1]
          exact next_ hlt ⟨j2, rj, by rw [hnx]; exact hM2, by simp [s2], by simp [s5], by rw [hnx]; simp [s6], by simp [s18], by simp [s19], by simp [hw]⟩
        · have e1 : (q.1 != 0) = true := by simpa using hz
          have e2 : ¬ (rs.length : Int) < 20 := by omega
          simp -dsimp -implicitDefEqProofs [s2, s5, s6, s18, s19, s20, hlt, withO_of o8', hk8, withC_of hgk, hw, withO_of hww, hk2, hpos, hc0, hz0, e33, e1, e2]
          refine callsTo Tryz.cal22 hc3 ?_
          simp -dsimp -implicitDefEqProofs [s2, s5, s6, s18, s19, s20, hlt, withO_of o8', hk8, withC_of hgk, hw, withO_of hww, hk2, hpos, hc0, hz0, e33, e1, e2]
          refine callsTo Tryz.cal23 hc2 ?_
          simp -dsimp -implicitDefEqProofs [s2, s5, s6, s18, s19, s20, hlt, withO_of o8', hk8, withC_of hgk, hw, withO_of hww, hk2, hpos, hc0, hz0, e33, e1, e2]
          exact next_ hlt ⟨j2, rj, by rw [hnx]; exact hM2, by simp [s2], by simp [s5], by rw [hnx]; simp [s6], by simp [s18], by simp [s19], by simp [hw]⟩
  · obtain rfl : k = xs.length := by omega
    obtain ⟨A, g1, g2⟩ := hM.done
    obtain ⟨mF, hF⟩ : ∃ mF, mF = m'.set m.length ⟨[.int .i64 st, .slice A ls.length ls.length, .string b], 27, 3, 1⟩ := ⟨_, rfl⟩
    obtain ⟨g3, g4⟩ := g2 mF hF
    have hcell := hM.cell
    rw [hS']
    simp -dsimp -implicitDefEqProofs [s2, s5, s6, s18, s19, s20, withO_of g1, withO_of hcell, hF.symm, withO_of g3]
    exact ⟨_, _, GC.refl _ _ _, g4⟩
end Go.Proofs.YtmbijgnmbapchaaGreatDoor
