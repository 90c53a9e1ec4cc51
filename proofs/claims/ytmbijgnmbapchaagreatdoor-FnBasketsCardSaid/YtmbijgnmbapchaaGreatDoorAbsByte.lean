/-
  Abs, part 21: slices of bytes as arguments; a source that is read on. Conditions: none; generic in the program.
-/
import Derived.Test.YtmbijgnmbapchaaGreatDoorAbsApp
set_option linter.unusedSimpArgs false
set_option linter.unusedVariables false
set_option linter.unusedSectionVars false
namespace Go.Abs
open Go.RowKit

def vB (x : Int) : List Value := [.int .u8 x]
def RdB (m : Mem) (a : Option Addr) (xs : List Int) : Prop := RdG vB 1 m a xs ∧ ∀ x ∈ xs, 0 ≤ x ∧ x ≤ 255
theorem CV.slB {f : Nat} {m : Mem} {v : Value} (h : CV f m (.sl [.int .u8]) v) : ∃ a, ∃ xs : List Int, v = .slice a xs.length xs.length ∧ xs.length ≤ maxLen ∧ RdB m a xs := by
  cases f with
  | zero => exact h.elim
  | succ f =>
    obtain ⟨a, n, rows, rfl, hn, hr, hc⟩ := h
    obtain ⟨xs, rfl, hq⟩ := rows_map (g := vB) (q := fun x => 0 ≤ x ∧ x ≤ 255) (rows := rows) fun r hr' => by
      have hl := hr.2.1 r hr'
      match r, hl, hr' with
      | [x], _, hr' =>
        have hx := hc _ hr' 0 _ _ rfl rfl
        cases f with
        | zero => exact hx.elim
        | succ f =>
          obtain ⟨n, rfl, h1, h2⟩ := hx
          rw [show IntKind.u8.min = 0 by simp [IntKind.min, IntKind.signed]] at h1
          rw [show IntKind.u8.max = 255 by simp [IntKind.max, IntKind.signed, IntKind.bits]] at h2
          exact ⟨n, rfl, h1, h2⟩
    have : xs.length = n := by simpa using hr.1
    subst this
    exact ⟨a, xs, rfl, hn, hr, hq⟩
theorem RdB.at_ {m : Mem} {a : Option Addr} {xs : List Int} (h : RdB m a xs) {i : Nat} (hi : i < xs.length) :
    ∃ id off o, a = some ⟨id, off, none⟩ ∧ m[id]? = some o ∧ o.kind ≤ 2 ∧ o.sz = 1 ∧ o.cells[off + i]? = some (.int .u8 xs[i]) ∧ 0 ≤ xs[i] ∧ xs[i] ≤ 255 := by
  obtain ⟨id, off, o, h1, h2, h3, h4, h5, h6, h7⟩ := RdG.at_ h.1 hi
  have hb := h.2 _ (List.getElem_mem hi)
  refine ⟨id, off, o, h1, h2, h3, h4, ?_, hb⟩
  have := h7 0 _ rfl
  simpa using this

theorem RdB.blk {m : Mem} {a : Option Addr} {xs : List Int} (h : RdB m a xs) : 0 < xs.length → ∀ x, a = some x → x.block < m.length := fun hl x hx => by
  obtain ⟨id, off, o, h1, h2, _⟩ := h.at_ hl
  rw [h1] at hx
  injection hx with hx
  subst hx
  exact lt_of_get h2
/-- All stands but for one object. -/
structure But (is : Nat) (m m' : Mem) : Prop where
  len : m.length ≤ m'.length
  get : ∀ (i : Nat) o, i ≠ is → m[i]? = some o → m'[i]? = some o
theorem But.refl (is : Nat) (m : Mem) : But is m m := ⟨Nat.le_refl _, fun _ _ _ h => h⟩
theorem But.trans {is : Nat} {m m' m'' : Mem} (h : But is m m') (h' : But is m' m'') : But is m m'' := ⟨Nat.le_trans h.len h'.len, fun i o h1 h2 => h'.get i o h1 (h.get i o h1 h2)⟩
theorem But.app (is : Nat) (m l : Mem) : But is m (m ++ l) := ⟨by simp, fun i o _ h => get_old h⟩
theorem But.set {is : Nat} (m : Mem) (o : AObj) : But is m (m.set is o) := ⟨by simp, fun i o' h1 h => by rw [List.getElem?_set_ne (Ne.symm h1)]; exact h⟩
theorem pre_of_get {m m' : Mem} (h : ∀ (i : Nat) o, m[i]? = some o → m'[i]? = some o) : m <+: m' :=
  List.prefix_iff_getElem?.2 fun i hi => h i _ (List.getElem?_eq_getElem hi)
/-- What was there before the object is there still. -/
theorem But.pre {is : Nat} {m0 m m' : Mem} (h : But is m m') (hp : m0 <+: m) (hi : m0.length ≤ is) : m0 <+: m' :=
  pre_of_get fun i o ho => h.get i o (by have := lt_of_get ho; omega) (prefix_get hp ho)
theorem But.rd {is : Nat} {m m' : Mem} (h : But is m m') {a : Option Addr} {n sz : Nat} {rows : List (List Value)} (ha : 0 < n → ∀ x, a = some x → x.block ≠ is) (hr : Rd m a n sz rows) : Rd m' a n sz rows := by
  obtain ⟨h1, h2, h3⟩ := hr
  refine ⟨h1, h2, fun hn => ?_⟩
  obtain ⟨id, off, o, rfl, hm, g⟩ := h3 hn
  exact ⟨id, off, o, rfl, h.get id o (ha hn _ rfl) hm, g⟩
/-- A source of choices: what it reads from, how far it may have come. -/
structure SrcAt (ty : TypeId) (is : Nat) (a : Option Addr) (code : List Int) (k : Int) (m : Mem) : Prop where
  obj : ∃ at_ seed, m[is]? = some ⟨[.slice a code.length code.length, .int .i64 at_, .int .u64 seed], ty, 3, 1⟩ ∧ 0 ≤ at_ ∧ at_ ≤ k
  rd : RdB m a code
  len : code.length ≤ 1048576
  off : 0 < code.length → ∀ x, a = some x → x.block < is
theorem SrcAt.mono {ty : TypeId} {is : Nat} {a : Option Addr} {code : List Int} {k k' : Int} {m : Mem} (h : SrcAt ty is a code k m) (hk : k ≤ k') : SrcAt ty is a code k' m := by
  obtain ⟨⟨x, s, h1, h2, h3⟩, h4, h5, h6⟩ := h
  exact ⟨⟨x, s, h1, h2, by omega⟩, h4, h5, h6⟩
theorem SrcAt.keep {ty : TypeId} {is js : Nat} {a : Option Addr} {code : List Int} {k : Int} {m m' : Mem} (h : SrcAt ty is a code k m) (hb : But js m m') (hne : is ≠ js) (ha : 0 < code.length → ∀ x, a = some x → x.block ≠ js) : SrcAt ty is a code k m' := by
  obtain ⟨⟨x, s, h1, h2, h3⟩, h4, h5, h6⟩ := h
  exact ⟨⟨x, s, hb.get _ _ hne h1, h2, h3⟩, ⟨hb.rd ha h4.1, h4.2⟩, h5, h6⟩
theorem SrcAt.app {ty : TypeId} {is : Nat} {a : Option Addr} {code : List Int} {k : Int} {m : Mem} (h : SrcAt ty is a code k m) (l : Mem) : SrcAt ty is a code k (m ++ l) := by
  obtain ⟨⟨x, s, h1, h2, h3⟩, h4, h5, h6⟩ := h
  exact ⟨⟨x, s, get_old h1, h2, h3⟩, ⟨RdG.ext h4.1 l, h4.2⟩, h5, h6⟩
end Go.Abs
