/-
  Abs, part 21: strings. Conditions: none; generic in the program.
-/
import Derived.Test.YtmbijgnmbapchaaGreatDoorAbsApp
import Derived.Lib.Bytealg
import Derived.Lib.Strings
import Derived.WideShapes
import Derived.Lib.LaidTab
import Derived.Sort.Grow
import Derived.Deep.Draws
set_option linter.unusedSimpArgs false
set_option linter.unusedVariables false
set_option linter.unusedSectionVars false
namespace Go.Abs
open Go.RowKit

theorem bytes_beq (a b : ByteArray) : (a.toList == b.toList) = decide (a = b) := by
  rw [Lib.toList_data, Lib.toList_data]
  by_cases h : a = b
  · subst h; simp
  · have : ¬ a.data.toList = b.data.toList := fun e => h (WideShapes.bytes_inj e)
    rw [decide_eq_false h]; exact beq_eq_false_iff_ne.2 this
theorem bytes_size (s : ByteArray) : s.data.toList.length = s.size := (Lib.size_eq s).symm
theorem byte_at {s : ByteArray} {i : Nat} (h : i < s.size) : s.data.toList[i]? = some (s.data.toList[i]'(by rw [bytes_size]; exact h)) := List.getElem?_eq_getElem _
theorem byteE {s : ByteArray} {i : Nat} (h : i < s.size) : s.data[i]? = some (s.data.toList.getD i 0) := by
  have := byte_at h
  rw [Array.getElem?_toList] at this
  rw [this, List.getD_eq_getElem?_getD, byte_at h]; rfl
theorem byteC {s : ByteArray} {i : Nat} (h : i < s.size) : s.data.toList.getD i 0 = s.data[i]'h := by
  have := byteE h
  rw [Array.getElem?_eq_getElem h] at this
  injection this with this
  exact this.symm
theorem isEmptyE (s : ByteArray) : (s = ByteArray.empty) = (s.size = 0) := propext ⟨fun h => by rw [h]; rfl, fun h => by
  have h1 := bytes_size s
  rw [h] at h1
  exact WideShapes.bytes_inj (List.length_eq_zero_iff.1 h1)⟩
theorem emptyE (s : ByteArray) : s.toList.isEmpty = decide (s.size = 0) := by
  rw [Lib.toList_data, ← bytes_size]
  cases s.data.toList <;> simp
theorem all_lit {ρ : List (Option Row)} : ∀ (l l' : List Value), l.all litB = true → All2 (conc3 ρ) l l' → l' = l := by
  intro l
  induction l with
  | nil => intro l' _ h; cases l' with
    | nil => rfl
    | cons _ _ => exact h.elim
  | cons x l ih =>
    intro l' hl h
    cases l' with
    | nil => exact h.elim
    | cons y l' =>
      simp only [List.all_cons, Bool.and_eq_true] at hl
      have h1 : y = x := by
        have := h.1
        have hx := hl.1
        unfold litB at hx
        split at hx <;> simp_all [conc3, conc2, conc1, conc0]
      rw [h1, ih l' hl.2 h.2]
/-- A callee that is told of plain values, and leaves the world's old blocks as they are. -/
theorem acalls_grown {P : Program} {f : FuncId} {args : List Value} {m : Mem} {v : Value} (ha : args.all litB = true) (hv : litB v = true)
    (h : ∀ W0 w : World, Tabs W0 → Go.RowKit.Below W0.heap.size W0 w → Calls P f args.toArray w fun e w' => e = .returned v ∧ w.grownBy w' none) : ACalls P f args m v m := by
  refine ⟨fun W0 ρ w args' hr hc => ?_⟩
  have : args' = args.toArray := by
    have := all_lit _ _ ha hc
    exact Array.ext' (by simpa using this)
  rw [this]
  exact (h W0 w hr.tab hr.below).mono fun e w' ⟨h1, h2⟩ => ⟨ρ, v, Ext.refl _, hr.same h2, conc3_lit hv ρ, h1⟩
theorem grownBy_drewN (w : World) (n : Nat) : w.grownBy (w.drewN n) none := ⟨rfl, rfl, rfl, Nat.le_refl _, fun _ _ _ => rfl⟩
theorem grownBy_grow (w : World) (os : Array Obj) : w.grownBy (Sort.grow w os) none := ⟨rfl, rfl, rfl, by simp [Sort.grow], fun k hk _ => by simp [Sort.grow, Array.getElem?_append, hk]⟩
theorem grownBy_both (w : World) (n : Nat) (os : Array Obj) : w.grownBy (Sort.grow (w.drewN n) os) none := ⟨rfl, rfl, rfl, by simp [Sort.grow, World.drewN], fun k hk _ => by simp [Sort.grow, World.drewN, Array.getElem?_append, hk]⟩
theorem tabIs_of_at {P : Program} {n : String} {g : Nat} {k : IntKind} {zs : List Int} {W0 w : World} (hg : P.globalNamed n = some g) (h : TabAt W0 g k zs) (hb : Go.RowKit.Below W0.heap.size W0 w) : Lib.TabIs P w n k zs := by
  obtain ⟨e, f, h⟩ := h
  have hlt : g < W0.heap.size := (Array.getElem?_eq_some_iff.1 h).1
  unfold Lib.TabIs World.var?
  rw [hg]
  simp only [Option.bind_some]
  rw [hb.block g hlt, h]
theorem tabAt_of {P : Program} {n : String} {g : Nat} {k : IntKind} {zs : List Int} {W0 : World} (hg : P.globalNamed n = some g) (h : Lib.TabIs P W0 n k zs) : TabAt W0 g k zs := by
  unfold Lib.TabIs World.var? at h
  rw [hg] at h
  simp only [Option.bind_some] at h
  split at h
  · rename_i cs e f hh
    injection h with h
    subst h
    exact ⟨e, f, hh⟩
  · cases h
theorem numAt_below {g : Nat} {W0 w : World} (h : NumAt W0 g) (hb : Go.RowKit.Below W0.heap.size W0 w) : ∃ z, w.cell? ⟨g, 0, none⟩ = some (.int .i64 z) := by
  obtain ⟨z, h⟩ := h
  have hlt : g < W0.heap.size := by
    rcases Nat.lt_or_ge g W0.heap.size with h' | h'
    · exact h'
    · simp [World.cell?, Array.getElem?_eq_none h'] at h
  exact ⟨z, by rw [World.cell?_of_block (hb.block g hlt)]; exact h⟩
/-- A callee that is told of plain values, and leaves the world as it is. -/
theorem acalls_of_lit {P : Program} {f : FuncId} {args : List Value} {m : Mem} {v : Value} (ha : args.all litB = true) (hv : litB v = true) (h : ∀ w : World, Calls P f args.toArray w fun e w' => e = .returned v ∧ w' = w) : ACalls P f args m v m := by
  refine ⟨fun W0 ρ w args' hr hc => ?_⟩
  have : args' = args.toArray := by
    have := all_lit _ _ ha hc
    exact Array.ext' (by simpa using this)
  rw [this]
  exact (h w).mono fun e w' ⟨h1, h2⟩ => ⟨ρ, v, Ext.refl _, by rw [h2]; exact hr, conc3_lit hv ρ, h1⟩
theorem less_compare : ∀ (a b : List UInt8), Op.bytesLess a b = decide (Lib.compareBytes a b < 0)
  | [], [] => by simp [Op.bytesLess, Lib.compareBytes]
  | [], _ :: _ => by simp [Op.bytesLess, Lib.compareBytes]
  | _ :: _, [] => by simp [Op.bytesLess, Lib.compareBytes]
  | a :: x, b :: y => by
    have ih := less_compare x y
    simp only [Op.bytesLess, Lib.compareBytes]
    by_cases h1 : a < b
    · simp [h1]
    · by_cases h2 : b < a
      · have : ¬ a = b := by rintro rfl; exact h1 h2
        simp [h1, h2, this]
      · have : a = b := by
          have h3 := UInt8.not_lt.1 h1
          have h4 := UInt8.not_lt.1 h2
          exact UInt8.le_antisymm h4 h3
        subst this
        simp [h1, ih]
theorem compare_bound : ∀ (a b : List UInt8), -1 ≤ Lib.compareBytes a b ∧ Lib.compareBytes a b ≤ 1
  | [], [] => by simp [Lib.compareBytes]
  | [], _ :: _ => by simp [Lib.compareBytes]
  | _ :: _, [] => by simp [Lib.compareBytes]
  | a :: x, b :: y => by
    have := compare_bound x y
    simp only [Lib.compareBytes]
    split
    · omega
    · split <;> omega

/-- A string and two whole numbers. -/
abbrev H3 := ByteArray × Int × Int
def vh (p : H3) : List Value := [.string p.1, .int .i64 p.2.1, .int .i64 p.2.2]
theorem RH.at_ {m : Mem} {a : Option Addr} {xs : List H3} (h : RdG vh 3 m a xs) {i : Nat} (hi : i < xs.length) :
    ∃ id off o, a = some ⟨id, off, none⟩ ∧ m[id]? = some o ∧ o.kind ≤ 2 ∧ o.sz = 3 ∧ (off + i) * 3 + 3 ≤ o.cells.length ∧ (o.cells.drop ((off + i) * 3)).take 3 = vh xs[i] ∧
      o.cells[(off + i) * 3]? = some (.string xs[i].1) ∧ o.cells[(off + i) * 3 + 1]? = some (.int .i64 xs[i].2.1) ∧ o.cells[(off + i) * 3 + 2]? = some (.int .i64 xs[i].2.2) := by
  obtain ⟨id, off, o, ha, hm, hk, hsz, h2, h1, hc⟩ := RdG.at_ h hi
  exact ⟨id, off, o, ha, hm, hk, hsz, h2, h1, by have := hc 0 _ rfl; simpa using this, hc 1 _ rfl, hc 2 _ rfl⟩
theorem CV.strg {f : Nat} {m : Mem} {v : Value} (h : CV f m .str v) : ∃ s, v = .string s ∧ s.size ≤ maxLen := by
  cases f with
  | zero => exact h.elim
  | succ f => exact h
theorem CV.slH {f : Nat} {m : Mem} {v : Value} (h : CV f m (.sl [.str, I64, I64]) v) : ∃ a, ∃ xs : List H3, v = .slice a xs.length xs.length ∧ xs.length ≤ maxLen ∧ RdG vh 3 m a xs ∧ ∀ x ∈ xs, x.1.size ≤ maxLen := by
  cases f with
  | zero => exact h.elim
  | succ f =>
    obtain ⟨a, n, rows, rfl, hn, hr, hc⟩ := h
    obtain ⟨xs, rfl, hq⟩ := rows_map (g := vh) (q := fun x => x.1.size ≤ maxLen) (rows := rows) fun r hr' => by
      obtain ⟨x, y, z, rfl⟩ := list3 (hr.2.1 r hr')
      obtain ⟨x, rfl, hx⟩ := CV.strg (hc _ hr' 0 _ _ rfl rfl)
      obtain ⟨y, rfl, hy⟩ := CV.int (hc _ hr' 1 _ _ rfl rfl)
      obtain ⟨z, rfl, hz⟩ := CV.int (hc _ hr' 2 _ _ rfl rfl)
      exact ⟨(x, y, z), rfl, hx⟩
    have : xs.length = n := by simpa using hr.1
    subst this
    exact ⟨a, xs, rfl, hn, hr, hq⟩
/-- The bytes of the first names. -/
def sumStr (xs : List H3) : Nat := (xs.map fun x => x.1.size).sum
theorem sumStr_succ {xss : List H3} {k : Nat} (h : k < xss.length) : sumStr (xss.take (k + 1)) = sumStr (xss.take k) + xss[k].1.size := by
  unfold sumStr
  rw [List.take_add_one, List.getElem?_eq_getElem h, List.map_append, List.sum_append]; simp
theorem sumStr_take (xss : List H3) (k : Nat) : sumStr (xss.take k) ≤ sumStr xss := by
  have : sumStr xss = sumStr (xss.take k) + sumStr (xss.drop k) := by
    conv => lhs; rw [← List.take_append_drop k xss]
    unfold sumStr
    rw [List.map_append, List.sum_append]
  omega
end Go.Abs
