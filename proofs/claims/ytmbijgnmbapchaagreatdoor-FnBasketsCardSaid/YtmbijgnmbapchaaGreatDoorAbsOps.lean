/-
  Abs, part 3: what an operation does to the abstract frame and memory ('vop'), and that the model does so ('vop_sound'). Conditions: none; generic in the program.
-/
import Derived.Test.YtmbijgnmbapchaaGreatDoorAbsMem
import Derived.WalkKit
import Derived.Laws.BytesArg
import Derived.Maps.AppendAt
set_option linter.unusedSimpArgs false
set_option linter.unusedVariables false
set_option linter.unusedSectionVars false
namespace Go.Abs
open Go.RowKit

abbrev Mem := List AObj

def litB : Value → Bool
  | .bool _ | .int _ _ | .string _ | .pointer none | .nilFunc => true
  | .slice none n c => n == 0 && c == 0
  | _ => false
theorem conc3_lit {v : Value} (h : litB v = true) (ρ : List (Option Row)) : conc3 ρ v v := by
  unfold litB at h
  split at h <;> simp_all [conc3, conc2, conc1, conc0]

def ev (σ : Fr) : Operand → Option Value
  | .tmp t => σ t
  | .const v => if litB v then some v else none
  | .func f => some (.func (.func f) #[] #[])
  | .global _ => none
def evs (σ : Fr) : List Operand → Option (List Value)
  | [] => some []
  | x :: xs => match ev σ x, evs σ xs with | some v, some vs => some (v :: vs) | _, _ => none

/-- The type that texts have here (by its number). -/
def cvStr (d : TypeId) : Bool := d == 9

def callable (P : Program) (f : FuncId) : Bool :=
  match P.funcs[f]? with
  | some fn => !(fn.name == "runtime.NumGoroutine") && fn.body.isSome
  | none => false

def slElem (P : Program) (t : TypeId) : Option TypeId := match P.underlying t with | some (.slice e) => some e | _ => none
def aggB (P : Program) (t : TypeId) : Option Bool := match P.underlying t with | some (.struct _) => some true | some (.array _ _) => some true | some _ => some false | none => none
def arrElem (P : Program) (t : TypeId) : Option (Nat × TypeId) := match P.underlying t with | some (.array n e) => some (n, e) | _ => none
def tinf (P : Program) (t : TypeId) : Option (Nat × Nat × Option Value) := (P.info? t).map fun i => (i.size, i.bytes, i.zero)
def fieldOff (P : Program) (t : TypeId) (i : Nat) : Option Nat :=
  match P.underlying t with
  | some (.struct fs) => match fs[i]? with
    | some f => if (P.info? f.type).any fun i => i.size != 0 then some f.offset else none
    | none => none
  | _ => none
def ukind (P : Program) (t : TypeId) : Option IntKind := match P.underlying t with | some (.int k) => some k | _ => none

/-- The relation of the operands. -/
def Ops (ρ : List (Option Row)) (a : Act) (σ : Fr) (xs : List Operand) : Prop := ∀ x ∈ xs, ∀ u, ev σ x = some u → conc3 ρ u (a.eval x)

theorem Ops.of_frel {ρ : List (Option Row)} {N : Nat} {a : Act} {σ : Fr} (h : FRel ρ N a σ) (xs : List Operand) : Ops ρ a σ xs := by
  intro x _ u hu
  cases x with
  | tmp t => exact h.2.2 t u hu
  | const v =>
    simp only [ev] at hu
    split at hu
    · injection hu with hu; subst hu; exact conc3_lit ‹_› ρ
    · cases hu
  | func f => simp only [ev] at hu; injection hu with hu; subst hu; simp [conc3, conc2, conc1, Act.eval, All2]
  | global g => simp [ev] at hu

theorem Ops.args {ρ : List (Option Row)} {a : Act} {σ : Fr} : ∀ {xs : List Operand} {vs : List Value}, Ops ρ a σ xs → evs σ xs = some vs → All2 (conc3 ρ) vs (xs.map a.eval)
  | [], vs, _, h => by simp [evs] at h; subst h; trivial
  | x :: xs, vs, ho, h => by
    simp only [evs] at h
    split at h
    · rename_i v vs' hv hvs
      injection h with h
      subst h
      exact ⟨ho x (by simp) v hv, Ops.args (fun y hy => ho y (by simp [hy])) hvs⟩
    · cases h

/-- The operation, in whatever world fits, yields v and leaves m'. -/
def OpOK (P : Program) (o : Oper) (σ : Fr) (m : Mem) (v : Value) (m' : Mem) : Prop :=
  ∀ (W0 : World) (ρ : List (Option Row)) (w : World) (a : Act), Rel W0 ρ m w → Ops ρ a σ o.op.operands.toList →
    ∀ (K : Act → World → Prop) (Q : Exit → Act → World → Prop), (∀ ρ' w' v', Ext ρ ρ' → Rel W0 ρ' m' w' → conc3 ρ' v v' → K (a.put o.dst v') w') → o.wp P a w K Q

theorem OpOK.step {P : Program} {o : Oper} {σ : Fr} {m : Mem} {v : Value} {m' : Mem}
    (h : ∀ (W0 : World) (ρ : List (Option Row)) (w : World) (a : Act), Rel W0 ρ m w → Ops ρ a σ o.op.operands.toList →
      ∃ ρ' w' v', Ext ρ ρ' ∧ Rel W0 ρ' m' w' ∧ conc3 ρ' v v' ∧ ((execOp a.eval o).run P w = .ok (.value v') w' ∨ ((execOp a.eval o).run P w = .ok .skip w' ∧ v' = undef))) : OpOK P o σ m v m' := by
  intro W0 ρ w a hr ho K Q hK
  obtain ⟨ρ', w', v', h1, h2, h3, h4⟩ := h W0 ρ w a hr ho
  have := hK ρ' w' v' h1 h2 h3
  unfold Oper.wp
  rcases h4 with h4 | ⟨h4, rfl⟩
  · rw [h4]; exact this
  · rw [h4]; exact this

theorem OpOK.same {P : Program} {o : Oper} {σ : Fr} {m : Mem} {v : Value}
    (h : ∀ (W0 : World) (ρ : List (Option Row)) (w : World) (a : Act), Rel W0 ρ m w → Ops ρ a σ o.op.operands.toList → ∃ v', conc3 ρ v v' ∧ (execOp a.eval o).run P w = .ok (.value v') w) : OpOK P o σ m v m :=
  OpOK.step fun W0 ρ w a hr ho => let ⟨v', h1, h2⟩ := h W0 ρ w a hr ho; ⟨ρ, w, v', Ext.refl _, hr, h1, .inl h2⟩

/-- Both ways of a test. -/
def split2 (b : Bool) (A B : Prop) : Prop := (b = true → A) ∧ (b = false → B)
theorem split2_true (A B : Prop) : split2 true A B = A := by simp [split2]
theorem split2_false (A B : Prop) : split2 false A B = B := by simp [split2]

/-! ### What is wanted of each kind of operation -/
section
variable (P : Program) (σ : Fr) (m : Mem) (k : Value → Mem → Prop)

def vmove (x : Operand) : Prop := match ev σ x with | some v => k v m | none => False

def vpick (c a b : Operand) : Prop :=
  match ev σ c with
  | some (.bool c) => split2 c (vmove σ m k a) (vmove σ m k b)
  | _ => False

def vint (op : BinOp) (ka : IntKind) (a : Int) (kb : IntKind) (b : Int) : Prop :=
  match op with
  | .add => ka = kb ∧ k (.int ka (ka.wrap (a + b))) m
  | .sub => ka = kb ∧ k (.int ka (ka.wrap (a - b))) m
  | .mul => ka = kb ∧ k (.int ka (ka.wrap (a * b))) m
  | .quo => ka = kb ∧ b ≠ 0 ∧ k (.int ka (ka.wrap (a.tdiv b))) m
  | .rem => ka = kb ∧ b ≠ 0 ∧ k (.int ka (a.tmod b)) m
  | .and => ka = kb ∧ k (.int ka (ka.wrap ((BitVec.ofInt ka.bits a &&& BitVec.ofInt ka.bits b).toNat))) m
  | .shr => 0 ≤ b ∧ k (.int ka (a.fdiv (2 ^ (min b.toNat ka.bits)))) m
  | .shl => 0 ≤ b ∧ k (.int ka (ka.wrap (a * 2 ^ (min b.toNat ka.bits)))) m
  | .eql => ka = kb ∧ k (.bool (a == b)) m
  | .neq => ka = kb ∧ k (.bool (a != b)) m
  | .lss => ka = kb ∧ k (.bool (decide (a < b))) m
  | .leq => ka = kb ∧ k (.bool (decide (a ≤ b))) m
  | .gtr => ka = kb ∧ k (.bool (decide (b < a))) m
  | .geq => ka = kb ∧ k (.bool (decide (b ≤ a))) m
  | _ => False

def vstr (op : BinOp) (a b : ByteArray) : Prop :=
  match op with
  | .add => a.size + b.size ≤ 9223372036854775807 ∧ k (.string (a ++ b)) m
  | .eql => k (.bool (a.toList == b.toList)) m
  | .neq => k (.bool (!(a.toList == b.toList))) m
  | .lss => k (.bool (Op.bytesLess a.toList b.toList)) m
  | _ => False

/-- A struct of plain one-cell fields, at its offsets: their kinds (0 an integer, 1 a bool, 2 a string). -/
def fieldKind (P : Program) (f : Field) (i : Nat) : Option Nat :=
  if f.name != "_" && f.offset == i then match P.underlying f.type with | some (.int _) => some 0 | some .bool => some 1 | some .string => some 2 | _ => none else none
def fieldKinds (P : Program) : List Field → Nat → Option (List Nat)
  | [], _ => some []
  | f :: fs, i => match fieldKind P f i, fieldKinds P fs (i + 1) with | some a, some l => some (a :: l) | _, _ => none
def flatKinds (P : Program) (t : TypeId) : Option (List Nat) :=
  if !P.stoodInHeld t && !P.eqGuardType P.depth t then match P.underlying t with | some (.struct fs) => fieldKinds P fs.toList 0 | _ => none else none
def litEq : Nat → Value → Value → Option Bool
  | 0, .int k a, .int k' b => if k = k' then some (a == b) else none
  | 1, .bool a, .bool b => some (a == b)
  | 2, .string a, .string b => some (a.toList == b.toList)
  | _, _, _ => none
def litsEq : List Nat → List Value → List Value → Option Bool
  | [], [], [] => some true
  | t :: ts, x :: xs, y :: ys => match litEq t x y, litsEq ts xs ys with | some a, some b => some (a && b) | _, _ => none
  | _, _, _ => none

def vbin (op : BinOp) (t : TypeId) (u v : Value) : Prop :=
  match u, v with
  | .int ka a, .int kb b => vint m k op ka a kb b
  | .string a, .string b => vstr m k op a b
  | .bool a, .bool b => P.underlying t = some .bool ∧ (match op with | .eql => k (.bool (a == b)) m | .neq => k (.bool (!(a == b))) m | _ => False)
  | .slice a _ _, .slice none _ _ => (slElem P t).isSome = true ∧ (match op with | .eql => k (.bool a.isNone) m | .neq => k (.bool (!a.isNone)) m | _ => False)
  | .agg xs, .agg ys => (match flatKinds P t with
    | some ts => (match litsEq ts xs.toList ys.toList, op with | some b, .eql => k (.bool b) m | some b, .neq => k (.bool (!b)) m | _, _ => False)
    | none => False)
  | _, _ => False

def vload (t : TypeId) (x : Operand) : Prop :=
  match ev σ x, aggB P t, tinf P t with
  | some (.pointer (some a)), some g, some (sz, _, _) => a.spot = none ∧ ∃ o, m[a.block]? = some o ∧ (o.kind = 0 ∨ o.live) ∧
      (if g then a.off + sz ≤ o.cells.length ∧ k (.agg ((o.cells.drop a.off).take sz).toArray) m else ∃ v, o.cells[a.off]? = some v ∧ k v m)
  | _, _, _ => False

/-- Cells overwritten from off on. -/
def splice (xs : List Value) (off : Nat) : List Value → List Value
  | [] => xs
  | v :: vs => splice (xs.set off v) (off + 1) vs

def vstore (t : TypeId) (x y : Operand) : Prop :=
  match ev σ x, ev σ y, tinf P t with
  | some (.pointer (some a)), some v, some (sz, _, _) => a.spot = none ∧ (∀ vs, v ≠ .tuple vs) ∧ v.cells.size = sz ∧ ∃ o, m[a.block]? = some o ∧ o.live ∧ a.off + sz ≤ o.cells.length ∧
      k undef (m.set a.block { o with cells := splice o.cells a.off v.cells.toList })
  | _, _, _ => False

def valloc (t : TypeId) : Prop :=
  match tinf P t with
  | some (sz, _, some z) => litCells z = true ∧ z.cells.size = sz ∧ k (.pointer (some ⟨m.length, 0, none⟩)) (m ++ [⟨z.cells.toList, t, sz, 1⟩])
  | _ => False
where litCells (z : Value) : Bool := z.cells.toList.all litB

def vbox (t : TypeId) (x : Operand) : Prop :=
  match ev σ x, tinf P t with
  | some v, some (sz, _, _) => (∀ vs, v ≠ .tuple vs) ∧ v.cells.size = sz ∧ k (.pointer (some ⟨m.length, 0, none⟩)) (m ++ [⟨v.cells.toList, t, sz, 1⟩])
  | _, _ => False

def vfieldAddr (t : TypeId) (x : Operand) (i : Nat) : Prop :=
  match ev σ x, fieldOff P t i with
  | some (.pointer (some a)), some off => a.spot = none ∧ k (.pointer (some ⟨a.block, a.off + off, none⟩)) m
  | _, _ => False

def vindexAddr (t : TypeId) (x y : Operand) : Prop :=
  match ev σ x, ev σ y, slElem P t with
  | some (.slice (some a) n _), some (.int _ i), some e =>
    match tinf P e with
    | some (sz, _, _) => a.spot = none ∧ (0 ≤ i ∧ i < n) ∧ ∃ o, m[a.block]? = some o ∧ (o.kind = 0 ∨ o.live) ∧ o.sz = sz ∧ k (.pointer (some ⟨a.block, (a.off + i.toNat) * sz, none⟩)) m
    | _ => False
  | some (.pointer (some a)), some (.int _ i), _ =>
    match arrElem P t with
    | some (n, e) => match tinf P e with
      | some (sz, _, _) => a.spot = none ∧ (0 ≤ i ∧ i < n) ∧ k (.pointer (some ⟨a.block, a.off + i.toNat * sz, none⟩)) m
      | _ => False
    | none => False
  | _, _, _ => False

def vlen (t : TypeId) (x : Operand) : Prop :=
  match ev σ x with
  | some (.slice _ n _) => (slElem P t).isSome = true ∧ k (.int .i64 n) m
  | some (.string s) => P.underlying t = some .string ∧ k (.int .i64 s.size) m
  | _ => False

def vextract (x : Operand) (i : Nat) : Prop :=
  match ev σ x with
  | some (.tuple vs) => match vs.toList[i]? with | some v => k v m | none => False
  | _ => False

def vun (op : UnOp) (x : Operand) : Prop :=
  match op, ev σ x with
  | .not, some (.bool b) => k (.bool (!b)) m
  | .neg, some (.int kk n) => k (.int kk (kk.wrap (0 - n))) m
  | _, _ => False

/-- The bytes that cells hold, as a text. -/
def StrOf (cs : List Value) (f : ByteArray → Prop) : Prop := ∃ xs : List Int, cs = xs.map (Value.int .u8) ∧ f (strOfNums xs)
/-- A conversion of a row of bytes to a text. -/
def bytesT (P : Program) (s d : TypeId) : Bool :=
  (match slElem P s with | some e => (match P.underlying e with | some (.int .u8) => true | _ => false) | none => false) && (match P.underlying d with | some .string => true | _ => false)
def vconvert (s d : TypeId) (x : Operand) : Prop :=
  match ev σ x with
  | some (.int _ n) => match ukind P d with | some kk => (P.underlying s).isSome = true ∧ k (.int kk (kk.wrap n)) m | none => False
  | some (.slice (some a) n _) => cvStr d = true ∧ bytesT P s d = true ∧ a.spot = none ∧ ∃ o, m[a.block]? = some o ∧ (o.kind = 0 ∨ o.live) ∧ o.sz = 1 ∧ a.off + n ≤ o.cells.length ∧ StrOf ((o.cells.drop a.off).take n) (fun t => k (.string t) m)
  | _ => False

def vnilCheck (x : Operand) : Prop :=
  match ev σ x with
  | some (.pointer (some a)) => k (.pointer (some a)) m
  | some (.func (.func f) fs cs) => k (.func (.func f) fs cs) m
  | _ => False

def vmake (t : TypeId) (x y : Operand) : Prop :=
  match ev σ x, ev σ y, slElem P t with
  | some (.int _ l), some (.int _ c), some e =>
    match tinf P e with
    | some (sz, by_, some z) => 0 < sz ∧ z.cells.size = sz ∧ valloc.litCells z = true ∧ 0 ≤ l ∧ l ≤ c ∧ (by_ : Int) * c ≤ 281474976710656 ∧ c ≤ 9223372036854775807 ∧
        k (.slice (some ⟨m.length, 0, none⟩) l.toNat l.toNat) (m ++ [⟨(madeCells z.cells (c.toNat * sz)).toList, e, sz, 1⟩])
    | _ => False
  | _, _, _ => False

def vbound (σ : Fr) (x : Option Operand) (d : Nat) (kk : Nat → Prop) : Prop :=
  match x with
  | none => kk d
  | some y => match ev σ y with
    | some (.int _ i) => 0 ≤ i ∧ kk i.toNat
    | _ => False

def vslice (t : TypeId) (x : Operand) (lo hi mx : Option Operand) : Prop :=
  mx.isNone = true ∧
  match ev σ x with
  | some (.slice (some a) n _) =>
    match slElem P t with
    | some e => match tinf P e with
      | some (sz, _, _) => a.spot = none ∧ ∃ o, m[a.block]? = some o ∧ (o.kind = 0 ∨ o.live) ∧ o.sz = sz ∧
          vbound σ hi n fun h => h ≤ n ∧ vbound σ lo 0 fun l => l ≤ h ∧ ((l = 0 ∨ l < h) → k (.slice (some ⟨a.block, a.off + l, none⟩) (h - l) (h - l)) m) ∧ (¬ (l = 0 ∨ l < h) → k (.slice (some ⟨0, 0, some 0⟩) 0 0) m)
      | _ => False
    | none => False
  | some (.slice none _ _) => (slElem P t).any (fun e => (tinf P e).isSome) = true ∧ vbound σ hi 0 fun h => h = 0 ∧ vbound σ lo 0 fun l => l = 0 ∧ k (.slice none 0 0) m
  | some (.string s) => P.underlying t = some .string ∧ vbound σ hi s.size fun h => h ≤ s.size ∧ vbound σ lo 0 fun l => l ≤ h ∧ k (.string (s.extract l h)) m
  | _ => False

def afill (place : Nat → Option (Nat × Nat)) (cells : List Value) : List (Nat × Value) → Option (List Value)
  | [] => some cells
  | (i, v) :: rest =>
    match place i with
    | none => none
    | some (off, size) => if v.cells.size = size ∧ off + v.cells.size ≤ cells.length then afill place (splice cells off v.cells.toList) rest else none
def noTup : Value → Bool
  | .tuple _ => false
  | _ => true
def evparts (σ : Fr) : List (Nat × Operand) → Option (List (Nat × Value))
  | [] => some []
  | (i, x) :: xs => match ev σ x, evparts σ xs with | some v, some vs => if noTup v then some ((i, v) :: vs) else none | _, _ => none
def placesOf (P : Program) (t : TypeId) : Option (List (Nat × Nat)) :=
  match P.underlying t with
  | some (.struct fs) => fs.toList.mapM fun f => (P.info? f.type).map fun i => (f.offset, i.size)
  | some (.array n e) => (P.info? e).map fun i => (List.range n).map fun j => (j * i.size, i.size)
  | _ => none

def vbuild (t : TypeId) (parts : List (Nat × Operand)) : Prop :=
  match placesOf P t, tinf P t, evparts σ parts with
  | some pl, some (_, _, some z), some ps => valloc.litCells z = true ∧ (∃ cs, afill (pl[·]?) z.cells.toList ps = some cs ∧ k (.agg cs.toArray) m)
  | _, _, _ => False

def vbuildSlice (t : TypeId) (n : Nat) (parts : List (Nat × Operand)) : Prop :=
  match slElem P t, evparts σ parts with
  | some e, some ps => match tinf P e with
    | some (sz, _, some z) => 0 < sz ∧ z.cells.size = sz ∧ valloc.litCells z = true ∧ n * sz ≤ 16777216 ∧
        ∃ cs, afill (fun i => some (i * sz, sz)) (madeCells z.cells (n * sz)).toList ps = some cs ∧ k (.slice (some ⟨m.length, 0, none⟩) n n) (m ++ [⟨cs, e, sz, 1⟩])
    | _ => False
  | _, _ => False

def capB : Value → Bool
  | .func _ fs cs => fs.isEmpty && cs.toList.all fun | .func .. | .agg _ | .tuple _ => false | _ => true
  | .agg _ | .tuple _ => false
  | _ => true
def vmakeFunc (fn : Fn) (first captured : List Operand) : Prop :=
  match fn, first, evs σ captured with
  | .func g, [], some cs => cs.all capB = true ∧ k (.func (.func g) #[] cs.toArray) m
  | _, _, _ => False

def vindex (t : TypeId) (x y : Operand) : Prop :=
  match ev σ x, ev σ y with
  | some (.string s), some (.int _ i) => P.underlying t = some .string ∧ 0 ≤ i ∧ ∃ b, s.data.toList[i.toNat]? = some b ∧ k (.int .u8 b.toNat) m
  | _, _ => False

def vmax (x y : Operand) : Prop :=
  match ev σ x, ev σ y with
  | some (.int ka a), some (.int kb b) => ka = kb ∧ k (.int ka (max a b)) m
  | _, _ => False
def vmin (x y : Operand) : Prop :=
  match ev σ x, ev σ y with
  | some (.int ka a), some (.int kb b) => ka = kb ∧ k (.int ka (min a b)) m
  | _, _ => False

/-- The cells that a slice's first n elements hold. -/
def Src (m : Mem) (B : Option Addr) (n sz : Nat) (news : List Value) : Prop :=
  (n = 0 ∧ news = []) ∨ ∃ b o, B = some b ∧ b.spot = none ∧ m[b.block]? = some o ∧ (o.kind = 0 ∨ o.live) ∧ o.sz = sz ∧ (b.off + n) * sz ≤ o.cells.length ∧ news = (o.cells.drop (b.off * sz)).take (n * sz)

def vappend (t t' : TypeId) (s x : Operand) : Prop :=
  match ev σ s, ev σ x, slElem P t with
  | some (.slice A n _), some (.slice B c _), some e =>
    match tinf P e with
    | some (sz, by_, some z) => t' = t ∧ 0 < sz ∧ z.cells.size = sz ∧ (n + c) * by_ ≤ 140737488355328 ∧ n + c ≤ 4611686018427387904 ∧ ∃ news, Src m B c sz news ∧
      (match A with
      | none => (c = 0 → k (.slice none 0 0) m) ∧ (0 < c → k (.slice (some ⟨m.length, 0, none⟩) c c) (m ++ [⟨news, e, sz, 2⟩]))
      | some a => a.spot = none ∧ a.off = 0 ∧ ∃ o, m[a.block]? = some o ∧ o.live ∧ o.sz = sz ∧ o.elem = e ∧
          ((n * sz = o.cells.length ∧ k (.slice (some ⟨m.length, 0, none⟩) (n + c) (n + c)) (m.set a.block { o with kind := 3 } ++ [⟨o.cells ++ news, e, sz, 2⟩])) ∨
           (o.kind = 1 ∧ (n + c) * sz ≤ o.cells.length ∧ k (.slice (some a) (n + c) (n + c)) (m.set a.block { o with cells := splice o.cells (n * sz) news }))))
    | _ => False
  | _, _, _ => False

def vcall (f : Operand) (args : List Operand) : Prop :=
  match ev σ f, evs σ args with
  | some (.func (.func g) _ caps), some vs => callable P g = true ∧ ∃ v m', ACalls P g (vs ++ caps.toList) m v m' ∧ k v m'
  | _, _ => False

def vop (o : Oper) : Prop :=
  match o.op with
  | .move x => vmove σ m k x
  | .assign x => vmove σ m k x
  | .pick c a b => vpick σ m k c a b
  | .binOp op t x y _ => match ev σ x, ev σ y with | some u, some v => vbin P m k op t u v | _, _ => False
  | .unOp op _ x => vun σ m k op x
  | .load t x => vload P σ m k t x
  | .store t x y => vstore P σ m k t x y
  | .alloc t => valloc P m k t
  | .box t x => vbox P σ m k t x
  | .fieldAddr t x i => vfieldAddr P σ m k t x i
  | .indexAddr t x i => vindexAddr P σ m k t x i
  | .extract x i => vextract σ m k x i
  | .convert s d x => vconvert P σ m k s d x
  | .nilCheck x => vnilCheck σ m k x
  | .makeSlice t x y => vmake P σ m k t x y
  | .slice t x lo hi mx => vslice P σ m k t x lo hi mx
  | .build t parts => vbuild P σ m k t parts.toList
  | .buildSlice t n parts => vbuildSlice P σ m k t n parts.toList
  | .makeFunc fn first caps => vmakeFunc σ m k fn first.toList caps.toList
  | .index t x y => vindex P σ m k t x y
  | .call c => match c.callee with
    | .value f => vcall P σ m k f c.args.toList
    | .builtin b => (match b, c.args.toList, c.argTypes.toList with
      | .len, [x], [t] => vlen P σ m k t x
      | .append, [x, y], [t, t'] => vappend P σ m k t t' x y
      | .max, [x, y], [_, _] => vmax σ m k x y
      | .min, [x, y], [_, _] => vmin σ m k x y
      | _, _, _ => False)
    | _ => False
  | _ => False
end
end Go.Abs
