/-
  Abs, part 13: the same conditions in the form in which they are computed. Conditions: none; generic in the program.
-/
import Derived.Test.YtmbijgnmbapchaaGreatDoorAbsCode
set_option linter.unusedSimpArgs false
set_option linter.unusedVariables false
set_option linter.unusedSectionVars false
namespace Go.Abs
open Go.RowKit

variable {P : Program} {σ : Fr} {m : Mem} {k : Value → Mem → Prop}

/-- A mark beside what simp must not look into (an argument that another's type hangs on is left alone by 'simp -dsimp'). -/
structure Tok {α : Type} (x : α) : Type where
/-- The object of that number, with what is wanted of it. -/
def withO (m : Mem) (i : Nat) (f : AObj → Prop) (_ : Tok f) : Prop := match m[i]? with | some o => f o | none => False
def withC (cs : List Value) (i : Nat) (f : Value → Prop) (_ : Tok f) : Prop := match cs[i]? with | some v => f v | none => False
theorem withO_iff {m : Mem} {i : Nat} {f : AObj → Prop} {t : Tok f} : withO m i f t ↔ ∃ o, m[i]? = some o ∧ f o := by
  unfold withO
  cases m[i]? <;> simp
theorem withC_iff {cs : List Value} {i : Nat} {f : Value → Prop} {t : Tok f} : withC cs i f t ↔ ∃ o, cs[i]? = some o ∧ f o := by
  unfold withC
  cases cs[i]? <;> simp
theorem withO_of {m : Mem} {i : Nat} {o : AObj} (h : m[i]? = some o) (f : AObj → Prop) (t : Tok f) : withO m i f t = f o := by simp [withO, h]
theorem withC_of {m : List Value} {i : Nat} {o : Value} (h : m[i]? = some o) (f : Value → Prop) (t : Tok f) : withC m i f t = f o := by simp [withC, h]
/-- A side condition, and what comes behind it. -/
def need (p q : Prop) : Prop := p ∧ q
theorem need_true (q : Prop) : need True q = q := by simp [need]
theorem need_of {p : Prop} (h : p) (q : Prop) : need p q = q := by simp [need, h]
theorem need_intro {p q : Prop} (h : p) (h' : q) : need p q := ⟨h, h'⟩

theorem rd_iff (o : AObj) : (o.kind = 0 ∨ o.live) ↔ o.kind ≤ 2 := by unfold AObj.live; omega
theorem live_iff (o : AObj) : o.live ↔ 1 ≤ o.kind ∧ o.kind ≤ 2 := by unfold AObj.live; omega

theorem vload_eq {t : TypeId} {x : Operand} : vload P σ m k t x =
    (match ev σ x, aggB P t, tinf P t with
    | some (.pointer (some a)), some g, some (sz, _, _) => need (a.spot = none) (withO m a.block (fun o => need (o.kind ≤ 2)
        (match g with | true => need (a.off + sz ≤ o.cells.length) (k (.agg ((o.cells.drop a.off).take sz).toArray) m) | false => withC o.cells a.off (fun v => k v m) ⟨⟩)) ⟨⟩)
    | _, _, _ => False) := by
  unfold vload
  split
  · rename_i a g sz by_ z h1 h2 h3
    simp only [h1, h2, h3, need, withO_iff, rd_iff]
    cases g <;> simp [need, withC_iff]
  · rename_i h
    split
    · rename_i a g sz by_ z h1 h2 h3
      exact absurd h3 (fun h3 => h a g sz by_ z h1 h2 h3)
    · rfl

theorem vstore_eq {t : TypeId} {x y : Operand} : vstore P σ m k t x y =
    (match ev σ x, ev σ y, tinf P t with
    | some (.pointer (some a)), some v, some (sz, _, _) => need (a.spot = none) (need (noTup v = true) (need (v.cells.size = sz) (withO m a.block (fun o => need (1 ≤ o.kind ∧ o.kind ≤ 2) (need (a.off + sz ≤ o.cells.length)
        (k undef (m.set a.block ⟨splice o.cells a.off v.cells.toList, o.elem, o.sz, o.kind⟩)))) ⟨⟩)))
    | _, _, _ => False) := by
  unfold vstore
  split
  · rename_i a v sz by_ z h1 h2 h3
    have hn : (∀ vs, v ≠ .tuple vs) ↔ noTup v = true := by cases v <;> simp [noTup]
    simp only [h1, h2, h3, need, withO_iff, live_iff, hn]
  · rename_i h
    split
    · rename_i a v sz by_ z h1 h2 h3
      exact absurd h3 (fun h3 => h a v sz by_ z h1 h2 h3)
    · rfl

theorem vbox_eq {t : TypeId} {x : Operand} : vbox P σ m k t x =
    (match ev σ x, tinf P t with
    | some v, some (sz, _, _) => need (noTup v = true) (need (v.cells.size = sz) (k (.pointer (some ⟨m.length, 0, none⟩)) (m ++ [⟨v.cells.toList, t, sz, 1⟩])))
    | _, _ => False) := by
  unfold vbox
  split
  · rename_i v sz by_ z h1 h2
    have hn : (∀ vs, v ≠ .tuple vs) ↔ noTup v = true := by cases v <;> simp [noTup]
    simp only [h1, h2, need, hn]
  · rename_i h
    split
    · rename_i v sz by_ z h1 h2
      exact absurd h2 (fun h2 => h v sz by_ z h1 h2)
    · rfl

theorem vindexAddr_eq {t : TypeId} {x y : Operand} : vindexAddr P σ m k t x y =
    (match ev σ x, ev σ y, slElem P t with
    | some (.slice (some a) n _), some (.int _ i), some e =>
      (match tinf P e with
      | some (sz, _, _) => need (a.spot = none) (need (0 ≤ i ∧ i < n) (withO m a.block (fun o => need (o.kind ≤ 2) (need (o.sz = sz) (k (.pointer (some ⟨a.block, (a.off + i.toNat) * sz, none⟩)) m))) ⟨⟩))
      | _ => False)
    | some (.pointer (some a)), some (.int _ i), _ =>
      (match arrElem P t with
      | some (n, e) => (match tinf P e with
        | some (sz, _, _) => need (a.spot = none) (need (0 ≤ i ∧ i < n) (k (.pointer (some ⟨a.block, a.off + i.toNat * sz, none⟩)) m))
        | _ => False)
      | none => False)
    | _, _, _ => False) := by
  unfold vindexAddr
  split
  · rename_i a n c kk i e h1 h2 h3
    simp only [h1, h2, h3]
    cases tinf P e with
    | none => rfl
    | some q => obtain ⟨sz, by_, z⟩ := q; simp only [need, withO_iff, rd_iff]
  · rename_i a kk i h1 h2
    simp only [h1, h2]
    cases arrElem P t with
    | none => rfl
    | some q =>
      obtain ⟨n, e⟩ := q
      simp only
      cases tinf P e with
      | none => rfl
      | some q => obtain ⟨sz, by_, z⟩ := q; simp only [need]
  · rename_i h h'
    split
    · rename_i a n c kk i e h1 h2 h3
      exact absurd h3 (fun h3 => h' _ _ _ _ _ _ h1 h2 h3)
    · rename_i a kk i h1 h2
      exact absurd h2 (fun h2 => h _ _ _ h1 h2)
    · rfl

/-- A text out of bytes, to be met by the bytes. -/
def StrT (cs : List Value) (f : ByteArray → Prop) (_ : Tok f) : Prop := StrOf cs f
theorem strT {cs : List Value} {f : ByteArray → Prop} {t : Tok f} (xs : List Int) (h : cs = xs.map (Value.int .u8)) (hf : f (strOfNums xs)) : StrT cs f t := ⟨xs, h, hf⟩
theorem vconvert_eq {s d : TypeId} {x : Operand} : vconvert P σ m k s d x =
    (match ev σ x with
    | some (.int _ n) => (match ukind P d with | some kk => (P.underlying s).isSome = true ∧ k (.int kk (kk.wrap n)) m | none => False)
    | some (.slice (some a) n _) => need (cvStr d = true) (need (bytesT P s d = true) (need (a.spot = none) (withO m a.block (fun o => need (o.kind ≤ 2) (need (o.sz = 1) (need (a.off + n ≤ o.cells.length)
        (StrT ((o.cells.drop a.off).take n) (fun t => k (.string t) m) ⟨⟩)))) ⟨⟩)))
    | _ => False) := by
  unfold vconvert
  split
  · rename_i h1; simp only [h1]; cases ukind P d <;> rfl
  · rename_i h1; simp only [h1, need, withO_iff, rd_iff, StrT]
  · rename_i h1 h2
    split
    · rename_i h3; exact absurd h3 (h1 _ _)
    · rename_i h3; exact absurd h3 (h2 _ _ _)
    · rfl

/-- A call, to be met by a contract. -/
def CallsTo (P : Program) (g : FuncId) (args : List Value) (m : Mem) (k : Value → Mem → Prop) (_ : Tok k) : Prop := callable P g = true ∧ ∃ v m', ACalls P g args m v m' ∧ k v m'
theorem callsTo {g : FuncId} {args : List Value} {m m' : Mem} {v : Value} (hc : callable P g = true) (h : ACalls P g args m v m') {k : Value → Mem → Prop} {t : Tok k} (hk : k v m') : CallsTo P g args m k t := ⟨hc, v, m', h, hk⟩
theorem vcall_eq {f : Operand} {args : List Operand} : vcall P σ m k f args =
    (match ev σ f, evs σ args with
    | some (.func (.func g) _ caps), some vs => CallsTo P g (vs ++ caps.toList) m k ⟨⟩
    | _, _ => False) := rfl

theorem valloc_eq {t : TypeId} : valloc P m k t =
    (match tinf P t with
    | some (sz, _, some z) => need (valloc.litCells z = true) (need (z.cells.size = sz) (k (.pointer (some ⟨m.length, 0, none⟩)) (m ++ [⟨z.cells.toList, t, sz, 1⟩])))
    | _ => False) := rfl

theorem vmake_eq {t : TypeId} {x y : Operand} : vmake P σ m k t x y =
    (match ev σ x, ev σ y, slElem P t with
    | some (.int _ l), some (.int _ c), some e =>
      (match tinf P e with
      | some (sz, by_, some z) => need (0 < sz) (need (z.cells.size = sz) (need (valloc.litCells z = true) (need (0 ≤ l ∧ l ≤ c ∧ (by_ : Int) * c ≤ 281474976710656 ∧ c ≤ 9223372036854775807)
          (k (.slice (some ⟨m.length, 0, none⟩) l.toNat l.toNat) (m ++ [⟨(madeCells z.cells (c.toNat * sz)).toList, e, sz, 1⟩])))))
      | _ => False)
    | _, _, _ => False) := by
  unfold vmake
  split
  · rename_i kl l kc c e h1 h2 h3
    simp only [h1, h2, h3]
    cases tinf P e with
    | none => rfl
    | some q =>
      obtain ⟨sz, by_, z⟩ := q
      cases z with
      | none => rfl
      | some z => simp only [need, and_assoc]
  · rename_i h
    split
    · rename_i kl l kc c e h1 h2 h3
      exact absurd h3 (fun h3 => h kl l kc c e h1 h2 h3)
    · rfl

theorem get_len (m l : Mem) : (m ++ l)[m.length]? = l[0]? := by rw [List.getElem?_append_right (Nat.le_refl _), Nat.sub_self]
theorem get_len_add (m l : Mem) (i : Nat) : (m ++ l)[m.length + i]? = l[i]? := by rw [List.getElem?_append_right (by omega), Nat.add_sub_cancel_left]
theorem set_len (m l : Mem) (o : AObj) : (m ++ l).set m.length o = m ++ l.set 0 o := by rw [List.set_append_right _ _ (Nat.le_refl _), Nat.sub_self]
theorem set_len_add (m l : Mem) (i : Nat) (o : AObj) : (m ++ l).set (m.length + i) o = m ++ l.set i o := by rw [List.set_append_right _ _ (by omega), Nat.add_sub_cancel_left]
theorem get_old {m l : Mem} {i : Nat} {o : AObj} (h : m[i]? = some o) : (m ++ l)[i]? = some o := prefix_get ⟨l, rfl⟩ h
theorem lt_of_get {m : Mem} {i : Nat} {o : AObj} (h : m[i]? = some o) : i < m.length := (List.getElem?_eq_some_iff.1 h).1

/-- A loop, to be met by the rule for loops. -/
def LoopT (P : Program) (N : Nat) (fm : List Nat) (b : Code) (K : Post) (σ : Fr) (m : Mem) (_ : Tok (b, K, σ)) : Prop := AWP P N fm (.loop b) K σ m
/-- A guard: its slot's value first. -/
def gs (v : Option Value) (want : Bool) (t : Nat) (σ : Fr) (run skip : Fr → Prop) (_ : Tok (σ, run, skip)) : Prop :=
  match v with
  | some (.bool b) => split2 (b == want) (run (upd σ t (.bool want))) (skip (upd σ t (.bool (!want))))
  | some (.tuple _) => skip σ
  | _ => False
def gd (o : Option Oper) (want : Bool) (σ : Fr) (run skip : Fr → Prop) (_ : Tok (σ, run, skip)) : Prop :=
  match o.bind (·.dst) with
  | some t => match σ t with
    | some (.bool b) => split2 (b == want) (run (upd σ t (.bool want))) (skip (upd σ t (.bool (!want))))
    | some (.tuple _) => skip σ
    | _ => False
  | none => skip σ
section
variable (t : Nat) (run skip : Fr → Prop) (tk : Tok (σ, run, skip))
@[simp] theorem gd_some (op : Op) (ty : TypeId) (pos : String) (aft : Array Edge) (g : Option (Nat × Bool)) (want : Bool) : gd (some ⟨some t, op, ty, pos, aft, g⟩) want σ run skip tk = gs (σ t) want t σ run skip tk := rfl
@[simp] theorem gs_undef (want : Bool) (vs : Array Value) : gs (some (.tuple vs)) want t σ run skip tk = skip σ := rfl
@[simp] theorem gs_undef' (want : Bool) : gs (some undef) want t σ run skip tk = skip σ := rfl
@[simp low] theorem gs_symT (b : Bool) : gs (some (.bool b)) true t σ run skip tk = split2 b (run (upd σ t (.bool true))) (skip (upd σ t (.bool false))) := by cases b <;> rfl
@[simp low] theorem gs_symF (b : Bool) : gs (some (.bool b)) false t σ run skip tk = split2 b (skip (upd σ t (.bool true))) (run (upd σ t (.bool false))) := by cases b <;> simp [gs, split2]
@[simp] theorem gs_TT : gs (some (.bool true)) true t σ run skip tk = run (upd σ t (.bool true)) := by simp [gs, split2]
@[simp] theorem gs_FT : gs (some (.bool false)) true t σ run skip tk = skip (upd σ t (.bool false)) := by simp [gs, split2]
@[simp] theorem gs_TF : gs (some (.bool true)) false t σ run skip tk = skip (upd σ t (.bool true)) := by simp [gs, split2]
@[simp] theorem gs_FF : gs (some (.bool false)) false t σ run skip tk = run (upd σ t (.bool false)) := by simp [gs, split2]
end
/-! ### The rules by which the conditions are computed (the set simp bears them) -/
section
variable (N : Nat) (fm : List Nat) (K : Post)
theorem vc_skip : vc P N fm .skip K σ m = K .normal σ m := rfl
theorem vc_seq (a b : Code) : vc P N fm (.seq a b) K σ m = vc P N fm a (thenA (vc P N fm b K) K) σ m := rfl
theorem vc_cond (x : Operand) (t f : Code) : vc P N fm (.cond x t f) K σ m = (match ev σ x with | some (.bool b) => split2 b (vc P N fm t K σ m) (vc P N fm f K σ m) | _ => False) := rfl
theorem vc_block (id : Nat) (b : Code) : vc P N fm (.block id b) K σ m = vc P N fm b (blockA id K) σ m := rfl
theorem vc_exit (id : Nat) : vc P N fm (.exit id) K σ m = K (.exit id) σ m := rfl
theorem vc_loop (b : Code) : vc P N fm (.loop b) K σ m = LoopT P N fm b K σ m ⟨⟩ := rfl
theorem vc_ret : vc P N fm .ret K σ m = K .ret σ m := rfl
theorem vc_region (id : Nat) (l : List Oper) : vc P N fm (.region id l.toArray false) K σ m = vops P l l σ m (K .normal) := rfl
/-- A region that draws, of either kind. -/
def RegT (b : Bool) (P : Program) (l : List Oper) (kk : Fr → Mem → Prop) (σ : Fr) (m : Mem) (_ : Tok (l, kk, σ)) : Prop := if b then RegF0 P l kk σ m else vopsD P l (extB l (masks l)) 0 l σ m kk
theorem vc_draw (id : Nat) (l : List Oper) : vc P N fm (.region id l.toArray true) K σ m = RegT (fm.contains id) P l (K .normal) σ m ⟨⟩ := rfl
theorem regT_false (l : List Oper) (kk : Fr → Mem → Prop) (t : Tok (l, kk, σ)) : RegT false P l kk σ m t = vopsD P l (extB l (masks l)) 0 l σ m kk := rfl
/-- Such a region, met by the numbers of its operations. -/
theorem regF {l : List Oper} {kk : Fr → Mem → Prop} {t : Tok (l, kk, σ)} (T : List (List Nat)) (n : Nat) (hT : clashes l = T) (hn : allocs l = n) (h : vopsF P l m.length l T 0 [] σ (m ++ List.replicate n hole) kk) : RegT true P l kk σ m t := ⟨T, n, [], hT, hn, h⟩
/-- As regF; the operations told to be pure may stand anywhere. -/
theorem regP {l : List Oper} {kk : Fr → Mem → Prop} {t : Tok (l, kk, σ)} (pu : List Bool) (T : List (List Nat)) (n : Nat) (hT : clashes l = T) (hn : allocs l = n) (h : vopsP P l m.length pu l T 0 [] σ (m ++ List.replicate n hole) kk) : RegT true P l kk σ m t := ⟨T, n, pu, hT, hn, h⟩
/-- A pure call, to be met by a contract. -/
def CallsP (P : Program) (g : FuncId) (args : List Value) (k : Value → Prop) (_ : Tok k) : Prop := ∃ u, (∀ m1 : Mem, CallsTo P g args m1 (fun v m' => v = u ∧ m' = m1) ⟨⟩) ∧ k u
theorem callsP {g : FuncId} {args : List Value} {v : Value} (hc : callable P g = true) (h : ∀ m1, ACalls P g args m1 v m1) {k : Value → Prop} {t : Tok k} (hk : k v) : CallsP P g args k t := ⟨v, fun m1 => callsTo hc (h m1) ⟨rfl, rfl⟩, hk⟩
theorem thenA_normal (next : Fr → Mem → Prop) : thenA next K .normal = next := rfl
theorem thenA_exit (next : Fr → Mem → Prop) (i : Nat) : thenA next K (.exit i) = K (.exit i) := rfl
theorem thenA_ret (next : Fr → Mem → Prop) : thenA next K .ret = K .ret := rfl
theorem blockA_normal (id : Nat) : blockA id K .normal = K .normal := rfl
theorem blockA_ret (id : Nat) : blockA id K .ret = K .ret := rfl
theorem blockA_exit (id i : Nat) : blockA id K (.exit i) σ m = if i = id then K .normal σ m else K (.exit i) σ m := rfl
theorem retK_ret (rs : List ResultVar) : retK P rs k .ret σ m = vres P σ m rs fun vs => k (packR vs) m := rfl
theorem retK_normal (rs : List ResultVar) : retK P rs k .normal σ m = vres P σ m rs fun vs => k (packR vs) m := rfl
theorem vops_nil (all : List Oper) (kk : Fr → Mem → Prop) : vops P all [] σ m kk = kk σ m := rfl
theorem vops_cons (all : List Oper) (o : Oper) (rest : List Oper) (kk : Fr → Mem → Prop) : vops P all (o :: rest) σ m kk = vguard all σ o (fun σ => vop P σ m (fun v m' => vops P all rest (updO σ o.dst v) m' kk) o) (fun σ => vops P all rest (updO σ o.dst undef) m kk) := rfl
theorem vopsD_nil (all : List Oper) (ext : Nat → Bool) (n : Nat) (kk : Fr → Mem → Prop) : vopsD P all ext n [] σ m kk = kk σ m := rfl
theorem vopsD_cons (all : List Oper) (ext : Nat → Bool) (n : Nat) (o : Oper) (rest : List Oper) (kk : Fr → Mem → Prop) : vopsD P all ext n (o :: rest) σ m kk =
    vguard all σ o (fun σ => vop P σ m (fun v m' => need (m <+: m' ∨ ext n = false) (vopsD P all ext (n + 1) rest (updO σ o.dst v) m' kk)) o) (fun σ => vopsD P all ext (n + 1) rest (updO σ o.dst undef) m kk) := rfl
theorem vguard_none (all : List Oper) (dst : Option Nat) (op : Op) (ty : TypeId) (pos : String) (aft : Array Edge) (run skip : Fr → Prop) : vguard all σ ⟨dst, op, ty, pos, aft, none⟩ run skip = run σ := rfl
theorem vguard_some (all : List Oper) (dst : Option Nat) (op : Op) (ty : TypeId) (pos : String) (aft : Array Edge) (j : Nat) (want : Bool) (run skip : Fr → Prop) : vguard all σ ⟨dst, op, ty, pos, aft, some (j, want)⟩ run skip = gd (all[j]?) want σ run skip ⟨⟩ := rfl
theorem updO_some (t : Nat) (v : Value) : updO σ (some t) v = upd σ t v := rfl
theorem updO_none (v : Value) : updO σ none v = σ := rfl
theorem upd_app (t i : Nat) (v : Value) : upd σ t v i = if i = t then some v else σ i := rfl
end
theorem need_prefix_refl (m : Mem) (b : Bool) (q : Prop) : need (m <+: m ∨ b = false) q = q := need_of (.inl ⟨[], by simp⟩) q
theorem need_prefix_append (m l : Mem) (b : Bool) (q : Prop) : need (m <+: m ++ l ∨ b = false) q = q := need_of (.inl ⟨l, rfl⟩) q
theorem need_prefix_append2 (m l l' : Mem) (b : Bool) (q : Prop) : need (m ++ l <+: m ++ (l ++ l') ∨ b = false) q = q := need_of (.inl ⟨l', by simp⟩) q
@[simp] theorem need_prefix_refl_ (m : Mem) (b : Bool) (q : Prop) : need (m <+: m ∨ b = false) q = q := need_prefix_refl m b q
@[simp] theorem need_prefix_append_ (m l : Mem) (b : Bool) (q : Prop) : need (m <+: m ++ l ∨ b = false) q = q := need_prefix_append m l b q
@[simp] theorem need_prefix_append2_ (m l l' : Mem) (b : Bool) (q : Prop) : need (m ++ l <+: m ++ (l ++ l') ∨ b = false) q = q := need_prefix_append2 m l l' b q
attribute [simp ↓] vc_loop vc_skip vc_seq vc_cond vc_block vc_exit vc_ret vc_region vc_draw regT_false List.contains_nil thenA_normal thenA_exit thenA_ret blockA_normal blockA_ret blockA_exit retK_ret retK_normal vops_nil vops_cons vopsD_nil vopsD_cons vguard_none vguard_some
  updO_some updO_none upd_app vop vmove vpick vint vstr vbin vload_eq vstore_eq valloc_eq vbox_eq vfieldAddr vindexAddr_eq vlen vextract vun vconvert_eq vnilCheck vmake_eq vcall_eq vres packR ev evs frameOf litB noTup split2_true split2_false need_true
  need_prefix_refl need_prefix_append
attribute [simp] regT_false List.getElem?_cons_zero List.getElem?_cons_succ List.getElem?_nil List.toList_toArray Option.bind_some true_and and_true reduceCtorEq beq_true beq_false Bool.not_true Bool.not_false Bool.and_self
  Value.cells get_len get_len_add set_len set_len_add List.set_cons_zero List.set_cons_succ List.append_assoc List.cons_append List.nil_append List.append_nil List.drop_zero List.drop_succ_cons List.take_succ_cons List.take_zero Option.some.injEq
  List.length_append List.length_cons List.length_nil Nat.zero_add Nat.add_zero List.size_toArray Nat.zero_mul valloc.litCells List.all_cons List.all_nil splice Nat.le_refl beq_self_eq_true

@[simp] theorem withO_len (m l : Mem) (f : AObj → Prop) (t : Tok f) : withO (m ++ l) m.length f t = withO l 0 f t := by simp [withO]
@[simp] theorem withO_len_add (m l : Mem) (i : Nat) (f : AObj → Prop) (t : Tok f) : withO (m ++ l) (m.length + i) f t = withO l i f t := by simp [withO]
@[simp] theorem withO_zero (o : AObj) (l : Mem) (f : AObj → Prop) (t : Tok f) : withO (o :: l) 0 f t = f o := by simp [withO]
@[simp] theorem withO_succ (o : AObj) (l : Mem) (i : Nat) (f : AObj → Prop) (t : Tok f) : withO (o :: l) (i + 1) f t = withO l i f t := by simp [withO]
@[simp] theorem withC_zero (o : Value) (l : List Value) (f : Value → Prop) (t : Tok f) : withC (o :: l) 0 f t = f o := by simp [withC]
@[simp] theorem withC_succ (o : Value) (l : List Value) (i : Nat) (f : Value → Prop) (t : Tok f) : withC (o :: l) (i + 1) f t = withC l i f t := by simp [withC]

theorem GC.eq {m m1 : Mem} {v1 v2 : Value} (h : v1 = v2) : GC m m1 v1 m1 v2 := h ▸ GC.refl m m1 v1
theorem GC.dropEq {m j : Mem} {v1 v2 : Value} (h : v1 = v2) (hl : litV v2 = true) : GC m (m ++ j) v1 m v2 := h ▸ GC.drop (h ▸ hl)

end Go.Abs
