/-
  Abs, part 13c: the conditions of regions whose operations tell what they touch, in the form in which they are computed. Conditions: none; generic in the program.
-/
import Derived.Test.YtmbijgnmbapchaaGreatDoorAbsEval2
set_option linter.unusedSimpArgs false
set_option linter.unusedVariables false
set_option linter.unusedSectionVars false
namespace Go.Abs
open Go.RowKit

variable {P : Program} {σ : Fr} {m : Mem} {k : Foot → Value → Mem → Prop} {s : Nat} {dst : Option Nat} {ty : TypeId} {pos : String} {aft : Array Edge} {g : Option (Nat × Bool)}

theorem stepF_move (x : Operand) : stepF P σ m s ⟨dst, .move x, ty, pos, aft, g⟩ k = vop P σ m (fun v m' => k (.loc [] none) v m') ⟨dst, .move x, ty, pos, aft, g⟩ := by simp [stepF, opClass]
theorem nextS_move (x : Operand) : nextS (.move x) s = s := rfl
theorem stepF_assign (x : Operand) : stepF P σ m s ⟨dst, .assign x, ty, pos, aft, g⟩ k = vop P σ m (fun v m' => k (.loc [] none) v m') ⟨dst, .assign x, ty, pos, aft, g⟩ := by simp [stepF, opClass]
theorem nextS_assign (x : Operand) : nextS (.assign x) s = s := rfl
theorem stepF_pick (c a b : Operand) : stepF P σ m s ⟨dst, .pick c a b, ty, pos, aft, g⟩ k = vop P σ m (fun v m' => k (.loc [] none) v m') ⟨dst, .pick c a b, ty, pos, aft, g⟩ := by simp [stepF, opClass]
theorem nextS_pick (c a b : Operand) : nextS (.pick c a b) s = s := rfl
theorem stepF_binOp (op : BinOp) (t : TypeId) (x y : Operand) (t2 : TypeId) : stepF P σ m s ⟨dst, .binOp op t x y t2, ty, pos, aft, g⟩ k = vop P σ m (fun v m' => k (.loc [] none) v m') ⟨dst, .binOp op t x y t2, ty, pos, aft, g⟩ := by simp [stepF, opClass]
theorem nextS_binOp (op : BinOp) (t : TypeId) (x y : Operand) (t2 : TypeId) : nextS (.binOp op t x y t2) s = s := rfl
theorem stepF_unOp (op : UnOp) (t : TypeId) (x : Operand) : stepF P σ m s ⟨dst, .unOp op t x, ty, pos, aft, g⟩ k = vop P σ m (fun v m' => k (.loc [] none) v m') ⟨dst, .unOp op t x, ty, pos, aft, g⟩ := by simp [stepF, opClass]
theorem nextS_unOp (op : UnOp) (t : TypeId) (x : Operand) : nextS (.unOp op t x) s = s := rfl
theorem stepF_fieldAddr (t : TypeId) (x : Operand) (i : Nat) : stepF P σ m s ⟨dst, .fieldAddr t x i, ty, pos, aft, g⟩ k = vop P σ m (fun v m' => k (.loc [] none) v m') ⟨dst, .fieldAddr t x i, ty, pos, aft, g⟩ := by simp [stepF, opClass]
theorem nextS_fieldAddr (t : TypeId) (x : Operand) (i : Nat) : nextS (.fieldAddr t x i) s = s := rfl
theorem stepF_extract (x : Operand) (i : Nat) : stepF P σ m s ⟨dst, .extract x i, ty, pos, aft, g⟩ k = vop P σ m (fun v m' => k (.loc [] none) v m') ⟨dst, .extract x i, ty, pos, aft, g⟩ := by simp [stepF, opClass]
theorem nextS_extract (x : Operand) (i : Nat) : nextS (.extract x i) s = s := rfl
theorem stepF_convert (t u : TypeId) (x : Operand) : stepF P σ m s ⟨dst, .convert t u x, ty, pos, aft, g⟩ k = (match cvStr u with | true => vop P σ m (fun v m' => k (.loc (lookIds σ (.convert t u x)) none) v m') ⟨dst, .convert t u x, ty, pos, aft, g⟩ | false => vop P σ m (fun v m' => k (.loc [] none) v m') ⟨dst, .convert t u x, ty, pos, aft, g⟩) := by
  cases h : cvStr u <;> simp [stepF, h]
theorem nextS_convert (t u : TypeId) (x : Operand) : nextS (.convert t u x) s = s := rfl
theorem stepF_nilCheck (x : Operand) : stepF P σ m s ⟨dst, .nilCheck x, ty, pos, aft, g⟩ k = vop P σ m (fun v m' => k (.loc [] none) v m') ⟨dst, .nilCheck x, ty, pos, aft, g⟩ := by simp [stepF, opClass]
theorem nextS_nilCheck (x : Operand) : nextS (.nilCheck x) s = s := rfl
theorem stepF_build (t : TypeId) (ps : Array (Nat × Operand)) : stepF P σ m s ⟨dst, .build t ps, ty, pos, aft, g⟩ k = vop P σ m (fun v m' => k (.loc [] none) v m') ⟨dst, .build t ps, ty, pos, aft, g⟩ := by simp [stepF, opClass]
theorem nextS_build (t : TypeId) (ps : Array (Nat × Operand)) : nextS (.build t ps) s = s := rfl
theorem stepF_makeFunc (f : Fn) (a b : Array Operand) : stepF P σ m s ⟨dst, .makeFunc f a b, ty, pos, aft, g⟩ k = vop P σ m (fun v m' => k (.loc [] none) v m') ⟨dst, .makeFunc f a b, ty, pos, aft, g⟩ := by simp [stepF, opClass]
theorem nextS_makeFunc (f : Fn) (a b : Array Operand) : nextS (.makeFunc f a b) s = s := rfl
theorem stepF_index (t : TypeId) (x y : Operand) : stepF P σ m s ⟨dst, .index t x y, ty, pos, aft, g⟩ k = vop P σ m (fun v m' => k (.loc [] none) v m') ⟨dst, .index t x y, ty, pos, aft, g⟩ := by simp [stepF, opClass]
theorem nextS_index (t : TypeId) (x y : Operand) : nextS (.index t x y) s = s := rfl
theorem stepF_alloc (t : TypeId) : stepF P σ m s ⟨dst, .alloc t, ty, pos, aft, g⟩ k = vop P σ [] (fun v m' => slotK m s v m' k) ⟨dst, .alloc t, ty, pos, aft, g⟩ := rfl
theorem nextS_alloc (t : TypeId) : nextS (.alloc t) s = s + 1 := rfl
theorem stepF_box (t : TypeId) (x : Operand) : stepF P σ m s ⟨dst, .box t x, ty, pos, aft, g⟩ k = vop P σ [] (fun v m' => slotK m s v m' k) ⟨dst, .box t x, ty, pos, aft, g⟩ := rfl
theorem nextS_box (t : TypeId) (x : Operand) : nextS (.box t x) s = s + 1 := rfl
theorem stepF_makeSlice (t : TypeId) (x y : Operand) : stepF P σ m s ⟨dst, .makeSlice t x y, ty, pos, aft, g⟩ k = vop P σ [] (fun v m' => slotK m s v m' k) ⟨dst, .makeSlice t x y, ty, pos, aft, g⟩ := rfl
theorem nextS_makeSlice (t : TypeId) (x y : Operand) : nextS (.makeSlice t x y) s = s + 1 := rfl
theorem stepF_buildSlice (t : TypeId) (n : Nat) (ps : Array (Nat × Operand)) : stepF P σ m s ⟨dst, .buildSlice t n ps, ty, pos, aft, g⟩ k = vop P σ [] (fun v m' => slotK m s v m' k) ⟨dst, .buildSlice t n ps, ty, pos, aft, g⟩ := rfl
theorem nextS_buildSlice (t : TypeId) (n : Nat) (ps : Array (Nat × Operand)) : nextS (.buildSlice t n ps) s = s + 1 := rfl
theorem stepF_load (t : TypeId) (x : Operand) : stepF P σ m s ⟨dst, .load t x, ty, pos, aft, g⟩ k = vop P σ m (fun v m' => k (.loc (lookIds σ (.load t x)) none) v m') ⟨dst, .load t x, ty, pos, aft, g⟩ := rfl
theorem nextS_load (t : TypeId) (x : Operand) : nextS (.load t x) s = s := rfl
theorem stepF_indexAddr (t : TypeId) (x y : Operand) : stepF P σ m s ⟨dst, .indexAddr t x y, ty, pos, aft, g⟩ k = vop P σ m (fun v m' => k (.loc (lookIds σ (.indexAddr t x y)) none) v m') ⟨dst, .indexAddr t x y, ty, pos, aft, g⟩ := rfl
theorem nextS_indexAddr (t : TypeId) (x y : Operand) : nextS (.indexAddr t x y) s = s := rfl
theorem stepF_slice (t : TypeId) (x : Operand) (lo hi mx : Option Operand) : stepF P σ m s ⟨dst, .slice t x lo hi mx, ty, pos, aft, g⟩ k = vop P σ m (fun v m' => k (.loc (lookIds σ (.slice t x lo hi mx)) none) v m') ⟨dst, .slice t x lo hi mx, ty, pos, aft, g⟩ := rfl
theorem nextS_slice (t : TypeId) (x : Operand) (lo hi mx : Option Operand) : nextS (.slice t x lo hi mx) s = s := rfl
theorem stepF_store (t : TypeId) (x y : Operand) : stepF P σ m s ⟨dst, .store t x y, ty, pos, aft, g⟩ k = vop P σ m (fun v m' => k (.loc (storeIds σ (.store t x y)) (storeIds σ (.store t x y)).head?) v m') ⟨dst, .store t x y, ty, pos, aft, g⟩ := rfl
theorem nextS_store (t : TypeId) (x y : Operand) : nextS (.store t x y) s = s := rfl
theorem stepF_callV (f : Operand) (as : Array Operand) (ts : Array TypeId) : stepF P σ m s ⟨dst, .call ⟨.value f, as, ts⟩, ty, pos, aft, g⟩ k = vop P σ m (fun v m' => k (.gen m m') v m') ⟨dst, .call ⟨.value f, as, ts⟩, ty, pos, aft, g⟩ := rfl
theorem nextS_callV (f : Operand) (as : Array Operand) (ts : Array TypeId) : nextS (.call ⟨.value f, as, ts⟩) s = s := rfl
theorem stepF_callA (x y : Operand) (ts : Array TypeId) : stepF P σ m s ⟨dst, .call ⟨.builtin .append, #[x, y], ts⟩, ty, pos, aft, g⟩ k = (vop P σ m (fun v m' => k (.gen m m') v m') ⟨dst, .call ⟨.builtin .append, #[x, y], ts⟩, ty, pos, aft, g⟩ ∨ vop P σ m (fun v m' => appK σ m x y v m' k) ⟨dst, .call ⟨.builtin .append, #[x, y], ts⟩, ty, pos, aft, g⟩) := rfl
theorem nextS_callA (x y : Operand) (ts : Array TypeId) : nextS (.call ⟨.builtin .append, #[x, y], ts⟩) s = s := rfl
theorem stepF_callLen (as : Array Operand) (ts : Array TypeId) : stepF P σ m s ⟨dst, .call ⟨.builtin .len, as, ts⟩, ty, pos, aft, g⟩ k = vop P σ m (fun v m' => k (.loc [] none) v m') ⟨dst, .call ⟨.builtin .len, as, ts⟩, ty, pos, aft, g⟩ := rfl
theorem nextS_callLen (as : Array Operand) (ts : Array TypeId) : nextS (.call ⟨.builtin .len, as, ts⟩) s = s := rfl
theorem stepF_callMax (as : Array Operand) (ts : Array TypeId) : stepF P σ m s ⟨dst, .call ⟨.builtin .max, as, ts⟩, ty, pos, aft, g⟩ k = vop P σ m (fun v m' => k (.loc [] none) v m') ⟨dst, .call ⟨.builtin .max, as, ts⟩, ty, pos, aft, g⟩ := rfl
theorem nextS_callMax (as : Array Operand) (ts : Array TypeId) : nextS (.call ⟨.builtin .max, as, ts⟩) s = s := rfl
theorem stepF_callMin (as : Array Operand) (ts : Array TypeId) : stepF P σ m s ⟨dst, .call ⟨.builtin .min, as, ts⟩, ty, pos, aft, g⟩ k = vop P σ m (fun v m' => k (.loc [] none) v m') ⟨dst, .call ⟨.builtin .min, as, ts⟩, ty, pos, aft, g⟩ := rfl
theorem nextS_callMin (as : Array Operand) (ts : Array TypeId) : nextS (.call ⟨.builtin .min, as, ts⟩) s = s := rfl

def chkAt (o : Option Foot) (f : Foot) : Prop := match o with | some g => apartF g f | none => False
theorem chk_nil (obl : List Foot) (f : Foot) : chk obl [] f = True := rfl
theorem chk_cons (obl : List Foot) (i : Nat) (is : List Nat) (f : Foot) : chk obl (i :: is) f = (chkAt obl[i]? f ∧ chk obl is f) := rfl
theorem chkAt_some (f f' : Foot) : chkAt (some f) f' = apartF f f' := rfl
theorem apartF_ll (is js : List Nat) (v w : Option Nat) : apartF (.loc is w) (.loc js v) = (offs w js ∧ offs v is) := rfl
theorem apartF_lg (is : List Nat) (m m' : Mem) : apartF (.loc is none) (.gen m m') = keepsL m m' is := rfl
theorem apartF_gl (js : List Nat) (m m' : Mem) : apartF (.gen m m') (.loc js none) = keepsL m m' js := rfl
theorem offs_none (js : List Nat) : offs none js = True := rfl
theorem offs_some (i : Nat) (js : List Nat) : offs (some i) js = apartL i js := rfl
theorem apartL_nil (i : Nat) : apartL i [] = True := rfl
theorem apartL_cons (i j : Nat) (js : List Nat) : apartL i (j :: js) = (i ≠ j ∧ apartL i js) := rfl
theorem keepsL_nil (m m' : Mem) : keepsL m m' [] = True := rfl
theorem keepsL_cons (m m' : Mem) (j : Nat) (js : List Nat) : keepsL m m' (j :: js) = (m'[j]? = m[j]? ∧ keepsL m m' js) := rfl
theorem slotK_one (v : Value) (ob : AObj) : slotK m s v [ob] k = need (m[s]? = some hole) (k (.loc [s] (some s)) (moveTo s v) (m.set s ob)) := rfl
theorem moveTo_ptr (b o : Nat) (sp : Option Nat) : moveTo s (.pointer (some ⟨b, o, sp⟩)) = .pointer (some ⟨s, o, none⟩) := rfl
theorem moveTo_slice (b o : Nat) (sp : Option Nat) (n c : Nat) : moveTo s (.slice (some ⟨b, o, sp⟩) n c) = .slice (some ⟨s, o, none⟩) n c := rfl
section
variable (all : List Oper) (b c : Nat) (kk : Fr → Mem → Prop)
theorem vopsF_nil (T : List (List Nat)) (obl : List Foot) : vopsF P all b [] T c obl σ m kk = kk σ m := rfl
theorem vopsF_cons (o : Oper) (rest : List Oper) (t : List Nat) (T : List (List Nat)) (obl : List Foot) : vopsF P all b (o :: rest) (t :: T) c obl σ m kk =
    vguard all σ o (fun σ => stepF P σ m (b + c) o fun f v m' => need (chk obl t f) (vopsF P all b rest T (nextS o.op c) (obl ++ [f]) (updO σ o.dst v) m' kk))
      (fun σ => vopsF P all b rest T (nextS o.op c) (obl ++ [.loc [] none]) (updO σ o.dst undef) m kk) := rfl
end
theorem purK_callV (f : Operand) (as : Array Operand) (ts : Array TypeId) (k : Value → Prop) : purK P σ ⟨dst, .call ⟨.value f, as, ts⟩, ty, pos, aft, g⟩ k =
    (match ev σ f, evs σ as.toList with
    | some (.func (.func g) _ caps), some vs => CallsP P g (vs ++ caps.toList) k ⟨⟩
    | _, _ => False) := by
  unfold purK
  simp only [vop, vcall_eq]
  split
  · rename_i h1 h2
    simp only [h1, h2]
    rfl
  · rename_i h
    refine propext ⟨fun ⟨_, h0, _⟩ => (h0 []).elim, fun h0 => ?_⟩
    split at h0
    · rename_i h1 h2
      exact (h _ _ _ _ h1 h2).elim
    · exact h0.elim
section
variable (all : List Oper) (b c : Nat) (kk : Fr → Mem → Prop)
theorem vopsP_nil (pu : List Bool) (T : List (List Nat)) (obl : List Foot) : vopsP P all b pu [] T c obl σ m kk = kk σ m := by cases pu <;> rfl
theorem vopsP_pure (pu : List Bool) (o : Oper) (rest : List Oper) (t : List Nat) (T : List (List Nat)) (obl : List Foot) : vopsP P all b (true :: pu) (o :: rest) (t :: T) c obl σ m kk =
    vguard all σ o (fun σ => purK P σ o fun u => need (chk obl t (.loc [] none)) (vopsP P all b pu rest T (nextS o.op c) (obl ++ [.loc [] none]) (updO σ o.dst u) m kk))
      (fun σ => vopsP P all b pu rest T (nextS o.op c) (obl ++ [.loc [] none]) (updO σ o.dst undef) m kk) := rfl
theorem vopsP_cons (pu : List Bool) (o : Oper) (rest : List Oper) (t : List Nat) (T : List (List Nat)) (obl : List Foot) : vopsP P all b (false :: pu) (o :: rest) (t :: T) c obl σ m kk =
    vguard all σ o (fun σ => stepF P σ m (b + c) o fun f v m' => need (chk obl t f) (vopsP P all b pu rest T (nextS o.op c) (obl ++ [f]) (updO σ o.dst v) m' kk))
      (fun σ => vopsP P all b pu rest T (nextS o.op c) (obl ++ [.loc [] none]) (updO σ o.dst undef) m kk) := rfl
end
theorem replicate_hole (n : Nat) : List.replicate (n + 1) hole = hole :: List.replicate n hole := rfl
attribute [simp ↓] vopsF_nil vopsF_cons vopsP_nil vopsP_pure vopsP_cons purK_callV chk_nil chk_cons chkAt_some apartF_ll apartF_lg apartF_gl offs_none offs_some apartL_nil apartL_cons keepsL_nil keepsL_cons slotK_one moveTo_ptr moveTo_slice lookIds storeIds appIds
  stepF_move stepF_assign stepF_pick stepF_binOp stepF_unOp stepF_fieldAddr stepF_extract stepF_convert stepF_nilCheck stepF_build stepF_makeFunc stepF_index stepF_alloc stepF_box stepF_makeSlice stepF_buildSlice stepF_load stepF_indexAddr stepF_slice stepF_store stepF_callV stepF_callA stepF_callLen stepF_callMax stepF_callMin nextS_move nextS_assign nextS_pick nextS_binOp nextS_unOp nextS_fieldAddr nextS_extract nextS_convert nextS_nilCheck nextS_build nextS_makeFunc nextS_index nextS_alloc nextS_box nextS_makeSlice nextS_buildSlice nextS_load nextS_indexAddr nextS_slice nextS_store nextS_callV nextS_callA nextS_callLen nextS_callMax nextS_callMin
attribute [simp] slotK_one chkAt_some List.replicate_succ List.replicate_zero moveTo_ptr moveTo_slice List.head?_cons apartF_ll apartF_lg apartF_gl offs_none offs_some apartL_cons apartL_nil
end Go.Abs
