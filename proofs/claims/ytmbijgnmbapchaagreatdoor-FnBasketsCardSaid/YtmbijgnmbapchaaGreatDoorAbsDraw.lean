/-
  Abs, part 10: a region that draws its order: the text's order serves every order. Conditions: none; generic in the program.
-/
import Derived.Test.YtmbijgnmbapchaaGreatDoorAbsSeq
import Derived.Still
set_option linter.unusedSimpArgs false
set_option linter.unusedVariables false
set_option linter.unusedSectionVars false
namespace Go.Abs
open Go.RowKit

variable {P : Program}

/-- 0: looks at no memory; 1: looks; 2: may turn it. -/
def opClass (op : Op) : Nat :=
  match op with
  | .load .. | .indexAddr .. | .slice .. => 1
  | .move _ | .assign _ | .pick .. | .binOp .. | .unOp .. | .fieldAddr .. | .extract .. | .nilCheck _ | .build .. | .makeFunc .. | .index .. => 0
  | .convert _ d _ => if cvStr d then 1 else 0
  | .call c => match c.callee with
    | .builtin .len | .builtin .max | .builtin .min => 0
    | _ => 2
  | _ => 2

def FloatS (P : Program) (o : Oper) (σ : Fr) (u : Value) (dep : Option (Nat × AObj)) : Prop :=
  ∀ m : Mem, (∀ id ob, dep = some (id, ob) → m[id]? = some ob ∨ m[id]? = none) → OpOK P o σ m u m

theorem pure_det {σ : Fr} {m : Mem} {k : Value → Mem → Prop} {o : Oper} (hc : opClass o.op = 0) (h : vop P σ m k o) : ∃ u, k u m ∧ ∀ m1 : Mem, vop P σ m1 (fun v m' => v = u ∧ m' = m1) o := by
  obtain ⟨dst, op, ty, pos, aft, g⟩ := o
  unfold vop at h ⊢
  have mv : ∀ x, vmove σ m k x → ∃ u, k u m ∧ ∀ m1 : Mem, vmove σ m1 (fun v m' => v = u ∧ m' = m1) x := by
    intro x h
    unfold vmove at h ⊢
    split at h
    · exact ⟨_, h, fun m1 => by simp [*]⟩
    · exact h.elim
  cases op <;> simp only [opClass] at hc <;> simp only at h ⊢ <;> first
    | (exact absurd hc (by decide))
    | exact mv _ h
    | skip
  case pick c a b =>
    unfold vpick at h ⊢
    split at h
    · rename_i bb hb
      cases bb
      · obtain ⟨u, h1, h2⟩ := mv _ (h.2 rfl)
        exact ⟨u, h1, fun m1 => ⟨fun h => by simp at h, fun _ => h2 m1⟩⟩
      · obtain ⟨u, h1, h2⟩ := mv _ (h.1 rfl)
        exact ⟨u, h1, fun m1 => ⟨fun _ => h2 m1, fun h => by simp at h⟩⟩
    · exact h.elim
  case nilCheck x =>
    unfold vnilCheck at h ⊢
    split at h
    · exact ⟨_, h, fun m1 => by simp [*]⟩
    · exact ⟨_, h, fun m1 => by simp [*]⟩
    · exact h.elim
  case unOp op t x =>
    unfold vun at h ⊢
    split at h
    · exact ⟨_, h, fun m1 => by simp [*]⟩
    · exact ⟨_, h, fun m1 => by simp [*]⟩
    · exact h.elim
  case extract x i =>
    unfold vextract at h ⊢
    split at h
    · split at h
      · exact ⟨_, h, fun m1 => by simp [*]⟩
      · exact h.elim
    · exact h.elim
  case convert s d x =>
    unfold vconvert at h ⊢
    split at h
    · split at h
      · exact ⟨_, h.2, fun m1 => by simp [*, h.1]⟩
      · exact h.elim
    · simp [h.1] at hc
    · exact h.elim
  case fieldAddr t x i =>
    unfold vfieldAddr at h ⊢
    split at h
    · exact ⟨_, h.2, fun m1 => by simp [*, h.1]⟩
    · exact h.elim
  case index t x y =>
    unfold vindex at h ⊢
    split at h
    · rename_i s kk i hx hy
      obtain ⟨h1, h2, b, hb, h⟩ := h
      exact ⟨_, h, fun m1 => by simp only [hx, hy]; exact ⟨h1, h2, b, hb, by simp⟩⟩
    · exact h.elim
  case makeFunc fn f c =>
    unfold vmakeFunc at h ⊢
    split at h
    · rename_i g cs hf hcs
      exact ⟨_, h.2, fun m1 => by simp only [hf, hcs]; exact ⟨h.1, by simp⟩⟩
    · exact h.elim
  case build t parts =>
    unfold vbuild at h ⊢
    split at h
    · rename_i pl sz by_ z ps h1 h2 h3
      obtain ⟨h4, cs, h5, h⟩ := h
      exact ⟨_, h, fun m1 => by simp only [h1, h2, h3]; exact ⟨h4, cs, h5, by simp⟩⟩
    · exact h.elim
  case binOp op t x y t' =>
    split at h
    · rename_i u v hu hv
      unfold vbin at h ⊢
      split at h
      · unfold vint at h ⊢
        cases op <;> simp only at h ⊢ <;> first
          | exact h.elim
          | (refine ⟨_, h.2.2, fun m1 => ⟨h.1, h.2.1, ?_⟩⟩; simp; done)
          | (refine ⟨_, h.2, fun m1 => ⟨h.1, ?_⟩⟩; simp; done)
      · unfold vstr at h ⊢
        cases op <;> simp only at h ⊢ <;> first
          | exact h.elim
          | (refine ⟨_, h.2, fun m1 => ⟨h.1, ?_⟩⟩; simp; done)
          | (refine ⟨_, h, fun m1 => ?_⟩; simp; done)
      · obtain ⟨h1, h⟩ := h
        cases op <;> simp only at h ⊢ <;> first
          | exact h.elim
          | (refine ⟨_, h, fun m1 => ⟨h1, ?_⟩⟩; simp; done)
      · obtain ⟨h1, h⟩ := h
        cases op <;> simp only at h ⊢ <;> first
          | exact h.elim
          | (refine ⟨_, h, fun m1 => ⟨h1, ?_⟩⟩; simp; done)
      · split at h
        · rename_i ts hts
          split at h
          · rename_i b hb
            exact ⟨_, h, fun m1 => by simp [hb]⟩
          · rename_i b hb
            exact ⟨_, h, fun m1 => by simp [hb]⟩
          · exact h.elim
        · exact h.elim
      · exact h.elim
    · exact h.elim
  case call c =>
    obtain ⟨callee, args, tys⟩ := c
    cases callee with
    | value f => exact absurd hc (by simp)
    | invoke r n => exact absurd hc (by simp)
    | builtin b =>
      simp only at h ⊢
      split at h
      · unfold vlen at h ⊢
        split at h
        · exact ⟨_, h.2, fun m1 => by simp [*, h.1]⟩
        · exact ⟨_, h.2, fun m1 => by simp [*, h.1]⟩
        · exact h.elim
      · exact absurd hc (by simp)
      · unfold vmax at h ⊢
        split at h
        · exact ⟨_, h.2, fun m1 => by simp [*, h.1]⟩
        · exact h.elim
      · unfold vmin at h ⊢
        split at h
        · exact ⟨_, h.2, fun m1 => by simp [*, h.1]⟩
        · exact h.elim
      · exact h.elim

theorem opOK_of_vop {σ : Fr} {m : Mem} {o : Oper} {u : Value} {m' : Mem} (h : vop P σ m (fun v m1 => v = u ∧ m1 = m') o) : OpOK P o σ m u m' := by
  obtain ⟨v, m1, h1, rfl, rfl⟩ := vop_sound h
  exact h1

theorem float_pure {σ : Fr} {m : Mem} {k : Value → Mem → Prop} {o : Oper} (hc : opClass o.op = 0) (h : vop P σ m k o) : ∃ u, k u m ∧ FloatS P o σ u none := by
  obtain ⟨u, h1, h2⟩ := pure_det hc h
  exact ⟨u, h1, fun m1 _ => opOK_of_vop (h2 m1)⟩

theorem opOK_none {σ : Fr} {m : Mem} {o : Oper} {u : Value} {x : Operand} (hx : x ∈ o.op.operands.toList) {id : Nat} (hid : (∃ a : Addr, ev σ x = some (.pointer (some a)) ∧ a.block = id) ∨ (∃ (a : Addr) (n c : Nat), ev σ x = some (.slice (some a) n c) ∧ a.block = id ∧ a.spot = none)) (hm : m[id]? = none) : OpOK P o σ m u m := by
  intro W0 ρ w a hr ho K Q _
  exfalso
  have : ∃ r, ρ[id]? = some (some r) := by
    rcases hid with ⟨ad, hv, rfl⟩ | ⟨ad, n, c, hv, rfl, hs⟩
    · obtain ⟨_, r, hr, _⟩ := conc3_ptr (ho x hx _ hv); exact ⟨r, hr⟩
    · obtain ⟨_, ⟨_, r, hr, _⟩ | ⟨hs', _⟩⟩ := ho x hx _ hv
      · exact ⟨r, hr⟩
      · rw [hs] at hs'; cases hs'
  obtain ⟨r, hr'⟩ := this
  obtain ⟨o', ho'⟩ := hr.objOf hr'
  rw [hm] at ho'; cases ho'

theorem float_look {σ : Fr} {m : Mem} {k : Value → Mem → Prop} {o : Oper} (hc : opClass o.op = 1) (h : vop P σ m k o) : ∃ u dep, k u m ∧ FloatS P o σ u dep ∧ ∀ id ob, dep = some (id, ob) → m[id]? = some ob := by
  obtain ⟨dst, op, ty, pos, aft, g⟩ := o
  unfold vop at h
  have mk : ∀ (u : Value) (id : Nat) (ob : AObj) (x : Operand), x ∈ op.operands.toList → ((∃ a : Addr, ev σ x = some (.pointer (some a)) ∧ a.block = id) ∨ (∃ (a : Addr) (n c : Nat), ev σ x = some (.slice (some a) n c) ∧ a.block = id ∧ a.spot = none)) →
      (∀ m1 : Mem, m1[id]? = some ob → vop P σ m1 (fun v m' => v = u ∧ m' = m1) ⟨dst, op, ty, pos, aft, g⟩) → FloatS P ⟨dst, op, ty, pos, aft, g⟩ σ u (some (id, ob)) := by
    intro u id ob x hx hid hv m1 hm
    rcases hm id ob rfl with hm | hm
    · exact opOK_of_vop (hv m1 hm)
    · exact opOK_none hx hid hm
  cases op <;> simp only [opClass] at hc <;> simp only at h <;> first
    | (exact absurd hc (by decide))
    | skip
  case load t x =>
    unfold vload at h
    split at h
    · rename_i a0 gg sz by_ z hx hg hi
      obtain ⟨hs, o, hm, hk, h⟩ := h
      cases gg
      · simp only [Bool.false_eq_true, if_false] at h
        obtain ⟨v, hv, h⟩ := h
        refine ⟨v, some (a0.block, o), h, mk v _ _ x (by simp [Op.operands]) (.inl ⟨a0, hx, rfl⟩) fun m1 hm1 => ?_, fun id ob e => by injection e with e; injection e with e1 e2; rw [← e1, ← e2]; exact hm⟩
        simp only [vop, vload, hx, hg, hi]
        exact ⟨hs, o, hm1, hk, by simp only [Bool.false_eq_true, if_false]; exact ⟨v, hv, by simp⟩⟩
      · simp only [if_true] at h
        refine ⟨_, some (a0.block, o), h.2, mk _ _ _ x (by simp [Op.operands]) (.inl ⟨a0, hx, rfl⟩) fun m1 hm1 => ?_, fun id ob e => by injection e with e; injection e with e1 e2; rw [← e1, ← e2]; exact hm⟩
        simp only [vop, vload, hx, hg, hi]
        exact ⟨hs, o, hm1, hk, by simp only [if_true]; exact ⟨h.1, by simp⟩⟩
    · exact h.elim
  case convert s d x =>
    unfold vconvert at h
    split at h
    · split at h
      · refine ⟨_, none, h.2, fun m1 _ => opOK_of_vop (by simp only [vop, vconvert]; simp [*, h.1]), fun id ob e => by cases e⟩
      · exact h.elim
    · rename_i a0 n c hx
      obtain ⟨h1, h2, hs, o, hm, hk, hsz, hle, xs, hcs, h⟩ := h
      refine ⟨_, some (a0.block, o), h, mk _ _ _ x (by simp [Op.operands]) (.inr ⟨a0, n, c, hx, rfl, hs⟩) fun m1 hm1 => ?_, fun id ob e => by injection e with e; injection e with e1 e2; rw [← e1, ← e2]; exact hm⟩
      simp only [vop, vconvert, hx]
      exact ⟨h1, h2, hs, o, hm1, hk, hsz, hle, xs, hcs, by simp⟩
    · exact h.elim
  case indexAddr t x y =>
    unfold vindexAddr at h
    split at h
    · rename_i a0 n c kk i e hx hy he
      split at h
      · rename_i sz by_ z hi
        obtain ⟨hs, hi0, o, hm, hk, hsz, h⟩ := h
        refine ⟨_, some (a0.block, o), h, mk _ _ _ x (by simp [Op.operands]) (.inr ⟨a0, n, c, hx, rfl, hs⟩) fun m1 hm1 => ?_, fun id ob e => by injection e with e; injection e with e1 e2; rw [← e1, ← e2]; exact hm⟩
        simp only [vop, vindexAddr, hx, hy, he, hi]
        exact ⟨hs, hi0, o, hm1, hk, hsz, by simp⟩
      · exact h.elim
    · rename_i a0 kk i hx hy
      split at h
      · rename_i n e he
        split at h
        · rename_i sz by_ z hi
          refine ⟨_, none, h.2.2, fun m1 _ => opOK_of_vop (by simp only [vop, vindexAddr, hx, hy, he, hi]; exact ⟨h.1, h.2.1, by simp⟩), fun id ob e => by cases e⟩
        · exact h.elim
      · exact h.elim
    · exact h.elim
  case slice t x lo hi mx =>
    unfold vslice at h
    obtain ⟨hmx, h⟩ := h
    have vb : ∀ {x : Option Operand} {d : Nat} {kk kk' : Nat → Prop}, vbound σ x d kk → ∃ n, kk n ∧ (kk' n → vbound σ x d kk') := by
      intro x d kk kk' h
      unfold vbound at h ⊢
      split at h
      · exact ⟨_, h, fun h => h⟩
      · split at h
        · exact ⟨_, h.2, fun h' => by simp [*, h.1]⟩
        · exact h.elim
    split at h
    · rename_i a0 n c hx
      split at h
      · rename_i e he
        split at h
        · rename_i sz by_ z hi'
          obtain ⟨hs, o, hm, hk, hsz, h⟩ := h
          have fin : ∀ (u : Value), k u m → (∀ m1 : Mem, m1[a0.block]? = some o → vop P σ m1 (fun v m' => v = u ∧ m' = m1) ⟨dst, .slice t x lo hi mx, ty, pos, aft, g⟩) →
              ∃ u dep, k u m ∧ FloatS P ⟨dst, .slice t x lo hi mx, ty, pos, aft, g⟩ σ u dep ∧ ∀ id ob, dep = some (id, ob) → m[id]? = some ob := by
            intro u hu hv
            exact ⟨u, some (a0.block, o), hu, mk u _ _ x (by simp [Op.operands]) (.inr ⟨a0, n, c, hx, rfl, hs⟩) hv, fun id ob e => by injection e with e; injection e with e1 e2; rw [← e1, ← e2]; exact hm⟩
          have hb1 : ∀ (lo' : Option Operand) (kk : Nat → Prop), vbound σ lo' 0 kk → ∃ l, kk l ∧ ∀ kk' : Nat → Prop, kk' l → vbound σ lo' 0 kk' := by
            intro lo' kk h
            unfold vbound at h ⊢
            split at h
            · exact ⟨_, h, fun _ h => h⟩
            · split at h
              · exact ⟨_, h.2, fun _ h' => by simp [*, h.1]⟩
              · exact h.elim
          have hb2 : ∀ (d : Nat) (lo' : Option Operand) (kk : Nat → Prop), vbound σ lo' d kk → ∃ l, kk l ∧ ∀ kk' : Nat → Prop, kk' l → vbound σ lo' d kk' := by
            intro d lo' kk h
            unfold vbound at h ⊢
            split at h
            · exact ⟨_, h, fun _ h => h⟩
            · split at h
              · exact ⟨_, h.2, fun _ h' => by simp [*, h.1]⟩
              · exact h.elim
          obtain ⟨hh, ⟨hhn, h⟩, hhk⟩ := hb2 _ _ _ h
          obtain ⟨l, ⟨hlh, h1, h2⟩, hlk⟩ := hb2 _ _ _ h
          by_cases hc2 : l = 0 ∨ l < hh
          · refine fin _ (h1 hc2) fun m1 hm1 => ?_
            simp only [vop, vslice, hx, he, hi']
            exact ⟨hmx, hs, o, hm1, hk, hsz, hhk _ ⟨hhn, hlk _ ⟨hlh, fun _ => by simp, fun hn => absurd hc2 hn⟩⟩⟩
          · refine fin _ (h2 hc2) fun m1 hm1 => ?_
            simp only [vop, vslice, hx, he, hi']
            exact ⟨hmx, hs, o, hm1, hk, hsz, hhk _ ⟨hhn, hlk _ ⟨hlh, fun hn => absurd hn hc2, fun _ => by simp⟩⟩⟩
        · exact h.elim
      · exact h.elim
    · rename_i n c hx
      obtain ⟨he, h⟩ := h
      have hb2 : ∀ (d : Nat) (lo' : Option Operand) (kk : Nat → Prop), vbound σ lo' d kk → ∃ l, kk l ∧ ∀ kk' : Nat → Prop, kk' l → vbound σ lo' d kk' := by
        intro d lo' kk h
        unfold vbound at h ⊢
        split at h
        · exact ⟨_, h, fun _ h => h⟩
        · split at h
          · exact ⟨_, h.2, fun _ h' => by simp [*, h.1]⟩
          · exact h.elim
      obtain ⟨hh, ⟨h0, h⟩, hhk⟩ := hb2 _ _ _ h
      obtain ⟨l, ⟨l0, h⟩, hlk⟩ := hb2 _ _ _ h
      refine ⟨_, none, h, fun m1 _ => opOK_of_vop ?_, fun id ob e => by cases e⟩
      simp only [vop, vslice, hx]
      exact ⟨hmx, he, hhk _ ⟨h0, hlk _ ⟨l0, by simp⟩⟩⟩
    · rename_i s hx
      obtain ⟨he, h⟩ := h
      have hb2 : ∀ (d : Nat) (lo' : Option Operand) (kk : Nat → Prop), vbound σ lo' d kk → ∃ l, kk l ∧ ∀ kk' : Nat → Prop, kk' l → vbound σ lo' d kk' := by
        intro d lo' kk h
        unfold vbound at h ⊢
        split at h
        · exact ⟨_, h, fun _ h => h⟩
        · split at h
          · exact ⟨_, h.2, fun _ h' => by simp [*, h.1]⟩
          · exact h.elim
      obtain ⟨hh, ⟨h0, h⟩, hhk⟩ := hb2 _ _ _ h
      obtain ⟨l, ⟨l0, h⟩, hlk⟩ := hb2 _ _ _ h
      refine ⟨_, none, h, fun m1 _ => opOK_of_vop ?_, fun id ob e => by cases e⟩
      simp only [vop, vslice, hx]
      exact ⟨hmx, he, hhk _ ⟨h0, hlk _ ⟨l0, by simp⟩⟩⟩
    · exact h.elim
  case call c =>
    obtain ⟨callee, args, tys⟩ := c
    cases callee with
    | value f => exact absurd hc (by simp)
    | invoke r n => exact absurd hc (by simp)
    | builtin b => cases b <;> exact absurd hc (by simp)

end Go.Abs
