/-
  Abs, part 4: 'vop' is sound. Conditions: none; generic in the program.
-/
import Derived.Test.YtmbijgnmbapchaaGreatDoorAbsOps
set_option linter.unusedSimpArgs false
set_option linter.unusedVariables false
set_option linter.unusedSectionVars false
namespace Go.Abs
open Go.RowKit

variable {P : Program} {σ : Fr} {m : Mem} {k : Value → Mem → Prop}

/-- What is wanted of 'vop': one value, one memory. -/
def Good (P : Program) (σ : Fr) (m : Mem) (o : Oper) (k : Value → Mem → Prop) : Prop := ∃ v m', OpOK P o σ m v m' ∧ k v m'

theorem conc3_int {ρ : List (Option Row)} {kk : IntKind} {n : Int} {v' : Value} (h : conc3 ρ (.int kk n) v') : v' = .int kk n := h
theorem conc3_bool {ρ : List (Option Row)} {b : Bool} {v' : Value} (h : conc3 ρ (.bool b) v') : v' = .bool b := h
theorem conc3_str {ρ : List (Option Row)} {s : ByteArray} {v' : Value} (h : conc3 ρ (.string s) v') : v' = .string s := h
theorem conc3_ptr {ρ : List (Option Row)} {a : Addr} {v' : Value} (h : conc3 ρ (.pointer (some a)) v') : a.spot = none ∧ ∃ r, ρ[a.block]? = some (some r) ∧ v' = .pointer (some ⟨r.blk, r.base + a.off, none⟩) := h

theorem good_move {dst : Option Nat} {x : Operand} {ty : TypeId} {pos : String} {aft : Array Edge} {g : Option (Nat × Bool)} (op : Op) (hop : op = .move x ∨ op = .assign x)
    (h : vmove σ m k x) : Good P σ m ⟨dst, op, ty, pos, aft, g⟩ k := by
  unfold vmove at h
  split at h
  · rename_i v hv
    refine ⟨v, m, OpOK.same fun W0 ρ w a hr ho => ⟨a.eval x, ho x (by rcases hop with rfl | rfl <;> simp [Op.operands]) v hv, ?_⟩, h⟩
    rcases hop with rfl | rfl <;> simp [execOp]
  · exact h.elim

theorem good_pick {dst : Option Nat} {c x y : Operand} {ty : TypeId} {pos : String} {aft : Array Edge} {g : Option (Nat × Bool)}
    (h : vpick σ m k c x y) : Good P σ m ⟨dst, .pick c x y, ty, pos, aft, g⟩ k := by
  unfold vpick at h
  split at h
  · rename_i b hb
    have key : ∀ (z : Operand), (b = true → z = x) → (b = false → z = y) → vmove σ m k z → Good P σ m ⟨dst, .pick c x y, ty, pos, aft, g⟩ k := by
      intro z h1 h2 hz
      unfold vmove at hz
      split at hz
      · rename_i v hv
        refine ⟨v, m, OpOK.same fun W0 ρ w a hr ho => ⟨a.eval z, ho z (by cases b <;> simp_all [Op.operands]) v hv, ?_⟩, hz⟩
        have hc := conc3_bool (ho c (by simp [Op.operands]) _ hb)
        cases b <;> simp_all [execOp, asBool]
      · exact hz.elim
    cases b
    · exact key y (by simp) (by simp) (h.2 rfl)
    · exact key x (by simp) (by simp) (h.1 rfl)
  · exact h.elim

theorem good_nilCheck {dst : Option Nat} {x : Operand} {ty : TypeId} {pos : String} {aft : Array Edge} {g : Option (Nat × Bool)}
    (h : vnilCheck σ m k x) : Good P σ m ⟨dst, .nilCheck x, ty, pos, aft, g⟩ k := by
  unfold vnilCheck at h
  split at h
  · rename_i a0 hv
    refine ⟨_, m, OpOK.same fun W0 ρ w a hr ho => ⟨a.eval x, ho x (by simp [Op.operands]) _ hv, ?_⟩, h⟩
    obtain ⟨_, r, _, hx⟩ := conc3_ptr (ho x (by simp [Op.operands]) _ hv)
    simp [execOp, hx]
  · rename_i f fs cs hv
    refine ⟨_, m, OpOK.same fun W0 ρ w a hr ho => ⟨a.eval x, ho x (by simp [Op.operands]) _ hv, ?_⟩, h⟩
    obtain ⟨_, cs', hx, _⟩ := ho x (by simp [Op.operands]) _ hv
    simp [execOp, hx]
  · exact h.elim

theorem good_un {dst : Option Nat} {op : UnOp} {t : TypeId} {x : Operand} {ty : TypeId} {pos : String} {aft : Array Edge} {g : Option (Nat × Bool)}
    (h : vun σ m k op x) : Good P σ m ⟨dst, .unOp op t x, ty, pos, aft, g⟩ k := by
  unfold vun at h
  split at h
  · rename_i b hv
    refine ⟨.bool (!b), m, OpOK.same fun W0 ρ w a hr ho => ⟨.bool (!b), rfl, ?_⟩, h⟩
    have hx := conc3_bool (ho x (by simp [Op.operands]) _ hv)
    simp [execOp, hx, Op.unary]
  · rename_i kk n hv
    refine ⟨.int kk (kk.wrap (0 - n)), m, OpOK.same fun W0 ρ w a hr ho => ⟨.int kk (kk.wrap (0 - n)), rfl, ?_⟩, h⟩
    have hx := conc3_int (ho x (by simp [Op.operands]) _ hv)
    simp [execOp, hx, Op.unary, Op.intArith]
  · exact h.elim

theorem good_extract {dst : Option Nat} {x : Operand} {i : Nat} {ty : TypeId} {pos : String} {aft : Array Edge} {g : Option (Nat × Bool)}
    (h : vextract σ m k x i) : Good P σ m ⟨dst, .extract x i, ty, pos, aft, g⟩ k := by
  unfold vextract at h
  split at h
  · rename_i vs hv
    split at h
    · rename_i v hvi
      refine ⟨v, m, OpOK.same fun W0 ρ w a hr ho => ?_, h⟩
      obtain ⟨vs', hx, hall⟩ := ho x (by simp [Op.operands]) _ hv
      obtain ⟨y, hy, hc⟩ := hall.get i v hvi
      refine ⟨y, ?_, ?_⟩
      · unfold conc3
        split
        · simp [conc2, conc1, conc0] at hc
        · exact hc
      · have hy' : vs'[i]? = some y := by simpa using hy
        simp [execOp, hx, Instr.extract, hy']
    · exact h.elim
  · exact h.elim

theorem slElem_spec {t e : TypeId} (h : slElem P t = some e) : P.underlying t = some (.slice e) := by
  unfold slElem at h
  split at h
  · injection h with h; subst h; assumption
  · cases h

theorem good_len {dst : Option Nat} {x : Operand} {t : TypeId} {ty : TypeId} {pos : String} {aft : Array Edge} {g : Option (Nat × Bool)}
    (h : vlen P σ m k t x) : Good P σ m ⟨dst, .call ⟨.builtin .len, #[x], #[t]⟩, ty, pos, aft, g⟩ k := by
  unfold vlen at h
  split at h
  · rename_i a0 n c hv
    obtain ⟨ht, h⟩ := h
    obtain ⟨e, he⟩ := Option.isSome_iff_exists.1 ht
    refine ⟨.int .i64 n, m, OpOK.same fun W0 ρ w a hr ho => ⟨.int .i64 n, rfl, ?_⟩, h⟩
    have hx : ∃ b c', a.eval x = .slice b n c' := by
      have := ho x (by simp [Op.operands, Call.operands]) _ hv
      cases a0 with
      | none => obtain ⟨hn, _, hx⟩ := this; exact ⟨none, 0, by rw [hx, hn]⟩
      | some a0 =>
        obtain ⟨_, ⟨_, r, _, _, hx⟩ | ⟨_, hn, b, c', hx⟩⟩ := this
        · exact ⟨_, _, hx⟩
        · exact ⟨some b, c', by rw [hx, hn]⟩
    obtain ⟨b, c', hx⟩ := hx
    simp [execOp, resolve, invoke, builtin, hx, Builtin.len_, run_underlying (slElem_spec he), goInt]
  · rename_i s hv
    obtain ⟨ht, h⟩ := h
    refine ⟨.int .i64 s.size, m, OpOK.same fun W0 ρ w a hr ho => ⟨.int .i64 s.size, rfl, ?_⟩, h⟩
    have hx := conc3_str (ho x (by simp [Op.operands, Call.operands]) _ hv)
    simp [execOp, resolve, invoke, builtin, hx, Builtin.len_, run_underlying ht, goInt]
  · exact h.elim

theorem good_int {dst : Option Nat} {op : BinOp} {t t' : TypeId} {x y : Operand} {ty : TypeId} {pos : String} {aft : Array Edge} {g : Option (Nat × Bool)} {ka kb : IntKind} {i j : Int}
    (hx : ev σ x = some (.int ka i)) (hy : ev σ y = some (.int kb j)) (h : vint m k op ka i kb j) : Good P σ m ⟨dst, .binOp op t x y t', ty, pos, aft, g⟩ k := by
  have key : ∀ v, k v m → (∀ ρ, conc3 ρ v v) → (∀ w : World, (do eqGuard op t x y (.int ka i) (.int kb j); binOp op t (.int ka i) (.int kb j) : Sem Value).run P w = .ok v w) → Good P σ m ⟨dst, .binOp op t x y t', ty, pos, aft, g⟩ k := by
    intro v hkv hc hrun
    refine ⟨v, m, OpOK.same fun W0 ρ w a hr ho => ⟨v, hc ρ, ?_⟩, hkv⟩
    have ex := conc3_int (ho x (by simp [Op.operands]) _ hx)
    have ey := conc3_int (ho y (by simp [Op.operands]) _ hy)
    have := hrun w
    simp only [execOp, ex, ey, Sem.run_bind, this, Result.andThen_ok, Sem.run_pure]
  unfold vint at h
  cases op <;> simp only at h <;> first
    | exact h.elim
    | (obtain ⟨rfl, hb, h⟩ := h; refine key _ h (fun _ => rfl) fun w => ?_; simp [go_sem, hb]; done)
    | (obtain ⟨rfl, h⟩ := h; refine key _ h (fun _ => rfl) fun w => ?_; simp [go_sem]; done)
    | skip
  case and => obtain ⟨rfl, h⟩ := h; refine key _ h (fun _ => rfl) fun w => ?_; simp [go_sem, Op.intBits]
  case shr => obtain ⟨hb, h⟩ := h; refine key _ h (fun _ => rfl) fun w => ?_; simp [go_sem, Op.shift, Int.not_lt.2 hb]
  case shl => obtain ⟨hb, h⟩ := h; refine key _ h (fun _ => rfl) fun w => ?_; simp [go_sem, Op.shift, Int.not_lt.2 hb]

theorem good_str {dst : Option Nat} {op : BinOp} {t t' : TypeId} {x y : Operand} {ty : TypeId} {pos : String} {aft : Array Edge} {g : Option (Nat × Bool)} {i j : ByteArray}
    (hx : ev σ x = some (.string i)) (hy : ev σ y = some (.string j)) (h : vstr m k op i j) : Good P σ m ⟨dst, .binOp op t x y t', ty, pos, aft, g⟩ k := by
  have key : ∀ v, k v m → (∀ ρ, conc3 ρ v v) → (∀ w : World, (do eqGuard op t x y (.string i) (.string j); binOp op t (.string i) (.string j) : Sem Value).run P w = .ok v w) → Good P σ m ⟨dst, .binOp op t x y t', ty, pos, aft, g⟩ k := by
    intro v hkv hc hrun
    refine ⟨v, m, OpOK.same fun W0 ρ w a hr ho => ⟨v, hc ρ, ?_⟩, hkv⟩
    have ex := conc3_str (ho x (by simp [Op.operands]) _ hx)
    have ey := conc3_str (ho y (by simp [Op.operands]) _ hy)
    have := hrun w
    simp only [execOp, ex, ey, Sem.run_bind, this, Result.andThen_ok, Sem.run_pure]
  unfold vstr at h
  cases op <;> simp only at h <;> first
    | exact h.elim
    | (refine key _ h (fun _ => rfl) fun w => ?_; simp [go_sem, binOp, Op.stringOp]; done)
    | skip
  case add =>
    obtain ⟨hb, h⟩ := h
    refine key _ h (fun _ => rfl) fun w => ?_
    have : ¬ (9223372036854775807 : Int) < (i.size : Int) + j.size := by omega
    simp [go_sem, binOp, Op.stringOp, this]

end Go.Abs
