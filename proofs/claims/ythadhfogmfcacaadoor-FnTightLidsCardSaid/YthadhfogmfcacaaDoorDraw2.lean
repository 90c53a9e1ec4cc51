/-
  More contracts of the source of choices, and of the laws' small helpers. Conditions: none.
-/
import Derived.Test.YthadhfogmfcacaaDoorDraw
import Derived.Test.YthadhfogmfcacaaDoorRest
set_option linter.unusedSimpArgs false
set_option linter.unusedVariables false
set_option linter.unusedSectionVars false
namespace Go.Proofs.YthadhfogmfcacaaDoor
open Go.Abs Go.RowKit

def OneIs (is : Nat) (a : Option Addr) (code : List Int) (k : Int) (m : Mem) (v : Value) (m' : Mem) : Prop :=
  ∃ b, v = .bool b ∧ But is m m' ∧ SrcA is a code k m' ∧ m'.length = m.length
theorem one_c (is : Nat) (a : Option Addr) (code : List Int) (k n : Int) (hk : k < 900000000) (m : Mem) (h : SrcA is a code k m) :
    ∃ v m', ACalls Tryd.prog 41 [.pointer (some ⟨is, 0, none⟩), .int .i64 n] m v m' ∧ OneIs is a code (k + 2) m v m' := by
  obtain ⟨v, m1, hc1, x, rfl, hx, hb1, hs1, hl1⟩ := pick_c is a code k n hk m h
  refine ecalls_of_vc Tryd.func41 rfl Tryd.fol (by kernel_rfl) ?_
  simp only [Tryd.f41]
  simp -dsimp -implicitDefEqProofs
  refine callsTo Tryd.cal40 hc1 ?_
  simp -dsimp -implicitDefEqProofs
  exact ⟨_, _, GC.refl _ _ _, _, rfl, hb1, hs1, hl1⟩
def AmongIs (is : Nat) (a : Option Addr) (code : List Int) (k : Int) (m : Mem) (v : Value) (m' : Mem) : Prop :=
  ∃ x : Int, v = .int .i64 x ∧ But is m m' ∧ SrcA is a code k m' ∧ m'.length = m.length
theorem butRdI {is : Nat} {m m' : Mem} (h : But is m m') {a : Option Addr} {xs : List Int} (ha : ∀ x, a = some x → x.block ≠ is) (hr : RdI m a xs) : RdI m' a xs := h.rd (fun _ => ha) hr
theorem among_c (is : Nat) (a : Option Addr) (code : List Int) (k : Int) (hk : k < 900000000) (xs : List Int) (b : Option Addr) (m : Mem) (h : SrcA is a code k m) (hx : 0 < xs.length ∧ xs.length ≤ 1000) (hr : RdI m b xs) (hb : ∀ x, b = some x → x.block ≠ is) :
    ∃ v m', ACalls Tryd.prog 44 [.pointer (some ⟨is, 0, none⟩), .slice b xs.length xs.length] m v m' ∧ AmongIs is a code (k + 2) m v m' := by
  obtain ⟨v, m1, hc1, x, rfl, hxx, hb1, hs1, hl1⟩ := pick_c is a code k xs.length hk m h
  obtain ⟨p, rfl⟩ : ∃ p : Nat, x = p := ⟨x.toNat, by omega⟩
  have hp : p < xs.length := by split at hxx <;> omega
  obtain ⟨id, off, o, rfl, hm, hkd, hsz, hc⟩ := (butRdI hb1 hb hr).at_ hp
  refine ecalls_of_vc Tryd.func44 rfl Tryd.fol (by kernel_rfl) ?_
  simp only [Tryd.f44]
  simp -dsimp -implicitDefEqProofs
  refine callsTo Tryd.cal40 hc1 ?_
  simp -dsimp -implicitDefEqProofs
  simp -dsimp -implicitDefEqProofs [withO_of hm, hkd, hsz, withC_of hc, hp]
  exact ⟨_, _, GC.refl _ _ _, _, rfl, hb1, hs1, hl1⟩
theorem amongLit_c (is : Nat) (a : Option Addr) (code : List Int) (k : Int) (hk : k < 900000000) (xs : List Int) (n : Nat) (hn : xs.length = n) (m : Mem) (h : SrcA is a code k m) (hx : 0 < n ∧ n ≤ 1000) :
    ∃ v m', ACalls Tryd.prog 44 [.pointer (some ⟨is, 0, none⟩), .slice (some ⟨m.length, 0, none⟩) n n] (m ++ [⟨xs.map (Value.int .i64), 2, 1, 1⟩]) v m' ∧ ∃ x : Int, v = .int .i64 x ∧ But is m m' ∧ SrcA is a code (k + 2) m' ∧ m'.length = m.length + 1 := by
  have his : is < m.length := lt_of_get h.obj.choose_spec.choose_spec.1
  subst hn
  obtain ⟨v, m', hc, x, rfl, hb, hs, hl⟩ := among_c is a code k hk xs (some ⟨m.length, 0, none⟩) _ (h.app [⟨xs.map (Value.int .i64), 2, 1, 1⟩]) hx (RdI.of_get (o := ⟨xs.map (Value.int .i64), 2, 1, 1⟩) (by simp) (by simp) rfl rfl) (fun x h => by injection h with h; subst h; simp only; omega)
  exact ⟨_, _, hc, x, rfl, (But.app is m _).trans hb, hs, by simpa using hl⟩
theorem f6big_c (a : Option Addr) (n : Nat) (m : Mem) : ACalls Tryd.prog 8 [.slice a n n] m (.bool (decide ((4096 : Int) < n))) m := by
  refine acalls_of_vc Tryd.func8 rfl Tryd.fol (by kernel_rfl) ?_
  simp only [Tryd.f8]
  simp -dsimp -implicitDefEqProofs
  exact GC.eq (by simp)
end Go.Proofs.YthadhfogmfcacaaDoor
