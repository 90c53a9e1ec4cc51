/-
  Contracts of the source of choices: whatever it reads, what it picks lies within bounds. Conditions: none.
-/
import Derived.Test.YtmbijgnmbapchaaGreatDoorBase
import Derived.Test.YtmbijgnmbapchaaGreatDoorAbsByte
import Derived.Test.YtmbijgnmbapchaaGreatDoorRest
set_option linter.unusedSimpArgs false
set_option linter.unusedVariables false
set_option linter.unusedSectionVars false
namespace Go.Proofs.YtmbijgnmbapchaaGreatDoor
open Go.Abs Go.RowKit

abbrev SrcA (is : Nat) (a : Option Addr) (code : List Int) (k : Int) (m : Mem) : Prop := SrcAt 70 is a code k m
def NextIs (is : Nat) (a : Option Addr) (code : List Int) (k lo hi : Int) (m : Mem) (v : Value) (m' : Mem) : Prop :=
  ∃ x, v = .int .i64 x ∧ (lo ≤ x ∧ x ≤ hi) ∧ But is m m' ∧ SrcA is a code k m' ∧ m'.length = m.length
theorem l00From_c (a : Option Addr) (code : List Int) (m : Mem) : ACalls Tryz.prog 20 [.slice a code.length code.length] m (.pointer (some ⟨m.length, 0, none⟩)) (m ++ [⟨[.slice a code.length code.length, .int .i64 0, .int .u64 0], 70, 3, 1⟩]) := by
  refine acalls_of_vc Tryz.func20 rfl Tryz.fol (by kernel_rfl) ?_
  simp only [Tryz.f20]
  simp -dsimp -implicitDefEqProofs
  exact GC.refl _ _ _
theorem srcNew {a : Option Addr} {code : List Int} {m : Mem} (h : RdB m a code) (hl : code.length ≤ 1048576) : SrcA m.length a code 0 (m ++ [⟨[.slice a code.length code.length, .int .i64 0, .int .u64 0], 70, 3, 1⟩]) :=
  ⟨⟨0, 0, by simp, by omega, by omega⟩, ⟨RdG.ext h.1 _, h.2⟩, hl, h.blk⟩
set_option maxRecDepth 20000 in
theorem next_c (is : Nat) (a : Option Addr) (code : List Int) (k : Int) (hk : k < 1000000000) (m : Mem) (h : SrcA is a code k m) :
    ∃ v m', ACalls Tryz.prog 53 [.pointer (some ⟨is, 0, none⟩)] m v m' ∧ NextIs is a code (k + 1) 0 255 m v m' := by
  obtain ⟨⟨p, seed, hm, hp0, hpk⟩, hrd, hlen, hoff⟩ := h
  have hw : IntKind.i64.wrap (p + 1) = p + 1 := wrapI (by omega) (by omega)
  have hset : ∀ x y z : AObj, withO (m.set is x) is = withO (m.set is x) is := fun _ _ _ => rfl
  have fin : ∀ (x y : Int), 0 ≤ x ∧ x ≤ 255 → NextIs is a code (k + 1) 0 255 m (.int .i64 x) (m.set is ⟨[.slice a code.length code.length, .int .i64 (p + 1), .int .u64 y], 70, 3, 1⟩) := fun x y hx =>
    ⟨x, rfl, hx, But.set m _, ⟨⟨p + 1, y, get_set hm _, by omega, by omega⟩, ⟨(But.set m _).rd (fun h0 x hx => Nat.ne_of_lt (hoff h0 x hx)) hrd.1, hrd.2⟩, hlen, hoff⟩, by simp⟩
  have hand : ∀ n : Nat, 0 ≤ IntKind.i64.wrap (IntKind.u64.wrap ((n &&& 255 % 2 ^ IntKind.u64.bits : Nat) : Int)) ∧ IntKind.i64.wrap (IntKind.u64.wrap ((n &&& 255 % 2 ^ IntKind.u64.bits : Nat) : Int)) ≤ 255 := fun n => by
    have h1 : (n &&& 255 % 2 ^ IntKind.u64.bits) ≤ 255 := Nat.le_trans Nat.and_le_right (by decide)
    rw [IntKind.wrap_u64, IntKind.wrap_i64]
    omega
  by_cases hlt : p < (code.length : Int)
  · obtain ⟨pn, rfl⟩ : ∃ n : Nat, p = n := ⟨p.toNat, by omega⟩
    obtain ⟨id, off, o, rfl, hm2, hkd, hsz, hc, hb0, hb1⟩ := hrd.at_ (i := pn) (by omega)
    have hne := hoff (by omega) _ rfl
    simp only at hne
    have hcw : IntKind.i64.wrap code[pn] = code[pn] := wrapI (by omega) (by omega)
    have hle : ((pn : Int) + 1 ≤ (code.length : Int)) := by omega
    have hnn : (0 : Int) ≤ pn := by omega
    refine ecalls_of_vc Tryz.func53 rfl Tryz.fol (by kernel_rfl) ?_
    simp only [Tryz.f53]
    simp -dsimp -implicitDefEqProofs
    simp -dsimp -implicitDefEqProofs [withO_of hm, hlt, withO_of hm2, hkd, hsz, withC_of hc, fun x => withO_of (get_set hm x), hw, hle, hcw, List.set_set]
    exact ⟨_, _, GC.refl _ _ _, fin _ _ ⟨hb0, hb1⟩⟩
  · have hgt : ¬ (p + 1 ≤ (code.length : Int)) := by omega
    refine ecalls_of_vc Tryz.func53 rfl Tryz.fol (by kernel_rfl) ?_
    simp only [Tryz.f53]
    simp -dsimp -implicitDefEqProofs
    simp -dsimp -implicitDefEqProofs [withO_of hm, hlt, fun x => withO_of (get_set hm x), hw, hgt, List.set_set]
    exact ⟨_, _, GC.refl _ _ _, fin _ _ (hand _)⟩
theorem pick_c (is : Nat) (a : Option Addr) (code : List Int) (k n : Int) (hk : k < 900000000) (m : Mem) (h : SrcA is a code k m) :
    ∃ v m', ACalls Tryz.prog 30 [.pointer (some ⟨is, 0, none⟩), .int .i64 n] m v m' ∧ NextIs is a code (k + 2) 0 (if n ≤ 1 then 0 else n - 1) m v m' := by
  by_cases h1 : n ≤ 1
  · refine ecalls_of_vc Tryz.func30 rfl Tryz.fol (by kernel_rfl) ?_
    simp only [Tryz.f30]
    simp -dsimp -implicitDefEqProofs
    simp -dsimp -implicitDefEqProofs [h1]
    exact ⟨_, _, GC.refl _ _ _, 0, rfl, by simp [h1], But.refl _ _, h.mono (by omega), rfl⟩
  · have hn0 : n ≠ 0 := by omega
    obtain ⟨v, m1, hc1, x, rfl, hx, hb1, hs1, hl1⟩ := next_c is a code k (by omega) m h
    obtain ⟨v2, m2, hc2, y, rfl, hy, hb2, hs2, hl2⟩ := next_c is a code (k + 1) (by omega) m1 hs1
    have hmod : ∀ z : Int, 0 ≤ z → 0 ≤ z.tmod n ∧ z.tmod n ≤ n - 1 := fun z hz => by
      rw [Int.tmod_eq_emod_of_nonneg hz]
      exact ⟨Int.emod_nonneg _ hn0, by have := Int.emod_lt_of_pos z (show 0 < n by omega); omega⟩
    have hw1 : IntKind.i64.wrap (x * 256) = x * 256 := wrapI (by omega) (by omega)
    have hw2 : IntKind.i64.wrap (x * 256 + y) = x * 256 + y := wrapI (by omega) (by omega)
    refine ecalls_of_vc Tryz.func30 rfl Tryz.fol (by kernel_rfl) ?_
    simp only [Tryz.f30]
    simp -dsimp -implicitDefEqProofs
    simp -dsimp -implicitDefEqProofs [h1, hn0, hw1, hw2]
    refine callsTo Tryz.cal53 hc1 ?_
    simp -dsimp -implicitDefEqProofs [h1, hn0, hw1, hw2]
    refine sp2 (fun g => ?_) (fun g => ?_)
    · refine callsTo Tryz.cal53 hc2 ?_
      simp -dsimp -implicitDefEqProofs [h1, hn0, hw1, hw2]
      exact ⟨_, _, GC.refl _ _ _, (x * 256 + y).tmod n, rfl, hmod (x * 256 + y) (by omega), hb1.trans hb2, hs2.mono (by omega), by omega⟩
    · exact ⟨_, _, GC.refl _ _ _, x.tmod n, rfl, hmod x (by omega), hb1, hs1.mono (by omega), hl1⟩
end Go.Proofs.YtmbijgnmbapchaaGreatDoor
namespace Go.Proofs.YtmbijgnmbapchaaGreatDoor
open Go.Abs Go.RowKit

def OneIs (is : Nat) (a : Option Addr) (code : List Int) (k : Int) (m : Mem) (v : Value) (m' : Mem) : Prop :=
  ∃ b, v = .bool b ∧ But is m m' ∧ SrcA is a code k m' ∧ m'.length = m.length
theorem one_c (is : Nat) (a : Option Addr) (code : List Int) (k n : Int) (hk : k < 900000000) (m : Mem) (h : SrcA is a code k m) :
    ∃ v m', ACalls Tryz.prog 41 [.pointer (some ⟨is, 0, none⟩), .int .i64 n] m v m' ∧ OneIs is a code (k + 2) m v m' := by
  obtain ⟨v, m1, hc1, x, rfl, hx, hb1, hs1, hl1⟩ := pick_c is a code k n hk m h
  refine ecalls_of_vc Tryz.func41 rfl Tryz.fol (by kernel_rfl) ?_
  simp only [Tryz.f41]
  simp -dsimp -implicitDefEqProofs
  refine callsTo Tryz.cal30 hc1 ?_
  simp -dsimp -implicitDefEqProofs
  exact ⟨_, _, GC.refl _ _ _, _, rfl, hb1, hs1, hl1⟩
def AmongIs (is : Nat) (a : Option Addr) (code : List Int) (k : Int) (m : Mem) (v : Value) (m' : Mem) : Prop :=
  ∃ x : Int, v = .int .i64 x ∧ But is m m' ∧ SrcA is a code k m' ∧ m'.length = m.length
theorem butRdI {is : Nat} {m m' : Mem} (h : But is m m') {a : Option Addr} {xs : List Int} (ha : ∀ x, a = some x → x.block ≠ is) (hr : RdI m a xs) : RdI m' a xs := h.rd (fun _ => ha) hr
theorem among_c (is : Nat) (a : Option Addr) (code : List Int) (k : Int) (hk : k < 900000000) (xs : List Int) (b : Option Addr) (m : Mem) (h : SrcA is a code k m) (hx : 0 < xs.length ∧ xs.length ≤ 1000) (hr : RdI m b xs) (hb : ∀ x, b = some x → x.block ≠ is) :
    ∃ v m', ACalls Tryz.prog 31 [.pointer (some ⟨is, 0, none⟩), .slice b xs.length xs.length] m v m' ∧ AmongIs is a code (k + 2) m v m' := by
  obtain ⟨v, m1, hc1, x, rfl, hxx, hb1, hs1, hl1⟩ := pick_c is a code k xs.length hk m h
  obtain ⟨p, rfl⟩ : ∃ p : Nat, x = p := ⟨x.toNat, by omega⟩
  have hp : p < xs.length := by split at hxx <;> omega
  obtain ⟨id, off, o, rfl, hm, hkd, hsz, hc⟩ := (butRdI hb1 hb hr).at_ hp
  refine ecalls_of_vc Tryz.func31 rfl Tryz.fol (by kernel_rfl) ?_
  simp only [Tryz.f31]
  simp -dsimp -implicitDefEqProofs
  refine callsTo Tryz.cal30 hc1 ?_
  simp -dsimp -implicitDefEqProofs
  simp -dsimp -implicitDefEqProofs [withO_of hm, hkd, hsz, withC_of hc, hp]
  exact ⟨_, _, GC.refl _ _ _, _, rfl, hb1, hs1, hl1⟩
theorem amongLit_c (is : Nat) (a : Option Addr) (code : List Int) (k : Int) (hk : k < 900000000) (xs : List Int) (n : Nat) (hn : xs.length = n) (m : Mem) (h : SrcA is a code k m) (hx : 0 < n ∧ n ≤ 1000) :
    ∃ v m', ACalls Tryz.prog 31 [.pointer (some ⟨is, 0, none⟩), .slice (some ⟨m.length, 0, none⟩) n n] (m ++ [⟨xs.map (Value.int .i64), 2, 1, 1⟩]) v m' ∧ ∃ x : Int, v = .int .i64 x ∧ But is m m' ∧ SrcA is a code (k + 2) m' ∧ m'.length = m.length + 1 := by
  have his : is < m.length := lt_of_get h.obj.choose_spec.choose_spec.1
  subst hn
  obtain ⟨v, m', hc, x, rfl, hb, hs, hl⟩ := among_c is a code k hk xs (some ⟨m.length, 0, none⟩) _ (h.app [⟨xs.map (Value.int .i64), 2, 1, 1⟩]) hx (RdI.of_get (o := ⟨xs.map (Value.int .i64), 2, 1, 1⟩) (by simp) (by simp) rfl rfl) (fun x h => by injection h with h; subst h; simp only; omega)
  exact ⟨_, _, hc, x, rfl, (But.app is m _).trans hb, hs, by simpa using hl⟩
theorem f6big_c (a : Option Addr) (n : Nat) (m : Mem) : ACalls Tryz.prog 4 [.slice a n n] m (.bool (decide ((4096 : Int) < n))) m := by
  refine acalls_of_vc Tryz.func4 rfl Tryz.fol (by kernel_rfl) ?_
  simp only [Tryz.f4]
  simp -dsimp -implicitDefEqProofs
  exact GC.eq (by simp)
end Go.Proofs.YtmbijgnmbapchaaGreatDoor
