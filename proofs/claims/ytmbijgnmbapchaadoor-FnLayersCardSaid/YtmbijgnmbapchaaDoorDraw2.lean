/-
  More contracts of the source of choices, and of the laws' small helpers. Conditions: none.
-/
import Derived.Test.YtmbijgnmbapchaaDoorDraw
import Derived.Test.YtmbijgnmbapchaaDoorRest
set_option linter.unusedSimpArgs false
set_option linter.unusedVariables false
set_option linter.unusedSectionVars false
namespace Go.Proofs.YtmbijgnmbapchaaDoor
open Go.Abs Go.RowKit

def OneIs (is : Nat) (a : Option Addr) (code : List Int) (k : Int) (m : Mem) (v : Value) (m' : Mem) : Prop :=
  ∃ b, v = .bool b ∧ But is m m' ∧ SrcA is a code k m' ∧ m'.length = m.length
theorem one_c (is : Nat) (a : Option Addr) (code : List Int) (k n : Int) (hk : k < 900000000) (m : Mem) (h : SrcA is a code k m) :
    ∃ v m', ACalls Tryd.prog 78 [.pointer (some ⟨is, 0, none⟩), .int .i64 n] m v m' ∧ OneIs is a code (k + 2) m v m' := by
  obtain ⟨v, m1, hc1, x, rfl, hx, hb1, hs1, hl1⟩ := pick_c is a code k n hk m h
  refine ecalls_of_vc Tryd.func78 rfl Tryd.fol (by kernel_rfl) ?_
  simp only [Tryd.f78]
  simp -dsimp -implicitDefEqProofs
  refine callsTo Tryd.cal76 hc1 ?_
  simp -dsimp -implicitDefEqProofs
  exact ⟨_, _, GC.refl _ _ _, _, rfl, hb1, hs1, hl1⟩
def AmongIs (is : Nat) (a : Option Addr) (code : List Int) (k : Int) (m : Mem) (v : Value) (m' : Mem) : Prop :=
  ∃ x : Int, v = .int .i64 x ∧ But is m m' ∧ SrcA is a code k m' ∧ m'.length = m.length
theorem butRdI {is : Nat} {m m' : Mem} (h : But is m m') {a : Option Addr} {xs : List Int} (ha : ∀ x, a = some x → x.block ≠ is) (hr : RdI m a xs) : RdI m' a xs := h.rd (fun _ => ha) hr
theorem among_c (is : Nat) (a : Option Addr) (code : List Int) (k : Int) (hk : k < 900000000) (xs : List Int) (b : Option Addr) (m : Mem) (h : SrcA is a code k m) (hx : 0 < xs.length ∧ xs.length ≤ 1000) (hr : RdI m b xs) (hb : ∀ x, b = some x → x.block ≠ is) :
    ∃ v m', ACalls Tryd.prog 79 [.pointer (some ⟨is, 0, none⟩), .slice b xs.length xs.length] m v m' ∧ AmongIs is a code (k + 2) m v m' := by
  obtain ⟨v, m1, hc1, x, rfl, hxx, hb1, hs1, hl1⟩ := pick_c is a code k xs.length hk m h
  obtain ⟨p, rfl⟩ : ∃ p : Nat, x = p := ⟨x.toNat, by omega⟩
  have hp : p < xs.length := by split at hxx <;> omega
  obtain ⟨id, off, o, rfl, hm, hkd, hsz, hc⟩ := (butRdI hb1 hb hr).at_ hp
  refine ecalls_of_vc Tryd.func79 rfl Tryd.fol (by kernel_rfl) ?_
  simp only [Tryd.f79]
  simp -dsimp -implicitDefEqProofs
  refine callsTo Tryd.cal76 hc1 ?_
  simp -dsimp -implicitDefEqProofs
  simp -dsimp -implicitDefEqProofs [withO_of hm, hkd, hsz, withC_of hc, hp]
  exact ⟨_, _, GC.refl _ _ _, _, rfl, hb1, hs1, hl1⟩
theorem amongLit_c (is : Nat) (a : Option Addr) (code : List Int) (k : Int) (hk : k < 900000000) (xs : List Int) (n : Nat) (hn : xs.length = n) (m : Mem) (h : SrcA is a code k m) (hx : 0 < n ∧ n ≤ 1000) :
    ∃ v m', ACalls Tryd.prog 79 [.pointer (some ⟨is, 0, none⟩), .slice (some ⟨m.length, 0, none⟩) n n] (m ++ [⟨xs.map (Value.int .i64), 2, 1, 1⟩]) v m' ∧ ∃ x : Int, v = .int .i64 x ∧ But is m m' ∧ SrcA is a code (k + 2) m' ∧ m'.length = m.length + 1 := by
  have his : is < m.length := lt_of_get h.obj.choose_spec.choose_spec.1
  subst hn
  obtain ⟨v, m', hc, x, rfl, hb, hs, hl⟩ := among_c is a code k hk xs (some ⟨m.length, 0, none⟩) _ (h.app [⟨xs.map (Value.int .i64), 2, 1, 1⟩]) hx (RdI.of_get (o := ⟨xs.map (Value.int .i64), 2, 1, 1⟩) (by simp) (by simp) rfl rfl) (fun x h => by injection h with h; subst h; simp only; omega)
  exact ⟨_, _, hc, x, rfl, (But.app is m _).trans hb, hs, by simpa using hl⟩
theorem f6big_c (a : Option Addr) (n : Nat) (m : Mem) : ACalls Tryd.prog 25 [.slice a n n] m (.bool (decide ((4096 : Int) < n))) m := by
  refine acalls_of_vc Tryd.func25 rfl Tryd.fol (by kernel_rfl) ?_
  simp only [Tryd.f25]
  simp -dsimp -implicitDefEqProofs
  exact GC.eq (by simp)
theorem f6ints_c (xs : List Int) (a b : Option Addr) (m : Mem) (hr : RdI m a xs) (hs : RdI m b xs) (hn : xs.length ≤ 1048576) : ACalls Tryd.prog 36 [.slice a xs.length xs.length, .slice b xs.length xs.length] m (.bool true) m := by
  refine acalls_of_vc Tryd.func36 rfl Tryd.fol (by kernel_rfl) ?_
  simp only [Tryd.f36]
  simp -dsimp -implicitDefEqProofs
  refine loopN xs.length (fun k σ m' => m' = m ∧ (σ 0 = some (.slice a xs.length xs.length) ∧ σ 1 = some (.slice b xs.length xs.length)) ∧ σ 5 = some (.int .i64 k)) ⟨rfl, by simp, by simp⟩ ?_
  rintro k σ m' hk ⟨rfl, ⟨s0, s1⟩, s5⟩
  by_cases hlt : k < xs.length
  · obtain ⟨id, off, o, rfl, hm, hkd, hsz, hc⟩ := hr.at_ hlt
    obtain ⟨id', off', o', rfl, hm', hkd', hsz', hc'⟩ := hs.at_ hlt
    have hw : IntKind.i64.wrap ((k : Int) + 1) = k + 1 := wrapI (by omega) (by omega)
    simp -dsimp -implicitDefEqProofs [s0, s1, s5, hlt, withO_of hm, hkd, hsz, withC_of hc, withO_of hm', hkd', hsz', withC_of hc', hw]
    exact next_ hlt ⟨rfl, by simp [s0, s1], by simp [hw]⟩
  · simp -dsimp -implicitDefEqProofs [s0, s1, s5, hlt]
    exact GC.refl _ _ _
theorem f6has_c (xs : List Int) (a : Option Addr) (n : Int) (m : Mem) (hr : RdI m a xs) (hn : xs.length ≤ 1048576) : ACalls Tryd.prog 38 [.slice a xs.length xs.length, .int .i64 n] m (.bool (decide (n ∈ xs))) m := by
  refine acalls_of_vc Tryd.func38 rfl Tryd.fol (by kernel_rfl) ?_
  simp only [Tryd.f38]
  simp -dsimp -implicitDefEqProofs
  refine loopN xs.length (fun k σ m' => m' = m ∧ (σ 0 = some (.slice a xs.length xs.length) ∧ σ 1 = some (.int .i64 n) ∧ σ 5 = some (.int .i64 k)) ∧ n ∉ xs.take k) ⟨rfl, by simp, by simp⟩ ?_
  rintro k σ m' hk ⟨rfl, ⟨s0, s1, s5⟩, hok⟩
  by_cases hlt : k < xs.length
  · obtain ⟨id, off, o, rfl, hm, hkd, hsz, hc⟩ := hr.at_ hlt
    have hw : IntKind.i64.wrap ((k : Int) + 1) = k + 1 := wrapI (by omega) (by omega)
    simp -dsimp -implicitDefEqProofs [s0, s1, s5, hlt, withO_of hm, hkd, hsz, withC_of hc, hw]
    refine sp2 (fun g => GC.eq ?_) (fun g => ?_)
    · simp at g
      subst g
      simp
    · simp at g
      refine next_ hlt ⟨rfl, by simp [s0, s1, hw], ?_⟩
      rw [List.take_add_one, List.getElem?_eq_getElem hlt]
      intro h
      rcases List.mem_append.1 h with h | h
      · exact hok h
      · simp at h; exact g h.symm
  · simp -dsimp -implicitDefEqProofs [s0, s1, s5, hlt]
    rw [List.take_of_length_le (by omega)] at hok
    exact GC.eq (by simp [hok])
end Go.Proofs.YtmbijgnmbapchaaDoor
