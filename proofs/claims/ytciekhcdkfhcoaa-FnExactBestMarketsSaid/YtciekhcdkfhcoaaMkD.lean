/-
  Markets: marking. Conditions: none.
-/
import Derived.Test.YtciekhcdkfhcoaaMkA
set_option linter.unusedSimpArgs false
set_option linter.unusedVariables false
set_option linter.unusedSectionVars false
namespace Go.Proofs.Ytciekhcdkfhcoaa
open Go.Abs Go.RowKit

theorem markInt64S_o (zs ws : List Int) (n : Nat) (b : Int) (id : Nat) (e : TypeId) (m : Mem) (hm : m[id]? = some ⟨zs.map (Value.int .i64), e, 1, 1⟩) (hl : zs.length = n) (hw : mkCells 1 b n = ws.map (Value.int .i64)) (hn : n ≤ 1048576) (hb : 0 ≤ b ∧ b ≤ 10000000) :
    ACalls Try.prog 28 [.slice (some ⟨id, 0, none⟩) n n, .int .i64 b] m (.int .i64 (b + n)) (m.set id ⟨ws.map (Value.int .i64), e, 1, 1⟩) := by
  subst hl
  rw [← hw]
  exact markInt64S_c zs b id _ m hm rfl rfl (show 1 ≤ 1 ∧ 1 ≤ 2 by decide) hn hb
theorem markMarketS_c (xs : List Mk) (m2 m3 : Mem) (lo idm : Nat) (b : Int) (h : OwnM m2 lo idm 2 xs xs.length) (hp : m2 <+: m3) (hn : xs.length + sumMk xs ≤ 1048576) (hb : 0 ≤ b ∧ b ≤ 1000000) :
    ∃ v m', ACalls Try.prog 32 [.slice (some ⟨idm, 0, none⟩) xs.length xs.length, .int .i64 b] m3 v m' ∧ (v = .int .i64 (b + 2 * xs.length + sumMk xs) ∧ FrameM lo m2.length m3 m') := by
  have hid : idm < m2.length := by obtain ⟨o, h1, _⟩ := h; exact (List.getElem?_eq_some_iff.1 h1).1
  have hlo : lo ≤ idm := by obtain ⟨o, _, h1, _⟩ := h; exact h1
  refine ecalls_of_vc Try.func32 rfl Try.fol (by kernel_rfl) ?_
  simp only [Try.f32]
  simp -dsimp -implicitDefEqProofs
  refine loopN xs.length (fun k σ m' => MkShape m2 m' idm 2 xs ∧ FrameM lo m2.length m3 m' ∧ σ 0 = some (.slice (some ⟨idm, 0, none⟩) xs.length xs.length) ∧
    σ 1 = some (.int .i64 (b + 2 * k + sumMk (xs.take k))) ∧ σ 5 = some (.int .i64 k)) ⟨h.shape hp, FrameM.refl _ _ _, by simp [sumMk]⟩ ?_
  rintro k σ m' hk ⟨hsh, hf, s0, s1, s5⟩
  by_cases hlt : k < xs.length
  · obtain ⟨o0, g0, _, _, gown⟩ := h
    obtain ⟨j1, j2, hj1, hj2, a0, a1, a2, a3, a4, a5⟩ := gown k hlt hlt
    have hj1' : j1 < m2.length := (List.getElem?_eq_some_iff.1 a4).1
    have hj2' : j2 < m2.length := (List.getElem?_eq_some_iff.1 a5).1
    have hss := sumMk_succ hlt
    have htk := sumMk_take xs (k + 1)
    have hsh1 := hsh
    obtain ⟨⟨⟨c, ty, sz, kd⟩, q1, q2⟩, q8⟩ := hsh1
    have q2' := q2
    obtain ⟨rfl, rfl, q4, oo, q5, q6, q7⟩ := q2'
    obtain ⟨qa, qb⟩ := q7 k hlt
    rw [g0] at q5
    injection q5 with q5
    subst q5
    rw [a2] at qa
    rw [a3] at qb
    simp only at q4 qa qb
    have hw : IntKind.i64.wrap ((k : Int) + 1) = k + 1 := wrapI (by omega) (by omega)
    have hw1 : IntKind.i64.wrap (b + 2 * (k : Int) + (sumMk (xs.take k) : Int) + 1) = b + 2 * (k : Int) + (sumMk (xs.take k) : Int) + 1 := wrapI (by omega) (by omega)
    have hw2 : IntKind.i64.wrap (b + 2 * (k : Int) + (sumMk (xs.take k) : Int) + 1 + 1) = b + 2 * (k : Int) + (sumMk (xs.take k) : Int) + 1 + 1 := wrapI (by omega) (by omega)
    have hfit : k * 4 + 1 ≤ xs.length * 4 := by omega
    have hfit2 : k * 4 + 1 + 1 ≤ xs.length * 4 := by omega
    have hfit3 : k * 4 < xs.length * 4 := by omega
    have hfit4 : k * 4 + 1 < xs.length * 4 := by omega
    have hml : idm < m'.length := (List.getElem?_eq_some_iff.1 q1).1
    have hA : ∀ v w, ((c.set (k * 4) v).set (k * 4 + 1) w)[k * 4 + 2]? = some (.slice (some ⟨j1, 0, none⟩) xs[k].2.2.1.length xs[k].2.2.1.length) := fun v w => by rw [List.getElem?_set_ne (by omega), List.getElem?_set_ne (by omega)]; exact qa
    have hB : ∀ v w, ((c.set (k * 4) v).set (k * 4 + 1) w)[k * 4 + 3]? = some (.slice (some ⟨j2, 0, none⟩) xs[k].2.2.2.length xs[k].2.2.2.length) := fun v w => by rw [List.getElem?_set_ne (by omega), List.getElem?_set_ne (by omega)]; exact qb
    have hmX : MkMain m2 idm xs ⟨(c.set (k * 4) (.int .i64 (b + 2 * (k : Int) + (sumMk (xs.take k) : Int)))).set (k * 4 + 1) (.int .i64 (b + 2 * (k : Int) + (sumMk (xs.take k) : Int) + 1)), ty, 4, 1⟩ :=
      (q2.set k (.int .i64 (b + 2 * (k : Int) + (sumMk (xs.take k) : Int))) 0 (by decide)).set k (.int .i64 (b + 2 * (k : Int) + (sumMk (xs.take k) : Int) + 1)) 1 (by decide)
    have hshX := hsh.main hmX
    have hfX := hf.set hlo hid ⟨(c.set (k * 4) (.int .i64 (b + 2 * (k : Int) + (sumMk (xs.take k) : Int)))).set (k * 4 + 1) (.int .i64 (b + 2 * (k : Int) + (sumMk (xs.take k) : Int) + 1)), ty, 4, 1⟩
    obtain ⟨zs1, hz1, gz1⟩ := hshX.2 j1 _ a4
    obtain ⟨ws1, hws1, ews1⟩ := mkCells_ints (b + 2 * (k : Int) + (sumMk (xs.take k) : Int) + 1 + 1) xs[k].2.2.1.length
    have hshY := hshX.inner a4 hws1
    have hfY := hfX.set hj1 hj1' ⟨ws1.map (Value.int .i64), 2, 1, 1⟩
    obtain ⟨zs2, hz2, gz2⟩ := hshY.2 j2 _ a5
    obtain ⟨ws2, hws2, ews2⟩ := mkCells_ints (b + 2 * (k : Int) + (sumMk (xs.take k) : Int) + 1 + 1 + xs[k].2.2.1.length) xs[k].2.2.2.length
    have hshZ := hshY.inner a5 hws2
    have hfZ := hfY.set hj2 hj2' ⟨ws2.map (Value.int .i64), 2, 1, 1⟩
    have hne : idm ≠ j1 := by
      rintro rfl
      rw [g0] at a4
      injection a4 with a4
      rw [a4] at q6
      simp at q6
    have hsf : ∀ o, (m'.set idm o)[idm]? = some o := fun o => List.getElem?_set_self hml
    simp -dsimp -implicitDefEqProofs [s0, s1, s5, hlt, hw, hw1, hw2, withO_of q1, fun o => withO_of (hsf o), List.set_set, fun v w => withC_of (hA v w), fun v w => withC_of (hB v w), q4, hfit, hfit2, hfit3, hfit4]
    have hoX : ∀ o, ((m'.set idm ⟨(c.set (k * 4) (.int .i64 (b + 2 * (k : Int) + (sumMk (xs.take k) : Int)))).set (k * 4 + 1) (.int .i64 (b + 2 * (k : Int) + (sumMk (xs.take k) : Int) + 1)), ty, 4, 1⟩).set j1 o)[idm]? =
        some ⟨(c.set (k * 4) (.int .i64 (b + 2 * (k : Int) + (sumMk (xs.take k) : Int)))).set (k * 4 + 1) (.int .i64 (b + 2 * (k : Int) + (sumMk (xs.take k) : Int) + 1)), ty, 4, 1⟩ := fun o => by
      rw [List.getElem?_set_ne (Ne.symm hne)]; exact hsf _
    refine callsTo Try.cal28 (markInt64S_o zs1 ws1 _ _ j1 _ _ gz1 hz1 ews1 (by omega) (by omega)) ?_
    simp -dsimp -implicitDefEqProofs [s0, s1, s5, hlt, hw, hw1, hw2, withO_of q1, fun o => withO_of (hsf o), List.set_set, fun v w => withC_of (hA v w), fun v w => withC_of (hB v w), q4, hfit, hfit2, hfit3, hfit4, fun o => withO_of (hoX o)]
    refine callsTo Try.cal28 (markInt64S_o zs2 ws2 _ _ j2 _ _ gz2 hz2 ews2 (by omega) (by omega)) ?_
    simp -dsimp -implicitDefEqProofs [s0, s1, s5, hlt, hw, hw1, hw2, withO_of q1, fun o => withO_of (hsf o), List.set_set, fun v w => withC_of (hA v w), fun v w => withC_of (hB v w), q4, hfit, hfit2, hfit3, hfit4, fun o => withO_of (hoX o)]
    exact next_ hlt ⟨hshZ, hfZ, by simp [s0, hw, hss]; omega⟩
  · simp -dsimp -implicitDefEqProofs [s0, s1, s5, hlt]
    obtain rfl : k = xs.length := by omega
    rw [List.take_of_length_le (by omega)]
    exact ⟨_, _, GC.refl _ _ _, rfl, hf⟩
theorem toInt64S_e (ys : List Int) (b : Option Addr) (m : Mem) (hr : RdI m b ys) (hn : ys.length ≤ 1048576) :
    ∃ v m', ACalls Try.prog 21 [.slice b ys.length ys.length] m v m' ∧ (v = .slice (some ⟨m.length, 0, none⟩) ys.length ys.length ∧ m <+: m' ∧ m'[m.length]? = some ⟨ys.map (Value.int .i64), 2, 1, 1⟩) :=
  ⟨_, _, toInt64S_c ys b m hr hn, rfl, pre_app (pre_refl m) _, by simp⟩
end Go.Proofs.Ytciekhcdkfhcoaa
