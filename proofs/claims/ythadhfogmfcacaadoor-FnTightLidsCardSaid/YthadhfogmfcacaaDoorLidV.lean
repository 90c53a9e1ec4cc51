/-
  Lids, part 22: a single drawn lid; what the law on tight lids draws. Conditions: none.
-/
import Derived.Test.YthadhfogmfcacaaDoorLidU
set_option linter.unusedSimpArgs false
set_option linter.unusedVariables false
set_option linter.unusedSectionVars false
namespace Go.Proofs.YthadhfogmfcacaaDoor
open Go.Abs Go.RowKit

def DSing (is : Nat) (a : Option Addr) (code : List Int) (k : Int) (m : Mem) (v : Value) (m' : Mem) : Prop :=
  ∃ (p : I3) (w : Int), v = .tuple #[.agg (v3 p).toArray, .int .i64 w] ∧ But is m m' ∧ SrcA is a code k m'
set_option maxRecDepth 20000 in
theorem l22Single_c (is : Nat) (a : Option Addr) (code : List Int) (k : Int) (hk : k < 700000000) (m : Mem) (h : SrcA is a code k m) :
    ∃ v m', ACalls Tryd.prog 36 [.pointer (some ⟨is, 0, none⟩)] m v m' ∧ DSing is a code (k + 16) m v m' := by
  have his : is < m.length := lt_of_get h.obj.choose_spec.choose_spec.1
  obtain ⟨m0, hm0⟩ : ∃ m0 : Mem, m0 = m ++ [⟨[.int .i64 0, .int .i64 0, .int .i64 0], 25, 3, 1⟩] := ⟨_, rfl⟩
  have b0 : But is m m0 := by rw [hm0]; exact But.app _ _ _
  have s0 : SrcA is a code k m0 := by rw [hm0]; exact h.app _
  have t0 : m0[m.length]? = some ⟨[.int .i64 0, .int .i64 0, .int .i64 0], 25, 3, 1⟩ := by rw [hm0]; simp
  obtain ⟨v1, m1, hc1, p, rfl, b1, s1⟩ := l22New_c is a code k (by omega) m0 s0
  have t1 := b1.get _ _ (show m.length ≠ is by omega) t0
  have hl1 := lt_of_get t1
  have hl0 := b1.len
  obtain ⟨m2, hm2⟩ : ∃ m2, m2 = m1 ++ [⟨[.int .i64 p.1, .int .i64 p.2.1, .int .i64 p.2.2], 25, 3, 1⟩] := ⟨_, rfl⟩
  have b2 : But is m1 m2 := by rw [hm2]; exact But.app _ _ _
  have s2 : SrcA is a code (k + 6) m2 := by rw [hm2]; exact s1.app _
  have t2 : m2[m1.length]? = some ⟨(([p] : List I3).map v3).flatten, 25, 3, 1⟩ := by rw [hm2]; simp [v3]
  obtain ⟨v3', m3, hc3, b, rfl, b3, s3, hl3⟩ := one_c is a code (k + 6) 8 (by omega) m2 s2
  have t3 := b3.get _ _ (show m1.length ≠ is by omega) t2
  have hm20 : But is m m2 := (b0.trans b1).trans b2
  -- what stands behind the spoiling
  have fin : ∀ (m4 : Mem) (q : I3), But is m m4 → SrcA is a code (k + 12) m4 → m4[m.length]? = some ⟨[.int .i64 0, .int .i64 0, .int .i64 0], 25, 3, 1⟩ → m4[m1.length]? = some ⟨[.int .i64 q.1, .int .i64 q.2.1, .int .i64 q.2.2], 25, 3, 1⟩ →
      ∃ w m5, ACalls Tryd.prog 25 [.pointer (some ⟨is, 0, none⟩)] m4 (.int .i64 w) m5 ∧ m5[m1.length]? = m4[m1.length]? ∧ m5[m.length]? = some ⟨[.int .i64 0, .int .i64 0, .int .i64 0], 25, 3, 1⟩ ∧
        DSing is a code (k + 16) m (.tuple #[.agg (v3 q).toArray, .int .i64 w]) (m5.set m.length ⟨[.int .i64 q.1, .int .i64 q.2.1, .int .i64 q.2.2], 25, 3, 1⟩) := fun m4 q g1 g2 g3 g4 => by
    obtain ⟨v5, m5, hc5, w, rfl, b5, s5⟩ := l22DrawWidth_c is a code (k + 12) (by omega) m4 g2
    refine ⟨w, m5, hc5, by rw [b5.get _ _ (by omega) g4, g4], b5.get _ _ (by omega) g3, q, w, rfl, ⟨?_, fun i o h1 h2 => ?_⟩, ?_⟩
    · have := (g1.trans b5).len; simp; omega
    · have hi := lt_of_get h2
      rw [List.getElem?_set_ne (by omega)]; exact (g1.trans b5).get i o h1 h2
    · exact (s5.keep (But.set (is := m.length) _ _) (by omega) (fun h0 x hx => by have := h.off h0 x hx; omega)).mono (by omega)
  refine ecalls_of_vcF [4] Tryd.func36 rfl Tryd.fol (by kernel_rfl) ?_
  simp only [Tryd.f36]
  simp -dsimp -implicitDefEqProofs [hm0.symm, hm2.symm, v3]
  refine callsTo Tryd.cal42 hc1 ?_
  simp -dsimp -implicitDefEqProofs [hm0.symm, hm2.symm, v3]
  refine callsTo Tryd.cal41 hc3 ?_
  simp -dsimp -implicitDefEqProofs [hm0.symm, hm2.symm, v3]
  refine sp2 (fun g => ?_) (fun g => ?_)
  · obtain ⟨v4, m4, hc4, rfl, r4, s4, ys, hy, ho4⟩ := l22Spoil_c is a code (k + 8) (by omega) m1.length p [] 25 1 (by omega) m3 (s3.mono (by omega)) (by omega) (by omega) t3
    obtain ⟨q, rfl⟩ : ∃ q, ys = [q] := by
      match ys, hy with
      | [q], _ => exact ⟨q, rfl⟩
    have t40 : m4[m.length]? = some ⟨[.int .i64 0, .int .i64 0, .int .i64 0], 25, 3, 1⟩ := r4.get _ _ (by simp; omega) (b3.get _ _ (by omega) (b2.get _ _ (by omega) t1))
    have t41 : m4[m1.length]? = some ⟨[.int .i64 q.1, .int .i64 q.2.1, .int .i64 q.2.2], 25, 3, 1⟩ := by simpa [v3] using ho4
    have b4 : But is m m4 := butRest (hm20.trans b3) r4 (by omega)
    obtain ⟨w, m5, hc5, u1, u2, hf⟩ := fin m4 q b4 (s4.mono (by omega)) t40 t41
    refine callsTo Tryd.cal43 hc4 ?_
    simp -dsimp -implicitDefEqProofs [hm0.symm, hm2.symm, v3]
    refine regF [[], [], [0], [], []] 0 (by kernel_rfl) (by kernel_rfl) ?_
    simp -dsimp -implicitDefEqProofs [withO_of t41, withO_of u2, u1, fun x => withO_of (get_set u2 x)]
    refine callsTo Tryd.cal25 hc5 ?_
    simp -dsimp -implicitDefEqProofs [withO_of t41, withO_of u2, u1, fun x => withO_of (get_set u2 x)]
    exact ⟨_, _, GC.refl _ _ _, hf⟩
  · have t40 : m3[m.length]? = some ⟨[.int .i64 0, .int .i64 0, .int .i64 0], 25, 3, 1⟩ := b3.get _ _ (by omega) (b2.get _ _ (by omega) t1)
    have t41 : m3[m1.length]? = some ⟨[.int .i64 p.1, .int .i64 p.2.1, .int .i64 p.2.2], 25, 3, 1⟩ := by simpa [v3] using t3
    obtain ⟨w, m5, hc5, u1, u2, hf⟩ := fin m3 p (hm20.trans b3) (s3.mono (by omega)) t40 t41
    refine regF [[], [], [0], [], []] 0 (by kernel_rfl) (by kernel_rfl) ?_
    simp -dsimp -implicitDefEqProofs [withO_of t41, withO_of u2, u1, fun x => withO_of (get_set u2 x)]
    refine callsTo Tryd.cal25 hc5 ?_
    simp -dsimp -implicitDefEqProofs [withO_of t41, withO_of u2, u1, fun x => withO_of (get_set u2 x)]
    exact ⟨_, _, GC.refl _ _ _, hf⟩
def DTight (m : Mem) (v : Value) (m' : Mem) : Prop :=
  ∃ (xs : List I3) (i : Nat) (w s : Int), xs.length ≤ 13 ∧ v = .tuple #[.slice (some ⟨i, 0, none⟩) xs.length xs.length, .int .i64 w, .int .i64 s] ∧ m <+: m' ∧ LidsAt m' i xs
theorem drawTightestLid_c (a : Option Addr) (code : List Int) (m : Mem) (h : RdB m a code) (hl : code.length ≤ 1048576) :
    ∃ v m', ACalls Tryd.prog 9 [.slice a code.length code.length] m v m' ∧ DTight m v m' := by
  obtain ⟨v1, m1, hc1, xs, i1, hx, rfl, hb1, hs1, hi1, hL1⟩ := l22Draw_c m.length a code 0 (by omega) _ (srcNew h hl)
  obtain ⟨v2, m2, hc2, w, rfl, hb2, hs2⟩ := l22DrawWidth_c m.length a code (0 + 200) (by omega) _ hs1
  obtain ⟨v3', m3, hc3, s, rfl, hb3, hs3⟩ := l22DrawSlack_c m.length a code (0 + 200 + 4) (by omega) _ hs2
  simp at hi1
  refine ecalls_of_vc Tryd.func9 rfl Tryd.fol (by kernel_rfl) ?_
  simp only [Tryd.f9]
  simp -dsimp -implicitDefEqProofs
  refine callsTo Tryd.cal23 (l00From_c a code m) ?_
  simp -dsimp -implicitDefEqProofs
  refine callsTo Tryd.cal24 hc1 ?_
  simp -dsimp -implicitDefEqProofs
  refine callsTo Tryd.cal25 hc2 ?_
  simp -dsimp -implicitDefEqProofs
  refine callsTo Tryd.cal26 hc3 ?_
  simp -dsimp -implicitDefEqProofs
  refine ⟨_, _, GC.refl _ _ _, xs, i1, w, s, hx, rfl, ((hb1.trans hb2).trans hb3).pre ⟨_, rfl⟩ (Nat.le_refl _), ?_⟩
  obtain ⟨o, o1, o2⟩ := hL1
  exact ⟨o, hb3.get _ _ (by omega) (hb2.get _ _ (by omega) o1), o2⟩
def DSlack (m : Mem) (v : Value) (m' : Mem) : Prop := ∃ (p : I3) (w : Int), v = .tuple #[.agg (v3 p).toArray, .int .i64 w] ∧ m <+: m'
theorem drawSlackOf_c (a : Option Addr) (code : List Int) (m : Mem) (h : RdB m a code) (hl : code.length ≤ 1048576) :
    ∃ v m', ACalls Tryd.prog 12 [.slice a code.length code.length] m v m' ∧ DSlack m v m' := by
  obtain ⟨m0, hm0⟩ : ∃ m0 : Mem, m0 = m ++ [⟨[.int .i64 0, .int .i64 0, .int .i64 0], 25, 3, 1⟩] := ⟨_, rfl⟩
  have h0 : RdB m0 a code := by rw [hm0]; exact ⟨RdG.ext h.1 _, h.2⟩
  have t0 : m0[m.length]? = some ⟨[.int .i64 0, .int .i64 0, .int .i64 0], 25, 3, 1⟩ := by rw [hm0]; simp
  have l0 : m0.length = m.length + 1 := by rw [hm0]; simp
  obtain ⟨v1, m1, hc1, p, w, rfl, b1, s1⟩ := l22Single_c m0.length a code 0 (by omega) _ (srcNew h0 hl)
  have t1 := b1.get _ _ (by omega) (get_old (l := [⟨[.slice a code.length code.length, .int .i64 0, .int .u64 0], 64, 3, 1⟩]) t0)
  refine ecalls_of_vc Tryd.func12 rfl Tryd.fol (by kernel_rfl) ?_
  simp only [Tryd.f12]
  simp -dsimp -implicitDefEqProofs [hm0.symm, v3, withO_of t1, fun x => withO_of (get_set t1 x)]
  refine callsTo Tryd.cal23 (l00From_c a code m0) ?_
  simp -dsimp -implicitDefEqProofs [hm0.symm, v3, withO_of t1, fun x => withO_of (get_set t1 x)]
  refine callsTo Tryd.cal36 hc1 ?_
  simp -dsimp -implicitDefEqProofs [hm0.symm, v3, withO_of t1, fun x => withO_of (get_set t1 x)]
  refine ⟨_, _, GC.refl _ _ _, p, w, rfl, ?_⟩
  have hp1 : m0 <+: m1 := b1.pre ⟨_, rfl⟩ (Nat.le_refl _)
  exact pre_set ((show m <+: m0 from ⟨_, hm0.symm⟩).trans hp1) (Nat.le_refl _) _
def DFits (m : Mem) (v : Value) (m' : Mem) : Prop := ∃ (p : I3) (w s : Int), v = .tuple #[.agg (v3 p).toArray, .int .i64 w, .int .i64 s] ∧ m <+: m'
theorem drawLidFits_c (a : Option Addr) (code : List Int) (m : Mem) (h : RdB m a code) (hl : code.length ≤ 1048576) :
    ∃ v m', ACalls Tryd.prog 15 [.slice a code.length code.length] m v m' ∧ DFits m v m' := by
  obtain ⟨m0, hm0⟩ : ∃ m0 : Mem, m0 = m ++ [⟨[.int .i64 0, .int .i64 0, .int .i64 0], 25, 3, 1⟩] := ⟨_, rfl⟩
  have h0 : RdB m0 a code := by rw [hm0]; exact ⟨RdG.ext h.1 _, h.2⟩
  have t0 : m0[m.length]? = some ⟨[.int .i64 0, .int .i64 0, .int .i64 0], 25, 3, 1⟩ := by rw [hm0]; simp
  have l0 : m0.length = m.length + 1 := by rw [hm0]; simp
  obtain ⟨v1, m1, hc1, p, w, rfl, b1, s1⟩ := l22Single_c m0.length a code 0 (by omega) _ (srcNew h0 hl)
  have t1 := b1.get _ _ (by omega) (get_old (l := [⟨[.slice a code.length code.length, .int .i64 0, .int .u64 0], 64, 3, 1⟩]) t0)
  have l1 := lt_of_get t1
  have l2 := b1.len
  obtain ⟨m2, hm2⟩ : ∃ m2, m2 = m1 ++ [⟨[.int .i64 p.1, .int .i64 p.2.1, .int .i64 p.2.2], 25, 3, 1⟩] := ⟨_, rfl⟩
  have b2 : But m0.length m1 m2 := by rw [hm2]; exact But.app _ _ _
  have s2 : SrcA m0.length a code (0 + 16) m2 := by rw [hm2]; exact s1.app _
  have t20 : m2[m.length]? = some ⟨[.int .i64 0, .int .i64 0, .int .i64 0], 25, 3, 1⟩ := b2.get _ _ (by omega) t1
  have t21 : m2[m1.length]? = some ⟨[.int .i64 p.1, .int .i64 p.2.1, .int .i64 p.2.2], 25, 3, 1⟩ := by rw [hm2]; simp
  obtain ⟨v3', m3, hc3, s, rfl, b3, s3⟩ := l22DrawSlack_c m0.length a code (0 + 16) (by omega) m2 s2
  have t30 := b3.get _ _ (by omega) t20
  simp at l2
  have t31 := b3.get _ _ (by omega) t21
  refine ecalls_of_vcF [3] Tryd.func15 rfl Tryd.fol (by kernel_rfl) ?_
  simp only [Tryd.f15]
  simp -dsimp -implicitDefEqProofs [hm0.symm, hm2.symm, v3]
  refine callsTo Tryd.cal23 (l00From_c a code m0) ?_
  simp -dsimp -implicitDefEqProofs [hm0.symm, hm2.symm, v3]
  refine callsTo Tryd.cal36 hc1 ?_
  simp -dsimp -implicitDefEqProofs [hm0.symm, hm2.symm, v3]
  refine regF [[], [], [], [0], [], [], []] 0 (by kernel_rfl) (by kernel_rfl) ?_
  simp -dsimp -implicitDefEqProofs [withO_of t21, withO_of t30, t21, t31, fun x => withO_of (get_set t30 x)]
  refine callsTo Tryd.cal26 hc3 ?_
  simp -dsimp -implicitDefEqProofs [withO_of t21, withO_of t30, t21, t31, fun x => withO_of (get_set t30 x)]
  refine ⟨_, _, GC.refl _ _ _, p, w, s, rfl, ?_⟩
  have hp1 : m0 <+: m3 := ((b1.trans b2).trans b3).pre ⟨_, rfl⟩ (Nat.le_refl _)
  exact pre_set ((show m <+: m0 from ⟨_, hm0.symm⟩).trans hp1) (Nat.le_refl _) _
def DText (m : Mem) (v : Value) (m' : Mem) : Prop := ∃ (p : I3), v = .agg (v3 p).toArray ∧ m <+: m'
theorem drawLidText_c (a : Option Addr) (code : List Int) (m : Mem) (h : RdB m a code) (hl : code.length ≤ 1048576) :
    ∃ v m', ACalls Tryd.prog 18 [.slice a code.length code.length] m v m' ∧ DText m v m' := by
  obtain ⟨m0, hm0⟩ : ∃ m0 : Mem, m0 = m ++ [⟨[.int .i64 0, .int .i64 0, .int .i64 0], 25, 3, 1⟩] := ⟨_, rfl⟩
  have h0 : RdB m0 a code := by rw [hm0]; exact ⟨RdG.ext h.1 _, h.2⟩
  have t0 : m0[m.length]? = some ⟨[.int .i64 0, .int .i64 0, .int .i64 0], 25, 3, 1⟩ := by rw [hm0]; simp
  have l0 : m0.length = m.length + 1 := by rw [hm0]; simp
  obtain ⟨v1, m1, hc1, p, w, rfl, b1, s1⟩ := l22Single_c m0.length a code 0 (by omega) _ (srcNew h0 hl)
  have t1 := b1.get _ _ (by omega) (get_old (l := [⟨[.slice a code.length code.length, .int .i64 0, .int .u64 0], 64, 3, 1⟩]) t0)
  obtain ⟨m2, hm2⟩ : ∃ m2, m2 = m1 ++ [⟨[.int .i64 p.1, .int .i64 p.2.1, .int .i64 p.2.2], 25, 3, 1⟩] := ⟨_, rfl⟩
  have t20 : m2[m.length]? = some ⟨[.int .i64 0, .int .i64 0, .int .i64 0], 25, 3, 1⟩ := by rw [hm2]; exact get_old t1
  have t21 : m2[m1.length]? = some ⟨[.int .i64 p.1, .int .i64 p.2.1, .int .i64 p.2.2], 25, 3, 1⟩ := by rw [hm2]; simp
  refine ecalls_of_vc Tryd.func18 rfl Tryd.fol (by kernel_rfl) ?_
  simp only [Tryd.f18]
  simp -dsimp -implicitDefEqProofs [hm0.symm, hm2.symm, v3, withO_of t21, withO_of t20, fun x => withO_of (get_set t20 x)]
  refine callsTo Tryd.cal23 (l00From_c a code m0) ?_
  simp -dsimp -implicitDefEqProofs [hm0.symm, hm2.symm, v3, withO_of t21, withO_of t20, fun x => withO_of (get_set t20 x)]
  refine callsTo Tryd.cal36 hc1 ?_
  simp -dsimp -implicitDefEqProofs [hm0.symm, hm2.symm, v3, withO_of t21, withO_of t20, fun x => withO_of (get_set t20 x)]
  refine ⟨_, _, GC.refl _ _ _, p, rfl, ?_⟩
  have hp1 : m0 <+: m2 := (b1.pre ⟨_, rfl⟩ (Nat.le_refl _)).trans ⟨_, hm2.symm⟩
  exact pre_set ((show m <+: m0 from ⟨_, hm0.symm⟩).trans hp1) (Nat.le_refl _) _
end Go.Proofs.YthadhfogmfcacaaDoor
