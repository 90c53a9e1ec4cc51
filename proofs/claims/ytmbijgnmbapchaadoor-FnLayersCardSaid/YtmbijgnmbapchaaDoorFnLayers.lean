/-
  'FnLayers': merged layers, the layer at a round, unsound layers and rounds of drawn baskets fit together. Conditions: none.
-/
import Derived.Test.YtmbijgnmbapchaaDoorBkX
import Derived.Test.YtmbijgnmbapchaaDoorBkG
import Derived.Test.YtmbijgnmbapchaaDoorDraw2
import Derived.Test.YtmbijgnmbapchaaDoorDoor
set_option linter.unusedSimpArgs false
set_option linter.unusedVariables false
set_option linter.unusedSectionVars false
namespace Go.Proofs.YtmbijgnmbapchaaDoor
open Go.Abs Go.RowKit

def bkO (st : Int) (A : Option Addr) (n : Nat) (b : ByteArray) : AObj := ⟨[.int .i64 st, .slice A n n, .string b], 29, 3, 1⟩
set_option maxRecDepth 20000 in
set_option maxHeartbeats 3200000 in
theorem lawLayers_c (xs : List Int) (a : Option Addr) (m : Mem) (hr0 : RdB m a xs) (hm0 : xs.length ≤ maxLen) :
    ∃ v m', ACalls Tryd.prog 6 [.slice a xs.length xs.length] m v m' ∧ IsT v m' := by
  refine ecalls_of_vc Tryd.func6 rfl Tryd.fol (by kernel_rfl) ?_
  simp only [Tryd.f6]
  simp -dsimp -implicitDefEqProofs
  refine callsTo Tryd.cal25 (f6big_c a _ _) ?_
  simp -dsimp -implicitDefEqProofs
  by_cases hlong : (4096 : Int) < xs.length
  · have h1 : decide ((4096 : Int) < xs.length) = true := by simpa using hlong
    simp -dsimp -implicitDefEqProofs [h1]
    exact ⟨_, _, GC.refl _ _ _, rfl⟩
  have h1 : decide ((4096 : Int) < xs.length) = false := by simpa using hlong
  simp -dsimp -implicitDefEqProofs [h1]
  obtain ⟨v1, m1, hc1, s1, l1, b1, j1, hsm1, rfl, hp1, hj1, kd1, ho1, hk1, hk1'⟩ := drawMerge_c a xs m hr0 (by omega)
  have rd1 : RdG vl 2 m1 (some ⟨j1, 0, none⟩) l1 := RdG.of_get (g := vl) (sz := 2) (fun _ => rfl) l1 ho1 hk1' rfl rfl
  obtain ⟨M1, hM1⟩ : ∃ M1 : Mem, M1 = m1 ++ [bkO s1 (some ⟨j1, 0, none⟩) l1.length b1] := ⟨_, rfl⟩
  have pM1 : m1 <+: M1 := by rw [hM1]; exact ⟨_, rfl⟩
  have t3 : M1[m1.length]? = some (bkO s1 (some ⟨j1, 0, none⟩) l1.length b1) := by rw [hM1]; simp
  have n1 : l1.length ≤ 1048576 := by have := hsm1.1; omega
  have z1 : ∀ p ∈ l1, p.1.size ≤ maxLen := fun p hp => by have := hsm1.2.1 p hp; unfold maxLen; omega
  have y1 : b1.size ≤ maxLen := by have := hsm1.2.2; unfold maxLen; omega
  obtain ⟨v2, m2, hc2, hq2⟩ := implMerge_c s1 l1 b1 (some ⟨j1, 0, none⟩) M1 (rd1.pre pM1) n1 z1 y1
  obtain ⟨hp2, A2, rfl, rd2⟩ := merge_told hq2
  obtain ⟨ms, hms⟩ : ∃ z, z = mSt s1 l1 b1 := ⟨_, rfl⟩
  obtain ⟨ml, hml⟩ : ∃ z, z = mLs s1 l1 b1 := ⟨_, rfl⟩
  obtain ⟨mb, hmb⟩ : ∃ z, z = mB s1 l1 b1 := ⟨_, rfl⟩
  obtain ⟨mc, hmc⟩ : ∃ z, z = mC s1 l1 b1 := ⟨_, rfl⟩
  rw [← hms, ← hml, ← hmb, ← hmc] at hc2
  rw [← hml] at rd2
  obtain ⟨M2, hM2⟩ : ∃ M2 : Mem, M2 = m2 ++ [bkO ms A2 ml.length mb] := ⟨_, rfl⟩
  have pM2 : m2 <+: M2 := by rw [hM2]; exact ⟨_, rfl⟩
  have t4 : M2[m2.length]? = some (bkO ms A2 ml.length mb) := by rw [hM2]; simp
  have p12 : M1 <+: M2 := hp2.trans pM2
  obtain ⟨v3, m3, hc3, hq3⟩ := specMerge_c s1 l1 b1 (some ⟨j1, 0, none⟩) M2 (rd1.pre (pM1.trans p12)) n1 z1 y1
  obtain ⟨hp3, A3, rfl, rd3⟩ := merge_told hq3
  rw [← hms, ← hml, ← hmb, ← hmc] at hc3
  rw [← hml] at rd3
  obtain ⟨M3, hM3⟩ : ∃ M3 : Mem, M3 = m3 ++ [bkO ms A3 ml.length mb] := ⟨_, rfl⟩
  have pM3 : m3 <+: M3 := by rw [hM3]; exact ⟨_, rfl⟩
  have t6 : M3[m3.length]? = some (bkO ms A3 ml.length mb) := by rw [hM3]; simp
  have p03 : m <+: M3 := hp1.trans (pM1.trans (p12.trans (hp3.trans pM3)))
  have hr3 : RdB M3 a xs := ⟨hr0.1.pre p03, hr0.2⟩
  obtain ⟨v4, m4, hc4, s4, l4, b4, j4, n4, ⟨hsm4, hn4⟩, rfl, hp4, hj4, kd4, ho4, hk4, hk4'⟩ := drawLayerAt_c a xs M3 hr3 (by omega)
  have rd4 : RdG vl 2 m4 (some ⟨j4, 0, none⟩) l4 := RdG.of_get (g := vl) (sz := 2) (fun _ => rfl) l4 ho4 hk4' rfl rfl
  obtain ⟨M4, hM4⟩ : ∃ M4 : Mem, M4 = m4 ++ [bkO s4 (some ⟨j4, 0, none⟩) l4.length b4] := ⟨_, rfl⟩
  have pM4 : m4 <+: M4 := by rw [hM4]; exact ⟨_, rfl⟩
  have t8 : M4[m4.length]? = some (bkO s4 (some ⟨j4, 0, none⟩) l4.length b4) := by rw [hM4]; simp
  have nn4 : l4.length ≤ 1048576 := by have := hsm4.1; omega
  have z4 : ∀ p ∈ l4, p.1.size ≤ maxLen := fun p hp => by have := hsm4.2.1 p hp; unfold maxLen; omega
  have y4 : b4.size ≤ maxLen := by have := hsm4.2.2; unfold maxLen; omega
  obtain ⟨v5, m5, hc5, hq5, hp5⟩ := implAt_c s4 l4 b4 (some ⟨j4, 0, none⟩) n4 M4 (rd4.pre pM4) nn4 z4 y4 hn4
  obtain ⟨v6, m6, hc6, hq6, hp6⟩ := specAt_c s4 l4 b4 (some ⟨j4, 0, none⟩) n4 m5 (rd4.pre (pM4.trans hp5)) nn4 z4 y4 hn4
  have hv56 := hq5.same hq6
  subst hv56
  obtain ⟨at_, ac, rfl⟩ : ∃ at_ ac, v5 = .tuple #[.int .i64 at_, .int .i64 ac] := by
    rcases hq5 with ⟨_, rfl⟩ | ⟨_, _, rfl⟩ | ⟨i, _, _, _, _, rfl⟩ <;> exact ⟨_, _, rfl⟩
  have p36 : M3 <+: m6 := hp4.trans (pM4.trans (hp5.trans hp6))
  have hr6 : RdB m6 a xs := ⟨hr0.1.pre (p03.trans p36), hr0.2⟩
  obtain ⟨v7, m7, hc7, s7, l7, b7, j7, fl, ⟨hsm7, _⟩, rfl, hp7, hj7, kd7, ho7, hk7, hk7'⟩ := drawUns_c a xs m6 hr6 (by omega)
  have rd7 : RdG vl 2 m7 (some ⟨j7, 0, none⟩) l7 := RdG.of_get (g := vl) (sz := 2) (fun _ => rfl) l7 ho7 hk7' rfl rfl
  obtain ⟨M7, hM7⟩ : ∃ M7 : Mem, M7 = m7 ++ [bkO s7 (some ⟨j7, 0, none⟩) l7.length b7] := ⟨_, rfl⟩
  have pM7 : m7 <+: M7 := by rw [hM7]; exact ⟨_, rfl⟩
  have t14 : M7[m7.length]? = some (bkO s7 (some ⟨j7, 0, none⟩) l7.length b7) := by rw [hM7]; simp
  have n7 : l7.length ≤ 1048576 := by have := hsm7.1; omega
  have z7 : ∀ p ∈ l7, p.1.size ≤ maxLen := fun p hp => by have := hsm7.2.1 p hp; unfold maxLen; omega
  have y7 : b7.size ≤ maxLen := by have := hsm7.2.2; unfold maxLen; omega
  have e8 := implUns_c s7 l7 b7 (some ⟨j7, 0, none⟩) fl M7 (rd7.pre pM7) n7 z7 y7
  obtain ⟨M8, hM8⟩ : ∃ M8 : Mem, M8 = M7 ++ optM 2 (unsO s7 l7 b7 fl) := ⟨_, rfl⟩
  rw [← hM8] at e8
  have p78 : M7 <+: M8 := by rw [hM8]; exact ⟨_, rfl⟩
  have e9 := specUns_c s7 l7 b7 (some ⟨j7, 0, none⟩) fl M8 (rd7.pre (pM7.trans p78)) n7 z7 y7
  obtain ⟨M9, hM9⟩ : ∃ M9 : Mem, M9 = M8 ++ optM 2 (unsO s7 l7 b7 fl) := ⟨_, rfl⟩
  rw [← hM9] at e9
  have p89 : M8 <+: M9 := by rw [hM9]; exact ⟨_, rfl⟩
  have p39 : M3 <+: M9 := p36.trans (hp7.trans (pM7.trans (p78.trans p89)))
  have p29 : M2 <+: M9 := (hp3.trans pM3).trans p39
  have p19 : M1 <+: M9 := p12.trans p29
  have e10 := implRoundsB_c s1 l1 b1 (some ⟨j1, 0, none⟩) M9 (rd1.pre (pM1.trans p19)) n1 z1 y1
  have e11 := specRoundsB_c s1 l1 b1 (some ⟨j1, 0, none⟩) M9 (rd1.pre (pM1.trans p19)) n1 z1 y1
  obtain ⟨ro, hro⟩ : ∃ z, z = (if okB s1 l1 b1 then sumR l1 else 0) := ⟨_, rfl⟩
  obtain ⟨rc, hrc⟩ : ∃ z : Int, z = (if okB s1 l1 b1 then 0 else 1) := ⟨_, rfl⟩
  simp only [roundsBV, ← hro, ← hrc] at e10 e11
  have e12 := sameB_c ms ml mb A2 A3 M9 (rd2.pre (pM2.trans p29)) (rd3.pre (pM3.trans p39)) (by have := (mLs_small (st := s1) (Nat.le_refl _) hsm1).1; rw [← hml] at this; omega)
  obtain ⟨uc, huc⟩ : ∃ z, z = unsC s7 l7 b7 fl := ⟨_, rfl⟩
  rw [← huc] at e8 e9
  obtain ⟨us, B8, B9, hv8, hv9, rB8, rB9, hus⟩ : ∃ (us : List Int) (B8 B9 : Option Addr), optV M7.length (unsO s7 l7 b7 fl) = .slice B8 us.length us.length ∧ optV M8.length (unsO s7 l7 b7 fl) = .slice B9 us.length us.length ∧ RdI M9 B8 us ∧ RdI M9 B9 us ∧ (us = [] ∨ us = unsTo s7 l7 fl l7.length) ∧ (uc = 0 → us = unsTo s7 l7 fl l7.length) := by
    cases hO : unsO s7 l7 b7 fl with
    | none =>
      refine ⟨[], none, none, rfl, rfl, RdI.nil _ _, RdI.nil _ _, .inl rfl, fun h0 => ?_⟩
      exfalso
      rw [huc] at h0
      unfold unsC at h0
      unfold unsO at hO
      cases q1 : okB s7 l7 b7 <;> cases q2 : inB fl 1 12 <;> simp [q1, q2] at h0 hO
    | some zs =>
      rw [hO] at hM8 hM9
      have hz : zs = unsTo s7 l7 fl l7.length := by
        unfold unsO at hO
        split at hO
        · injection hO with hO; exact hO.symm
        · cases hO
      refine ⟨zs, some ⟨M7.length, 0, none⟩, some ⟨M8.length, 0, none⟩, rfl, rfl, ?_, ?_, .inr hz, fun _ => hz⟩
      · exact RdI.of_get (o := ⟨zs.map (Value.int .i64), 2, 1, 2⟩) (prefix_get p89 (by rw [hM8]; simp [optM])) (by simp) rfl rfl
      · exact RdI.of_get (o := ⟨zs.map (Value.int .i64), 2, 1, 2⟩) (by rw [hM9]; simp [optM]) (by simp) rfl rfl
  have husl : us.length ≤ 1048576 := by
    rcases hus.1 with h | h
    · rw [h]; simp
    · rw [h]
      unfold unsTo
      have := List.length_filter_le (fun (i : Nat) => !soundB (l7.getD i (B0, 0)).1 s7.toNat fl) (List.range l7.length)
      simp at this ⊢
      omega
  rw [hv8] at e8
  rw [hv9] at e9
  have e14 := f6ints_c us B8 B9 M9 rB8 rB9 husl
  have u3a := prefix_get hp2 t3
  have u3 := prefix_get p12 t3
  have u3b := prefix_get p19 t3
  have u4 := prefix_get p29 t4
  have u6 := prefix_get p39 t6
  have u8 := prefix_get hp5 t8
  have w14 := prefix_get p78 t14
  have p49 : M4 <+: M9 := hp5.trans (hp6.trans (hp7.trans (pM7.trans (p78.trans p89))))
  have x8 := prefix_get p49 t8
  have x14 := prefix_get (p78.trans p89) t14
  have rd49 := rd4.pre (pM4.trans p49)
  have rd79 := rd7.pre (pM7.trans (p78.trans p89))
  have rd39 := rd3.pre (pM3.trans p39)
  have rd29 := rd2.pre (pM2.trans p29)
  have hA : ac = 0 → ∃ i : Nat, okB s4 l4 b4 = true ∧ i < l4.length ∧ sumR (l4.take i) ≤ n4 ∧ n4 < sumR (l4.take (i + 1)) ∧ at_ = i := fun h0 => by
    subst h0
    rcases hq5 with ⟨_, hv⟩ | ⟨_, _, hv⟩ | ⟨i, k1, k2, k3, k4, hv⟩
    · simp at hv
    · simp at hv
    · simp at hv; exact ⟨i, k1, k2, k3, k4, hv⟩
  have hB : uc = 0 → okB s7 l7 b7 = true ∧ inB fl 1 12 = true := fun h0 => by
    rw [huc] at h0
    unfold unsC at h0
    cases q1 : okB s7 l7 b7 <;> cases q2 : inB fl 1 12 <;> simp [q1, q2] at h0 ⊢
  have hC : mc = 0 → okB s1 l1 b1 = true ∧ okB s1 (mergeL l1) b1 = true ∧ ms = s1 ∧ ml = mergeL l1 ∧ mb = b1 := fun h0 => by
    rw [hmc] at h0
    unfold mC at h0
    cases q1 : okB s1 l1 b1 <;> cases q2 : okB s1 (mergeL l1) b1 <;> simp [q1, q2] at h0 ⊢
    rw [hms, hml, hmb]
    simp [mSt, mLs, mB, mOk, q1, q2]
  have hmem : ∀ (k : Nat) (hk : k < l7.length), uc = 0 → decide ((k : Int) ∈ us) = !soundB l7[k].1 s7.toNat fl := fun k hk h0 => by
    rw [hus.2 h0, Bool.eq_iff_iff]
    unfold unsTo
    simp only [decide_eq_true_eq, List.mem_map, List.mem_filter, List.mem_range]
    constructor
    · rintro ⟨i, ⟨_, h2⟩, h3⟩
      have : i = k := by omega
      subst this
      rw [getL hk] at h2; exact h2
    · intro h
      exact ⟨k, ⟨hk, by rw [getL hk]; exact h⟩, rfl⟩
  simp only [bkO, bkC] at *
  refine callsTo Tryd.cal26 hc1 ?_
  simp -dsimp -implicitDefEqProofs [h1, hM1.symm, hM2.symm, hM3.symm, hM4.symm, hM7.symm, withO_of t3, withO_of u3, withO_of u3b, withO_of u4, withO_of u6, withO_of t8, withO_of u8, withO_of t14, withO_of w14]
  refine callsTo Tryd.cal27 hc2 ?_
  simp -dsimp -implicitDefEqProofs [h1, hM1.symm, hM2.symm, hM3.symm, hM4.symm, hM7.symm, withO_of t3, withO_of u3, withO_of u3b, withO_of u4, withO_of u6, withO_of t8, withO_of u8, withO_of t14, withO_of w14]
  refine callsTo Tryd.cal28 hc3 ?_
  simp -dsimp -implicitDefEqProofs [h1, hM1.symm, hM2.symm, hM3.symm, hM4.symm, hM7.symm, withO_of t3, withO_of u3, withO_of u3b, withO_of u4, withO_of u6, withO_of t8, withO_of u8, withO_of t14, withO_of w14]
  refine callsTo Tryd.cal29 hc4 ?_
  simp -dsimp -implicitDefEqProofs [h1, hM1.symm, hM2.symm, hM3.symm, hM4.symm, hM7.symm, withO_of t3, withO_of u3, withO_of u3b, withO_of u4, withO_of u6, withO_of t8, withO_of u8, withO_of t14, withO_of w14]
  refine callsTo Tryd.cal30 hc5 ?_
  simp -dsimp -implicitDefEqProofs [h1, hM1.symm, hM2.symm, hM3.symm, hM4.symm, hM7.symm, withO_of t3, withO_of u3, withO_of u3b, withO_of u4, withO_of u6, withO_of t8, withO_of u8, withO_of t14, withO_of w14]
  refine callsTo Tryd.cal31 hc6 ?_
  simp -dsimp -implicitDefEqProofs [h1, hM1.symm, hM2.symm, hM3.symm, hM4.symm, hM7.symm, withO_of t3, withO_of u3, withO_of u3b, withO_of u4, withO_of u6, withO_of t8, withO_of u8, withO_of t14, withO_of w14]
  refine callsTo Tryd.cal32 hc7 ?_
  simp -dsimp -implicitDefEqProofs [h1, hM1.symm, hM2.symm, hM3.symm, hM4.symm, hM7.symm, withO_of t3, withO_of u3, withO_of u3b, withO_of u4, withO_of u6, withO_of t8, withO_of u8, withO_of t14, withO_of w14]
  refine callsTo Tryd.cal14 e8 ?_
  simp -dsimp -implicitDefEqProofs [h1, hM1.symm, hM2.symm, hM3.symm, hM4.symm, hM7.symm, withO_of t3, withO_of u3, withO_of u3b, withO_of u4, withO_of u6, withO_of t8, withO_of u8, withO_of t14, withO_of w14]
  refine callsTo Tryd.cal13 e9 ?_
  simp -dsimp -implicitDefEqProofs [h1, hM1.symm, hM2.symm, hM3.symm, hM4.symm, hM7.symm, withO_of t3, withO_of u3, withO_of u3b, withO_of u4, withO_of u6, withO_of t8, withO_of u8, withO_of t14, withO_of w14]
  refine callsTo Tryd.cal33 e10 ?_
  simp -dsimp -implicitDefEqProofs [h1, hM1.symm, hM2.symm, hM3.symm, hM4.symm, hM7.symm, withO_of t3, withO_of u3, withO_of u3b, withO_of u4, withO_of u6, withO_of t8, withO_of u8, withO_of t14, withO_of w14]
  refine callsTo Tryd.cal34 e11 ?_
  simp -dsimp -implicitDefEqProofs [h1, hM1.symm, hM2.symm, hM3.symm, hM4.symm, hM7.symm, withO_of t3, withO_of u3, withO_of u3b, withO_of u4, withO_of u6, withO_of t8, withO_of u8, withO_of t14, withO_of w14]
  refine callsTo Tryd.cal35 e12 ?_
  simp -dsimp -implicitDefEqProofs [h1, hM1.symm, hM2.symm, hM3.symm, hM4.symm, hM7.symm, withO_of t3, withO_of u3, withO_of u3b, withO_of u4, withO_of u6, withO_of t8, withO_of u8, withO_of t14, withO_of w14]
  refine callsTo Tryd.cal36 e14 ?_
  simp -dsimp -implicitDefEqProofs [h1, hM1.symm, hM2.symm, hM3.symm, hM4.symm, hM7.symm, withO_of t3, withO_of u3, withO_of u3b, withO_of u4, withO_of u6, withO_of t8, withO_of u8, withO_of t14, withO_of w14]
  by_cases hac0 : ac = 0
  · have ha0 : (ac == 0) = true := by simpa using hac0
    obtain ⟨i, k1, k2, k3, k4, rfl⟩ := hA hac0
    have hg4 := (okB_good k1).1
    simp -dsimp -implicitDefEqProofs [ha0]
    refine loopN i (fun k σ m' => m' = M9 ∧ (σ 4 = some (.pointer (some ⟨m2.length, 0, none⟩)) ∧ σ 5 = some (.int .i64 mc) ∧ σ 6 = some (.pointer (some ⟨m3.length, 0, none⟩)) ∧ σ 14 = some (.pointer (some ⟨m7.length, 0, none⟩)) ∧ σ 15 = some (.int .i64 fl) ∧ σ 17 = some (.int .i64 uc) ∧ σ 18 = some (.slice B9 us.length us.length) ∧ σ 22 = some (.int .i64 ro)) ∧ (σ 8 = some (.pointer (some ⟨m4.length, 0, none⟩)) ∧ σ 9 = some (.int .i64 n4) ∧ σ 12 = some (.int .i64 i)) ∧ σ 24 = some (.int .i64 (sumR (l4.take k))) ∧ σ 25 = some (.int .i64 k)) ⟨rfl, by simp, by simp, by simp [sumR], by simp⟩ ?_
    rintro k σ m' hk ⟨hmm, ⟨s4, s5, s6, s14, s15, s17, s18, s22⟩, ⟨s8, s9, s12⟩, s24, s25⟩
    have hmm := hmm.symm
    subst hmm
    have hkl : k < l4.length := by omega
    obtain ⟨lid, loff, lo, hla, hlm, hlk, hlsz, hll, hlrow, hlc0, hlc1⟩ := RL.at_ rd49 hkl
    simp only [Option.some.injEq, Addr.mk.injEq, and_true] at hla
    obtain ⟨rfl, rfl⟩ := hla
    simp only [Nat.zero_add] at hll hlrow hlc0 hlc1
    have hs1 := (hg4.take (k + 1)).sum
    have hg40 := hg4.1
    have hw : IntKind.i64.wrap ((k : Int) + 1) = k + 1 := wrapI (by omega) (by omega)
    have hw2 : IntKind.i64.wrap (sumR (l4.take k) + l4[k].2) = sumR (l4.take (k + 1)) := by rw [← sumR_succ hkl]; exact wrapI (by omega) (by omega)
    by_cases hlt : k < i
    · simp -dsimp -implicitDefEqProofs [s4, s5, s6, s14, s15, s17, s18, s22, s8, s9, s12, s24, s25, hlt, hkl, withO_of x8, withO_of hlm, hlk, hlsz, withC_of hlc1, hw, hw2]
      exact next_ hlt ⟨rfl, by simp [s4, s5, s6, s14, s15, s17, s18, s22], by simp [s8, s9, s12], by simp, by simp [hw]⟩
    · have hki : k = i := by omega
      subst hki
      have j1 : ¬ n4 < sumR (l4.take k) := by omega
      have j2 : ¬ sumR (l4.take (k + 1)) ≤ n4 := by omega
      simp -dsimp -implicitDefEqProofs [s4, s5, s6, s14, s15, s17, s18, s22, s8, s9, s12, s24, s25, hlt, hkl, withO_of x8, withO_of hlm, hlk, hlsz, withC_of hlc1, hw, hw2, j1, j2]
      by_cases huc0 : uc = 0
      · have hu0 : (uc == 0) = true := by simpa using huc0
        obtain ⟨k1, k2⟩ := hB huc0
        obtain ⟨hg7, hst7⟩ := okB_good k1
        simp -dsimp -implicitDefEqProofs [s4, s5, s6, s14, s15, s17, s18, s22, s8, s9, s12, s24, s25, hlt, hkl, withO_of x8, withO_of hlm, hlk, hlsz, withC_of hlc1, hw, hw2, j1, j2, hu0]
        refine loopN l7.length (fun k σ m' => m' = M9 ∧ (σ 4 = some (.pointer (some ⟨m2.length, 0, none⟩)) ∧ σ 5 = some (.int .i64 mc) ∧ σ 6 = some (.pointer (some ⟨m3.length, 0, none⟩)) ∧ σ 14 = some (.pointer (some ⟨m7.length, 0, none⟩)) ∧ σ 15 = some (.int .i64 fl) ∧ σ 17 = some (.int .i64 uc) ∧ σ 18 = some (.slice B9 us.length us.length) ∧ σ 22 = some (.int .i64 ro)) ∧ σ 26 = some (.int .i64 k)) ⟨rfl, by simp [s4, s5, s6, s14, s15, s17, s18, s22, s8, s9, s12, s24, s25, hlt, hkl, withO_of x8, withO_of hlm, hlk, hlsz, withC_of hlc1, hw, hw2, j1, j2], by simp⟩ ?_
        rintro k σ m' hk ⟨hmm, ⟨s4, s5, s6, s14, s15, s17, s18, s22⟩, s26⟩
        have hmm := hmm.symm
        subst hmm
        by_cases hlt : k < l7.length
        · obtain ⟨lid, loff, lo, hla, hlm, hlk, hlsz, hll, hlrow, hlc0, hlc1⟩ := RL.at_ rd79 hlt
          simp only [Option.some.injEq, Addr.mk.injEq, and_true] at hla
          obtain ⟨rfl, rfl⟩ := hla
          simp only [Nat.zero_add] at hll hlrow hlc0 hlc1
          have h60 := hst7 (fun h => by rw [h] at hlt; simp at hlt)
          have hs7 : ((s7.toNat : Nat) : Int) = s7 := by omega
          have eI := implIsSound_c l7[k].1 s7.toNat fl (hg7.2 _ (List.getElem_mem hlt)).1 (by omega) k2 M9
          rw [hs7] at eI
          have eH := f6has_c us B9 k M9 rB9 husl
          rw [hmem k hlt huc0] at eH
          obtain ⟨sd, hsd⟩ : ∃ sd, sd = soundB l7[k].1 s7.toNat fl := ⟨_, rfl⟩
          rw [← hsd] at eI eH
          have hsn : (sd == !sd) = false := by cases sd <;> rfl
          have hw : IntKind.i64.wrap ((k : Int) + 1) = k + 1 := wrapI (by omega) (by omega)
          simp -dsimp -implicitDefEqProofs [s4, s5, s6, s14, s15, s17, s18, s22, s26, hlt, withO_of x14, withO_of hlm, hlk, hlsz, withC_of hlc0, hw, hsn]
          refine callsTo Tryd.cal37 eI ?_
          simp -dsimp -implicitDefEqProofs [s4, s5, s6, s14, s15, s17, s18, s22, s26, hlt, withO_of x14, withO_of hlm, hlk, hlsz, withC_of hlc0, hw, hsn]
          refine callsTo Tryd.cal38 eH ?_
          simp -dsimp -implicitDefEqProofs [s4, s5, s6, s14, s15, s17, s18, s22, s26, hlt, withO_of x14, withO_of hlm, hlk, hlsz, withC_of hlc0, hw, hsn]
          exact next_ hlt ⟨rfl, by simp [s4, s5, s6, s14, s15, s17, s18, s22], by simp [hw]⟩
        · simp -dsimp -implicitDefEqProofs [s4, s5, s6, s14, s15, s17, s18, s22, s26, hlt, withO_of x14]
          by_cases hmc0 : mc = 0
          · have hm0 : (mc != 0) = false := by simpa using hmc0
            obtain ⟨k1, k2, k3, k4, k5⟩ := hC hmc0
            have hgl := (okB_good k1).1
            have hma := merge_all (P := fun s => s.size ≤ maxLen) (ls := l1) (fun p hp => ⟨z1 p hp, (hgl.2 p hp).2.1⟩) l1.length (Nat.le_refl _)
            rw [List.take_length] at hma
            have hap := merge_apart l1 l1.length (Nat.le_refl _)
            rw [List.take_length, ← k4] at hap
            have hsz := mLs_small (st := s1) (Nat.le_refl _) hsm1
            rw [← hml, ← hmb] at hsz
            have e13 := implRoundsB_c ms ml mb A2 M9 rd29 (by omega) hsz.2.1 hsz.2.2
            have hrv : roundsBV ms ml mb = .tuple #[.int .i64 ro, .int .i64 0] := by
              unfold roundsBV
              rw [hro, k3, k4, k5, k2, k1, hma.1]; rfl
            rw [hrv] at e13
            simp only [bkC] at e13
            simp -dsimp -implicitDefEqProofs [s4, s5, s6, s14, s15, s17, s18, s22, s26, hlt, withO_of x14, hm0, withO_of u4, withO_of u6]
            refine callsTo Tryd.cal33 e13 ?_
            simp -dsimp -implicitDefEqProofs [s4, s5, s6, s14, s15, s17, s18, s22, s26, hlt, withO_of x14, hm0, withO_of u4, withO_of u6]
            refine loopN (ml.length - 1) (fun k σ m' => m' = M9 ∧ σ 6 = some (.pointer (some ⟨m3.length, 0, none⟩)) ∧ σ 31 = some (.int .i64 ((k + 1 : Nat) : Int))) ⟨rfl, by simp [s4, s5, s6, s14, s15, s17, s18, s22, s26, hlt, withO_of x14], by simp⟩ ?_
            rintro k σ m' hk ⟨hmm, v6, v31⟩
            have hmm := hmm.symm
            subst hmm
            have hk0 : (0 : Int) ≤ (k : Int) + 1 := by omega
            by_cases hlt : k + 1 < ml.length
            · obtain ⟨lid, loff, lo, hla, hlm, hlk, hlsz, hll, hlrow, hlc0, hlc1⟩ := RL.at_ rd39 (i := k) (by omega)
              obtain ⟨rid, roff, ro', hra, hrm, hrk, hrsz, hrl, hrrow, hrc0, hrc1⟩ := RL.at_ rd39 hlt
              subst hla
              simp only [Option.some.injEq, Addr.mk.injEq, and_true] at hra
              obtain ⟨rfl, rfl⟩ := hra
              have hro' : ro' = lo := by
                have := hlm.symm.trans hrm
                injection this with this
                exact this.symm
              subst hro'
              have hne := hap k hlt
              have hneb : ((ml[k]'(by omega)).1.toList == ml[k + 1].1.toList) = false := by rw [bytes_beq]; simpa using hne
              have hlt' : (k : Int) + 1 < ml.length := by omega
              have hltk : k < ml.length := by omega
              have htn : ((k : Int) + 1).toNat = k + 1 := by omega
              have hw1 : IntKind.i64.wrap (k : Int) = k := wrapI (by omega) (by omega)
              have hw2 : IntKind.i64.wrap ((k : Int) + 1 + 1) = (k : Int) + 1 + 1 := wrapI (by omega) (by omega)
              simp -dsimp -implicitDefEqProofs [v6, v31, hlt', hlt, hltk, hk0, htn, withO_of u6, withO_of hlm, hlk, hlsz, withC_of hlc0, withC_of hrc0, hw1, hw2, hneb]
              have hk2 : k < ml.length - 1 := by omega
              refine next_ hk2 ?_
              exact ⟨rfl, by simp [v6], by simp [hw2]⟩
            · have hlt' : ¬ (k : Int) + 1 < ml.length := by omega
              simp -dsimp -implicitDefEqProofs [v6, v31, hlt', hlt, withO_of u6]
              exact ⟨_, _, GC.refl _ _ _, rfl⟩
          · have hm0 : (mc != 0) = true := by simpa using hmc0
            simp -dsimp -implicitDefEqProofs [s4, s5, s6, s14, s15, s17, s18, s22, s26, hlt, withO_of x14, hm0]
            exact ⟨_, _, GC.refl _ _ _, rfl⟩
      · have hu0 : (uc == 0) = false := beq_eq_false_iff_ne.2 huc0
        simp -dsimp -implicitDefEqProofs [s4, s5, s6, s14, s15, s17, s18, s22, s8, s9, s12, s24, s25, hlt, hkl, withO_of x8, withO_of hlm, hlk, hlsz, withC_of hlc1, hw, hw2, j1, j2, hu0]
        by_cases hmc0 : mc = 0
        · have hm0 : (mc != 0) = false := by simpa using hmc0
          obtain ⟨k1, k2, k3, k4, k5⟩ := hC hmc0
          have hgl := (okB_good k1).1
          have hma := merge_all (P := fun s => s.size ≤ maxLen) (ls := l1) (fun p hp => ⟨z1 p hp, (hgl.2 p hp).2.1⟩) l1.length (Nat.le_refl _)
          rw [List.take_length] at hma
          have hap := merge_apart l1 l1.length (Nat.le_refl _)
          rw [List.take_length, ← k4] at hap
          have hsz := mLs_small (st := s1) (Nat.le_refl _) hsm1
          rw [← hml, ← hmb] at hsz
          have e13 := implRoundsB_c ms ml mb A2 M9 rd29 (by omega) hsz.2.1 hsz.2.2
          have hrv : roundsBV ms ml mb = .tuple #[.int .i64 ro, .int .i64 0] := by
            unfold roundsBV
            rw [hro, k3, k4, k5, k2, k1, hma.1]; rfl
          rw [hrv] at e13
          simp only [bkC] at e13
          simp -dsimp -implicitDefEqProofs [s4, s5, s6, s14, s15, s17, s18, s22, s8, s9, s12, s24, s25, hlt, hkl, withO_of x8, withO_of hlm, hlk, hlsz, withC_of hlc1, hw, hw2, j1, j2, hu0, hm0, withO_of u4, withO_of u6]
          refine callsTo Tryd.cal33 e13 ?_
          simp -dsimp -implicitDefEqProofs [s4, s5, s6, s14, s15, s17, s18, s22, s8, s9, s12, s24, s25, hlt, hkl, withO_of x8, withO_of hlm, hlk, hlsz, withC_of hlc1, hw, hw2, j1, j2, hu0, hm0, withO_of u4, withO_of u6]
          refine loopN (ml.length - 1) (fun k σ m' => m' = M9 ∧ σ 6 = some (.pointer (some ⟨m3.length, 0, none⟩)) ∧ σ 31 = some (.int .i64 ((k + 1 : Nat) : Int))) ⟨rfl, by simp [s4, s5, s6, s14, s15, s17, s18, s22, s8, s9, s12, s24, s25, hlt, hkl, withO_of x8, withO_of hlm, hlk, hlsz, withC_of hlc1, hw, hw2, j1, j2, hu0], by simp⟩ ?_
          rintro k σ m' hk ⟨hmm, v6, v31⟩
          have hmm := hmm.symm
          subst hmm
          have hk0 : (0 : Int) ≤ (k : Int) + 1 := by omega
          by_cases hlt : k + 1 < ml.length
          · obtain ⟨lid, loff, lo, hla, hlm, hlk, hlsz, hll, hlrow, hlc0, hlc1⟩ := RL.at_ rd39 (i := k) (by omega)
            obtain ⟨rid, roff, ro', hra, hrm, hrk, hrsz, hrl, hrrow, hrc0, hrc1⟩ := RL.at_ rd39 hlt
            subst hla
            simp only [Option.some.injEq, Addr.mk.injEq, and_true] at hra
            obtain ⟨rfl, rfl⟩ := hra
            have hro' : ro' = lo := by
              have := hlm.symm.trans hrm
              injection this with this
              exact this.symm
            subst hro'
            have hne := hap k hlt
            have hneb : ((ml[k]'(by omega)).1.toList == ml[k + 1].1.toList) = false := by rw [bytes_beq]; simpa using hne
            have hlt' : (k : Int) + 1 < ml.length := by omega
            have hltk : k < ml.length := by omega
            have htn : ((k : Int) + 1).toNat = k + 1 := by omega
            have hw1 : IntKind.i64.wrap (k : Int) = k := wrapI (by omega) (by omega)
            have hw2 : IntKind.i64.wrap ((k : Int) + 1 + 1) = (k : Int) + 1 + 1 := wrapI (by omega) (by omega)
            simp -dsimp -implicitDefEqProofs [v6, v31, hlt', hlt, hltk, hk0, htn, withO_of u6, withO_of hlm, hlk, hlsz, withC_of hlc0, withC_of hrc0, hw1, hw2, hneb]
            have hk2 : k < ml.length - 1 := by omega
            refine next_ hk2 ?_
            exact ⟨rfl, by simp [v6], by simp [hw2]⟩
          · have hlt' : ¬ (k : Int) + 1 < ml.length := by omega
            simp -dsimp -implicitDefEqProofs [v6, v31, hlt', hlt, withO_of u6]
            exact ⟨_, _, GC.refl _ _ _, rfl⟩
        · have hm0 : (mc != 0) = true := by simpa using hmc0
          simp -dsimp -implicitDefEqProofs [s4, s5, s6, s14, s15, s17, s18, s22, s8, s9, s12, s24, s25, hlt, hkl, withO_of x8, withO_of hlm, hlk, hlsz, withC_of hlc1, hw, hw2, j1, j2, hu0, hm0]
          exact ⟨_, _, GC.refl _ _ _, rfl⟩
  · have ha0 : (ac == 0) = false := beq_eq_false_iff_ne.2 hac0
    simp -dsimp -implicitDefEqProofs [ha0]
    by_cases huc0 : uc = 0
    · have hu0 : (uc == 0) = true := by simpa using huc0
      obtain ⟨k1, k2⟩ := hB huc0
      obtain ⟨hg7, hst7⟩ := okB_good k1
      simp -dsimp -implicitDefEqProofs [ha0, hu0]
      refine loopN l7.length (fun k σ m' => m' = M9 ∧ (σ 4 = some (.pointer (some ⟨m2.length, 0, none⟩)) ∧ σ 5 = some (.int .i64 mc) ∧ σ 6 = some (.pointer (some ⟨m3.length, 0, none⟩)) ∧ σ 14 = some (.pointer (some ⟨m7.length, 0, none⟩)) ∧ σ 15 = some (.int .i64 fl) ∧ σ 17 = some (.int .i64 uc) ∧ σ 18 = some (.slice B9 us.length us.length) ∧ σ 22 = some (.int .i64 ro)) ∧ σ 26 = some (.int .i64 k)) ⟨rfl, by simp [ha0], by simp⟩ ?_
      rintro k σ m' hk ⟨hmm, ⟨s4, s5, s6, s14, s15, s17, s18, s22⟩, s26⟩
      have hmm := hmm.symm
      subst hmm
      by_cases hlt : k < l7.length
      · obtain ⟨lid, loff, lo, hla, hlm, hlk, hlsz, hll, hlrow, hlc0, hlc1⟩ := RL.at_ rd79 hlt
        simp only [Option.some.injEq, Addr.mk.injEq, and_true] at hla
        obtain ⟨rfl, rfl⟩ := hla
        simp only [Nat.zero_add] at hll hlrow hlc0 hlc1
        have h60 := hst7 (fun h => by rw [h] at hlt; simp at hlt)
        have hs7 : ((s7.toNat : Nat) : Int) = s7 := by omega
        have eI := implIsSound_c l7[k].1 s7.toNat fl (hg7.2 _ (List.getElem_mem hlt)).1 (by omega) k2 M9
        rw [hs7] at eI
        have eH := f6has_c us B9 k M9 rB9 husl
        rw [hmem k hlt huc0] at eH
        obtain ⟨sd, hsd⟩ : ∃ sd, sd = soundB l7[k].1 s7.toNat fl := ⟨_, rfl⟩
        rw [← hsd] at eI eH
        have hsn : (sd == !sd) = false := by cases sd <;> rfl
        have hw : IntKind.i64.wrap ((k : Int) + 1) = k + 1 := wrapI (by omega) (by omega)
        simp -dsimp -implicitDefEqProofs [s4, s5, s6, s14, s15, s17, s18, s22, s26, hlt, withO_of x14, withO_of hlm, hlk, hlsz, withC_of hlc0, hw, hsn]
        refine callsTo Tryd.cal37 eI ?_
        simp -dsimp -implicitDefEqProofs [s4, s5, s6, s14, s15, s17, s18, s22, s26, hlt, withO_of x14, withO_of hlm, hlk, hlsz, withC_of hlc0, hw, hsn]
        refine callsTo Tryd.cal38 eH ?_
        simp -dsimp -implicitDefEqProofs [s4, s5, s6, s14, s15, s17, s18, s22, s26, hlt, withO_of x14, withO_of hlm, hlk, hlsz, withC_of hlc0, hw, hsn]
        exact next_ hlt ⟨rfl, by simp [s4, s5, s6, s14, s15, s17, s18, s22], by simp [hw]⟩
      · simp -dsimp -implicitDefEqProofs [s4, s5, s6, s14, s15, s17, s18, s22, s26, hlt, withO_of x14]
        by_cases hmc0 : mc = 0
        · have hm0 : (mc != 0) = false := by simpa using hmc0
          obtain ⟨k1, k2, k3, k4, k5⟩ := hC hmc0
          have hgl := (okB_good k1).1
          have hma := merge_all (P := fun s => s.size ≤ maxLen) (ls := l1) (fun p hp => ⟨z1 p hp, (hgl.2 p hp).2.1⟩) l1.length (Nat.le_refl _)
          rw [List.take_length] at hma
          have hap := merge_apart l1 l1.length (Nat.le_refl _)
          rw [List.take_length, ← k4] at hap
          have hsz := mLs_small (st := s1) (Nat.le_refl _) hsm1
          rw [← hml, ← hmb] at hsz
          have e13 := implRoundsB_c ms ml mb A2 M9 rd29 (by omega) hsz.2.1 hsz.2.2
          have hrv : roundsBV ms ml mb = .tuple #[.int .i64 ro, .int .i64 0] := by
            unfold roundsBV
            rw [hro, k3, k4, k5, k2, k1, hma.1]; rfl
          rw [hrv] at e13
          simp only [bkC] at e13
          simp -dsimp -implicitDefEqProofs [s4, s5, s6, s14, s15, s17, s18, s22, s26, hlt, withO_of x14, hm0, withO_of u4, withO_of u6]
          refine callsTo Tryd.cal33 e13 ?_
          simp -dsimp -implicitDefEqProofs [s4, s5, s6, s14, s15, s17, s18, s22, s26, hlt, withO_of x14, hm0, withO_of u4, withO_of u6]
          refine loopN (ml.length - 1) (fun k σ m' => m' = M9 ∧ σ 6 = some (.pointer (some ⟨m3.length, 0, none⟩)) ∧ σ 31 = some (.int .i64 ((k + 1 : Nat) : Int))) ⟨rfl, by simp [s4, s5, s6, s14, s15, s17, s18, s22, s26, hlt, withO_of x14], by simp⟩ ?_
          rintro k σ m' hk ⟨hmm, v6, v31⟩
          have hmm := hmm.symm
          subst hmm
          have hk0 : (0 : Int) ≤ (k : Int) + 1 := by omega
          by_cases hlt : k + 1 < ml.length
          · obtain ⟨lid, loff, lo, hla, hlm, hlk, hlsz, hll, hlrow, hlc0, hlc1⟩ := RL.at_ rd39 (i := k) (by omega)
            obtain ⟨rid, roff, ro', hra, hrm, hrk, hrsz, hrl, hrrow, hrc0, hrc1⟩ := RL.at_ rd39 hlt
            subst hla
            simp only [Option.some.injEq, Addr.mk.injEq, and_true] at hra
            obtain ⟨rfl, rfl⟩ := hra
            have hro' : ro' = lo := by
              have := hlm.symm.trans hrm
              injection this with this
              exact this.symm
            subst hro'
            have hne := hap k hlt
            have hneb : ((ml[k]'(by omega)).1.toList == ml[k + 1].1.toList) = false := by rw [bytes_beq]; simpa using hne
            have hlt' : (k : Int) + 1 < ml.length := by omega
            have hltk : k < ml.length := by omega
            have htn : ((k : Int) + 1).toNat = k + 1 := by omega
            have hw1 : IntKind.i64.wrap (k : Int) = k := wrapI (by omega) (by omega)
            have hw2 : IntKind.i64.wrap ((k : Int) + 1 + 1) = (k : Int) + 1 + 1 := wrapI (by omega) (by omega)
            simp -dsimp -implicitDefEqProofs [v6, v31, hlt', hlt, hltk, hk0, htn, withO_of u6, withO_of hlm, hlk, hlsz, withC_of hlc0, withC_of hrc0, hw1, hw2, hneb]
            have hk2 : k < ml.length - 1 := by omega
            refine next_ hk2 ?_
            exact ⟨rfl, by simp [v6], by simp [hw2]⟩
          · have hlt' : ¬ (k : Int) + 1 < ml.length := by omega
            simp -dsimp -implicitDefEqProofs [v6, v31, hlt', hlt, withO_of u6]
            exact ⟨_, _, GC.refl _ _ _, rfl⟩
        · have hm0 : (mc != 0) = true := by simpa using hmc0
          simp -dsimp -implicitDefEqProofs [s4, s5, s6, s14, s15, s17, s18, s22, s26, hlt, withO_of x14, hm0]
          exact ⟨_, _, GC.refl _ _ _, rfl⟩
    · have hu0 : (uc == 0) = false := beq_eq_false_iff_ne.2 huc0
      simp -dsimp -implicitDefEqProofs [ha0, hu0]
      by_cases hmc0 : mc = 0
      · have hm0 : (mc != 0) = false := by simpa using hmc0
        obtain ⟨k1, k2, k3, k4, k5⟩ := hC hmc0
        have hgl := (okB_good k1).1
        have hma := merge_all (P := fun s => s.size ≤ maxLen) (ls := l1) (fun p hp => ⟨z1 p hp, (hgl.2 p hp).2.1⟩) l1.length (Nat.le_refl _)
        rw [List.take_length] at hma
        have hap := merge_apart l1 l1.length (Nat.le_refl _)
        rw [List.take_length, ← k4] at hap
        have hsz := mLs_small (st := s1) (Nat.le_refl _) hsm1
        rw [← hml, ← hmb] at hsz
        have e13 := implRoundsB_c ms ml mb A2 M9 rd29 (by omega) hsz.2.1 hsz.2.2
        have hrv : roundsBV ms ml mb = .tuple #[.int .i64 ro, .int .i64 0] := by
          unfold roundsBV
          rw [hro, k3, k4, k5, k2, k1, hma.1]; rfl
        rw [hrv] at e13
        simp only [bkC] at e13
        simp -dsimp -implicitDefEqProofs [ha0, hu0, hm0, withO_of u4, withO_of u6]
        refine callsTo Tryd.cal33 e13 ?_
        simp -dsimp -implicitDefEqProofs [ha0, hu0, hm0, withO_of u4, withO_of u6]
        refine loopN (ml.length - 1) (fun k σ m' => m' = M9 ∧ σ 6 = some (.pointer (some ⟨m3.length, 0, none⟩)) ∧ σ 31 = some (.int .i64 ((k + 1 : Nat) : Int))) ⟨rfl, by simp [ha0, hu0], by simp⟩ ?_
        rintro k σ m' hk ⟨hmm, v6, v31⟩
        have hmm := hmm.symm
        subst hmm
        have hk0 : (0 : Int) ≤ (k : Int) + 1 := by omega
        by_cases hlt : k + 1 < ml.length
        · obtain ⟨lid, loff, lo, hla, hlm, hlk, hlsz, hll, hlrow, hlc0, hlc1⟩ := RL.at_ rd39 (i := k) (by omega)
          obtain ⟨rid, roff, ro', hra, hrm, hrk, hrsz, hrl, hrrow, hrc0, hrc1⟩ := RL.at_ rd39 hlt
          subst hla
          simp only [Option.some.injEq, Addr.mk.injEq, and_true] at hra
          obtain ⟨rfl, rfl⟩ := hra
          have hro' : ro' = lo := by
            have := hlm.symm.trans hrm
            injection this with this
            exact this.symm
          subst hro'
          have hne := hap k hlt
          have hneb : ((ml[k]'(by omega)).1.toList == ml[k + 1].1.toList) = false := by rw [bytes_beq]; simpa using hne
          have hlt' : (k : Int) + 1 < ml.length := by omega
          have hltk : k < ml.length := by omega
          have htn : ((k : Int) + 1).toNat = k + 1 := by omega
          have hw1 : IntKind.i64.wrap (k : Int) = k := wrapI (by omega) (by omega)
          have hw2 : IntKind.i64.wrap ((k : Int) + 1 + 1) = (k : Int) + 1 + 1 := wrapI (by omega) (by omega)
          simp -dsimp -implicitDefEqProofs [v6, v31, hlt', hlt, hltk, hk0, htn, withO_of u6, withO_of hlm, hlk, hlsz, withC_of hlc0, withC_of hrc0, hw1, hw2, hneb]
          have hk2 : k < ml.length - 1 := by omega
          refine next_ hk2 ?_
          exact ⟨rfl, by simp [v6], by simp [hw2]⟩
        · have hlt' : ¬ (k : Int) + 1 < ml.length := by omega
          simp -dsimp -implicitDefEqProofs [v6, v31, hlt', hlt, withO_of u6]
          exact ⟨_, _, GC.refl _ _ _, rfl⟩
      · have hm0 : (mc != 0) = true := by simpa using hmc0
        simp -dsimp -implicitDefEqProofs [ha0, hu0, hm0]
        exact ⟨_, _, GC.refl _ _ _, rfl⟩
set_option maxRecDepth 100000 in
theorem fnLayersLifted (os : Os) (started : os.Started) (H : Type) (enc : TypeId × Value → H) :
    ReturnsInHanded {} Tryd.checked os 6 .any (fun w args => (Rows.fnLayersSpec.pre enc Tryd.prog Tryd.f6 [] false w args ∧ laidMetH Tryd.prog Rows.fnLayersRow.laid w) ∧ sizedMet enc Tryd.prog Tryd.f6 (OpenSpec.ofChange Rows.fnLayersSpec) false w args) (Rows.fnLayersSpec.post enc Tryd.prog Tryd.f6 false true false false) :=
  lawLiftedD (C := Tryd.checked) Rows.fnLayersRow.laid [.one (.sl [.int .u8])] 3 4 (by kernel_rfl) started (by kernel_rfl) Tryd.func6
    (ChangeSpec.witness_shaped (enc := enc) (C := Tryd.checked) (os := os) (X := fun w _ => laidMetH Tryd.prog Rows.fnLayersRow.laid w) false (doorWorld os) #[.slice none 0 0] 8 rfl (doorShaped os _) (by kernel_rfl) (by kernel_rfl) (by kernel_rfl) (doorMet os _))
    (by kernel_rfl) (by kernel_rfl) (by kernel_rfl) (fun W hs h => doorTabs W hs h) rfl (by kernel_rfl) rfl (fun ds h => match ds, h with | [_], _ => rfl) fun m vs h => by
      obtain ⟨u0, rfl, hv0⟩ := h.one
      obtain ⟨a, xs, rfl, hl0, hr0⟩ := CV.slB hv0
      obtain ⟨v, m', hc, hv⟩ := lawLayers_c xs a m hr0 hl0
      have hv' : v = .bool true := hv
      exact ⟨m', hv' ▸ hc⟩

theorem fnLayersRow : Rows.FnLayersSaid :=
  OpenClaim.holds_of_wide 6 Tryd.f6 rfl rfl rfl rfl rfl rfl rfl ⟨rfl, rfl, rfl, rfl, rfl⟩ rfl rfl rfl rfl rfl (by kernel_rfl) Tryd.func6 (by kernel_rfl)
    (of_decide_eq_true (by kernel_rfl)) (by unfold Func.isWrapper; first | (rw [if_pos (by decide +kernel)]; kernel_rfl) | (rw [if_neg (by decide +kernel)]; exact ⟨rfl, rfl⟩))
    (fun os started H enc _ => fnLayersLifted os started H enc)

theorem fnLayersHolds : Rows.FnLayersCardSaid :=
  Claim7.holds_tied_plain_at .later [] [.data, .pinned] true (true, "68bcc4c865424b8343f4614056183390edf6139d20cb2c7cc7fdeafc599d8833") false
    fnLayersRow (fun _ h => by cases h) (by kernel_rfl) (fun _ h => by cases h) fnLayers_row_tie rfl ⟨rfl, rfl⟩ (by kernel_rfl) rfl
    (fun f fn hf hfn => by
      obtain rfl : f = 6 := Option.some.inj ((show Tryd.prog.funcNamed Rows.fnLayersRow.func = some 6 by kernel_rfl).symm.trans hf) |>.symm
      obtain rfl : fn = Tryd.f6 := (Option.some.inj (Tryd.func6.symm.trans hfn)).symm
      exact ⟨by kernel_rfl, fun j t ht => by
        have hall : (Tryd.f6.params.toList.all fun u => !Tryd.prog.wantsStandIn u) = true := by kernel_rfl
        have hm : t ∈ Tryd.f6.params.toList := by simpa using Array.mem_of_getElem? ht
        exact (show Tryd.prog.wantsStandIn t = false by simpa using List.all_eq_true.1 hall t hm)⟩)
    (by kernel_rfl)
end Go.Proofs.YtmbijgnmbapchaaDoor
