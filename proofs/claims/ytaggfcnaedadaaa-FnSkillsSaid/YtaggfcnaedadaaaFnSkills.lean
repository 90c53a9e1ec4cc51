/-
  'FnSkills': a worker can make just the baskets with no greater skill, and with a new worker of the told skill all baskets can be made. Conditions: none.
-/
import Derived.Test.YtaggfcnaedadaaaJobJ
set_option linter.unusedSimpArgs false
set_option linter.unusedVariables false
set_option linter.unusedSectionVars false
namespace Go.Proofs.Ytaggfcnaedadaaa
open Go.Abs Go.RowKit

def IsT (v : Value) (_ : Mem) : Prop := v = .bool true
set_option maxRecDepth 20000 in
set_option maxHeartbeats 1600000 in
theorem lawSkills_c (xs : List Int) (a : Option Addr) (m : Mem) (hr0 : RdB m a xs) (hm0 : xs.length ≤ maxLen) :
    ∃ v m', ACalls Try.prog 13 [.slice a xs.length xs.length] m v m' ∧ IsT v m' := by
  refine ecalls_of_vcF [27] Try.func13 rfl Try.fol (by kernel_rfl) ?_
  simp only [Try.f13]
  simp -dsimp -implicitDefEqProofs
  refine callsTo Try.cal40 (a2Long_c a none _ 0 _) ?_
  simp -dsimp -implicitDefEqProofs
  by_cases hlong : (3000 : Int) < xs.length
  · have h1 : decide ((3000 : Int) < xs.length) = true := by simpa using hlong
    simp -dsimp -implicitDefEqProofs [h1]
    exact ⟨_, _, GC.refl _ _ _, rfl⟩
  have h1 : decide ((3000 : Int) < xs.length) = false := by simp; omega
  simp -dsimp -implicitDefEqProofs [h1]
  obtain ⟨vk, m1, hck, js, ss, i1, i2, hsm, rfl, hp1, hi1, hi2, hne, ⟨o1, ho1, ho1a, ho1b, ho1c, ho1d, ho1e⟩, o2, ho2, ho2a, ho2b, ho2c, ho2d, ho2e⟩ := a2Jobs_c a xs m hr0 (by omega)
  refine callsTo Try.cal41 hck ?_
  simp -dsimp -implicitDefEqProofs [h1]
  have hg2 : ∀ x, (v2 x).length = 2 := fun _ => rfl
  have hr : RdG v2 2 m1 (some ⟨i1, 0, none⟩) js := RdG.of_get hg2 js ho1 ho1b ho1c ho1e
  have hs : RdI m1 (some ⟨i2, 0, none⟩) ss := RdI.of_get ho2 ho2b ho2c ho2e
  have hok := hsm.ok
  have hnj : js.length ≤ 1048576 := by have := hsm.2.1; omega
  have hns : ss.length ≤ 1048576 := by have := hsm.2.2.2.2; omega
  have hmO : missO js ss = some (missL js ss) := by simp [missO, hok]
  have hmC : missC js ss = 0 := by simp [missC, hok]
  have hml : (missL js ss).length ≤ js.length := overTo_length _ _ _
  have hSM := implMissing_c js ss _ _ m1 hr hs hnj hns
  rw [hmO, hmC] at hSM
  simp only [optV, optM] at hSM
  refine callsTo Try.cal29 hSM ?_
  simp -dsimp -implicitDefEqProofs [h1]
  obtain ⟨m2, hm2⟩ : ∃ m2, m2 = m1 ++ [(⟨(missL js ss).map (Value.int .i64), 2, 1, 2⟩ : AObj)] := ⟨_, rfl⟩
  rw [← hm2]
  have hp2 : m1 <+: m2 := by rw [hm2]; exact ⟨_, rfl⟩
  have hr2 := hr.pre hp2
  have ho2' := prefix_get hp2 ho2
  have hs2 : RdI m2 (some ⟨i2, 0, none⟩) ss := RdI.of_get ho2' ho2b ho2c ho2e
  have hz2 : RdI m2 (some ⟨m1.length, 0, none⟩) (missL js ss) := RdI.of_get (o := ⟨(missL js ss).map (Value.int .i64), 2, 1, 2⟩) (by rw [hm2]; simp) (by simp) rfl rfl
  have hLS := implLeast_c js ss _ _ m2 hr2 hs2 hnj hns
  rw [show leastV js ss = .tuple #[.int .i64 (leastI js ss), .int .i64 0] by simp [leastV, hmC]] at hLS
  refine callsTo Try.cal27 hLS ?_
  simp -dsimp -implicitDefEqProofs [h1]
  have hRi := a2Rises_c (missL js ss) _ js.length m2 hz2 (by omega) (rises_filter (fun i => decide (maxTo ss 0 < (jobAt js i).2)) js.length)
  refine callsTo Try.cal42 hRi ?_
  simp -dsimp -implicitDefEqProofs [h1]
  obtain ⟨hl0, hl3⟩ : 0 ≤ leastI js ss ∧ leastI js ss ≤ 3 := least_le hsm _ (Nat.le_refl _)
  have hpos := least_pos hsm
  have n1 : ¬ leastI js ss < 0 := by omega
  have n2 : ¬ 5 < leastI js ss := by omega
  have n3 : decide (0 < leastI js ss) = decide (0 < (missL js ss).length) := by simp only [hpos]
  simp -dsimp -implicitDefEqProofs [n1, n2, n3]
  refine loopN js.length (fun i σ m' => m' = m2 ∧ (σ 3 = some (.slice (some ⟨i1, 0, none⟩) js.length js.length) ∧ σ 4 = some (.slice (some ⟨i2, 0, none⟩) ss.length ss.length) ∧ σ 5 = some (.slice (some ⟨m1.length, 0, none⟩) (missL js ss).length (missL js ss).length) ∧ σ 7 = some (.int .i64 (leastI js ss))) ∧ σ 9 = some (.int .i64 i)) ⟨rfl, by simp, by simp⟩ ?_
  rintro i σ m' hi ⟨hmm, ⟨s3, s4, s5, s7⟩, s9⟩
  have hmm := hmm.symm
  subst hmm
  by_cases hlt : i < js.length
  · have hwi : IntKind.i64.wrap ((i : Int) + 1) = i + 1 := wrapI (by omega) (by omega)
    obtain ⟨jid, joff, jo, hje, hjm, hjk, hjs, hjl, hjrow, hjc0, hjc1⟩ := R2.at_ hr2 hlt
    injection hje with hje
    injection hje with hje1 hje2
    subst hje1; subst hje2
    simp -dsimp -implicitDefEqProofs [s3, s4, s5, s7, s9, hlt]
    refine loopN ss.length (fun k σ m3 => m3 = m2 ∧ (σ 3 = some (.slice (some ⟨i1, 0, none⟩) js.length js.length) ∧ σ 4 = some (.slice (some ⟨i2, 0, none⟩) ss.length ss.length) ∧ σ 5 = some (.slice (some ⟨m1.length, 0, none⟩) (missL js ss).length (missL js ss).length) ∧ σ 7 = some (.int .i64 (leastI js ss))) ∧ σ 9 = some (.int .i64 i) ∧ σ 10 = some (.bool (canA ss js[i].2 k)) ∧ σ 11 = some (.int .i64 k)) ⟨rfl, by simp [s3, s4, s5, s7], by simp [s9], by simp [canA], by simp⟩ ?_
    clear s3 s4 s5 s7 s9
    rintro k σ m3 hk ⟨hmm, ⟨s3, s4, s5, s7⟩, s9, s10, s11⟩
    have hmm := hmm.symm
    subst hmm
    by_cases hlk : k < ss.length
    · have hwk : IntKind.i64.wrap ((k : Int) + 1) = k + 1 := wrapI (by omega) (by omega)
      obtain ⟨sid, soff, so, hse, hsm2, hsk, hss, hsc⟩ := hs2.at_ hlk
      injection hse with hse
      injection hse with hse1 hse2
      subst hse1; subst hse2
      have hnx := canA_succ (p := js[i].2) hlk
      simp only [Nat.zero_add] at hjc0 hjc1 hsc
      simp -dsimp -implicitDefEqProofs [s3, s4, s5, s7, s9, s10, s11, hlt, hlk, withO_of hjm, hjk, hjs, withC_of hjc1, withO_of hsm2, hsk, hss, withC_of hsc, hwk]
      refine sp2 (fun g => next_ hlk ⟨rfl, by simp [s3, s4, s5, s7], by simp [s9], by simp [hnx, g], by simp [hwk]⟩) (fun g => next_ hlk ⟨rfl, by simp [s3, s4, s5, s7], by simp [s9], by simp [hnx, g], by simp [hwk]⟩)
    · have hch := can_has hsm hlt
      simp -dsimp -implicitDefEqProofs [s3, s4, s5, s7, s9, s10, s11, hlt, hlk]
      refine callsTo Try.cal43 (a2Has_c (missL js ss) _ i _ hz2 (by omega)) ?_
      simp -dsimp -implicitDefEqProofs [s3, s4, s5, s7, s9, s10, s11, hlt, hlk]
      obtain rfl : k = ss.length := by omega
      refine sp2 (fun g => absurd g (by rw [hch]; simp)) (fun g => ?_)
      exact next_ hlt ⟨rfl, by simp [s3, s4, s5, s7], by simp [hwi]⟩
  · simp -dsimp -implicitDefEqProofs [s3, s4, s5, s7, s9, hlt]
    refine loopN ss.length (fun k σ m' => m2 <+: m' ∧ (σ 3 = some (.slice (some ⟨i1, 0, none⟩) js.length js.length) ∧ σ 4 = some (.slice (some ⟨i2, 0, none⟩) ss.length ss.length) ∧ σ 7 = some (.int .i64 (leastI js ss))) ∧ σ 12 = some (.int .i64 k)) ⟨pre_refl _, by simp [s3, s4, s7], by simp⟩ ?_
    clear s3 s4 s5 s7 s9
    rintro k σ m' hk ⟨hp', ⟨s3, s4, s7⟩, s12⟩
    have hrA := hr2.pre hp'
    have hsA : RdI m' (some ⟨i2, 0, none⟩) ss := RdI.of_get (prefix_get hp' ho2') ho2b ho2c ho2e
    by_cases hlk : k < ss.length
    · have hwk : IntKind.i64.wrap ((k : Int) + 1) = k + 1 := wrapI (by omega) (by omega)
      have hFO : forO js ss k = some (canTo js ss[k] js.length) := by
        simp [forO, forC, hok, inB, hlk, List.getD_eq_getElem?_getD]; omega
      have hFC : forC js ss k = 0 := by simp [forC, hok, inB]; omega
      have hJF := implFor_c js ss k _ _ m' hrA hsA hnj hns
      rw [hFO, hFC] at hJF
      simp only [optV, optM] at hJF
      have hcl : (canTo js ss[k] js.length).length ≤ js.length := canTo_length _ _ _
      simp -dsimp -implicitDefEqProofs [s3, s4, s7, s12, hlk]
      refine callsTo Try.cal22 hJF ?_
      simp -dsimp -implicitDefEqProofs [s3, s4, s7, s12, hlk]
      obtain ⟨m3, hm3⟩ : ∃ m3, m3 = m' ++ [(⟨(canTo js ss[k] js.length).map (Value.int .i64), 2, 1, 2⟩ : AObj)] := ⟨_, rfl⟩
      rw [← hm3]
      have hp3 : m' <+: m3 := by rw [hm3]; exact ⟨_, rfl⟩
      have hc3 : RdI m3 (some ⟨m'.length, 0, none⟩) (canTo js ss[k] js.length) := RdI.of_get (o := ⟨(canTo js ss[k] js.length).map (Value.int .i64), 2, 1, 2⟩) (by rw [hm3]; simp) (by simp) rfl rfl
      have hr3 := hrA.pre hp3
      have hs3 : RdI m3 (some ⟨i2, 0, none⟩) ss := RdI.of_get (prefix_get (hp'.trans hp3) ho2') ho2b ho2c ho2e
      refine callsTo Try.cal42 (a2Rises_c (canTo js ss[k] js.length) _ js.length m3 hc3 (by omega) (rises_filter (fun i => decide ((jobAt js i).2 ≤ ss[k])) js.length)) ?_
      simp -dsimp -implicitDefEqProofs [s3, s4, s7, s12, hlk]
      refine loopN js.length (fun i σ m4 => m4 = m3 ∧ (σ 3 = some (.slice (some ⟨i1, 0, none⟩) js.length js.length) ∧ σ 4 = some (.slice (some ⟨i2, 0, none⟩) ss.length ss.length) ∧ σ 7 = some (.int .i64 (leastI js ss)) ∧ σ 12 = some (.int .i64 k) ∧ σ 13 = some (.slice (some ⟨m'.length, 0, none⟩) (canTo js ss[k] js.length).length (canTo js ss[k] js.length).length)) ∧ σ 15 = some (.int .i64 i)) ⟨rfl, by simp [s3, s4, s7, s12], by simp⟩ ?_
      clear s3 s4 s7 s12
      rintro i σ m4 hi ⟨hmm, ⟨s3, s4, s7, s12, s13⟩, s15⟩
      have hmm := hmm.symm
      subst hmm
      by_cases hlt2 : i < js.length
      · have hwi : IntKind.i64.wrap ((i : Int) + 1) = i + 1 := wrapI (by omega) (by omega)
        obtain ⟨jid, joff, jo, hje, hjm, hjk, hjs, hjl, hjrow, hjc0, hjc1⟩ := R2.at_ hr3 hlt2
        injection hje with hje
        injection hje with hje1 hje2
        subst hje1; subst hje2
        obtain ⟨sid, soff, so, hse, hsm2, hsk, hss, hsc⟩ := hs3.at_ hlk
        injection hse with hse
        injection hse with hse1 hse2
        subst hse1; subst hse2
        simp only [Nat.zero_add] at hjc0 hjc1 hsc
        have hhas : (canTo js ss[k] js.length).contains (i : Int) = decide (js[i].2 ≤ ss[k]) := by
          rw [← jobAt_eq hlt2]; exact has_filter (fun i => decide ((jobAt js i).2 ≤ ss[k])) js.length i hlt2
        simp -dsimp -implicitDefEqProofs [s3, s4, s7, s12, s13, s15, hlk, hlt2, hwi]
        refine regF [[], [], [], [], [], [2], [2], [], [], [2], [], [2], [], []] 0 (by kernel_rfl) (by kernel_rfl) ?_
        simp -dsimp -implicitDefEqProofs [s3, s4, s7, s12, s13, s15, hlk, hlt2, hwi, withO_of hjm, hjk, hjs, withC_of hjc1, withO_of hsm2, hsk, hss, withC_of hsc]
        refine callsTo Try.cal43 (a2Has_c (canTo js ss[k] js.length) _ i _ hc3 (by omega)) ?_
        rw [hhas]
        simp -dsimp -implicitDefEqProofs [s3, s4, s7, s12, s13, s15, hlk, hlt2, hwi, withO_of hjm, hjk, hjs, withC_of hjc1, withO_of hsm2, hsk, hss, withC_of hsc]
        exact next_ hlt2 ⟨rfl, by simp [s3, s4, s7, s12, s13], by simp [hwi]⟩
      · simp -dsimp -implicitDefEqProofs [s3, s4, s7, s12, s13, s15, hlk, hlt2]
        exact next_ hlk ⟨hp'.trans hp3, by simp [s3, s4, s7], by simp [hwk]⟩
    · simp -dsimp -implicitDefEqProofs [s3, s4, s7, s12, hlk]
      refine appTo_grow (e := 2) (sz := 1) (by_ := 8) (z := .int .i64 0) (by kernel_rfl) (by kernel_rfl) ⟨by decide, rfl⟩ (o := ⟨[], 2, 1, 1⟩) (by simp) (by simp) ⟨rfl, rfl⟩ rfl (by omega) (Src.rdI (hsA.ext _)) ?_
      intro m5 id5 hg5
      have hp5 : m' <+: m5 := hg5.pre m' ⟨_, rfl⟩ (Nat.le_refl _)
      simp -dsimp -implicitDefEqProofs [s3, s4, s7, s12, hlk]
      refine appTo_grow (e := 2) (sz := 1) (by_ := 8) (z := .int .i64 0) (by kernel_rfl) (by kernel_rfl) ⟨by decide, rfl⟩ (o := ⟨[] ++ ss.map (Value.int .i64), 2, 1, 2⟩) (get_old hg5.new) (by simp) ⟨rfl, rfl⟩ (by simp) (by omega) (Src.obj (o := ⟨[.int .i64 (leastI js ss)], 2, 1, 1⟩) (by simp) (by simp) rfl rfl) ?_
      intro m6 id6 hg6
      simp -dsimp -implicitDefEqProofs [s3, s4, s7, s12, hlk]
      have hp6 : m' <+: m6 := hg6.pre m' (pre_app hp5 _) (by rw [hg5.at_]; simp)
      have hE0 := least_done hsm
      have hr6 := hrA.pre hp6
      have hs6 : RdI m6 (some ⟨id6, 0, none⟩) (ss ++ [leastI js ss]) := RdI.of_get hg6.new (by simp) rfl (by simp)
      have hl6 := hp6.length_le
      have hbk : i1 < m6.length := lt_of_get (prefix_get (hp2.trans (hp'.trans hp6)) ho1)
      have hEE := implEarly_c js (ss ++ [leastI js ss]) (some ⟨i1, 0, none⟩) (some ⟨id6, 0, none⟩) m6 hr6 hs6 hnj (by have := hsm.2.2.2.2; simp; omega) (fun x h => by injection h with h; subst h; exact hbk) (fun x h => by injection h with h; subst h; exact lt_of_get hg6.new)
      rw [hE0, show earlyO js (ss ++ [leastI js ss]) = some (earlyT js (ss ++ [leastI js ss])).1 by simp [earlyO, hE0]] at hEE
      simp only [optV, optM, List.length_append, List.length_singleton] at hEE
      refine callsTo Try.cal37 hEE ?_
      simp -dsimp -implicitDefEqProofs [s3, s4, s7, s12, hlk]
      exact ⟨_, _, GC.refl _ _ _, rfl⟩

set_option maxRecDepth 100000 in
theorem fnSkillsLifted (os : Os) (started : os.Started) (H : Type) (enc : TypeId × Value → H) :
    ReturnsInHanded {} Try.checked os 13 .any (Rows.fnSkillsSpec.pre6 enc Try.prog Try.f13 Rows.fnSkillsRow.domain false) (Rows.fnSkillsSpec.post enc Try.prog Try.f13 false true false false) :=
  lawLifted (C := Try.checked) [.one (.sl [.int .u8])] 3 4 (by kernel_rfl) started (by kernel_rfl) Try.func13
    (ChangeSpec.witness6 (enc := enc) (C := Try.checked) false ⟨#[], #[.slice none 0 0], []⟩ 8 (by kernel_rfl) (by kernel_rfl) (by kernel_rfl) (by kernel_rfl))
    (by kernel_rfl) (by kernel_rfl) (by kernel_rfl) rfl (by kernel_rfl) rfl (fun ds h => match ds, h with | [_], _ => rfl) fun m vs h => by
      obtain ⟨u0, rfl, hv0⟩ := h.one
      obtain ⟨a, xs, rfl, hl0, hr0⟩ := CV.slB hv0
      obtain ⟨v, m', hc, hv⟩ := lawSkills_c xs a m hr0 hl0
      have hv' : v = .bool true := hv
      exact ⟨m', hv' ▸ hc⟩

theorem fnSkillsHolds : Rows.FnSkillsSaid :=
  OpenClaim.holds_of_wide 13 Try.f13 rfl rfl rfl rfl rfl rfl rfl ⟨rfl, rfl, rfl, rfl, rfl⟩ rfl rfl rfl rfl rfl (by kernel_rfl) Try.func13 (by kernel_rfl)
    (of_decide_eq_true (by kernel_rfl)) (by unfold Func.isWrapper; first | (rw [if_pos (by decide +kernel)]; kernel_rfl) | (rw [if_neg (by decide +kernel)]; exact ⟨rfl, rfl⟩))
    (fun os started H enc _ => fnSkillsLifted os started H enc)
end Go.Proofs.Ytaggfcnaedadaaa
