/-
  'FnWork': nobody makes a basket without the skill, the told end is no later than with long baskets first, and it is not before the hours shared by all. Conditions: none.
-/
import Derived.Test.YtaggfcnaedadaaaJobQ
set_option linter.unusedSimpArgs false
set_option linter.unusedVariables false
set_option linter.unusedSectionVars false
namespace Go.Proofs.Ytaggfcnaedadaaa
open Go.Abs Go.RowKit

def IsT (v : Value) (_ : Mem) : Prop := v = .bool true
set_option maxRecDepth 20000 in
set_option maxHeartbeats 1600000 in
theorem lawWork_c (xs : List Int) (a : Option Addr) (m : Mem) (hr0 : RdB m a xs) (hm0 : xs.length ≤ maxLen) :
    ∃ v m', ACalls Try.prog 12 [.slice a xs.length xs.length] m v m' ∧ IsT v m' := by
  refine ecalls_of_vc Try.func12 rfl Try.fol (by kernel_rfl) ?_
  simp only [Try.f12]
  simp -dsimp -implicitDefEqProofs
  refine callsTo Try.cal40 (a2Long_c a none _ 0 _) ?_
  simp -dsimp -implicitDefEqProofs
  by_cases hlong : (3000 : Int) < xs.length
  · have h1 : decide ((3000 : Int) < xs.length) = true := by simpa using hlong
    simp -dsimp -implicitDefEqProofs [h1]
    exact ⟨_, _, GC.refl _ _ _, rfl⟩
  have h1 : decide ((3000 : Int) < xs.length) = false := by simp; omega
  simp -dsimp -implicitDefEqProofs [h1]
  obtain ⟨vk, m1, hck, js, ss, i1, i2, hsm, rfl, hp1, hi1, hi2, hne, ⟨o1, ho1, ho1a, ho1b, ho1c, ho1d, ho1e⟩, o2, ho2, ho2a, ho2b, ho2c, ho2d, ho2e⟩ := a2Jobs_c a xs m hr0 (by omega)
  refine callsTo Try.cal41 hck ?_
  simp -dsimp -implicitDefEqProofs [h1]
  have hg2 : ∀ x, (v2 x).length = 2 := fun _ => rfl
  have hr : RdG v2 2 m1 (some ⟨i1, 0, none⟩) js := RdG.of_get hg2 js ho1 ho1b ho1c ho1e
  have hs : RdI m1 (some ⟨i2, 0, none⟩) ss := RdI.of_get ho2 ho2b ho2c ho2e
  have hok := hsm.ok
  have hj6 := hsm.2.1
  have hs3 := hsm.2.2.2.2
  have hnj : js.length ≤ 1048576 := by omega
  have hns : ss.length ≤ 1048576 := by omega
  have hmO : missO js ss = some (missL js ss) := by simp [missO, hok]
  have hmC : missC js ss = 0 := by simp [missC, hok]
  have hml : (missL js ss).length ≤ js.length := overTo_length _ _ _
  have hbk1 : i1 < m1.length := lt_of_get ho1
  have hbk2 : i2 < m1.length := lt_of_get ho2
  have hEE := implEarly_c js ss (some ⟨i1, 0, none⟩) (some ⟨i2, 0, none⟩) m1 hr hs hnj hns (fun x h => by injection h with h; subst h; exact hbk1) (fun x h => by injection h with h; subst h; exact hbk2)
  by_cases h0 : 0 < (missL js ss).length
  · have hC : earlyC js ss = 3 := by simp only [earlyC, hok, if_true, if_pos h0]
    rw [hC, show earlyO js ss = none by simp [earlyO, hC], show earlyI js ss = 0 by simp [earlyI, hC]] at hEE
    simp only [optV, optM, List.append_nil] at hEE
    refine callsTo Try.cal37 hEE ?_
    simp -dsimp -implicitDefEqProofs [h1]
    have hLF := implLong_c js ss _ _ m1 hr hs hnj hns
    rw [hC, show longO js ss = none by simp [longO, hC]] at hLF
    simp only [optV, optM, List.append_nil] at hLF
    refine callsTo Try.cal39 hLF ?_
    simp -dsimp -implicitDefEqProofs [h1]
    have hSM := implMissing_c js ss _ _ m1 hr hs hnj hns
    rw [hmO, hmC] at hSM
    simp only [optV, optM] at hSM
    refine callsTo Try.cal29 hSM ?_
    simp -dsimp -implicitDefEqProofs [h1]
    have hRi := a2Rises_c (missL js ss) (some ⟨m1.length, 0, none⟩) js.length (m1 ++ [(⟨(missL js ss).map (Value.int .i64), 2, 1, 2⟩ : AObj)]) (RdI.of_get (o := ⟨(missL js ss).map (Value.int .i64), 2, 1, 2⟩) (by simp) (by simp) rfl rfl) (by omega) (rises_filter (fun i => decide (maxTo ss 0 < (jobAt js i).2)) js.length)
    have n1 : (((missL js ss).length : Int) == 0) = false := by rw [beq_eq_false_iff_ne]; omega
    refine callsTo Try.cal42 hRi ?_
    simp -dsimp -implicitDefEqProofs [h1, n1]
    exact ⟨_, _, GC.refl _ _ _, rfl⟩
  have hm0' : (missL js ss).length = 0 := by omega
  have hC : earlyC js ss = 0 := by simp only [earlyC, hok, if_true, if_neg h0]
  obtain ⟨hw0, hend⟩ := early_end hC
  have hlw0 := long_who hC
  have hlate := early_least hlw0
  rw [hC, show earlyO js ss = some (earlyT js ss).1 by simp [earlyO, hC], show earlyI js ss = (earlyT js ss).2 by simp [earlyI, hC]] at hEE
  have hLF := fun m' h1 h2 => implLong_c js ss (some ⟨i1, 0, none⟩) (some ⟨i2, 0, none⟩) m' h1 h2 hnj hns
  rw [hC, show longO js ss = some (longT js ss js.length).1 by simp [longO, hC]] at hLF
  rw [hend] at hEE hlate
  generalize (earlyT js ss).1 = who at *
  generalize (longT js ss js.length).1 = long at *
  obtain ⟨en, hen⟩ : ∃ en, en = endI js ss who := ⟨_, rfl⟩
  rw [← hen] at hEE hlate
  simp only [optV, optM] at hEE hLF
  obtain ⟨_, hwall, hwl⟩ := whoC_zero hw0
  obtain ⟨_, hlall, hll⟩ := whoC_zero hlw0
  refine callsTo Try.cal37 hEE ?_
  simp -dsimp -implicitDefEqProofs [h1]
  obtain ⟨m2, hm2⟩ : ∃ m2, m2 = m1 ++ [(⟨who.map (Value.int .i64), 2, 1, 2⟩ : AObj)] := ⟨_, rfl⟩
  rw [← hm2]
  have hp2 : m1 <+: m2 := by rw [hm2]; exact ⟨_, rfl⟩
  have ow2 : m2[m1.length]? = some ⟨who.map (Value.int .i64), 2, 1, 2⟩ := by rw [hm2]; simp
  refine callsTo Try.cal39 (hLF m2 (hr.pre hp2) (RdI.of_get (prefix_get hp2 ho2) ho2b ho2c ho2e)) ?_
  simp -dsimp -implicitDefEqProofs [h1]
  obtain ⟨m3, hm3⟩ : ∃ m3, m3 = m2 ++ [(⟨long.map (Value.int .i64), 2, 1, 2⟩ : AObj)] := ⟨_, rfl⟩
  rw [← hm3]
  have hp3 : m2 <+: m3 := by rw [hm3]; exact ⟨_, rfl⟩
  have ol3 : m3[m2.length]? = some ⟨long.map (Value.int .i64), 2, 1, 2⟩ := by rw [hm3]; simp
  have hSM := implMissing_c js ss _ _ m3 (hr.pre (hp2.trans hp3)) (RdI.of_get (prefix_get (hp2.trans hp3) ho2) ho2b ho2c ho2e) hnj hns
  rw [hmO, hmC] at hSM
  simp only [optV, optM] at hSM
  refine callsTo Try.cal29 hSM ?_
  simp -dsimp -implicitDefEqProofs [h1]
  obtain ⟨m4, hm4⟩ : ∃ m4, m4 = m3 ++ [(⟨(missL js ss).map (Value.int .i64), 2, 1, 2⟩ : AObj)] := ⟨_, rfl⟩
  rw [← hm4]
  have hp4 : m3 <+: m4 := by rw [hm4]; exact ⟨_, rfl⟩
  have hz4 : RdI m4 (some ⟨m3.length, 0, none⟩) (missL js ss) := RdI.of_get (o := ⟨(missL js ss).map (Value.int .i64), 2, 1, 2⟩) (by rw [hm4]; simp) (by simp) rfl rfl
  have hRi := a2Rises_c (missL js ss) _ js.length m4 hz4 (by omega) (rises_filter (fun i => decide (maxTo ss 0 < (jobAt js i).2)) js.length)
  have n1 : (((missL js ss).length : Int) == 0) = true := by rw [beq_iff_eq]; omega
  refine callsTo Try.cal42 hRi ?_
  simp -dsimp -implicitDefEqProofs [h1, n1, hm0']
  have hp14 := hp2.trans (hp3.trans hp4)
  have hr4 := hr.pre hp14
  have hs4 : RdI m4 (some ⟨i2, 0, none⟩) ss := RdI.of_get (prefix_get hp14 ho2) ho2b ho2c ho2e
  have hw4 : RdI m4 (some ⟨m1.length, 0, none⟩) who := RdI.of_get (prefix_get (hp3.trans hp4) ow2) (by simp) rfl rfl
  have hl4 : RdI m4 (some ⟨m2.length, 0, none⟩) long := RdI.of_get (prefix_get hp4 ol3) (by simp) rfl rfl
  have e1 := implEnd_c js ss who _ _ _ m4 hr4 hs4 hw4 hnj hns (by omega)
  rw [hw0, ← hen] at e1
  simp only [if_true] at e1
  refine callsTo Try.cal31 e1 ?_
  simp -dsimp -implicitDefEqProofs [h1, n1, hm0']
  have e2 := implEnd_c js ss long _ _ _ m4 hr4 hs4 hl4 hnj hns (by omega)
  rw [hlw0] at e2
  simp only [if_true] at e2
  refine callsTo Try.cal31 e2 ?_
  simp -dsimp -implicitDefEqProofs [h1, n1, hm0']
  have e3 := implLoads_c js ss who _ _ _ m4 hr4 hs4 hw4 hnj hns (by omega)
  rw [hw0, show loadsO js ss who = some (loadsL js ss who) by simp [loadsO, hw0]] at e3
  simp only [optV, optM, loadsL_length] at e3
  refine callsTo Try.cal33 e3 ?_
  simp -dsimp -implicitDefEqProofs [h1, n1, hm0']
  obtain ⟨m5, hm5⟩ : ∃ m5, m5 = m4 ++ [(⟨(loadsL js ss who).map (Value.int .i64), 2, 1, 2⟩ : AObj)] := ⟨_, rfl⟩
  rw [← hm5]
  have hp5 : m4 <+: m5 := by rw [hm5]; exact ⟨_, rfl⟩
  have hr5 := hr4.pre hp5
  have hs5 : RdI m5 (some ⟨i2, 0, none⟩) ss := RdI.of_get (prefix_get (hp14.trans hp5) ho2) ho2b ho2c ho2e
  have hw5 : RdI m5 (some ⟨m1.length, 0, none⟩) who := RdI.of_get (prefix_get (hp3.trans (hp4.trans hp5)) ow2) (by simp) rfl rfl
  have hL5 : RdI m5 (some ⟨m4.length, 0, none⟩) (loadsL js ss who) := RdI.of_get (o := ⟨(loadsL js ss who).map (Value.int .i64), 2, 1, 2⟩) (by rw [hm5]; simp) (by simp) rfl rfl
  have e4 := implIdle_c js ss who _ _ _ m5 hr5 hs5 hw5 hnj hns (by omega)
  rw [hw0] at e4
  simp only [if_true] at e4
  obtain ⟨hshare, hidle⟩ := end_shared hw0
  obtain ⟨⟨heb0, heb1⟩, hehk⟩ := end_bound hw0
  rw [← hen] at hshare hidle heb0 heb1
  have n3 : ¬ endI js ss long < en := by omega
  have n4 : ¬ who.length ≠ js.length := by omega
  have hjo := (jobsB_parts hok).1
  refine callsTo Try.cal35 e4 ?_
  simp -dsimp -implicitDefEqProofs [h1, n1, hm0', n3, hwl, hll]
  refine loopN js.length (fun i σ m' => m' = m5 ∧ ((σ 3 = some (.slice (some ⟨i1, 0, none⟩) js.length js.length) ∧ σ 4 = some (.slice (some ⟨i2, 0, none⟩) ss.length ss.length) ∧ σ 5 = some (.slice (some ⟨m1.length, 0, none⟩) js.length js.length) ∧ σ 6 = some (.int .i64 en)) ∧
    σ 16 = some (.slice (some ⟨m4.length, 0, none⟩) ss.length ss.length) ∧ σ 18 = some (.int .i64 (idleI js ss who))) ∧ σ 20 = some (.int .i64 (allHours js i)) ∧ σ 21 = some (.int .i64 (topHours js i)) ∧ σ 22 = some (.int .i64 i)) ⟨rfl, by simp [hwl], by simp [allHours], by simp [topHours], by simp⟩ ?_
  rintro i σ m' hi ⟨hmm, ⟨⟨s3, s4, s5, s6⟩, s16, s18⟩, s20, s21, s22⟩
  have hmm := hmm.symm
  subst hmm
  by_cases hlt : i < js.length
  · have hwi : IntKind.i64.wrap ((i : Int) + 1) = i + 1 := wrapI (by omega) (by omega)
    obtain ⟨jid, joff, jo, hje, hjm, hjk, hjs, hjl, hjrow, hjc0, hjc1⟩ := R2.at_ hr5 hlt
    injection hje with hje
    injection hje with hje1 hje2
    subst hje1; subst hje2
    obtain ⟨wid, woff, wo, hwe, hwm, hwk, hws, hwc⟩ := hw5.at_ (show i < who.length by omega)
    injection hwe with hwe
    injection hwe with hwe1 hwe2
    subst hwe1; subst hwe2
    obtain ⟨hx, hxl⟩ := who_ix hwall (show i < who.length by omega)
    rw [hx] at hwc
    obtain ⟨sid, soff, so, hse, hsm2, hsk, hss, hsc⟩ := hs5.at_ hxl
    injection hse with hse
    injection hse with hse1 hse2
    subst hse1; subst hse2
    have hcan := who_can hw0 hlt
    rw [getI hxl, jobAt_eq hlt] at hcan
    have n5 : ¬ ss[ixAt who i] < js[i].2 := by omega
    have n6 : ¬ ss.length ≤ ixAt who i := by omega
    have n8 : ¬ ((ixAt who i : Int) < 0) := by omega
    have hab := allHours_bound hjo (i + 1) (by omega)
    have hsum : IntKind.i64.wrap (allHours js i + js[i].1) = allHours js (i + 1) := by
      rw [allHours, jobAt_eq hlt] at *
      exact wrapI (by omega) (by omega)
    have htop : max (topHours js i) js[i].1 = topHours js (i + 1) := by rw [topHours, jobAt_eq hlt]
    simp only [Nat.zero_add] at hjc0 hjc1 hwc hsc
    simp -dsimp -implicitDefEqProofs [s3, s4, s5, s6, s16, s18, s20, s21, s22, hlt, withO_of hjm, hjk, hjs, withC_of hjc0, withC_of hjc1, withO_of hwm, hwk, hws, withC_of hwc, withO_of hsm2, hsk, hss, withC_of hsc, hxl, n5, n6, n8, hwi, hsum, htop]
    exact next_ hlt ⟨rfl, by simp [s3, s4, s5, s6, s16, s18], by simp [hsum], by simp [htop], by simp [hwi]⟩
  obtain rfl : i = js.length := by omega
  simp -dsimp -implicitDefEqProofs [s3, s4, s5, s6, s16, s18, s20, s21, s22]
  refine loopN ss.length (fun k σ m' => m' = m5 ∧ ((σ 3 = some (.slice (some ⟨i1, 0, none⟩) js.length js.length) ∧ σ 4 = some (.slice (some ⟨i2, 0, none⟩) ss.length ss.length) ∧ σ 5 = some (.slice (some ⟨m1.length, 0, none⟩) js.length js.length) ∧ σ 6 = some (.int .i64 en)) ∧
    σ 16 = some (.slice (some ⟨m4.length, 0, none⟩) ss.length ss.length) ∧ σ 18 = some (.int .i64 (idleI js ss who)) ∧ σ 20 = some (.int .i64 (allHours js js.length)) ∧ σ 21 = some (.int .i64 (topHours js js.length))) ∧ σ 23 = some (.int .i64 k)) ⟨rfl, by simp [s3, s4, s5, s6, s16, s18, s20, s21], by simp⟩ ?_
  clear s3 s4 s5 s6 s16 s18 s20 s21 s22
  rintro k σ m' hk ⟨hmm, ⟨⟨s3, s4, s5, s6⟩, s16, s18, s20, s21⟩, s23⟩
  have hmm := hmm.symm
  subst hmm
  by_cases hlk : k < ss.length
  · have hwk' : IntKind.i64.wrap ((k : Int) + 1) = k + 1 := wrapI (by omega) (by omega)
    simp -dsimp -implicitDefEqProofs [s3, s4, s5, s6, s16, s18, s20, s21, s23, hlk]
    refine loopN js.length (fun i σ m' => m' = m5 ∧ ((σ 3 = some (.slice (some ⟨i1, 0, none⟩) js.length js.length) ∧ σ 4 = some (.slice (some ⟨i2, 0, none⟩) ss.length ss.length) ∧ σ 5 = some (.slice (some ⟨m1.length, 0, none⟩) js.length js.length) ∧ σ 6 = some (.int .i64 en)) ∧
      σ 16 = some (.slice (some ⟨m4.length, 0, none⟩) ss.length ss.length) ∧ σ 18 = some (.int .i64 (idleI js ss who)) ∧ σ 20 = some (.int .i64 (allHours js js.length)) ∧ σ 21 = some (.int .i64 (topHours js js.length))) ∧ σ 23 = some (.int .i64 k) ∧ σ 24 = some (.int .i64 (hoursTo js who k i)) ∧ σ 25 = some (.int .i64 i))
      ⟨rfl, by simp [s3, s4, s5, s6, s16, s18, s20, s21], by simp [s23], by simp [hoursTo], by simp⟩ ?_
    clear s3 s4 s5 s6 s16 s18 s20 s21 s23
    rintro i σ m' hi ⟨hmm, ⟨⟨s3, s4, s5, s6⟩, s16, s18, s20, s21⟩, s23, s24, s25⟩
    have hmm := hmm.symm
    subst hmm
    by_cases hlt : i < js.length
    · have hwi : IntKind.i64.wrap ((i : Int) + 1) = i + 1 := wrapI (by omega) (by omega)
      obtain ⟨jid, joff, jo, hje, hjm, hjk, hjs, hjl, hjrow, hjc0, hjc1⟩ := R2.at_ hr5 hlt
      injection hje with hje
      injection hje with hje1 hje2
      subst hje1; subst hje2
      obtain ⟨wid, woff, wo, hwe, hwm, hwk, hws, hwc⟩ := hw5.at_ (show i < who.length by omega)
      injection hwe with hwe
      injection hwe with hwe1 hwe2
      subst hwe1; subst hwe2
      have hgi : who.getD i 0 = who[i] := getI (show i < who.length by omega)
      have hab := hoursTo_bound hjo who k (i + 1) (by omega)
      simp only [hoursTo, hgi, jobAt_eq hlt] at hab
      simp only [Nat.zero_add] at hjc0 hjc1 hwc
      simp -dsimp -implicitDefEqProofs [s3, s4, s5, s6, s16, s18, s20, s21, s23, s24, s25, hlt, withO_of hjm, hjk, hjs, withC_of hjc0, withC_of hjc1, withO_of hwm, hwk, hws, withC_of hwc, hwi]
      refine sp2 (fun g => ?_) (fun g => ?_)
      · simp at g
        rw [if_pos g] at hab
        have hsum : IntKind.i64.wrap (hoursTo js who k i + js[i].1) = hoursTo js who k (i + 1) := by
          rw [hoursTo, hgi, if_pos g, jobAt_eq hlt]
          exact wrapI (by omega) (by omega)
        exact next_ hlt ⟨rfl, by simp [s3, s4, s5, s6, s16, s18, s20, s21], by simp [s23], by simp [hsum], by simp [hwi]⟩
      · simp at g
        have hsum : hoursTo js who k (i + 1) = hoursTo js who k i := by rw [hoursTo, hgi, if_neg g]
        exact next_ hlt ⟨rfl, by simp [s3, s4, s5, s6, s16, s18, s20, s21], by simp [s23], by simp [s24, hsum], by simp [hwi]⟩
    · obtain rfl : i = js.length := by omega
      obtain ⟨lid, loff, lo, hle, hlm, hlk2, hls, hlc⟩ := hL5.at_ (show k < (loadsL js ss who).length by rw [loadsL_length]; exact hlk)
      injection hle with hle
      injection hle with hle1 hle2
      subst hle1; subst hle2
      rw [loads_hours hw0 hlk] at hlc
      have n7 : ¬ en < hoursTo js who k js.length := by have := hehk k hlk; omega
      simp only [Nat.zero_add] at hlc
      simp -dsimp -implicitDefEqProofs [s3, s4, s5, s6, s16, s18, s20, s21, s23, s24, s25, hlk, withO_of hlm, hlk2, hls, withC_of hlc, n7, hwk']
      exact next_ hlk ⟨rfl, by simp [s3, s4, s5, s6, s16, s18, s20, s21], by simp [hwk']⟩
  · have hmul : IntKind.i64.wrap (en * (ss.length : Int)) = en * ss.length := by
      have h7 : en * (ss.length : Int) ≤ 700 * 4 := Int.le_trans (Int.mul_le_mul_of_nonneg_right heb1 (by omega)) (Int.mul_le_mul_of_nonneg_left (by omega) (by omega))
      have h8 : 0 ≤ en * (ss.length : Int) := Int.mul_nonneg heb0 (by omega)
      exact wrapI (by omega) (by omega)
    have hab := allHours_bound hjo js.length (Nat.le_refl _)
    have hsub : IntKind.i64.wrap (en * (ss.length : Int) - allHours js js.length) = idleI js ss who := by
      rw [hidle]
      have h7 : en * (ss.length : Int) ≤ 700 * 4 := Int.le_trans (Int.mul_le_mul_of_nonneg_right heb1 (by omega)) (Int.mul_le_mul_of_nonneg_left (by omega) (by omega))
      exact wrapI (by omega) (by omega)
    have htop := end_top hw0 js.length (Nat.le_refl _)
    rw [← hen] at htop
    simp -dsimp -implicitDefEqProofs [s3, s4, s5, s6, s16, s18, s20, s21, s23, hlk, hmul, hsub, htop, hshare]
    exact ⟨_, _, GC.refl _ _ _, rfl⟩

set_option maxRecDepth 100000 in
theorem fnWorkLifted (os : Os) (started : os.Started) (H : Type) (enc : TypeId × Value → H) :
    ReturnsInHanded {} Try.checked os 12 .any (Rows.fnWorkSpec.pre6 enc Try.prog Try.f12 Rows.fnWorkRow.domain false) (Rows.fnWorkSpec.post enc Try.prog Try.f12 false true false false) :=
  lawLifted (C := Try.checked) [.one (.sl [.int .u8])] 3 4 (by kernel_rfl) started (by kernel_rfl) Try.func12
    (ChangeSpec.witness6 (enc := enc) (C := Try.checked) false ⟨#[], #[.slice none 0 0], []⟩ 8 (by kernel_rfl) (by kernel_rfl) (by kernel_rfl) (by kernel_rfl))
    (by kernel_rfl) (by kernel_rfl) (by kernel_rfl) rfl (by kernel_rfl) rfl (fun ds h => match ds, h with | [_], _ => rfl) fun m vs h => by
      obtain ⟨u0, rfl, hv0⟩ := h.one
      obtain ⟨a, xs, rfl, hl0, hr0⟩ := CV.slB hv0
      obtain ⟨v, m', hc, hv⟩ := lawWork_c xs a m hr0 hl0
      have hv' : v = .bool true := hv
      exact ⟨m', hv' ▸ hc⟩

theorem fnWorkHolds : Rows.FnWorkSaid :=
  OpenClaim.holds_of_wide 12 Try.f12 rfl rfl rfl rfl rfl rfl rfl ⟨rfl, rfl, rfl, rfl, rfl⟩ rfl rfl rfl rfl rfl (by kernel_rfl) Try.func12 (by kernel_rfl)
    (of_decide_eq_true (by kernel_rfl)) (by unfold Func.isWrapper; first | (rw [if_pos (by decide +kernel)]; kernel_rfl) | (rw [if_neg (by decide +kernel)]; exact ⟨rfl, rfl⟩))
    (fun os started H enc _ => fnWorkLifted os started H enc)
end Go.Proofs.Ytaggfcnaedadaaa
