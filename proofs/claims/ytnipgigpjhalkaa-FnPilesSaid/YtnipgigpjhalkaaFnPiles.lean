/-
  'FnPiles': a floor is the sum of its piles' bottoms, what stands out is told by the heights, no two pots fit both ways, and a pile is as high as its highest pot. Conditions: none.
-/
import Derived.Test.YtnipgigpjhalkaaNestW
set_option linter.unusedSimpArgs false
set_option linter.unusedVariables false
set_option linter.unusedSectionVars false
namespace Go.Proofs.Ytnipgigpjhalkaa
open Go.Abs Go.RowKit Go.Law

def IsT (v : Value) (_ : Mem) : Prop := v = .bool true
set_option maxRecDepth 20000 in
set_option maxHeartbeats 6400000 in
theorem lawPiles_c (code : List Int) (a : Option Addr) (m : Mem) (hr0 : RdB m a code) (hm0 : code.length ≤ maxLen) :
    ∃ v m', ACalls Try.prog 12 [.slice a code.length code.length] m v m' ∧ IsT v m' := by
  refine ecalls_of_vc Try.func12 rfl Try.fol (by kernel_rfl) ?_
  simp only [Try.f12]
  simp -dsimp -implicitDefEqProofs
  refine callsTo Try.cal46 (f6big_c a _ _) ?_
  simp -dsimp -implicitDefEqProofs
  by_cases hlong : (4096 : Int) < code.length
  · have h1 : decide ((4096 : Int) < code.length) = true := by simpa using hlong
    simp -dsimp -implicitDefEqProofs [h1]
    exact ⟨_, _, GC.refl _ _ _, rfl⟩
  have h1 : decide ((4096 : Int) < code.length) = false := by simp; omega
  simp -dsimp -implicitDefEqProofs [h1]
  have hrB : ∀ m', m <+: m' → RdB m' a code := fun m' hp => by
    obtain ⟨l, rfl⟩ := hp
    exact ⟨RdG.ext hr0.1 l, hr0.2⟩
  obtain ⟨v1, m1, hc1, xs, id, pile, b, rfl, hx, hpl, hp1, hX1, hB1⟩ := drawHigh_c a code m hr0 (by omega)
  have e1 := implHigh_c xs pile _ b m1 hX1 hB1 (by omega) (by omega)
  have e2 := specHigh_c xs pile _ b m1 hX1 hB1 (by omega) (by omega)
  unfold highV at e1 e2
  obtain ⟨hh, hhh⟩ : ∃ hh, hh = (if pileC xs pile = 0 then highTo xs pile pile.length else 0) := ⟨_, rfl⟩
  rw [← hhh] at e1 e2
  obtain ⟨v2, m2, hc2, ws, id2, zs, A, rfl, hw, hzl, hz1, hp2, hW2, hZ2⟩ := drawFloor_c a code m1 (hrB _ hp1) (by omega)
  have e3 := implFloor_c ws zs _ A m2 hW2 hZ2 (by omega) (by omega) (fun p hp => by have := hz1 p hp; omega)
  have e4 := specFloor_c ws zs _ A m2 hW2 hZ2 (by omega) (by omega) (fun p hp => by have := hz1 p hp; omega)
  unfold floorV at e3 e4
  obtain ⟨fl, hfl⟩ : ∃ fl, fl = (if floorC ws zs = 0 then floorTo ws zs zs.length else 0) := ⟨_, rfl⟩
  rw [← hfl] at e3 e4
  obtain ⟨v3', m3, hc3, p, q, rfl, hp3⟩ := drawDeep_c a code m2 (hrB _ (hp1.trans hp2)) (by omega)
  simp only [v3] at hc3
  refine callsTo Try.cal47 hc1 ?_
  simp -dsimp -implicitDefEqProofs [h1]
  refine callsTo Try.cal34 e1 ?_
  simp -dsimp -implicitDefEqProofs [h1]
  refine callsTo Try.cal32 e2 ?_
  simp -dsimp -implicitDefEqProofs [h1]
  refine callsTo Try.cal48 hc2 ?_
  simp -dsimp -implicitDefEqProofs [h1]
  refine callsTo Try.cal40 e3 ?_
  simp -dsimp -implicitDefEqProofs [h1]
  refine callsTo Try.cal38 e4 ?_
  simp -dsimp -implicitDefEqProofs [h1]
  refine callsTo Try.cal49 hc3 ?_
  simp -dsimp -implicitDefEqProofs [h1]
  obtain ⟨m4, hm4⟩ : ∃ m4 : Mem, m4 = m3 ++ [⟨[.int .i64 p.1, .int .i64 p.2.1, .int .i64 p.2.2], 26, 3, 1⟩, ⟨[.int .i64 q.1, .int .i64 q.2.1, .int .i64 q.2.2], 26, 3, 1⟩] := ⟨_, rfl⟩
  rw [← hm4]
  have hp4 : m3 <+: m4 := by rw [hm4]; exact ⟨_, rfl⟩
  have tp : m4[m3.length]? = some ⟨[.int .i64 p.1, .int .i64 p.2.1, .int .i64 p.2.2], 26, 3, 1⟩ := by rw [hm4]; simp
  have tq : m4[m3.length + 1]? = some ⟨[.int .i64 q.1, .int .i64 q.2.1, .int .i64 q.2.2], 26, 3, 1⟩ := by rw [hm4]; simp
  have e5 := implDeep_c p q m4
  have e6 := specDeep_c p q m4
  unfold deepV at e5 e6
  obtain ⟨dp, hdp⟩ : ∃ dp, dp = (if deepC p q = 0 then outI p q else 0) := ⟨_, rfl⟩
  rw [← hdp] at e5 e6
  simp only [v3] at e5 e6
  obtain ⟨v5, m5, hc5, u, w, rfl, hp5⟩ := drawFits_c a code m4 (hrB _ (hp1.trans (hp2.trans (hp3.trans hp4)))) (by omega)
  simp only [v3] at hc5
  obtain ⟨m6, hm6⟩ : ∃ m6 : Mem, m6 = m5 ++ [⟨[.int .i64 u.1, .int .i64 u.2.1, .int .i64 u.2.2], 26, 3, 1⟩, ⟨[.int .i64 w.1, .int .i64 w.2.1, .int .i64 w.2.2], 26, 3, 1⟩] := ⟨_, rfl⟩
  have hp6 : m5 <+: m6 := by rw [hm6]; exact ⟨_, rfl⟩
  have tu : m6[m5.length]? = some ⟨[.int .i64 u.1, .int .i64 u.2.1, .int .i64 u.2.2], 26, 3, 1⟩ := by rw [hm6]; simp
  have tw : m6[m5.length + 1]? = some ⟨[.int .i64 w.1, .int .i64 w.2.1, .int .i64 w.2.2], 26, 3, 1⟩ := by rw [hm6]; simp
  have hp46 := hp5.trans hp6
  have tp6 := prefix_get hp46 tp
  have tq6 := prefix_get hp46 tq
  have e7 := implFits_c u w m6
  have e8 := specFits_c u w m6
  have e9 := implFits_c w u m6
  unfold fitsV at e7 e8 e9
  simp only [v3] at e7 e8 e9
  obtain ⟨fb, hfb⟩ : ∃ fb, fb = (decide (twoI u w = 0) && fitB u w) := ⟨_, rfl⟩
  rw [← hfb] at e7 e8
  have hp26 := hp3.trans (hp4.trans hp46)
  have hp16 := hp2.trans hp26
  have hX6 : RdG v3 3 m6 (some ⟨id, 0, none⟩) xs := by obtain ⟨l, hl⟩ := hp16; rw [← hl]; exact RdG.ext hX1 l
  have hB6 : RdI m6 b pile := by obtain ⟨l, hl⟩ := hp16; rw [← hl]; exact hB1.ext l
  have hW6 : RdG v3 3 m6 (some ⟨id2, 0, none⟩) ws := by obtain ⟨l, hl⟩ := hp26; rw [← hl]; exact RdG.ext hW2 l
  have hZ6 := hZ2.pre hp26
  refine callsTo Try.cal18 e5 ?_
  simp -dsimp -implicitDefEqProofs [withO_of tp, withO_of tq, hm6.symm, withO_of tu, withO_of tw]
  refine callsTo Try.cal17 e6 ?_
  simp -dsimp -implicitDefEqProofs [withO_of tp, withO_of tq, hm6.symm, withO_of tu, withO_of tw]
  refine callsTo Try.cal50 hc5 ?_
  simp -dsimp -implicitDefEqProofs [withO_of tp, withO_of tq, hm6.symm, withO_of tu, withO_of tw]
  refine callsTo Try.cal16 e7 ?_
  simp -dsimp -implicitDefEqProofs [withO_of tp, withO_of tq, hm6.symm, withO_of tu, withO_of tw]
  refine callsTo Try.cal14 e8 ?_
  simp -dsimp -implicitDefEqProofs [withO_of tp, withO_of tq, hm6.symm, withO_of tu, withO_of tw]
  by_cases hF : floorC ws zs = 0
  · obtain ⟨hpo, hco⟩ := floorC_zero hF
    have hfl2 : floorTo ws zs zs.length = fl := by rw [hfl, if_pos hF]
    simp -dsimp -implicitDefEqProofs [hF]
    refine loopN zs.length (fun k σ m' => m' = m6 ∧ ((σ 3 = some (.slice (some ⟨id, 0, none⟩) xs.length xs.length) ∧ σ 4 = some (.slice b pile.length pile.length) ∧ σ 7 = some (.int .i64 hh) ∧ σ 6 = some (.int .i64 (pileC xs pile))) ∧ (σ 15 = some (.pointer (some ⟨m3.length, 0, none⟩)) ∧ σ 16 = some (.pointer (some ⟨m3.length + 1, 0, none⟩)) ∧ σ 18 = some (.int .i64 (deepC p q)) ∧ σ 19 = some (.int .i64 dp)) ∧ (σ 21 = some (.pointer (some ⟨m5.length, 0, none⟩)) ∧ σ 22 = some (.pointer (some ⟨m5.length + 1, 0, none⟩)) ∧ σ 24 = some (.int .i64 (twoI u w)) ∧ σ 25 = some (.bool fb))) ∧ (σ 9 = some (.slice (some ⟨id2, 0, none⟩) ws.length ws.length) ∧ σ 10 = some (.slice A zs.length zs.length) ∧ σ 13 = some (.int .i64 fl)) ∧ σ 27 = some (.int .i64 (floorTo ws zs k)) ∧ σ 28 = some (.int .i64 k)) ⟨rfl, by simp, by simp, by simp [floorTo], by simp⟩ ?_
    rintro k σ m' hk ⟨hmm, ⟨⟨s3, s4, s7, s6⟩, ⟨s15, s16, s18, s19⟩, ⟨s21, s22, s24, s25⟩⟩, ⟨s9, s10, s13⟩, s27, s28⟩
    have hmm := hmm.symm
    subst hmm
    by_cases hlk : k < zs.length
    · have hwk : IntKind.i64.wrap ((k : Int) + 1) = k + 1 := wrapI (by omega) (by omega)
      obtain ⟨zid, zoff, zo, zad, hza, hzm, hzk, hzs, hzc, hzr⟩ := hZ6 k hlk
      have hpi := codeTo_zero _ hco k hlk
      rw [getSS hlk] at hpi
      have hpos := pile_pos hpi
      obtain ⟨i1, l1⟩ := rng_ix (pileI_zero hpi) (i := 0) hpos
      obtain ⟨idp, offp, op, hzd, hmp, hkdp, hszp, hcp⟩ := RdI.at_ hzr (i := 0) hpos
      rw [i1] at hcp
      have hcp' : op.cells[offp]? = some (.int .i64 (ixAt zs[k] 0)) := by simpa using hcp
      rw [hzd] at hzc
      obtain ⟨ida, offa, oa, hxa, hma, hkda, hsza, _, _, hc0, _⟩ := R3.at_ hW6 l1
      injection hxa with hxa
      injection hxa with hx3 hx4
      subst hx3; subst hx4
      simp only [Nat.zero_add] at hc0
      have hft : IntKind.i64.wrap (floorTo ws zs k + IntKind.i64.wrap (ws[ixAt zs[k] 0].1 * ws[ixAt zs[k] 0].1)) = floorTo ws zs (k + 1) := by rw [floorTo, getSS hlk, potAt_eq l1]
      simp -dsimp -implicitDefEqProofs [s3, s4, s7, s6, s15, s16, s18, s19, s21, s22, s24, s25, s9, s10, s13, s27, s28, hlk, hza, withO_of hzm, hzk, hzs, withC_of hzc, hwk, hpos, withO_of hmp, hkdp, hszp, withC_of hcp', l1, withO_of hma, hkda, hsza, withC_of hc0]
      exact next_ hlk ⟨rfl, by simp [s3, s4, s7, s6, s15, s16, s18, s19, s21, s22, s24, s25], by simp [s9, s10, s13, hza], by simp [hft], by simp [hwk]⟩
    · obtain rfl : k = zs.length := by omega
      simp -dsimp -implicitDefEqProofs [s3, s4, s7, s6, s15, s16, s18, s19, s21, s22, s24, s25, s9, s10, s13, s27, s28, hfl2]
      by_cases hD : deepC p q = 0
      · have hdp2 : dp = max 0 (IntKind.i64.wrap (p.2.2 - q.2.2)) := by rw [hdp, if_pos hD]; rfl
        simp -dsimp -implicitDefEqProofs [s3, s4, s7, s6, s15, s16, s18, s19, s21, s22, s24, s25, hD, withO_of tp6, withO_of tq6, hdp2.symm]
        by_cases hT : twoI u w = 0
        · by_cases hB : fitB u w = true
          · have hft : fb = true := by rw [hfb, hB]; simp [hT]
            have hT2 : twoI w u = 0 := by unfold twoI at hT ⊢; rw [Bool.and_comm]; exact hT
            have hB2 : fitB w u = false := by
              unfold fitB at hB ⊢
              simp only [Bool.and_eq_true, decide_eq_true_eq] at hB
              simp; omega
            have e10 := e9
            rw [hT2, hB2, Bool.and_false] at e10
            simp -dsimp -implicitDefEqProofs [s3, s4, s7, s6, s15, s16, s18, s19, s21, s22, s24, s25, hT, hft, withO_of tu, withO_of tw]
            refine callsTo Try.cal16 e10 ?_
            simp -dsimp -implicitDefEqProofs [s3, s4, s7, s6, s15, s16, s18, s19, s21, s22, s24, s25, hT, hft, withO_of tu, withO_of tw]
            by_cases hH : pileC xs pile = 0
            · have hI := pileC_zero hH
              have hhv : hh = highTo xs pile pile.length := by rw [hhh, if_pos hH]
              have hfa : foundTo xs pile hh pile.length = true := by rw [hhv]; exact found_all hH
              simp -dsimp -implicitDefEqProofs [s3, s4, s7, s6, s15, s16, s18, s19, s21, s22, s24, s25, hH]
              refine loopN pile.length (fun k σ m' => m' = m6 ∧ (σ 3 = some (.slice (some ⟨id, 0, none⟩) xs.length xs.length) ∧ σ 4 = some (.slice b pile.length pile.length) ∧ σ 7 = some (.int .i64 hh)) ∧ σ 32 = some (.bool (foundTo xs pile hh k)) ∧ σ 33 = some (.int .i64 k)) ⟨rfl, by simp [s3, s4, s7, s6, s15, s16, s18, s19, s21, s22, s24, s25, hH], by simp [foundTo], by simp⟩ ?_
              clear s3 s4 s7 s6 s15 s16 s18 s19 s21 s22 s24 s25 s9 s10 s13 s27 s28
              rintro k σ m' hk ⟨hmm, ⟨s3, s4, s7⟩, s32, s33⟩
              have hmm := hmm.symm
              subst hmm
              by_cases hlk : k < pile.length
              · have hwk : IntKind.i64.wrap ((k : Int) + 1) = k + 1 := wrapI (by omega) (by omega)
                obtain ⟨i1, l1⟩ := rng_ix (pileI_zero hI) hlk
                obtain ⟨bid, boff, bo, hba, hbm, hbk, hbs, hbc⟩ := hB6.at_ hlk
                rw [i1] at hbc
                obtain ⟨ida, offa, oa, hxa, hma, hkda, hsza, _, _, _, _, hc2'⟩ := R3.at_ hX6 l1
                injection hxa with hxa
                injection hxa with hx3 hx4
                subst hx3; subst hx4
                simp only [Nat.zero_add] at hc2'
                have hge := highTo_ge xs pile pile.length k hlk
                rw [← hhv] at hge
                have hat : hiAt xs pile k = xs[ixAt pile k].2.2 := by unfold hiAt; rw [potAt_eq l1]
                rw [hat] at hge
                have n1 : ¬ hh < xs[ixAt pile k].2.2 := by omega
                have hft : foundTo xs pile hh (k + 1) = (foundTo xs pile hh k || (xs[ixAt pile k].2.2 == hh)) := by simp only [foundTo, hat]
                cases hfk : foundTo xs pile hh k with
                | true =>
                  rw [hfk] at hft s32
                  have hft2 : foundTo xs pile hh (k + 1) = true := by rw [hft]; rfl
                  simp -dsimp -implicitDefEqProofs [s3, s4, s7, s32, s33, hlk, hba, withO_of hbm, hbk, hbs, withC_of hbc, l1, withO_of hma, hkda, hsza, withC_of hc2', hwk, n1]
                  exact next_ hlk ⟨rfl, by simp [s3, s4, s7, hba], by simp [hft2], by simp [hwk]⟩
                | false =>
                  rw [hfk] at hft s32
                  have hft2 : foundTo xs pile hh (k + 1) = (xs[ixAt pile k].2.2 == hh) := by rw [hft, Bool.false_or]
                  simp -dsimp -implicitDefEqProofs [s3, s4, s7, s32, s33, hlk, hba, withO_of hbm, hbk, hbs, withC_of hbc, l1, withO_of hma, hkda, hsza, withC_of hc2', hwk, n1]
                  exact next_ hlk ⟨rfl, by simp [s3, s4, s7, hba], by simp [hft2], by simp [hwk]⟩
              · obtain rfl : k = pile.length := by omega
                rw [hfa] at s32
                simp -dsimp -implicitDefEqProofs [s3, s4, s7, s32, s33]
                exact ⟨_, _, GC.refl _ _ _, rfl⟩
            · have hH' : (pileC xs pile != 0) = true := by simpa using hH
              simp -dsimp -implicitDefEqProofs [s3, s4, s7, s6, s15, s16, s18, s19, s21, s22, s24, s25, hH']
              exact ⟨_, _, GC.refl _ _ _, rfl⟩
          · have hft : fb = false := by rw [hfb]; simp only [Bool.not_eq_true] at hB; rw [hB, Bool.and_false]
            simp -dsimp -implicitDefEqProofs [s3, s4, s7, s6, s15, s16, s18, s19, s21, s22, s24, s25, hT, hft]
            by_cases hH : pileC xs pile = 0
            · have hI := pileC_zero hH
              have hhv : hh = highTo xs pile pile.length := by rw [hhh, if_pos hH]
              have hfa : foundTo xs pile hh pile.length = true := by rw [hhv]; exact found_all hH
              simp -dsimp -implicitDefEqProofs [s3, s4, s7, s6, s15, s16, s18, s19, s21, s22, s24, s25, hH]
              refine loopN pile.length (fun k σ m' => m' = m6 ∧ (σ 3 = some (.slice (some ⟨id, 0, none⟩) xs.length xs.length) ∧ σ 4 = some (.slice b pile.length pile.length) ∧ σ 7 = some (.int .i64 hh)) ∧ σ 32 = some (.bool (foundTo xs pile hh k)) ∧ σ 33 = some (.int .i64 k)) ⟨rfl, by simp [s3, s4, s7, s6, s15, s16, s18, s19, s21, s22, s24, s25, hH], by simp [foundTo], by simp⟩ ?_
              clear s3 s4 s7 s6 s15 s16 s18 s19 s21 s22 s24 s25 s9 s10 s13 s27 s28
              rintro k σ m' hk ⟨hmm, ⟨s3, s4, s7⟩, s32, s33⟩
              have hmm := hmm.symm
              subst hmm
              by_cases hlk : k < pile.length
              · have hwk : IntKind.i64.wrap ((k : Int) + 1) = k + 1 := wrapI (by omega) (by omega)
                obtain ⟨i1, l1⟩ := rng_ix (pileI_zero hI) hlk
                obtain ⟨bid, boff, bo, hba, hbm, hbk, hbs, hbc⟩ := hB6.at_ hlk
                rw [i1] at hbc
                obtain ⟨ida, offa, oa, hxa, hma, hkda, hsza, _, _, _, _, hc2'⟩ := R3.at_ hX6 l1
                injection hxa with hxa
                injection hxa with hx3 hx4
                subst hx3; subst hx4
                simp only [Nat.zero_add] at hc2'
                have hge := highTo_ge xs pile pile.length k hlk
                rw [← hhv] at hge
                have hat : hiAt xs pile k = xs[ixAt pile k].2.2 := by unfold hiAt; rw [potAt_eq l1]
                rw [hat] at hge
                have n1 : ¬ hh < xs[ixAt pile k].2.2 := by omega
                have hft : foundTo xs pile hh (k + 1) = (foundTo xs pile hh k || (xs[ixAt pile k].2.2 == hh)) := by simp only [foundTo, hat]
                cases hfk : foundTo xs pile hh k with
                | true =>
                  rw [hfk] at hft s32
                  have hft2 : foundTo xs pile hh (k + 1) = true := by rw [hft]; rfl
                  simp -dsimp -implicitDefEqProofs [s3, s4, s7, s32, s33, hlk, hba, withO_of hbm, hbk, hbs, withC_of hbc, l1, withO_of hma, hkda, hsza, withC_of hc2', hwk, n1]
                  exact next_ hlk ⟨rfl, by simp [s3, s4, s7, hba], by simp [hft2], by simp [hwk]⟩
                | false =>
                  rw [hfk] at hft s32
                  have hft2 : foundTo xs pile hh (k + 1) = (xs[ixAt pile k].2.2 == hh) := by rw [hft, Bool.false_or]
                  simp -dsimp -implicitDefEqProofs [s3, s4, s7, s32, s33, hlk, hba, withO_of hbm, hbk, hbs, withC_of hbc, l1, withO_of hma, hkda, hsza, withC_of hc2', hwk, n1]
                  exact next_ hlk ⟨rfl, by simp [s3, s4, s7, hba], by simp [hft2], by simp [hwk]⟩
              · obtain rfl : k = pile.length := by omega
                rw [hfa] at s32
                simp -dsimp -implicitDefEqProofs [s3, s4, s7, s32, s33]
                exact ⟨_, _, GC.refl _ _ _, rfl⟩
            · have hH' : (pileC xs pile != 0) = true := by simpa using hH
              simp -dsimp -implicitDefEqProofs [s3, s4, s7, s6, s15, s16, s18, s19, s21, s22, s24, s25, hH']
              exact ⟨_, _, GC.refl _ _ _, rfl⟩
        · have hT' : (twoI u w == 0) = false := beq_eq_false_iff_ne.2 hT
          simp -dsimp -implicitDefEqProofs [s3, s4, s7, s6, s15, s16, s18, s19, s21, s22, s24, s25, hT']
          by_cases hH : pileC xs pile = 0
          · have hI := pileC_zero hH
            have hhv : hh = highTo xs pile pile.length := by rw [hhh, if_pos hH]
            have hfa : foundTo xs pile hh pile.length = true := by rw [hhv]; exact found_all hH
            simp -dsimp -implicitDefEqProofs [s3, s4, s7, s6, s15, s16, s18, s19, s21, s22, s24, s25, hH]
            refine loopN pile.length (fun k σ m' => m' = m6 ∧ (σ 3 = some (.slice (some ⟨id, 0, none⟩) xs.length xs.length) ∧ σ 4 = some (.slice b pile.length pile.length) ∧ σ 7 = some (.int .i64 hh)) ∧ σ 32 = some (.bool (foundTo xs pile hh k)) ∧ σ 33 = some (.int .i64 k)) ⟨rfl, by simp [s3, s4, s7, s6, s15, s16, s18, s19, s21, s22, s24, s25, hH], by simp [foundTo], by simp⟩ ?_
            clear s3 s4 s7 s6 s15 s16 s18 s19 s21 s22 s24 s25 s9 s10 s13 s27 s28
            rintro k σ m' hk ⟨hmm, ⟨s3, s4, s7⟩, s32, s33⟩
            have hmm := hmm.symm
            subst hmm
            by_cases hlk : k < pile.length
            · have hwk : IntKind.i64.wrap ((k : Int) + 1) = k + 1 := wrapI (by omega) (by omega)
              obtain ⟨i1, l1⟩ := rng_ix (pileI_zero hI) hlk
              obtain ⟨bid, boff, bo, hba, hbm, hbk, hbs, hbc⟩ := hB6.at_ hlk
              rw [i1] at hbc
              obtain ⟨ida, offa, oa, hxa, hma, hkda, hsza, _, _, _, _, hc2'⟩ := R3.at_ hX6 l1
              injection hxa with hxa
              injection hxa with hx3 hx4
              subst hx3; subst hx4
              simp only [Nat.zero_add] at hc2'
              have hge := highTo_ge xs pile pile.length k hlk
              rw [← hhv] at hge
              have hat : hiAt xs pile k = xs[ixAt pile k].2.2 := by unfold hiAt; rw [potAt_eq l1]
              rw [hat] at hge
              have n1 : ¬ hh < xs[ixAt pile k].2.2 := by omega
              have hft : foundTo xs pile hh (k + 1) = (foundTo xs pile hh k || (xs[ixAt pile k].2.2 == hh)) := by simp only [foundTo, hat]
              cases hfk : foundTo xs pile hh k with
              | true =>
                rw [hfk] at hft s32
                have hft2 : foundTo xs pile hh (k + 1) = true := by rw [hft]; rfl
                simp -dsimp -implicitDefEqProofs [s3, s4, s7, s32, s33, hlk, hba, withO_of hbm, hbk, hbs, withC_of hbc, l1, withO_of hma, hkda, hsza, withC_of hc2', hwk, n1]
                exact next_ hlk ⟨rfl, by simp [s3, s4, s7, hba], by simp [hft2], by simp [hwk]⟩
              | false =>
                rw [hfk] at hft s32
                have hft2 : foundTo xs pile hh (k + 1) = (xs[ixAt pile k].2.2 == hh) := by rw [hft, Bool.false_or]
                simp -dsimp -implicitDefEqProofs [s3, s4, s7, s32, s33, hlk, hba, withO_of hbm, hbk, hbs, withC_of hbc, l1, withO_of hma, hkda, hsza, withC_of hc2', hwk, n1]
                exact next_ hlk ⟨rfl, by simp [s3, s4, s7, hba], by simp [hft2], by simp [hwk]⟩
            · obtain rfl : k = pile.length := by omega
              rw [hfa] at s32
              simp -dsimp -implicitDefEqProofs [s3, s4, s7, s32, s33]
              exact ⟨_, _, GC.refl _ _ _, rfl⟩
          · have hH' : (pileC xs pile != 0) = true := by simpa using hH
            simp -dsimp -implicitDefEqProofs [s3, s4, s7, s6, s15, s16, s18, s19, s21, s22, s24, s25, hH']
            exact ⟨_, _, GC.refl _ _ _, rfl⟩
      · have hD' : (deepC p q == 0) = false := beq_eq_false_iff_ne.2 hD
        simp -dsimp -implicitDefEqProofs [s3, s4, s7, s6, s15, s16, s18, s19, s21, s22, s24, s25, hD']
        by_cases hT : twoI u w = 0
        · by_cases hB : fitB u w = true
          · have hft : fb = true := by rw [hfb, hB]; simp [hT]
            have hT2 : twoI w u = 0 := by unfold twoI at hT ⊢; rw [Bool.and_comm]; exact hT
            have hB2 : fitB w u = false := by
              unfold fitB at hB ⊢
              simp only [Bool.and_eq_true, decide_eq_true_eq] at hB
              simp; omega
            have e10 := e9
            rw [hT2, hB2, Bool.and_false] at e10
            simp -dsimp -implicitDefEqProofs [s3, s4, s7, s6, s15, s16, s18, s19, s21, s22, s24, s25, hT, hft, withO_of tu, withO_of tw]
            refine callsTo Try.cal16 e10 ?_
            simp -dsimp -implicitDefEqProofs [s3, s4, s7, s6, s15, s16, s18, s19, s21, s22, s24, s25, hT, hft, withO_of tu, withO_of tw]
            by_cases hH : pileC xs pile = 0
            · have hI := pileC_zero hH
              have hhv : hh = highTo xs pile pile.length := by rw [hhh, if_pos hH]
              have hfa : foundTo xs pile hh pile.length = true := by rw [hhv]; exact found_all hH
              simp -dsimp -implicitDefEqProofs [s3, s4, s7, s6, s15, s16, s18, s19, s21, s22, s24, s25, hH]
              refine loopN pile.length (fun k σ m' => m' = m6 ∧ (σ 3 = some (.slice (some ⟨id, 0, none⟩) xs.length xs.length) ∧ σ 4 = some (.slice b pile.length pile.length) ∧ σ 7 = some (.int .i64 hh)) ∧ σ 32 = some (.bool (foundTo xs pile hh k)) ∧ σ 33 = some (.int .i64 k)) ⟨rfl, by simp [s3, s4, s7, s6, s15, s16, s18, s19, s21, s22, s24, s25, hH], by simp [foundTo], by simp⟩ ?_
              clear s3 s4 s7 s6 s15 s16 s18 s19 s21 s22 s24 s25 s9 s10 s13 s27 s28
              rintro k σ m' hk ⟨hmm, ⟨s3, s4, s7⟩, s32, s33⟩
              have hmm := hmm.symm
              subst hmm
              by_cases hlk : k < pile.length
              · have hwk : IntKind.i64.wrap ((k : Int) + 1) = k + 1 := wrapI (by omega) (by omega)
                obtain ⟨i1, l1⟩ := rng_ix (pileI_zero hI) hlk
                obtain ⟨bid, boff, bo, hba, hbm, hbk, hbs, hbc⟩ := hB6.at_ hlk
                rw [i1] at hbc
                obtain ⟨ida, offa, oa, hxa, hma, hkda, hsza, _, _, _, _, hc2'⟩ := R3.at_ hX6 l1
                injection hxa with hxa
                injection hxa with hx3 hx4
                subst hx3; subst hx4
                simp only [Nat.zero_add] at hc2'
                have hge := highTo_ge xs pile pile.length k hlk
                rw [← hhv] at hge
                have hat : hiAt xs pile k = xs[ixAt pile k].2.2 := by unfold hiAt; rw [potAt_eq l1]
                rw [hat] at hge
                have n1 : ¬ hh < xs[ixAt pile k].2.2 := by omega
                have hft : foundTo xs pile hh (k + 1) = (foundTo xs pile hh k || (xs[ixAt pile k].2.2 == hh)) := by simp only [foundTo, hat]
                cases hfk : foundTo xs pile hh k with
                | true =>
                  rw [hfk] at hft s32
                  have hft2 : foundTo xs pile hh (k + 1) = true := by rw [hft]; rfl
                  simp -dsimp -implicitDefEqProofs [s3, s4, s7, s32, s33, hlk, hba, withO_of hbm, hbk, hbs, withC_of hbc, l1, withO_of hma, hkda, hsza, withC_of hc2', hwk, n1]
                  exact next_ hlk ⟨rfl, by simp [s3, s4, s7, hba], by simp [hft2], by simp [hwk]⟩
                | false =>
                  rw [hfk] at hft s32
                  have hft2 : foundTo xs pile hh (k + 1) = (xs[ixAt pile k].2.2 == hh) := by rw [hft, Bool.false_or]
                  simp -dsimp -implicitDefEqProofs [s3, s4, s7, s32, s33, hlk, hba, withO_of hbm, hbk, hbs, withC_of hbc, l1, withO_of hma, hkda, hsza, withC_of hc2', hwk, n1]
                  exact next_ hlk ⟨rfl, by simp [s3, s4, s7, hba], by simp [hft2], by simp [hwk]⟩
              · obtain rfl : k = pile.length := by omega
                rw [hfa] at s32
                simp -dsimp -implicitDefEqProofs [s3, s4, s7, s32, s33]
                exact ⟨_, _, GC.refl _ _ _, rfl⟩
            · have hH' : (pileC xs pile != 0) = true := by simpa using hH
              simp -dsimp -implicitDefEqProofs [s3, s4, s7, s6, s15, s16, s18, s19, s21, s22, s24, s25, hH']
              exact ⟨_, _, GC.refl _ _ _, rfl⟩
          · have hft : fb = false := by rw [hfb]; simp only [Bool.not_eq_true] at hB; rw [hB, Bool.and_false]
            simp -dsimp -implicitDefEqProofs [s3, s4, s7, s6, s15, s16, s18, s19, s21, s22, s24, s25, hT, hft]
            by_cases hH : pileC xs pile = 0
            · have hI := pileC_zero hH
              have hhv : hh = highTo xs pile pile.length := by rw [hhh, if_pos hH]
              have hfa : foundTo xs pile hh pile.length = true := by rw [hhv]; exact found_all hH
              simp -dsimp -implicitDefEqProofs [s3, s4, s7, s6, s15, s16, s18, s19, s21, s22, s24, s25, hH]
              refine loopN pile.length (fun k σ m' => m' = m6 ∧ (σ 3 = some (.slice (some ⟨id, 0, none⟩) xs.length xs.length) ∧ σ 4 = some (.slice b pile.length pile.length) ∧ σ 7 = some (.int .i64 hh)) ∧ σ 32 = some (.bool (foundTo xs pile hh k)) ∧ σ 33 = some (.int .i64 k)) ⟨rfl, by simp [s3, s4, s7, s6, s15, s16, s18, s19, s21, s22, s24, s25, hH], by simp [foundTo], by simp⟩ ?_
              clear s3 s4 s7 s6 s15 s16 s18 s19 s21 s22 s24 s25 s9 s10 s13 s27 s28
              rintro k σ m' hk ⟨hmm, ⟨s3, s4, s7⟩, s32, s33⟩
              have hmm := hmm.symm
              subst hmm
              by_cases hlk : k < pile.length
              · have hwk : IntKind.i64.wrap ((k : Int) + 1) = k + 1 := wrapI (by omega) (by omega)
                obtain ⟨i1, l1⟩ := rng_ix (pileI_zero hI) hlk
                obtain ⟨bid, boff, bo, hba, hbm, hbk, hbs, hbc⟩ := hB6.at_ hlk
                rw [i1] at hbc
                obtain ⟨ida, offa, oa, hxa, hma, hkda, hsza, _, _, _, _, hc2'⟩ := R3.at_ hX6 l1
                injection hxa with hxa
                injection hxa with hx3 hx4
                subst hx3; subst hx4
                simp only [Nat.zero_add] at hc2'
                have hge := highTo_ge xs pile pile.length k hlk
                rw [← hhv] at hge
                have hat : hiAt xs pile k = xs[ixAt pile k].2.2 := by unfold hiAt; rw [potAt_eq l1]
                rw [hat] at hge
                have n1 : ¬ hh < xs[ixAt pile k].2.2 := by omega
                have hft : foundTo xs pile hh (k + 1) = (foundTo xs pile hh k || (xs[ixAt pile k].2.2 == hh)) := by simp only [foundTo, hat]
                cases hfk : foundTo xs pile hh k with
                | true =>
                  rw [hfk] at hft s32
                  have hft2 : foundTo xs pile hh (k + 1) = true := by rw [hft]; rfl
                  simp -dsimp -implicitDefEqProofs [s3, s4, s7, s32, s33, hlk, hba, withO_of hbm, hbk, hbs, withC_of hbc, l1, withO_of hma, hkda, hsza, withC_of hc2', hwk, n1]
                  exact next_ hlk ⟨rfl, by simp [s3, s4, s7, hba], by simp [hft2], by simp [hwk]⟩
                | false =>
                  rw [hfk] at hft s32
                  have hft2 : foundTo xs pile hh (k + 1) = (xs[ixAt pile k].2.2 == hh) := by rw [hft, Bool.false_or]
                  simp -dsimp -implicitDefEqProofs [s3, s4, s7, s32, s33, hlk, hba, withO_of hbm, hbk, hbs, withC_of hbc, l1, withO_of hma, hkda, hsza, withC_of hc2', hwk, n1]
                  exact next_ hlk ⟨rfl, by simp [s3, s4, s7, hba], by simp [hft2], by simp [hwk]⟩
              · obtain rfl : k = pile.length := by omega
                rw [hfa] at s32
                simp -dsimp -implicitDefEqProofs [s3, s4, s7, s32, s33]
                exact ⟨_, _, GC.refl _ _ _, rfl⟩
            · have hH' : (pileC xs pile != 0) = true := by simpa using hH
              simp -dsimp -implicitDefEqProofs [s3, s4, s7, s6, s15, s16, s18, s19, s21, s22, s24, s25, hH']
              exact ⟨_, _, GC.refl _ _ _, rfl⟩
        · have hT' : (twoI u w == 0) = false := beq_eq_false_iff_ne.2 hT
          simp -dsimp -implicitDefEqProofs [s3, s4, s7, s6, s15, s16, s18, s19, s21, s22, s24, s25, hT']
          by_cases hH : pileC xs pile = 0
          · have hI := pileC_zero hH
            have hhv : hh = highTo xs pile pile.length := by rw [hhh, if_pos hH]
            have hfa : foundTo xs pile hh pile.length = true := by rw [hhv]; exact found_all hH
            simp -dsimp -implicitDefEqProofs [s3, s4, s7, s6, s15, s16, s18, s19, s21, s22, s24, s25, hH]
            refine loopN pile.length (fun k σ m' => m' = m6 ∧ (σ 3 = some (.slice (some ⟨id, 0, none⟩) xs.length xs.length) ∧ σ 4 = some (.slice b pile.length pile.length) ∧ σ 7 = some (.int .i64 hh)) ∧ σ 32 = some (.bool (foundTo xs pile hh k)) ∧ σ 33 = some (.int .i64 k)) ⟨rfl, by simp [s3, s4, s7, s6, s15, s16, s18, s19, s21, s22, s24, s25, hH], by simp [foundTo], by simp⟩ ?_
            clear s3 s4 s7 s6 s15 s16 s18 s19 s21 s22 s24 s25 s9 s10 s13 s27 s28
            rintro k σ m' hk ⟨hmm, ⟨s3, s4, s7⟩, s32, s33⟩
            have hmm := hmm.symm
            subst hmm
            by_cases hlk : k < pile.length
            · have hwk : IntKind.i64.wrap ((k : Int) + 1) = k + 1 := wrapI (by omega) (by omega)
              obtain ⟨i1, l1⟩ := rng_ix (pileI_zero hI) hlk
              obtain ⟨bid, boff, bo, hba, hbm, hbk, hbs, hbc⟩ := hB6.at_ hlk
              rw [i1] at hbc
              obtain ⟨ida, offa, oa, hxa, hma, hkda, hsza, _, _, _, _, hc2'⟩ := R3.at_ hX6 l1
              injection hxa with hxa
              injection hxa with hx3 hx4
              subst hx3; subst hx4
              simp only [Nat.zero_add] at hc2'
              have hge := highTo_ge xs pile pile.length k hlk
              rw [← hhv] at hge
              have hat : hiAt xs pile k = xs[ixAt pile k].2.2 := by unfold hiAt; rw [potAt_eq l1]
              rw [hat] at hge
              have n1 : ¬ hh < xs[ixAt pile k].2.2 := by omega
              have hft : foundTo xs pile hh (k + 1) = (foundTo xs pile hh k || (xs[ixAt pile k].2.2 == hh)) := by simp only [foundTo, hat]
              cases hfk : foundTo xs pile hh k with
              | true =>
                rw [hfk] at hft s32
                have hft2 : foundTo xs pile hh (k + 1) = true := by rw [hft]; rfl
                simp -dsimp -implicitDefEqProofs [s3, s4, s7, s32, s33, hlk, hba, withO_of hbm, hbk, hbs, withC_of hbc, l1, withO_of hma, hkda, hsza, withC_of hc2', hwk, n1]
                exact next_ hlk ⟨rfl, by simp [s3, s4, s7, hba], by simp [hft2], by simp [hwk]⟩
              | false =>
                rw [hfk] at hft s32
                have hft2 : foundTo xs pile hh (k + 1) = (xs[ixAt pile k].2.2 == hh) := by rw [hft, Bool.false_or]
                simp -dsimp -implicitDefEqProofs [s3, s4, s7, s32, s33, hlk, hba, withO_of hbm, hbk, hbs, withC_of hbc, l1, withO_of hma, hkda, hsza, withC_of hc2', hwk, n1]
                exact next_ hlk ⟨rfl, by simp [s3, s4, s7, hba], by simp [hft2], by simp [hwk]⟩
            · obtain rfl : k = pile.length := by omega
              rw [hfa] at s32
              simp -dsimp -implicitDefEqProofs [s3, s4, s7, s32, s33]
              exact ⟨_, _, GC.refl _ _ _, rfl⟩
          · have hH' : (pileC xs pile != 0) = true := by simpa using hH
            simp -dsimp -implicitDefEqProofs [s3, s4, s7, s6, s15, s16, s18, s19, s21, s22, s24, s25, hH']
            exact ⟨_, _, GC.refl _ _ _, rfl⟩
  · have hF' : (floorC ws zs == 0) = false := beq_eq_false_iff_ne.2 hF
    simp -dsimp -implicitDefEqProofs [hF']
    by_cases hD : deepC p q = 0
    · have hdp2 : dp = max 0 (IntKind.i64.wrap (p.2.2 - q.2.2)) := by rw [hdp, if_pos hD]; rfl
      simp -dsimp -implicitDefEqProofs [hD, withO_of tp6, withO_of tq6, hdp2.symm]
      by_cases hT : twoI u w = 0
      · by_cases hB : fitB u w = true
        · have hft : fb = true := by rw [hfb, hB]; simp [hT]
          have hT2 : twoI w u = 0 := by unfold twoI at hT ⊢; rw [Bool.and_comm]; exact hT
          have hB2 : fitB w u = false := by
            unfold fitB at hB ⊢
            simp only [Bool.and_eq_true, decide_eq_true_eq] at hB
            simp; omega
          have e10 := e9
          rw [hT2, hB2, Bool.and_false] at e10
          simp -dsimp -implicitDefEqProofs [hT, hft, withO_of tu, withO_of tw]
          refine callsTo Try.cal16 e10 ?_
          simp -dsimp -implicitDefEqProofs [hT, hft, withO_of tu, withO_of tw]
          by_cases hH : pileC xs pile = 0
          · have hI := pileC_zero hH
            have hhv : hh = highTo xs pile pile.length := by rw [hhh, if_pos hH]
            have hfa : foundTo xs pile hh pile.length = true := by rw [hhv]; exact found_all hH
            simp -dsimp -implicitDefEqProofs [hH]
            refine loopN pile.length (fun k σ m' => m' = m6 ∧ (σ 3 = some (.slice (some ⟨id, 0, none⟩) xs.length xs.length) ∧ σ 4 = some (.slice b pile.length pile.length) ∧ σ 7 = some (.int .i64 hh)) ∧ σ 32 = some (.bool (foundTo xs pile hh k)) ∧ σ 33 = some (.int .i64 k)) ⟨rfl, by simp [hH], by simp [foundTo], by simp⟩ ?_
            rintro k σ m' hk ⟨hmm, ⟨s3, s4, s7⟩, s32, s33⟩
            have hmm := hmm.symm
            subst hmm
            by_cases hlk : k < pile.length
            · have hwk : IntKind.i64.wrap ((k : Int) + 1) = k + 1 := wrapI (by omega) (by omega)
              obtain ⟨i1, l1⟩ := rng_ix (pileI_zero hI) hlk
              obtain ⟨bid, boff, bo, hba, hbm, hbk, hbs, hbc⟩ := hB6.at_ hlk
              rw [i1] at hbc
              obtain ⟨ida, offa, oa, hxa, hma, hkda, hsza, _, _, _, _, hc2'⟩ := R3.at_ hX6 l1
              injection hxa with hxa
              injection hxa with hx3 hx4
              subst hx3; subst hx4
              simp only [Nat.zero_add] at hc2'
              have hge := highTo_ge xs pile pile.length k hlk
              rw [← hhv] at hge
              have hat : hiAt xs pile k = xs[ixAt pile k].2.2 := by unfold hiAt; rw [potAt_eq l1]
              rw [hat] at hge
              have n1 : ¬ hh < xs[ixAt pile k].2.2 := by omega
              have hft : foundTo xs pile hh (k + 1) = (foundTo xs pile hh k || (xs[ixAt pile k].2.2 == hh)) := by simp only [foundTo, hat]
              cases hfk : foundTo xs pile hh k with
              | true =>
                rw [hfk] at hft s32
                have hft2 : foundTo xs pile hh (k + 1) = true := by rw [hft]; rfl
                simp -dsimp -implicitDefEqProofs [s3, s4, s7, s32, s33, hlk, hba, withO_of hbm, hbk, hbs, withC_of hbc, l1, withO_of hma, hkda, hsza, withC_of hc2', hwk, n1]
                exact next_ hlk ⟨rfl, by simp [s3, s4, s7, hba], by simp [hft2], by simp [hwk]⟩
              | false =>
                rw [hfk] at hft s32
                have hft2 : foundTo xs pile hh (k + 1) = (xs[ixAt pile k].2.2 == hh) := by rw [hft, Bool.false_or]
                simp -dsimp -implicitDefEqProofs [s3, s4, s7, s32, s33, hlk, hba, withO_of hbm, hbk, hbs, withC_of hbc, l1, withO_of hma, hkda, hsza, withC_of hc2', hwk, n1]
                exact next_ hlk ⟨rfl, by simp [s3, s4, s7, hba], by simp [hft2], by simp [hwk]⟩
            · obtain rfl : k = pile.length := by omega
              rw [hfa] at s32
              simp -dsimp -implicitDefEqProofs [s3, s4, s7, s32, s33]
              exact ⟨_, _, GC.refl _ _ _, rfl⟩
          · have hH' : (pileC xs pile != 0) = true := by simpa using hH
            simp -dsimp -implicitDefEqProofs [hH']
            exact ⟨_, _, GC.refl _ _ _, rfl⟩
        · have hft : fb = false := by rw [hfb]; simp only [Bool.not_eq_true] at hB; rw [hB, Bool.and_false]
          simp -dsimp -implicitDefEqProofs [hT, hft]
          by_cases hH : pileC xs pile = 0
          · have hI := pileC_zero hH
            have hhv : hh = highTo xs pile pile.length := by rw [hhh, if_pos hH]
            have hfa : foundTo xs pile hh pile.length = true := by rw [hhv]; exact found_all hH
            simp -dsimp -implicitDefEqProofs [hH]
            refine loopN pile.length (fun k σ m' => m' = m6 ∧ (σ 3 = some (.slice (some ⟨id, 0, none⟩) xs.length xs.length) ∧ σ 4 = some (.slice b pile.length pile.length) ∧ σ 7 = some (.int .i64 hh)) ∧ σ 32 = some (.bool (foundTo xs pile hh k)) ∧ σ 33 = some (.int .i64 k)) ⟨rfl, by simp [hH], by simp [foundTo], by simp⟩ ?_
            rintro k σ m' hk ⟨hmm, ⟨s3, s4, s7⟩, s32, s33⟩
            have hmm := hmm.symm
            subst hmm
            by_cases hlk : k < pile.length
            · have hwk : IntKind.i64.wrap ((k : Int) + 1) = k + 1 := wrapI (by omega) (by omega)
              obtain ⟨i1, l1⟩ := rng_ix (pileI_zero hI) hlk
              obtain ⟨bid, boff, bo, hba, hbm, hbk, hbs, hbc⟩ := hB6.at_ hlk
              rw [i1] at hbc
              obtain ⟨ida, offa, oa, hxa, hma, hkda, hsza, _, _, _, _, hc2'⟩ := R3.at_ hX6 l1
              injection hxa with hxa
              injection hxa with hx3 hx4
              subst hx3; subst hx4
              simp only [Nat.zero_add] at hc2'
              have hge := highTo_ge xs pile pile.length k hlk
              rw [← hhv] at hge
              have hat : hiAt xs pile k = xs[ixAt pile k].2.2 := by unfold hiAt; rw [potAt_eq l1]
              rw [hat] at hge
              have n1 : ¬ hh < xs[ixAt pile k].2.2 := by omega
              have hft : foundTo xs pile hh (k + 1) = (foundTo xs pile hh k || (xs[ixAt pile k].2.2 == hh)) := by simp only [foundTo, hat]
              cases hfk : foundTo xs pile hh k with
              | true =>
                rw [hfk] at hft s32
                have hft2 : foundTo xs pile hh (k + 1) = true := by rw [hft]; rfl
                simp -dsimp -implicitDefEqProofs [s3, s4, s7, s32, s33, hlk, hba, withO_of hbm, hbk, hbs, withC_of hbc, l1, withO_of hma, hkda, hsza, withC_of hc2', hwk, n1]
                exact next_ hlk ⟨rfl, by simp [s3, s4, s7, hba], by simp [hft2], by simp [hwk]⟩
              | false =>
                rw [hfk] at hft s32
                have hft2 : foundTo xs pile hh (k + 1) = (xs[ixAt pile k].2.2 == hh) := by rw [hft, Bool.false_or]
                simp -dsimp -implicitDefEqProofs [s3, s4, s7, s32, s33, hlk, hba, withO_of hbm, hbk, hbs, withC_of hbc, l1, withO_of hma, hkda, hsza, withC_of hc2', hwk, n1]
                exact next_ hlk ⟨rfl, by simp [s3, s4, s7, hba], by simp [hft2], by simp [hwk]⟩
            · obtain rfl : k = pile.length := by omega
              rw [hfa] at s32
              simp -dsimp -implicitDefEqProofs [s3, s4, s7, s32, s33]
              exact ⟨_, _, GC.refl _ _ _, rfl⟩
          · have hH' : (pileC xs pile != 0) = true := by simpa using hH
            simp -dsimp -implicitDefEqProofs [hH']
            exact ⟨_, _, GC.refl _ _ _, rfl⟩
      · have hT' : (twoI u w == 0) = false := beq_eq_false_iff_ne.2 hT
        simp -dsimp -implicitDefEqProofs [hT']
        by_cases hH : pileC xs pile = 0
        · have hI := pileC_zero hH
          have hhv : hh = highTo xs pile pile.length := by rw [hhh, if_pos hH]
          have hfa : foundTo xs pile hh pile.length = true := by rw [hhv]; exact found_all hH
          simp -dsimp -implicitDefEqProofs [hH]
          refine loopN pile.length (fun k σ m' => m' = m6 ∧ (σ 3 = some (.slice (some ⟨id, 0, none⟩) xs.length xs.length) ∧ σ 4 = some (.slice b pile.length pile.length) ∧ σ 7 = some (.int .i64 hh)) ∧ σ 32 = some (.bool (foundTo xs pile hh k)) ∧ σ 33 = some (.int .i64 k)) ⟨rfl, by simp [hH], by simp [foundTo], by simp⟩ ?_
          rintro k σ m' hk ⟨hmm, ⟨s3, s4, s7⟩, s32, s33⟩
          have hmm := hmm.symm
          subst hmm
          by_cases hlk : k < pile.length
          · have hwk : IntKind.i64.wrap ((k : Int) + 1) = k + 1 := wrapI (by omega) (by omega)
            obtain ⟨i1, l1⟩ := rng_ix (pileI_zero hI) hlk
            obtain ⟨bid, boff, bo, hba, hbm, hbk, hbs, hbc⟩ := hB6.at_ hlk
            rw [i1] at hbc
            obtain ⟨ida, offa, oa, hxa, hma, hkda, hsza, _, _, _, _, hc2'⟩ := R3.at_ hX6 l1
            injection hxa with hxa
            injection hxa with hx3 hx4
            subst hx3; subst hx4
            simp only [Nat.zero_add] at hc2'
            have hge := highTo_ge xs pile pile.length k hlk
            rw [← hhv] at hge
            have hat : hiAt xs pile k = xs[ixAt pile k].2.2 := by unfold hiAt; rw [potAt_eq l1]
            rw [hat] at hge
            have n1 : ¬ hh < xs[ixAt pile k].2.2 := by omega
            have hft : foundTo xs pile hh (k + 1) = (foundTo xs pile hh k || (xs[ixAt pile k].2.2 == hh)) := by simp only [foundTo, hat]
            cases hfk : foundTo xs pile hh k with
            | true =>
              rw [hfk] at hft s32
              have hft2 : foundTo xs pile hh (k + 1) = true := by rw [hft]; rfl
              simp -dsimp -implicitDefEqProofs [s3, s4, s7, s32, s33, hlk, hba, withO_of hbm, hbk, hbs, withC_of hbc, l1, withO_of hma, hkda, hsza, withC_of hc2', hwk, n1]
              exact next_ hlk ⟨rfl, by simp [s3, s4, s7, hba], by simp [hft2], by simp [hwk]⟩
            | false =>
              rw [hfk] at hft s32
              have hft2 : foundTo xs pile hh (k + 1) = (xs[ixAt pile k].2.2 == hh) := by rw [hft, Bool.false_or]
              simp -dsimp -implicitDefEqProofs [s3, s4, s7, s32, s33, hlk, hba, withO_of hbm, hbk, hbs, withC_of hbc, l1, withO_of hma, hkda, hsza, withC_of hc2', hwk, n1]
              exact next_ hlk ⟨rfl, by simp [s3, s4, s7, hba], by simp [hft2], by simp [hwk]⟩
          · obtain rfl : k = pile.length := by omega
            rw [hfa] at s32
            simp -dsimp -implicitDefEqProofs [s3, s4, s7, s32, s33]
            exact ⟨_, _, GC.refl _ _ _, rfl⟩
        · have hH' : (pileC xs pile != 0) = true := by simpa using hH
          simp -dsimp -implicitDefEqProofs [hH']
          exact ⟨_, _, GC.refl _ _ _, rfl⟩
    · have hD' : (deepC p q == 0) = false := beq_eq_false_iff_ne.2 hD
      simp -dsimp -implicitDefEqProofs [hD']
      by_cases hT : twoI u w = 0
      · by_cases hB : fitB u w = true
        · have hft : fb = true := by rw [hfb, hB]; simp [hT]
          have hT2 : twoI w u = 0 := by unfold twoI at hT ⊢; rw [Bool.and_comm]; exact hT
          have hB2 : fitB w u = false := by
            unfold fitB at hB ⊢
            simp only [Bool.and_eq_true, decide_eq_true_eq] at hB
            simp; omega
          have e10 := e9
          rw [hT2, hB2, Bool.and_false] at e10
          simp -dsimp -implicitDefEqProofs [hT, hft, withO_of tu, withO_of tw]
          refine callsTo Try.cal16 e10 ?_
          simp -dsimp -implicitDefEqProofs [hT, hft, withO_of tu, withO_of tw]
          by_cases hH : pileC xs pile = 0
          · have hI := pileC_zero hH
            have hhv : hh = highTo xs pile pile.length := by rw [hhh, if_pos hH]
            have hfa : foundTo xs pile hh pile.length = true := by rw [hhv]; exact found_all hH
            simp -dsimp -implicitDefEqProofs [hH]
            refine loopN pile.length (fun k σ m' => m' = m6 ∧ (σ 3 = some (.slice (some ⟨id, 0, none⟩) xs.length xs.length) ∧ σ 4 = some (.slice b pile.length pile.length) ∧ σ 7 = some (.int .i64 hh)) ∧ σ 32 = some (.bool (foundTo xs pile hh k)) ∧ σ 33 = some (.int .i64 k)) ⟨rfl, by simp [hH], by simp [foundTo], by simp⟩ ?_
            rintro k σ m' hk ⟨hmm, ⟨s3, s4, s7⟩, s32, s33⟩
            have hmm := hmm.symm
            subst hmm
            by_cases hlk : k < pile.length
            · have hwk : IntKind.i64.wrap ((k : Int) + 1) = k + 1 := wrapI (by omega) (by omega)
              obtain ⟨i1, l1⟩ := rng_ix (pileI_zero hI) hlk
              obtain ⟨bid, boff, bo, hba, hbm, hbk, hbs, hbc⟩ := hB6.at_ hlk
              rw [i1] at hbc
              obtain ⟨ida, offa, oa, hxa, hma, hkda, hsza, _, _, _, _, hc2'⟩ := R3.at_ hX6 l1
              injection hxa with hxa
              injection hxa with hx3 hx4
              subst hx3; subst hx4
              simp only [Nat.zero_add] at hc2'
              have hge := highTo_ge xs pile pile.length k hlk
              rw [← hhv] at hge
              have hat : hiAt xs pile k = xs[ixAt pile k].2.2 := by unfold hiAt; rw [potAt_eq l1]
              rw [hat] at hge
              have n1 : ¬ hh < xs[ixAt pile k].2.2 := by omega
              have hft : foundTo xs pile hh (k + 1) = (foundTo xs pile hh k || (xs[ixAt pile k].2.2 == hh)) := by simp only [foundTo, hat]
              cases hfk : foundTo xs pile hh k with
              | true =>
                rw [hfk] at hft s32
                have hft2 : foundTo xs pile hh (k + 1) = true := by rw [hft]; rfl
                simp -dsimp -implicitDefEqProofs [s3, s4, s7, s32, s33, hlk, hba, withO_of hbm, hbk, hbs, withC_of hbc, l1, withO_of hma, hkda, hsza, withC_of hc2', hwk, n1]
                exact next_ hlk ⟨rfl, by simp [s3, s4, s7, hba], by simp [hft2], by simp [hwk]⟩
              | false =>
                rw [hfk] at hft s32
                have hft2 : foundTo xs pile hh (k + 1) = (xs[ixAt pile k].2.2 == hh) := by rw [hft, Bool.false_or]
                simp -dsimp -implicitDefEqProofs [s3, s4, s7, s32, s33, hlk, hba, withO_of hbm, hbk, hbs, withC_of hbc, l1, withO_of hma, hkda, hsza, withC_of hc2', hwk, n1]
                exact next_ hlk ⟨rfl, by simp [s3, s4, s7, hba], by simp [hft2], by simp [hwk]⟩
            · obtain rfl : k = pile.length := by omega
              rw [hfa] at s32
              simp -dsimp -implicitDefEqProofs [s3, s4, s7, s32, s33]
              exact ⟨_, _, GC.refl _ _ _, rfl⟩
          · have hH' : (pileC xs pile != 0) = true := by simpa using hH
            simp -dsimp -implicitDefEqProofs [hH']
            exact ⟨_, _, GC.refl _ _ _, rfl⟩
        · have hft : fb = false := by rw [hfb]; simp only [Bool.not_eq_true] at hB; rw [hB, Bool.and_false]
          simp -dsimp -implicitDefEqProofs [hT, hft]
          by_cases hH : pileC xs pile = 0
          · have hI := pileC_zero hH
            have hhv : hh = highTo xs pile pile.length := by rw [hhh, if_pos hH]
            have hfa : foundTo xs pile hh pile.length = true := by rw [hhv]; exact found_all hH
            simp -dsimp -implicitDefEqProofs [hH]
            refine loopN pile.length (fun k σ m' => m' = m6 ∧ (σ 3 = some (.slice (some ⟨id, 0, none⟩) xs.length xs.length) ∧ σ 4 = some (.slice b pile.length pile.length) ∧ σ 7 = some (.int .i64 hh)) ∧ σ 32 = some (.bool (foundTo xs pile hh k)) ∧ σ 33 = some (.int .i64 k)) ⟨rfl, by simp [hH], by simp [foundTo], by simp⟩ ?_
            rintro k σ m' hk ⟨hmm, ⟨s3, s4, s7⟩, s32, s33⟩
            have hmm := hmm.symm
            subst hmm
            by_cases hlk : k < pile.length
            · have hwk : IntKind.i64.wrap ((k : Int) + 1) = k + 1 := wrapI (by omega) (by omega)
              obtain ⟨i1, l1⟩ := rng_ix (pileI_zero hI) hlk
              obtain ⟨bid, boff, bo, hba, hbm, hbk, hbs, hbc⟩ := hB6.at_ hlk
              rw [i1] at hbc
              obtain ⟨ida, offa, oa, hxa, hma, hkda, hsza, _, _, _, _, hc2'⟩ := R3.at_ hX6 l1
              injection hxa with hxa
              injection hxa with hx3 hx4
              subst hx3; subst hx4
              simp only [Nat.zero_add] at hc2'
              have hge := highTo_ge xs pile pile.length k hlk
              rw [← hhv] at hge
              have hat : hiAt xs pile k = xs[ixAt pile k].2.2 := by unfold hiAt; rw [potAt_eq l1]
              rw [hat] at hge
              have n1 : ¬ hh < xs[ixAt pile k].2.2 := by omega
              have hft : foundTo xs pile hh (k + 1) = (foundTo xs pile hh k || (xs[ixAt pile k].2.2 == hh)) := by simp only [foundTo, hat]
              cases hfk : foundTo xs pile hh k with
              | true =>
                rw [hfk] at hft s32
                have hft2 : foundTo xs pile hh (k + 1) = true := by rw [hft]; rfl
                simp -dsimp -implicitDefEqProofs [s3, s4, s7, s32, s33, hlk, hba, withO_of hbm, hbk, hbs, withC_of hbc, l1, withO_of hma, hkda, hsza, withC_of hc2', hwk, n1]
                exact next_ hlk ⟨rfl, by simp [s3, s4, s7, hba], by simp [hft2], by simp [hwk]⟩
              | false =>
                rw [hfk] at hft s32
                have hft2 : foundTo xs pile hh (k + 1) = (xs[ixAt pile k].2.2 == hh) := by rw [hft, Bool.false_or]
                simp -dsimp -implicitDefEqProofs [s3, s4, s7, s32, s33, hlk, hba, withO_of hbm, hbk, hbs, withC_of hbc, l1, withO_of hma, hkda, hsza, withC_of hc2', hwk, n1]
                exact next_ hlk ⟨rfl, by simp [s3, s4, s7, hba], by simp [hft2], by simp [hwk]⟩
            · obtain rfl : k = pile.length := by omega
              rw [hfa] at s32
              simp -dsimp -implicitDefEqProofs [s3, s4, s7, s32, s33]
              exact ⟨_, _, GC.refl _ _ _, rfl⟩
          · have hH' : (pileC xs pile != 0) = true := by simpa using hH
            simp -dsimp -implicitDefEqProofs [hH']
            exact ⟨_, _, GC.refl _ _ _, rfl⟩
      · have hT' : (twoI u w == 0) = false := beq_eq_false_iff_ne.2 hT
        simp -dsimp -implicitDefEqProofs [hT']
        by_cases hH : pileC xs pile = 0
        · have hI := pileC_zero hH
          have hhv : hh = highTo xs pile pile.length := by rw [hhh, if_pos hH]
          have hfa : foundTo xs pile hh pile.length = true := by rw [hhv]; exact found_all hH
          simp -dsimp -implicitDefEqProofs [hH]
          refine loopN pile.length (fun k σ m' => m' = m6 ∧ (σ 3 = some (.slice (some ⟨id, 0, none⟩) xs.length xs.length) ∧ σ 4 = some (.slice b pile.length pile.length) ∧ σ 7 = some (.int .i64 hh)) ∧ σ 32 = some (.bool (foundTo xs pile hh k)) ∧ σ 33 = some (.int .i64 k)) ⟨rfl, by simp [hH], by simp [foundTo], by simp⟩ ?_
          rintro k σ m' hk ⟨hmm, ⟨s3, s4, s7⟩, s32, s33⟩
          have hmm := hmm.symm
          subst hmm
          by_cases hlk : k < pile.length
          · have hwk : IntKind.i64.wrap ((k : Int) + 1) = k + 1 := wrapI (by omega) (by omega)
            obtain ⟨i1, l1⟩ := rng_ix (pileI_zero hI) hlk
            obtain ⟨bid, boff, bo, hba, hbm, hbk, hbs, hbc⟩ := hB6.at_ hlk
            rw [i1] at hbc
            obtain ⟨ida, offa, oa, hxa, hma, hkda, hsza, _, _, _, _, hc2'⟩ := R3.at_ hX6 l1
            injection hxa with hxa
            injection hxa with hx3 hx4
            subst hx3; subst hx4
            simp only [Nat.zero_add] at hc2'
            have hge := highTo_ge xs pile pile.length k hlk
            rw [← hhv] at hge
            have hat : hiAt xs pile k = xs[ixAt pile k].2.2 := by unfold hiAt; rw [potAt_eq l1]
            rw [hat] at hge
            have n1 : ¬ hh < xs[ixAt pile k].2.2 := by omega
            have hft : foundTo xs pile hh (k + 1) = (foundTo xs pile hh k || (xs[ixAt pile k].2.2 == hh)) := by simp only [foundTo, hat]
            cases hfk : foundTo xs pile hh k with
            | true =>
              rw [hfk] at hft s32
              have hft2 : foundTo xs pile hh (k + 1) = true := by rw [hft]; rfl
              simp -dsimp -implicitDefEqProofs [s3, s4, s7, s32, s33, hlk, hba, withO_of hbm, hbk, hbs, withC_of hbc, l1, withO_of hma, hkda, hsza, withC_of hc2', hwk, n1]
              exact next_ hlk ⟨rfl, by simp [s3, s4, s7, hba], by simp [hft2], by simp [hwk]⟩
            | false =>
              rw [hfk] at hft s32
              have hft2 : foundTo xs pile hh (k + 1) = (xs[ixAt pile k].2.2 == hh) := by rw [hft, Bool.false_or]
              simp -dsimp -implicitDefEqProofs [s3, s4, s7, s32, s33, hlk, hba, withO_of hbm, hbk, hbs, withC_of hbc, l1, withO_of hma, hkda, hsza, withC_of hc2', hwk, n1]
              exact next_ hlk ⟨rfl, by simp [s3, s4, s7, hba], by simp [hft2], by simp [hwk]⟩
          · obtain rfl : k = pile.length := by omega
            rw [hfa] at s32
            simp -dsimp -implicitDefEqProofs [s3, s4, s7, s32, s33]
            exact ⟨_, _, GC.refl _ _ _, rfl⟩
        · have hH' : (pileC xs pile != 0) = true := by simpa using hH
          simp -dsimp -implicitDefEqProofs [hH']
          exact ⟨_, _, GC.refl _ _ _, rfl⟩

set_option maxRecDepth 100000 in
theorem fnPilesLifted (os : Os) (started : os.Started) (H : Type) (enc : TypeId × Value → H) :
    ReturnsInHanded {} Try.checked os 12 .any (Rows.fnPilesSpec.pre6 enc Try.prog Try.f12 Rows.fnPilesRow.domain false) (Rows.fnPilesSpec.post enc Try.prog Try.f12 false true false false) :=
  lawLifted (C := Try.checked) [.one (.sl [.int .u8])] 3 4 (by kernel_rfl) started (by kernel_rfl) Try.func12
    (ChangeSpec.witness6 (enc := enc) (C := Try.checked) false ⟨#[], #[.slice none 0 0], []⟩ 8 (by kernel_rfl) (by kernel_rfl) (by kernel_rfl) (by kernel_rfl))
    (by kernel_rfl) (by kernel_rfl) (by kernel_rfl) rfl (by kernel_rfl) rfl (fun ds h => match ds, h with | [_], _ => rfl) fun m vs h => by
      obtain ⟨u0, rfl, hv0⟩ := h.one
      obtain ⟨a, xs, rfl, hl0, hr0⟩ := CV.slB hv0
      obtain ⟨v, m', hc, hv⟩ := lawPiles_c xs a m hr0 hl0
      have hv' : v = .bool true := hv
      exact ⟨m', hv' ▸ hc⟩

theorem fnPilesHolds : Rows.FnPilesSaid :=
  OpenClaim.holds_of_wide 12 Try.f12 rfl rfl rfl rfl rfl rfl rfl ⟨rfl, rfl, rfl, rfl, rfl⟩ rfl rfl rfl rfl rfl (by kernel_rfl) Try.func12 (by kernel_rfl)
    (of_decide_eq_true (by kernel_rfl)) (by unfold Func.isWrapper; first | (rw [if_pos (by decide +kernel)]; kernel_rfl) | (rw [if_neg (by decide +kernel)]; exact ⟨rfl, rfl⟩))
    (fun os started H enc _ => fnPilesLifted os started H enc)
end Go.Proofs.Ytnipgigpjhalkaa
