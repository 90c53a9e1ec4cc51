/-
  'FnMarkets': the best markets bring no less than any one, a sale stays within the stock and the market, and the income is what was sold. Conditions: none.
-/
import Derived.Test.YtciekhcdkfhcoaaMkS
set_option linter.unusedSimpArgs false
set_option linter.unusedVariables false
set_option linter.unusedSectionVars false
namespace Go.Proofs.Ytciekhcdkfhcoaa
open Go.Abs Go.RowKit

def IsT (v : Value) (_ : Mem) : Prop := v = .bool true
theorem incV_eq (n : Int) (x : Mk) (ys : List Int) : incV n x ys = .tuple #[.int .i64 (if atC n x ys = 0 then incOf x ys else 0), .int .i64 (atC n x ys)] := rfl
set_option maxRecDepth 20000 in
set_option maxHeartbeats 6400000 in
theorem lawMarkets_c (code : List Int) (a : Option Addr) (m : Mem) (hr0 : RdB m a code) (hm0 : code.length ≤ maxLen) :
    ∃ v m', ACalls Try.prog 12 [.slice a code.length code.length] m v m' ∧ IsT v m' := by
  refine ecalls_of_vc Try.func12 rfl Try.fol (by kernel_rfl) ?_
  simp only [Try.f12]
  simp -dsimp -implicitDefEqProofs
  refine callsTo Try.cal41 (f6big_c a _ _) ?_
  simp -dsimp -implicitDefEqProofs
  by_cases hlong : (4096 : Int) < code.length
  · have h1 : decide ((4096 : Int) < code.length) = true := by simpa using hlong
    simp -dsimp -implicitDefEqProofs [h1]
    exact ⟨_, _, GC.refl _ _ _, rfl⟩
  have h1 : decide ((4096 : Int) < code.length) = false := by simp; omega
  simp -dsimp -implicitDefEqProofs [h1]
  have hrB : ∀ m', m <+: m' → RdB m' a code := fun m' hp => by
    obtain ⟨l, rfl⟩ := hp
    exact ⟨RdG.ext hr0.1 l, hr0.2⟩
  obtain ⟨v1, m1, hc1, n, xs, im, ys, iy, rfl, hx, hxl, hy, hp1, hX1, hY1⟩ := drawBestM_c a code m hr0 (by omega)
  refine callsTo Try.cal46 hc1 ?_
  simp -dsimp -implicitDefEqProofs [h1]
  have hxl' : ∀ x ∈ xs, x.2.2.1.length ≤ 1048576 ∧ x.2.2.2.length ≤ 1048576 := fun x hm => by have := hxl x hm; omega
  have e1 := implBestM_c n xs ys (some ⟨im, 0, none⟩) (some ⟨iy, 0, none⟩) m1 hX1 hY1 (by omega) hxl' (by omega)
  rw [optV_eq] at e1
  obtain ⟨us, hus⟩ : ∃ us, us = (bestM n xs ys).getD [] := ⟨_, rfl⟩
  rw [← hus] at e1
  refine callsTo Try.cal40 e1 ?_
  simp -dsimp -implicitDefEqProofs [h1]
  obtain ⟨m2, hm2⟩ : ∃ m2, m2 = m1 ++ optM 2 (bestM n xs ys) := ⟨_, rfl⟩
  rw [← hm2]
  have hp2 : m1 <+: m2 := by rw [hm2]; exact ⟨_, rfl⟩
  have hu2 : RdI m2 (optA m1.length (bestM n xs ys)) us := by rw [hm2, hus]; exact optRd _ _ _
  have e2 := specBestM_c n xs ys (some ⟨im, 0, none⟩) (some ⟨iy, 0, none⟩) m2 (hX1.pre hp2) (rdPre hY1 hp2) (by omega) hxl' (by omega)
  rw [optV_eq, ← hus] at e2
  obtain ⟨mC, hmC⟩ : ∃ mC, mC = m2 ++ optM 2 (bestM n xs ys) := ⟨_, rfl⟩
  rw [← hmC] at e2
  have hpC : m2 <+: mC := by rw [hmC]; exact ⟨_, rfl⟩
  have huC : RdI mC (optA m2.length (bestM n xs ys)) us := by rw [hmC, hus]; exact optRd _ _ _
  obtain ⟨v4, m4, hc4, q, x, ad, bd, ws, b, rfl, hx1, hx2, hw, hp4, hA4, hB4, hW4⟩ := drawSale_c a code mC (hrB _ (hp1.trans (hp2.trans hpC))) (by omega)
  simp only [mkRow4] at hc4
  refine callsTo Try.cal39 e2 ?_
  simp -dsimp -implicitDefEqProofs [h1]
  refine callsTo Try.cal47 hc4 ?_
  simp -dsimp -implicitDefEqProofs [h1]
  obtain ⟨m5, hm5⟩ : ∃ m5, m5 = m4 ++ [(⟨mkRow4 x ad bd, 35, 4, 1⟩ : AObj)] := ⟨_, rfl⟩
  have t5 : m5[m4.length]? = some ⟨mkRow4 x ad bd, 35, 4, 1⟩ := by rw [hm5]; simp
  have hm5' := hm5.symm
  have t5' := t5
  simp only [mkRow4] at t5' hm5'
  have hp45 : m4 <+: m5 := by rw [hm5]; exact ⟨_, rfl⟩
  have hA5 := rdPre hA4 hp45
  have hB5 := rdPre hB4 hp45
  have hW5 := rdPre hW4 hp45
  have hp5 : mC <+: m5 := hp4.trans hp45
  rw [hm5']
  have e3 := implSale_c q x ws ad bd b m5 hA5 hB5 hW5 hx1 hx2 hw
  rw [optV_eq] at e3
  obtain ⟨ss, hss⟩ : ∃ ss, ss = (saleO q x ws).getD [] := ⟨_, rfl⟩
  rw [← hss] at e3
  obtain ⟨m6, hm6⟩ : ∃ m6, m6 = m5 ++ optM 2 (saleO q x ws) := ⟨_, rfl⟩
  rw [← hm6] at e3
  have hp6 : m5 <+: m6 := by rw [hm6]; exact ⟨_, rfl⟩
  have hs6 : RdI m6 (optA m5.length (saleO q x ws)) ss := by rw [hm6, hss]; exact optRd _ _ _
  have e4 := specSale_c q x ws ad bd b m6 (rdPre hA5 hp6) (rdPre hB5 hp6) (rdPre hW5 hp6) hx1 hx2 hw
  rw [optV_eq, ← hss] at e4
  obtain ⟨m7, hm7⟩ : ∃ m7, m7 = m6 ++ optM 2 (saleO q x ws) := ⟨_, rfl⟩
  rw [← hm7] at e4
  have hp7 : m6 <+: m7 := by rw [hm7]; exact ⟨_, rfl⟩
  have hs7 : RdI m7 (optA m6.length (saleO q x ws)) ss := by rw [hm7, hss]; exact optRd _ _ _
  have hp57 := hp6.trans hp7
  have e5 := implInc_c q x ws ad bd b m7 (rdPre hA5 hp57) (rdPre hB5 hp57) (rdPre hW5 hp57) hx1 hx2 hw
  have e6 := specInc_c q x ws ad bd b m7 (rdPre hA5 hp57) (rdPre hB5 hp57) (rdPre hW5 hp57) hx1 hx2 hw
  rw [incV_eq] at e5 e6
  obtain ⟨inc, hinc⟩ : ∃ inc, inc = (if atC q x ws = 0 then incOf x ws else 0) := ⟨_, rfl⟩
  rw [← hinc] at e5 e6
  have hp17 : m1 <+: m7 := (hp2.trans (hpC.trans hp5)).trans hp57
  have e7 := implWorth_c n xs ys (some ⟨im, 0, none⟩) (some ⟨iy, 0, none⟩) m7 (hX1.pre hp17) (rdPre hY1 hp17) (by omega) hxl' (by omega)
  rw [optV_eq] at e7
  obtain ⟨gs, hgs⟩ : ∃ gs, gs = (worthO n xs ys).getD [] := ⟨_, rfl⟩
  rw [← hgs] at e7
  obtain ⟨m8, hm8⟩ : ∃ m8, m8 = m7 ++ optM 2 (worthO n xs ys) := ⟨_, rfl⟩
  rw [← hm8] at e7
  have hp8 : m7 <+: m8 := by rw [hm8]; exact ⟨_, rfl⟩
  have hg8 : RdI m8 (optA m7.length (worthO n xs ys)) gs := by rw [hm8, hgs]; exact optRd _ _ _
  have hp18 := hp17.trans hp8
  have e8 := specWorth_c n xs ys (some ⟨im, 0, none⟩) (some ⟨iy, 0, none⟩) m8 (hX1.pre hp18) (rdPre hY1 hp18) (by omega) hxl' (by omega)
  rw [optV_eq, ← hgs] at e8
  obtain ⟨m9, hm9⟩ : ∃ m9, m9 = m8 ++ optM 2 (worthO n xs ys) := ⟨_, rfl⟩
  rw [← hm9] at e8
  have hp9 : m8 <+: m9 := by rw [hm9]; exact ⟨_, rfl⟩
  have hG9 : RdI m9 (optA m8.length (worthO n xs ys)) gs := by rw [hm9, hgs]; exact optRd _ _ _
  have hp19 := hp18.trans hp9
  have hp59 := hp57.trans (hp8.trans hp9)
  have hp79 := hp8.trans hp9
  have hX9 := hX1.pre hp19
  have hY9 := rdPre hY1 hp19
  have hU9 := rdPre hu2 ((hpC.trans hp5).trans hp59)
  have hU9' := rdPre huC (hp5.trans hp59)
  have hS9 := rdPre hs6 (hp7.trans hp79)
  have hS9' := rdPre hs7 hp79
  have hG9' := rdPre hg8 hp9
  have t9 := prefix_get hp59 t5
  have hA9 := rdPre hA5 hp59
  have hB9 := rdPre hB5 hp59
  have hW9 := rdPre hW5 hp59
  have hul : us.length ≤ 1048576 := by rw [hus]; exact optLen fun t ht => bestM_length ht
  have hgl : gs.length ≤ 1048576 := by rw [hgs]; exact optLen fun t ht => worthO_length ht
  have hsl : ss.length ≤ 1048576 := by rw [hss]; exact optLen fun t ht => by unfold saleO at ht; split at ht <;> simp at ht; subst ht; rw [saleN_length]; exact hw
  have t6 := prefix_get hp6 t5'
  have t7 := prefix_get hp57 t5'
  simp only [mkRow4] at e3 e4 e5 e6 t9
  refine callsTo Try.cal26 e3 ?_
  simp -dsimp -implicitDefEqProofs [h1]
  simp -dsimp -implicitDefEqProofs [withO_of t6, withO_of t7, withO_of t9]
  refine callsTo Try.cal25 e4 ?_
  simp -dsimp -implicitDefEqProofs [withO_of t6, withO_of t7, withO_of t9]
  refine callsTo Try.cal22 e5 ?_
  simp -dsimp -implicitDefEqProofs [withO_of t6, withO_of t7, withO_of t9]
  refine callsTo Try.cal19 e6 ?_
  simp -dsimp -implicitDefEqProofs [withO_of t6, withO_of t7, withO_of t9]
  refine callsTo Try.cal34 e7 ?_
  simp -dsimp -implicitDefEqProofs [withO_of t6, withO_of t7, withO_of t9]
  refine callsTo Try.cal33 e8 ?_
  simp -dsimp -implicitDefEqProofs [withO_of t6, withO_of t7, withO_of t9]
  refine callsTo Try.cal45 (f6ints_c us _ _ m9 hU9 hU9' hul) ?_
  simp -dsimp -implicitDefEqProofs [withO_of t6, withO_of t7, withO_of t9]
  refine callsTo Try.cal45 (f6ints_c ss _ _ m9 hS9 hS9' hsl) ?_
  simp -dsimp -implicitDefEqProofs [withO_of t6, withO_of t7, withO_of t9]
  refine callsTo Try.cal45 (f6ints_c gs _ _ m9 hG9' hG9 hgl) ?_
  simp -dsimp -implicitDefEqProofs [withO_of t6, withO_of t7, withO_of t9]
  refine callsTo Try.cal16 (validMarkets_c n xs _ _ hX9 (by omega) hxl') ?_
  simp -dsimp -implicitDefEqProofs [withO_of t6, withO_of t7, withO_of t9]
  refine callsTo Try.cal14 (specValidMarkets_c n xs _ _ hX9 (by omega) hxl') ?_
  simp -dsimp -implicitDefEqProofs [withO_of t6, withO_of t7, withO_of t9]
  by_cases hA : atC q x ws = 0
  · obtain ⟨_, hmx, hcw, hl1, hl2, hl3⟩ := atC_zero hA
    have hss2 : ss = saleN x ws ws.length := by rw [hss]; simp [saleO, hA]
    have hsn : ss.length = ws.length := by rw [hss2, saleN_length]
    have hin2 : incTo x ss ss.length = inc := by rw [hinc, if_pos hA, hss2, saleN_length]; rfl
    simp -dsimp -implicitDefEqProofs [hA, withO_of t9]
    refine loopN ss.length (fun k σ m' => m' = m9 ∧ ((σ 3 = some (.int .i64 n) ∧ σ 4 = some (.slice (some ⟨im, 0, none⟩) xs.length xs.length) ∧ σ 5 = some (.slice (some ⟨iy, 0, none⟩) ys.length ys.length) ∧ σ 6 = some (.slice (optA m1.length (bestM n xs ys)) us.length us.length)) ∧ σ 8 = some (.int .i64 (codeM n xs ys)) ∧ σ 10 = some (.int .i64 (mostM n xs ys)) ∧ σ 25 = some (.slice (optA m8.length (worthO n xs ys)) gs.length gs.length)) ∧ (σ 13 = some (.pointer (some ⟨m4.length, 0, none⟩)) ∧ σ 14 = some (.slice b ws.length ws.length) ∧ σ 17 = some (.slice (optA m6.length (saleO q x ws)) ss.length ss.length) ∧ σ 21 = some (.int .i64 inc)) ∧ σ 27 = some (.int .i64 (incTo x ss k)) ∧ σ 28 = some (.int .i64 k)) ⟨rfl, by simp, by simp, by simp [incTo], by simp⟩ ?_
    rintro k σ m' hk ⟨hmm, ⟨⟨s3, s4, s5, s6⟩, s8, s10, s25⟩, ⟨s13, s14, s17, s21⟩, s27, s28⟩
    have hmm := hmm.symm
    subst hmm
    by_cases hlk : k < ss.length
    · have hwk : IntKind.i64.wrap ((k : Int) + 1) = k + 1 := wrapI (by omega) (by omega)
      have hkw : k < ws.length := by omega
      have hk1 : k < x.2.2.1.length := by omega
      have hk2 : k < x.2.2.2.length := by omega
      obtain ⟨lid, loff, lo, hla, hlm, hlk3, hls3, hlc⟩ := hS9'.at_ hlk
      obtain ⟨wid, woff, wo, hwa, hwm, hwk3, hws3, hwc⟩ := hW9.at_ hkw
      obtain ⟨sid, soff, so, hsa, hsm, hsk3, hss3, hsc⟩ := hA9.at_ hk1
      obtain ⟨pid, poff, po, hpa, hpm, hpk3, hps3, hpc⟩ := hB9.at_ hk2
      have hsv : ss[k] = saleAt x ws k := by simp [hss2, saleN]
      have hbd := sale_bound hA hkw hk1
      rw [← hsv] at hbd
      have n1 : ¬ ws[k] < ss[k] := by omega
      have n2 : ¬ x.2.2.1[k] < ss[k] := by omega
      have n3 : ¬ ss[k] < 0 := by omega
      have d1 : ss.getD k 0 = ss[k] := by simp [List.getD_eq_getElem?_getD, hlk]
      have d2 : x.2.2.2.getD k 0 = x.2.2.2[k] := by simp [List.getD_eq_getElem?_getD, hk2]
      have hstep : IntKind.i64.wrap (incTo x ss k + IntKind.i64.wrap (ss[k] * x.2.2.2[k])) = incTo x ss (k + 1) := by simp only [incTo, d1, d2, w64]
      simp -dsimp -implicitDefEqProofs [s3, s4, s5, s6, s8, s10, s25, s13, s14, s17, s21, s27, s28, hlk, hkw, hk1, hk2, hla, hwa, hsa, hpa, withO_of t9, withO_of hlm, hlk3, hls3, withC_of hlc, withO_of hwm, hwk3, hws3, withC_of hwc, withO_of hsm, hsk3, hss3, withC_of hsc, withO_of hpm, hpk3, hps3, withC_of hpc, hwk, n1, n2, n3, hstep]
      exact next_ hlk ⟨rfl, by simp [s3, s4, s5, s6, s8, s10, s25], by simp [s13, s14, s17, s21, hla, hwa], by simp [hstep], by simp [hwk]⟩
    · obtain rfl : k = ss.length := by omega
      simp -dsimp -implicitDefEqProofs [s3, s4, s5, s6, s8, s10, s25, s13, s14, s17, s21, s27, s28, hin2]
      by_cases hC : codeM n xs ys = 0
      · have hus2 : us = (bestS xs ys (2 ^ xs.length)).1 := by rw [hus]; simp [bestM, hC]
        have hgs2 : gs = worthL xs ys xs.length := by rw [hgs]; simp [worthO, hC]
        have hmost : mostM n xs ys = (bestS xs ys (2 ^ xs.length)).2 := by simp [mostM, hC]
        have hcS : codeS n xs ys us = 0 := by rw [hus2]; exact codeS_best hC _
        obtain ⟨_, hri, hgo⟩ := codeS_zero hcS
        have hcB : countsB ys n 1000 = true := by have := goTo_stock hC hgo.ix 0 (by omega); rwa [goTo_zero] at this
        simp -dsimp -implicitDefEqProofs [s3, s4, s5, s6, s8, s10, s25, hC]
        refine loopN xs.length (fun i σ m' => m' = m9 ∧ ((σ 3 = some (.int .i64 n) ∧ σ 4 = some (.slice (some ⟨im, 0, none⟩) xs.length xs.length) ∧ σ 5 = some (.slice (some ⟨iy, 0, none⟩) ys.length ys.length) ∧ σ 6 = some (.slice (optA m1.length (bestM n xs ys)) us.length us.length)) ∧ σ 8 = some (.int .i64 (codeM n xs ys)) ∧ σ 10 = some (.int .i64 (mostM n xs ys)) ∧ σ 25 = some (.slice (optA m8.length (worthO n xs ys)) gs.length gs.length)) ∧ σ 29 = some (.int .i64 i)) ⟨rfl, by simp [s3, s4, s5, s6, s8, s10, s25, hC], by simp⟩ ?_
        clear s3 s4 s5 s6 s8 s10 s25 s13 s14 s17 s21 s27 s28
        rintro i σ m' hi ⟨hmm, ⟨⟨s3, s4, s5, s6⟩, s8, s10, s25⟩, s29⟩
        have hmm := hmm.symm
        subst hmm
        by_cases hlt : i < xs.length
        · have hwi : IntKind.i64.wrap ((i : Int) + 1) = i + 1 := wrapI (by omega) (by omega)
          obtain ⟨mo, ad', bd', hmo, hmk2, hms, hl4, hrow, c0, c1, c2, c3, q1, q2⟩ := row0 hX9 hlt
          have hxw := hxl' _ (List.getElem_mem hlt)
          have hat := at_ok hC hlt hcB
          have hI := implInc_c n xs[i] ys ad' bd' (some ⟨iy, 0, none⟩) m9 q1 q2 hY9 hxw.1 hxw.2 (by omega)
          rw [incV_eq, hat, if_pos rfl] at hI
          simp only [mkRow4] at hI
          have hge := best_ge_one (ys := ys) hlt
          rw [← hmost] at hge
          have n4 : ¬ mostM n xs ys < incOf xs[i] ys := by omega
          have hf := f6has_c gs (optA m8.length (worthO n xs ys)) i m9 hG9 hgl
          rw [show decide ((i : Int) ∈ gs) = decide (0 < incOf xs[i] ys) from by rw [hgs2]; exact decide_eq_decide.2 (worthL_mem xs ys hlt)] at hf
          simp -dsimp -implicitDefEqProofs [s3, s4, s5, s6, s8, s10, s25, s29, hlt, withO_of hmo, hmk2, hms, hl4, hrow, mkRow4, hwi, n4]
          refine callsTo Try.cal22 hI ?_
          simp -dsimp -implicitDefEqProofs [s3, s4, s5, s6, s8, s10, s25, s29, hlt, withO_of hmo, hmk2, hms, hl4, hrow, mkRow4, hwi, n4]
          refine callsTo Try.cal48 hf ?_
          simp -dsimp -implicitDefEqProofs [s3, s4, s5, s6, s8, s10, s25, s29, hlt, withO_of hmo, hmk2, hms, hl4, hrow, mkRow4, hwi, n4]
          exact next_ hlt ⟨rfl, by simp [s3, s4, s5, s6, s8, s10, s25], by simp [hwi]⟩
        · obtain rfl : i = xs.length := by omega
          have hSt := implStock_c n xs ys us (some ⟨im, 0, none⟩) (some ⟨iy, 0, none⟩) (optA m1.length (bestM n xs ys)) m9 hX9 hY9 hU9 (by omega) hxl' (by omega) hul
          rw [optV_eq, hcS] at hSt
          obtain ⟨ls, hls⟩ : ∃ ls, ls = (stockO n xs ys us).getD [] := ⟨_, rfl⟩
          rw [← hls] at hSt
          obtain ⟨mL, hmL⟩ : ∃ mL, mL = m9 ++ optM 2 (stockO n xs ys us) := ⟨_, rfl⟩
          rw [← hmL] at hSt
          have hls2 : ls = (goTo xs ys us us.length).1 := by rw [hls]; simp [stockO, hcS]
          have hll : ls.length = ys.length := by rw [hls2]; exact goTo_length _ _ _ _
          have hlL : RdI mL (optA m9.length (stockO n xs ys us)) ls := by rw [hmL, hls]; exact optRd _ _ _
          have hyL : RdI mL (some ⟨iy, 0, none⟩) ys := rdPre hY9 (by rw [hmL]; exact ⟨_, rfl⟩)
          have n5 : ¬ mostM n xs ys < 0 := by rw [hmost]; have := bestS_nonneg xs ys (2 ^ xs.length); omega
          simp -dsimp -implicitDefEqProofs [s3, s4, s5, s6, s8, s10, s25, s29, hll, n5]
          refine callsTo Try.cal38 hSt ?_
          simp -dsimp -implicitDefEqProofs [s3, s4, s5, s6, s8, s10, s25, s29, hll, n5]
          refine loopN ys.length (fun k σ m' => m' = mL ∧ (σ 5 = some (.slice (some ⟨iy, 0, none⟩) ys.length ys.length) ∧ σ 32 = some (.slice (optA m9.length (stockO n xs ys us)) ys.length ys.length)) ∧ σ 34 = some (.int .i64 k)) ⟨rfl, by simp [s3, s4, s5, s6, s8, s10, s25, hll], by simp⟩ ?_
          clear s3 s4 s5 s6 s8 s10 s25 s29
          rintro k σ m' hk ⟨hmm, ⟨s5, s32⟩, s34⟩
          have hmm := hmm.symm
          subst hmm
          by_cases hlk : k < ys.length
          · have hwk : IntKind.i64.wrap ((k : Int) + 1) = k + 1 := wrapI (by omega) (by omega)
            have hkl : k < ls.length := by omega
            obtain ⟨lid, loff, lo, hla, hlm, hlk3, hls3, hlc⟩ := hlL.at_ hkl
            obtain ⟨eid, eoff, eo, hea, hem, hek, hes2, hec⟩ := hyL.at_ hlk
            injection hea with hea
            injection hea with he3 he4
            subst he3; subst he4
            simp only [Nat.zero_add] at hec
            have hg1 := goTo_le hC hgo.ix us.length (Nat.le_refl _) k hlk
            have hg2 := stock_ge (goTo_stock hC hgo.ix us.length (Nat.le_refl _)) (i := k) (by rw [goTo_length]; exact hlk)
            rw [← hls2] at hg1 hg2
            have d1 : ls.getD k 0 = ls[k] := by simp [List.getD_eq_getElem?_getD, hkl]
            have d2 : ys.getD k 0 = ys[k] := by simp [List.getD_eq_getElem?_getD, hlk]
            rw [d1] at hg1 hg2
            rw [d2] at hg1
            have n6 : ¬ ls[k] < 0 := by omega
            have n7 : ¬ ys[k] < ls[k] := by omega
            simp -dsimp -implicitDefEqProofs [s5, s32, s34, hlk, hla, withO_of hlm, hlk3, hls3, withC_of hlc, withO_of hem, hek, hes2, withC_of hec, hwk, n6, n7]
            exact next_ hlk ⟨rfl, by simp [s5, s32, hla], by simp [hwk]⟩
          · obtain rfl : k = ys.length := by omega
            simp -dsimp -implicitDefEqProofs [s5, s32, s34]
            exact ⟨_, _, GC.refl _ _ _, rfl⟩
      · have hC' : (codeM n xs ys != 0) = true := by simpa using hC
        simp -dsimp -implicitDefEqProofs [s3, s4, s5, s6, s8, s10, s25, hC']
        exact ⟨_, _, GC.refl _ _ _, rfl⟩
  · have hA' : (atC q x ws == 0) = false := beq_eq_false_iff_ne.2 hA
    simp -dsimp -implicitDefEqProofs [hA']
    by_cases hC : codeM n xs ys = 0
    · have hus2 : us = (bestS xs ys (2 ^ xs.length)).1 := by rw [hus]; simp [bestM, hC]
      have hgs2 : gs = worthL xs ys xs.length := by rw [hgs]; simp [worthO, hC]
      have hmost : mostM n xs ys = (bestS xs ys (2 ^ xs.length)).2 := by simp [mostM, hC]
      have hcS : codeS n xs ys us = 0 := by rw [hus2]; exact codeS_best hC _
      obtain ⟨_, hri, hgo⟩ := codeS_zero hcS
      have hcB : countsB ys n 1000 = true := by have := goTo_stock hC hgo.ix 0 (by omega); rwa [goTo_zero] at this
      simp -dsimp -implicitDefEqProofs [hC]
      refine loopN xs.length (fun i σ m' => m' = m9 ∧ ((σ 3 = some (.int .i64 n) ∧ σ 4 = some (.slice (some ⟨im, 0, none⟩) xs.length xs.length) ∧ σ 5 = some (.slice (some ⟨iy, 0, none⟩) ys.length ys.length) ∧ σ 6 = some (.slice (optA m1.length (bestM n xs ys)) us.length us.length)) ∧ σ 8 = some (.int .i64 (codeM n xs ys)) ∧ σ 10 = some (.int .i64 (mostM n xs ys)) ∧ σ 25 = some (.slice (optA m8.length (worthO n xs ys)) gs.length gs.length)) ∧ σ 29 = some (.int .i64 i)) ⟨rfl, by simp [hC], by simp⟩ ?_
      rintro i σ m' hi ⟨hmm, ⟨⟨s3, s4, s5, s6⟩, s8, s10, s25⟩, s29⟩
      have hmm := hmm.symm
      subst hmm
      by_cases hlt : i < xs.length
      · have hwi : IntKind.i64.wrap ((i : Int) + 1) = i + 1 := wrapI (by omega) (by omega)
        obtain ⟨mo, ad', bd', hmo, hmk2, hms, hl4, hrow, c0, c1, c2, c3, q1, q2⟩ := row0 hX9 hlt
        have hxw := hxl' _ (List.getElem_mem hlt)
        have hat := at_ok hC hlt hcB
        have hI := implInc_c n xs[i] ys ad' bd' (some ⟨iy, 0, none⟩) m9 q1 q2 hY9 hxw.1 hxw.2 (by omega)
        rw [incV_eq, hat, if_pos rfl] at hI
        simp only [mkRow4] at hI
        have hge := best_ge_one (ys := ys) hlt
        rw [← hmost] at hge
        have n4 : ¬ mostM n xs ys < incOf xs[i] ys := by omega
        have hf := f6has_c gs (optA m8.length (worthO n xs ys)) i m9 hG9 hgl
        rw [show decide ((i : Int) ∈ gs) = decide (0 < incOf xs[i] ys) from by rw [hgs2]; exact decide_eq_decide.2 (worthL_mem xs ys hlt)] at hf
        simp -dsimp -implicitDefEqProofs [s3, s4, s5, s6, s8, s10, s25, s29, hlt, withO_of hmo, hmk2, hms, hl4, hrow, mkRow4, hwi, n4]
        refine callsTo Try.cal22 hI ?_
        simp -dsimp -implicitDefEqProofs [s3, s4, s5, s6, s8, s10, s25, s29, hlt, withO_of hmo, hmk2, hms, hl4, hrow, mkRow4, hwi, n4]
        refine callsTo Try.cal48 hf ?_
        simp -dsimp -implicitDefEqProofs [s3, s4, s5, s6, s8, s10, s25, s29, hlt, withO_of hmo, hmk2, hms, hl4, hrow, mkRow4, hwi, n4]
        exact next_ hlt ⟨rfl, by simp [s3, s4, s5, s6, s8, s10, s25], by simp [hwi]⟩
      · obtain rfl : i = xs.length := by omega
        have hSt := implStock_c n xs ys us (some ⟨im, 0, none⟩) (some ⟨iy, 0, none⟩) (optA m1.length (bestM n xs ys)) m9 hX9 hY9 hU9 (by omega) hxl' (by omega) hul
        rw [optV_eq, hcS] at hSt
        obtain ⟨ls, hls⟩ : ∃ ls, ls = (stockO n xs ys us).getD [] := ⟨_, rfl⟩
        rw [← hls] at hSt
        obtain ⟨mL, hmL⟩ : ∃ mL, mL = m9 ++ optM 2 (stockO n xs ys us) := ⟨_, rfl⟩
        rw [← hmL] at hSt
        have hls2 : ls = (goTo xs ys us us.length).1 := by rw [hls]; simp [stockO, hcS]
        have hll : ls.length = ys.length := by rw [hls2]; exact goTo_length _ _ _ _
        have hlL : RdI mL (optA m9.length (stockO n xs ys us)) ls := by rw [hmL, hls]; exact optRd _ _ _
        have hyL : RdI mL (some ⟨iy, 0, none⟩) ys := rdPre hY9 (by rw [hmL]; exact ⟨_, rfl⟩)
        have n5 : ¬ mostM n xs ys < 0 := by rw [hmost]; have := bestS_nonneg xs ys (2 ^ xs.length); omega
        simp -dsimp -implicitDefEqProofs [s3, s4, s5, s6, s8, s10, s25, s29, hll, n5]
        refine callsTo Try.cal38 hSt ?_
        simp -dsimp -implicitDefEqProofs [s3, s4, s5, s6, s8, s10, s25, s29, hll, n5]
        refine loopN ys.length (fun k σ m' => m' = mL ∧ (σ 5 = some (.slice (some ⟨iy, 0, none⟩) ys.length ys.length) ∧ σ 32 = some (.slice (optA m9.length (stockO n xs ys us)) ys.length ys.length)) ∧ σ 34 = some (.int .i64 k)) ⟨rfl, by simp [s3, s4, s5, s6, s8, s10, s25, hll], by simp⟩ ?_
        clear s3 s4 s5 s6 s8 s10 s25 s29
        rintro k σ m' hk ⟨hmm, ⟨s5, s32⟩, s34⟩
        have hmm := hmm.symm
        subst hmm
        by_cases hlk : k < ys.length
        · have hwk : IntKind.i64.wrap ((k : Int) + 1) = k + 1 := wrapI (by omega) (by omega)
          have hkl : k < ls.length := by omega
          obtain ⟨lid, loff, lo, hla, hlm, hlk3, hls3, hlc⟩ := hlL.at_ hkl
          obtain ⟨eid, eoff, eo, hea, hem, hek, hes2, hec⟩ := hyL.at_ hlk
          injection hea with hea
          injection hea with he3 he4
          subst he3; subst he4
          simp only [Nat.zero_add] at hec
          have hg1 := goTo_le hC hgo.ix us.length (Nat.le_refl _) k hlk
          have hg2 := stock_ge (goTo_stock hC hgo.ix us.length (Nat.le_refl _)) (i := k) (by rw [goTo_length]; exact hlk)
          rw [← hls2] at hg1 hg2
          have d1 : ls.getD k 0 = ls[k] := by simp [List.getD_eq_getElem?_getD, hkl]
          have d2 : ys.getD k 0 = ys[k] := by simp [List.getD_eq_getElem?_getD, hlk]
          rw [d1] at hg1 hg2
          rw [d2] at hg1
          have n6 : ¬ ls[k] < 0 := by omega
          have n7 : ¬ ys[k] < ls[k] := by omega
          simp -dsimp -implicitDefEqProofs [s5, s32, s34, hlk, hla, withO_of hlm, hlk3, hls3, withC_of hlc, withO_of hem, hek, hes2, withC_of hec, hwk, n6, n7]
          exact next_ hlk ⟨rfl, by simp [s5, s32, hla], by simp [hwk]⟩
        · obtain rfl : k = ys.length := by omega
          simp -dsimp -implicitDefEqProofs [s5, s32, s34]
          exact ⟨_, _, GC.refl _ _ _, rfl⟩
    · have hC' : (codeM n xs ys != 0) = true := by simpa using hC
      simp -dsimp -implicitDefEqProofs [hC']
      exact ⟨_, _, GC.refl _ _ _, rfl⟩

set_option maxRecDepth 100000 in
theorem fnMarketsLifted (os : Os) (started : os.Started) (H : Type) (enc : TypeId × Value → H) :
    ReturnsInHanded {} Try.checked os 12 .any (Rows.fnMarketsSpec.pre6 enc Try.prog Try.f12 Rows.fnMarketsRow.domain false) (Rows.fnMarketsSpec.post enc Try.prog Try.f12 false true false false) :=
  lawLifted (C := Try.checked) [.one (.sl [.int .u8])] 3 4 (by kernel_rfl) started (by kernel_rfl) Try.func12
    (ChangeSpec.witness6 (enc := enc) (C := Try.checked) false ⟨#[], #[.slice none 0 0], []⟩ 8 (by kernel_rfl) (by kernel_rfl) (by kernel_rfl) (by kernel_rfl))
    (by kernel_rfl) (by kernel_rfl) (by kernel_rfl) rfl (by kernel_rfl) rfl (fun ds h => match ds, h with | [_], _ => rfl) fun m vs h => by
      obtain ⟨u0, rfl, hv0⟩ := h.one
      obtain ⟨a, xs, rfl, hl0, hr0⟩ := CV.slB hv0
      obtain ⟨v, m', hc, hv⟩ := lawMarkets_c xs a m hr0 hl0
      have hv' : v = .bool true := hv
      exact ⟨m', hv' ▸ hc⟩

theorem fnMarketsHolds : Rows.FnMarketsSaid :=
  OpenClaim.holds_of_wide 12 Try.f12 rfl rfl rfl rfl rfl rfl rfl ⟨rfl, rfl, rfl, rfl, rfl⟩ rfl rfl rfl rfl rfl (by kernel_rfl) Try.func12 (by kernel_rfl)
    (of_decide_eq_true (by kernel_rfl)) (by unfold Func.isWrapper; first | (rw [if_pos (by decide +kernel)]; kernel_rfl) | (rw [if_neg (by decide +kernel)]; exact ⟨rfl, rfl⟩))
    (fun os started H enc _ => fnMarketsLifted os started H enc)
end Go.Proofs.Ytciekhcdkfhcoaa
