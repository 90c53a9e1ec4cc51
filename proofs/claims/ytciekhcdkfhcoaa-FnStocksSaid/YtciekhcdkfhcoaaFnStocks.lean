/-
  'FnStocks': what is left after markets and what they sell is the stock, best prices are no less than others, and more baskets are made just for what would be sold. Conditions: none.
-/
import Derived.Test.YtciekhcdkfhcoaaMkQ
set_option linter.unusedSimpArgs false
set_option linter.unusedVariables false
set_option linter.unusedSectionVars false
namespace Go.Proofs.Ytciekhcdkfhcoaa
open Go.Abs Go.RowKit

def IsT (v : Value) (_ : Mem) : Prop := v = .bool true
set_option maxRecDepth 20000 in
set_option maxHeartbeats 6400000 in
theorem lawStocks_c (code : List Int) (a : Option Addr) (m : Mem) (hr0 : RdB m a code) (hm0 : code.length ≤ maxLen) :
    ∃ v m', ACalls Try.prog 11 [.slice a code.length code.length] m v m' ∧ IsT v m' := by
  refine ecalls_of_vc Try.func11 rfl Try.fol (by kernel_rfl) ?_
  simp only [Try.f11]
  simp -dsimp -implicitDefEqProofs
  refine callsTo Try.cal41 (f6big_c a _ _) ?_
  simp -dsimp -implicitDefEqProofs
  by_cases hlong : (4096 : Int) < code.length
  · have h1 : decide ((4096 : Int) < code.length) = true := by simpa using hlong
    simp -dsimp -implicitDefEqProofs [h1]
    exact ⟨_, _, GC.refl _ _ _, rfl⟩
  have h1 : decide ((4096 : Int) < code.length) = false := by simp; omega
  simp -dsimp -implicitDefEqProofs [h1]
  have hrB : ∀ m', m <+: m' → RdB m' a code := fun m' hp => by
    obtain ⟨l, rfl⟩ := hp
    exact ⟨RdG.ext hr0.1 l, hr0.2⟩
  obtain ⟨v1, m1, hc1, n, xs, im, ys, iy, zs, iz, rfl, hx, hxl, hy, hz, hp1, hX1, hY1, hZ1⟩ := drawStock_c a code m hr0 (by omega)
  refine callsTo Try.cal42 hc1 ?_
  simp -dsimp -implicitDefEqProofs [h1]
  have hxl' : ∀ x ∈ xs, x.2.2.1.length ≤ 1048576 ∧ x.2.2.2.length ≤ 1048576 := fun x hm => by have := hxl x hm; omega
  have e1 := implStock_c n xs ys zs (some ⟨im, 0, none⟩) (some ⟨iy, 0, none⟩) (some ⟨iz, 0, none⟩) m1 hX1 hY1 hZ1 (by omega) hxl' (by omega) (by omega)
  rw [optV_eq] at e1
  obtain ⟨us, hus⟩ : ∃ us, us = (stockO n xs ys zs).getD [] := ⟨_, rfl⟩
  rw [← hus] at e1
  refine callsTo Try.cal38 e1 ?_
  simp -dsimp -implicitDefEqProofs [h1]
  obtain ⟨m2, hm2⟩ : ∃ m2, m2 = m1 ++ optM 2 (stockO n xs ys zs) := ⟨_, rfl⟩
  rw [← hm2]
  have hp2 : m1 <+: m2 := by rw [hm2]; exact ⟨_, rfl⟩
  have hu2 : RdI m2 (optA m1.length (stockO n xs ys zs)) us := by rw [hm2, hus]; exact optRd _ _ _
  have e2 := specStock_c n xs ys zs (some ⟨im, 0, none⟩) (some ⟨iy, 0, none⟩) (some ⟨iz, 0, none⟩) m2 (hX1.pre hp2) (rdPre hY1 hp2) (rdPre hZ1 hp2) (by omega) hxl' (by omega) (by omega)
  rw [optV_eq, ← hus] at e2
  refine callsTo Try.cal37 e2 ?_
  simp -dsimp -implicitDefEqProofs [h1]
  obtain ⟨m3, hm3⟩ : ∃ m3, m3 = m2 ++ optM 2 (stockO n xs ys zs) := ⟨_, rfl⟩
  rw [← hm3]
  have hp3 : m2 <+: m3 := by rw [hm3]; exact ⟨_, rfl⟩
  have hu3 : RdI m3 (optA m2.length (stockO n xs ys zs)) us := by rw [hm3, hus]; exact optRd _ _ _
  obtain ⟨v4, m4, hc4, nb, bs, km, rfl, hb, hbl, hp4, hB4⟩ := drawBest_c a code m3 (hrB _ (hp1.trans (hp2.trans hp3))) (by omega)
  refine callsTo Try.cal43 hc4 ?_
  simp -dsimp -implicitDefEqProofs [h1]
  have hbl' : ∀ x ∈ bs, x.2.2.1.length ≤ 1048576 ∧ x.2.2.2.length ≤ 1048576 := fun x hm => by have := hbl x hm; omega
  have e3 := implBest_c nb bs (some ⟨km, 0, none⟩) m4 hB4 (by omega) hbl'
  rw [optV_eq] at e3
  obtain ⟨qs, hqs⟩ : ∃ qs, qs = (bestO nb bs).getD [] := ⟨_, rfl⟩
  rw [← hqs] at e3
  refine callsTo Try.cal31 e3 ?_
  simp -dsimp -implicitDefEqProofs [h1]
  obtain ⟨m5, hm5⟩ : ∃ m5, m5 = m4 ++ optM 2 (bestO nb bs) := ⟨_, rfl⟩
  rw [← hm5]
  have hp5 : m4 <+: m5 := by rw [hm5]; exact ⟨_, rfl⟩
  have hq5 : RdI m5 (optA m4.length (bestO nb bs)) qs := by rw [hm5, hqs]; exact optRd _ _ _
  have e4 := specBest_c nb bs (some ⟨km, 0, none⟩) m5 (hB4.pre hp5) (by omega) hbl'
  rw [optV_eq, ← hqs] at e4
  refine callsTo Try.cal30 e4 ?_
  simp -dsimp -implicitDefEqProofs [h1]
  obtain ⟨m6, hm6⟩ : ∃ m6, m6 = m5 ++ optM 2 (bestO nb bs) := ⟨_, rfl⟩
  rw [← hm6]
  have hp6 : m5 <+: m6 := by rw [hm6]; exact ⟨_, rfl⟩
  have hq6 : RdI m6 (optA m5.length (bestO nb bs)) qs := by rw [hm6, hqs]; exact optRd _ _ _
  obtain ⟨v7, m7, hc7, nd, ds, jm, es, jy, rfl, hd, hdl, he, hp7, hD7, hE7⟩ := drawMake_c a code m6 (hrB _ (hp1.trans (hp2.trans (hp3.trans (hp4.trans (hp5.trans hp6)))))) (by omega)
  refine callsTo Try.cal44 hc7 ?_
  simp -dsimp -implicitDefEqProofs [h1]
  have hdl' : ∀ x ∈ ds, x.2.2.1.length ≤ 1048576 ∧ x.2.2.2.length ≤ 1048576 := fun x hm => by have := hdl x hm; omega
  have e5 := implMake_c nd ds es (some ⟨jm, 0, none⟩) (some ⟨jy, 0, none⟩) m7 hD7 hE7 (by omega) hdl' (by omega)
  rw [optV_eq] at e5
  obtain ⟨ws, hws⟩ : ∃ ws, ws = (makeO nd ds es).getD [] := ⟨_, rfl⟩
  rw [← hws] at e5
  refine callsTo Try.cal36 e5 ?_
  simp -dsimp -implicitDefEqProofs [h1]
  obtain ⟨m8, hm8⟩ : ∃ m8, m8 = m7 ++ optM 2 (makeO nd ds es) := ⟨_, rfl⟩
  rw [← hm8]
  have hp8 : m7 <+: m8 := by rw [hm8]; exact ⟨_, rfl⟩
  have hw8 : RdI m8 (optA m7.length (makeO nd ds es)) ws := by rw [hm8, hws]; exact optRd _ _ _
  have e6 := specMake_c nd ds es (some ⟨jm, 0, none⟩) (some ⟨jy, 0, none⟩) m8 (hD7.pre hp8) (rdPre hE7 hp8) (by omega) hdl' (by omega)
  rw [optV_eq, ← hws] at e6
  have hul : us.length ≤ 1048576 := by rw [hus]; exact optLen fun t ht => by have := stockO_length ht; omega
  have hql : qs.length ≤ 1048576 := by rw [hqs]; exact optLen fun t ht => bestO_length ht
  have hwl : ws.length ≤ 1048576 := by rw [hws]; exact optLen fun t ht => makeO_length ht
  obtain ⟨m9, hm9⟩ : ∃ m9, m9 = m8 ++ optM 2 (makeO nd ds es) := ⟨_, rfl⟩
  rw [← hm9] at e6
  have hp9 : m8 <+: m9 := by rw [hm9]; exact ⟨_, rfl⟩
  have hw9 : RdI m9 (optA m8.length (makeO nd ds es)) ws := by rw [hm9, hws]; exact optRd _ _ _
  have hp79 := hp8.trans hp9
  have hp69 := hp7.trans hp79
  have hp59 := hp6.trans hp69
  have hp49 := hp5.trans hp59
  have hp39 := hp4.trans hp49
  have hp29 := hp3.trans hp39
  have hp19 := hp2.trans hp29
  refine callsTo Try.cal35 e6 ?_
  simp -dsimp -implicitDefEqProofs [h1]
  refine callsTo Try.cal45 (f6ints_c us _ _ m9 (rdPre hu2 hp29) (rdPre hu3 hp39) hul) ?_
  simp -dsimp -implicitDefEqProofs [h1]
  refine callsTo Try.cal45 (f6ints_c qs _ _ m9 (rdPre hq5 hp59) (rdPre hq6 hp69) hql) ?_
  simp -dsimp -implicitDefEqProofs [h1]
  refine callsTo Try.cal45 (f6ints_c ws _ _ m9 (rdPre hw8 hp9) hw9 hwl) ?_
  simp -dsimp -implicitDefEqProofs [h1]
  have hX9 := hX1.pre hp19
  have hY9 := rdPre hY1 hp19
  have hZ9 := rdPre hZ1 hp19
  have hU9 := rdPre hu3 hp39
  have hB9 := hB4.pre hp49
  have hQ9 := rdPre hq6 hp69
  have hD9 := hD7.pre hp79
  have hE9 := rdPre hE7 hp79
  refine sp2 (fun gA => ?_) (fun gA => ?_)
  · simp at gA
    obtain ⟨hbm, hbne⟩ : mksB nb bs = true ∧ bs.length ≠ 0 := by
      unfold bestC at gA
      split at gA
      · rename_i h
        split at gA
        · omega
        · rename_i h2; exact ⟨h, h2⟩
      · omega
    have hqs2 : qs = bestL nb.toNat bs := by rw [hqs]; simp only [bestO, hbm, if_true, if_neg hbne, Option.getD_some]
    have hqn : qs.length = nb.toNat := by rw [hqs2, bestL_length]
    obtain ⟨hbn1, hbn6, hb10⟩ := mksB_n hbm
    refine loopN qs.length (fun k σ m' => m' = m9 ∧ ((σ 3 = some (.int .i64 n) ∧ σ 4 = some (.slice (some ⟨im, 0, none⟩) xs.length xs.length) ∧ σ 5 = some (.slice (some ⟨iy, 0, none⟩) ys.length ys.length) ∧ σ 6 = some (.slice (some ⟨iz, 0, none⟩) zs.length zs.length)) ∧ σ 8 = some (.int .i64 (codeS n xs ys zs)) ∧ σ 9 = some (.slice (optA m2.length (stockO n xs ys zs)) us.length us.length)) ∧ (σ 18 = some (.slice (some ⟨jm, 0, none⟩) ds.length ds.length) ∧ σ 19 = some (.slice (some ⟨jy, 0, none⟩) es.length es.length) ∧ σ 21 = some (.int .i64 (codeM nd ds es)) ∧ σ 22 = some (.slice (optA m8.length (makeO nd ds es)) ws.length ws.length)) ∧ (σ 12 = some (.slice (some ⟨km, 0, none⟩) bs.length bs.length) ∧ σ 15 = some (.slice (optA m5.length (bestO nb bs)) qs.length qs.length)) ∧ σ 24 = some (.int .i64 k)) ⟨rfl, by simp, by simp, by simp, by simp⟩ ?_
    rintro k σ m' hk ⟨hmm, ⟨⟨s3, s4, s5, s6⟩, s8, s9⟩, ⟨s18, s19, s21, s22⟩, ⟨s12, s15⟩, s24⟩
    have hmm := hmm.symm
    subst hmm
    by_cases hlk : k < qs.length
    · have hwk : IntKind.i64.wrap ((k : Int) + 1) = k + 1 := wrapI (by omega) (by omega)
      obtain ⟨qid, qoff, qo, hqa, hqm, hqk, hqs3, hqc⟩ := hQ9.at_ hlk
      have hqv : qs[k] = (bestTo bs k bs.length : Int) := by simp [hqs2, bestL]
      rw [hqv] at hqc
      have hbt := bestTo_lt bs k bs.length (by omega)
      have hmax := bestTo_max bs k bs.length
      obtain ⟨mo, ad, bd, hmo, hmk2, hms, hl4, hrow, c0, c1, c2, c3, q1, q2⟩ := row0 hB9 hbt
      obtain ⟨ln1, ln2⟩ := mksB_len hbm hbt
      have hkb : k < bs[bestTo bs k bs.length].2.2.2.length := by omega
      obtain ⟨pid, poff, po, hpa, hpm, hpk, hps, hpc⟩ := q2.at_ hkb
      subst hpa
      simp -dsimp -implicitDefEqProofs [s3, s4, s5, s6, s8, s9, s18, s19, s21, s22, s12, s15, s24, hlk]
      refine loopN bs.length (fun i σ m' => m' = m9 ∧ ((σ 3 = some (.int .i64 n) ∧ σ 4 = some (.slice (some ⟨im, 0, none⟩) xs.length xs.length) ∧ σ 5 = some (.slice (some ⟨iy, 0, none⟩) ys.length ys.length) ∧ σ 6 = some (.slice (some ⟨iz, 0, none⟩) zs.length zs.length)) ∧ σ 8 = some (.int .i64 (codeS n xs ys zs)) ∧ σ 9 = some (.slice (optA m2.length (stockO n xs ys zs)) us.length us.length)) ∧ (σ 18 = some (.slice (some ⟨jm, 0, none⟩) ds.length ds.length) ∧ σ 19 = some (.slice (some ⟨jy, 0, none⟩) es.length es.length) ∧ σ 21 = some (.int .i64 (codeM nd ds es)) ∧ σ 22 = some (.slice (optA m8.length (makeO nd ds es)) ws.length ws.length)) ∧ (σ 12 = some (.slice (some ⟨km, 0, none⟩) bs.length bs.length) ∧ σ 15 = some (.slice (optA m5.length (bestO nb bs)) qs.length qs.length)) ∧ σ 24 = some (.int .i64 k) ∧ σ 25 = some (.int .i64 i)) ⟨rfl, by simp [s3, s4, s5, s6, s8, s9], by simp [s18, s19, s21, s22], by simp [s12, s15], by simp [s24], by simp⟩ ?_
      clear s3 s4 s5 s6 s8 s9 s18 s19 s21 s22 s12 s15 s24
      rintro i σ m' hi ⟨hmm, ⟨⟨s3, s4, s5, s6⟩, s8, s9⟩, ⟨s18, s19, s21, s22⟩, ⟨s12, s15⟩, s24, s25⟩
      have hmm := hmm.symm
      subst hmm
      by_cases hli : i < bs.length
      · have hwi : IntKind.i64.wrap ((i : Int) + 1) = i + 1 := wrapI (by omega) (by omega)
        obtain ⟨mo2, ad2, bd2, hmo2, _, _, _, _, d0, d1, d2, d3, r1, r2⟩ := row0 hB9 hli
        rw [hmo] at hmo2
        injection hmo2 with hmo2
        subst hmo2
        obtain ⟨ln3, ln4⟩ := mksB_len hbm hli
        have hki : k < bs[i].2.2.2.length := by omega
        obtain ⟨pid2, poff2, po2, hpa2, hpm2, hpk2, hps2, hpc2⟩ := r2.at_ hki
        subst hpa2
        have hle := hmax i hli
        rw [priceAt_eq hli hki, priceAt_eq hbt hkb] at hle
        have n1 : ¬ bs[bestTo bs k bs.length].2.2.2[k] < bs[i].2.2.2[k] := by omega
        simp -dsimp -implicitDefEqProofs [s3, s4, s5, s6, s8, s9, s18, s19, s21, s22, s12, s15, s24, s25, hlk, hli, withO_of hmo, hmk2, hms, withC_of c3, withC_of d3, hki, hkb, withO_of hpm, hpk, hps, withC_of hpc, withO_of hpm2, hpk2, hps2, withC_of hpc2, hqa, withO_of hqm, hqk, hqs3, withC_of hqc, hbt, hwi, n1]
        exact next_ hli ⟨rfl, by simp [s3, s4, s5, s6, s8, s9], by simp [s18, s19, s21, s22], by simp [s12, s15, hqa], by simp [s24], by simp [hwi]⟩
      · obtain rfl : i = bs.length := by omega
        simp -dsimp -implicitDefEqProofs [s3, s4, s5, s6, s8, s9, s18, s19, s21, s22, s12, s15, s24, s25, hwk]
        exact next_ hlk ⟨rfl, by simp [s3, s4, s5, s6, s8, s9], by simp [s18, s19, s21, s22], by simp [s12, s15], by simp [hwk]⟩
    · obtain rfl : k = qs.length := by omega
      simp -dsimp -implicitDefEqProofs [s3, s4, s5, s6, s8, s9, s18, s19, s21, s22, s12, s15, s24]
      refine sp2 (fun gB => ?_) (fun gB => ?_)
      · simp at gB
        obtain ⟨hdm, hdy⟩ := codeM_zero gB
        obtain ⟨hn1, hn6, hd10⟩ := mksB_n hdm
        have hws2 : ws = makeL nd.toNat ds es := by rw [hws]; simp [makeO, gB]
        have hwn : ws.length = nd.toNat := by rw [hws2, makeL_length]
        refine loopN ws.length (fun k σ m' => m' = m9 ∧ ((σ 3 = some (.int .i64 n) ∧ σ 4 = some (.slice (some ⟨im, 0, none⟩) xs.length xs.length) ∧ σ 5 = some (.slice (some ⟨iy, 0, none⟩) ys.length ys.length) ∧ σ 6 = some (.slice (some ⟨iz, 0, none⟩) zs.length zs.length)) ∧ σ 8 = some (.int .i64 (codeS n xs ys zs)) ∧ σ 9 = some (.slice (optA m2.length (stockO n xs ys zs)) us.length us.length)) ∧ (σ 18 = some (.slice (some ⟨jm, 0, none⟩) ds.length ds.length) ∧ σ 19 = some (.slice (some ⟨jy, 0, none⟩) es.length es.length) ∧ σ 21 = some (.int .i64 (codeM nd ds es)) ∧ σ 22 = some (.slice (optA m8.length (makeO nd ds es)) ws.length ws.length)) ∧ σ 26 = some (.int .i64 k)) ⟨rfl, by simp [s3, s4, s5, s6, s8, s9, s18, s19, s21, s22], by simp [s3, s4, s5, s6, s8, s9, s18, s19, s21, s22], by simp⟩ ?_
        clear s3 s4 s5 s6 s8 s9 s18 s19 s21 s22 s12 s15 s24
        rintro k σ m' hk ⟨hmm, ⟨⟨s3, s4, s5, s6⟩, s8, s9⟩, ⟨s18, s19, s21, s22⟩, s26⟩
        have hmm := hmm.symm
        subst hmm
        by_cases hlk : k < ws.length
        · have hwk : IntKind.i64.wrap ((k : Int) + 1) = k + 1 := wrapI (by omega) (by omega)
          have hke : k < es.length := by omega
          simp -dsimp -implicitDefEqProofs [s3, s4, s5, s6, s8, s9, s18, s19, s21, s22, s26, hlk]
          refine loopN ds.length (fun i σ m' => m' = m9 ∧ ((σ 3 = some (.int .i64 n) ∧ σ 4 = some (.slice (some ⟨im, 0, none⟩) xs.length xs.length) ∧ σ 5 = some (.slice (some ⟨iy, 0, none⟩) ys.length ys.length) ∧ σ 6 = some (.slice (some ⟨iz, 0, none⟩) zs.length zs.length)) ∧ σ 8 = some (.int .i64 (codeS n xs ys zs)) ∧ σ 9 = some (.slice (optA m2.length (stockO n xs ys zs)) us.length us.length)) ∧ (σ 18 = some (.slice (some ⟨jm, 0, none⟩) ds.length ds.length) ∧ σ 19 = some (.slice (some ⟨jy, 0, none⟩) es.length es.length) ∧ σ 21 = some (.int .i64 (codeM nd ds es)) ∧ σ 22 = some (.slice (optA m8.length (makeO nd ds es)) ws.length ws.length)) ∧ σ 26 = some (.int .i64 k) ∧ σ 27 = some (.int .i64 (soldTo ds k i)) ∧ σ 28 = some (.int .i64 i)) ⟨rfl, by simp [s3, s4, s5, s6, s8, s9], by simp [s18, s19, s21, s22], by simp [s26], by simp [soldTo], by simp⟩ ?_
          clear s3 s4 s5 s6 s8 s9 s18 s19 s21 s22 s26
          rintro i σ m' hi ⟨hmm, ⟨⟨s3, s4, s5, s6⟩, s8, s9⟩, ⟨s18, s19, s21, s22⟩, s26, s27, s28⟩
          have hmm := hmm.symm
          subst hmm
          by_cases hli : i < ds.length
          · have hwi : IntKind.i64.wrap ((i : Int) + 1) = i + 1 := wrapI (by omega) (by omega)
            obtain ⟨mo, ad, bd, hmo, hmk2, hms, hl4, hrow, c0, c1, c2, c3, q1, q2⟩ := row0 hD9 hli
            obtain ⟨ln1, ln2⟩ := mksB_len hdm hli
            have hkd2 : k < ds[i].2.2.1.length := by omega
            obtain ⟨sid, soff, so, rfl, hsm, hsk, hss, hsc⟩ := q1.at_ hkd2
            have hsum : IntKind.i64.wrap (soldTo ds k i + ds[i].2.2.1[k]) = soldTo ds k (i + 1) := by rw [soldTo_succ, sellsAt_eq hli hkd2]
            simp -dsimp -implicitDefEqProofs [s3, s4, s5, s6, s8, s9, s18, s19, s21, s22, s26, s27, s28, hli, withO_of hmo, hmk2, hms, withC_of c2, hkd2, withO_of hsm, hsk, hss, withC_of hsc, hwi, hsum]
            exact next_ hli ⟨rfl, by simp [s3, s4, s5, s6, s8, s9], by simp [s18, s19, s21, s22], by simp [s26], by simp [hsum], by simp [hwi]⟩
          · obtain rfl : i = ds.length := by omega
            obtain ⟨wid, woff, wo, hwa, hwm, hwk3, hws3, hwc⟩ := hw9.at_ hlk
            obtain ⟨eid, eoff, eo, hea, hem, hek, hes2, hec⟩ := hE9.at_ hke
            injection hea with hea
            injection hea with he3 he4
            subst he3; subst he4
            simp only [Nat.zero_add] at hec
            have hwv : ws[k] = makeAt ds es k := by simp [hws2, makeL]
            have hmk3 : max 0 (IntKind.i64.wrap (soldTo ds k ds.length - es[k])) = ws[k] := by rw [hwv]; unfold makeAt; rw [getI hke]
            simp -dsimp -implicitDefEqProofs [s3, s4, s5, s6, s8, s9, s18, s19, s21, s22, s26, s27, s28, hlk, hke, hwa, withO_of hwm, hwk3, hws3, withC_of hwc, withO_of hem, hek, hes2, withC_of hec, hwk, hmk3]
            exact next_ hlk ⟨rfl, by simp [s3, s4, s5, s6, s8, s9], by simp [s18, s19, s21, s22, hwa], by simp [hwk]⟩
        · obtain rfl : k = ws.length := by omega
          simp -dsimp -implicitDefEqProofs [s3, s4, s5, s6, s8, s9, s18, s19, s21, s22, s26]
          by_cases hC : codeS n xs ys zs = 0
          · obtain ⟨hcm, hri, hgo⟩ := codeS_zero hC
            have hus2 : us = (goTo xs ys zs zs.length).1 := by rw [hus]; simp [stockO, hC]
            simp -dsimp -implicitDefEqProofs [s3, s4, s5, s6, s8, s9, hC]
            refine appTo_grow (e := 2) (sz := 1) (by_ := 8) (z := .int .i64 0) (by kernel_rfl) (by kernel_rfl) ⟨by decide, rfl⟩ (o := ⟨[], 2, 1, 1⟩) (by simp) (by simp) ⟨rfl, rfl⟩ rfl (by omega) (Src.rdI (hY9.ext _)) ?_
            intro mB idB hgB
            have hpB : m9 <+: mB := hgB.pre m9 ⟨_, rfl⟩ (Nat.le_refl _)
            simp -dsimp -implicitDefEqProofs [s3, s4, s5, s6, s8, s9, hC]
            refine loopN zs.length (fun i σ m' => (m9 <+: m' ∧ m'[idB]? = some ⟨(goTo xs ys zs i).1.map (Value.int .i64), 2, 1, 2⟩) ∧ ((σ 3 = some (.int .i64 n) ∧ σ 4 = some (.slice (some ⟨im, 0, none⟩) xs.length xs.length) ∧ σ 6 = some (.slice (some ⟨iz, 0, none⟩) zs.length zs.length)) ∧ σ 9 = some (.slice (optA m2.length (stockO n xs ys zs)) us.length us.length) ∧ σ 29 = some (.slice (some ⟨idB, 0, none⟩) ys.length ys.length)) ∧ σ 30 = some (.int .i64 i))
              ⟨⟨hpB, by rw [goTo_zero]; simpa using hgB.new⟩, by simp [s3, s4, s5, s6, s8, s9, hC], by simp⟩ ?_
            clear s3 s4 s5 s6 s8 s9 s18 s19 s21 s22 s26
            rintro i σ m' hi ⟨⟨hp', hnow⟩, ⟨⟨s3, s4, s6⟩, s9, s29⟩, s30⟩
            have hidB : m9.length ≤ idB := by rw [hgB.at_]; simp
            by_cases hlt : i < zs.length
            · have hL := goTo_length xs ys zs i
              obtain ⟨hz0, hz1⟩ := hgo.ix _ (List.getElem_mem hlt)
              obtain ⟨w, hw⟩ : ∃ w : Nat, zs[i] = w := ⟨zs[i].toNat, by omega⟩
              have hwl2 : w < xs.length := by omega
              obtain ⟨zid, zoff, zo, hza, hzm, hzk, hzs, hzc⟩ := (rdPre hZ9 hp').at_ hlt
              injection hza with hza
              injection hza with hz3 hz4
              subst hz3; subst hz4
              rw [hw] at hzc
              simp only [Nat.zero_add] at hzc
              obtain ⟨mo, ad, bd, hmo, hmk2, hms, hl4, hrow, c0, c1, c2, c3, q1, q2⟩ := row0 (hX9.pre hp') hwl2
              obtain ⟨nw, hnw⟩ : ∃ nw, nw = (goTo xs ys zs i).1 := ⟨_, rfl⟩
              have hst := goTo_stock hcm hgo.ix i (by omega)
              have hat := at_ok hcm hwl2 hst
              have hlb := (left_bound (mksB_at (codeM_zero hcm).1 hwl2) hst).2
              have hstep : (goTo xs ys zs (i + 1)).1 = leftN xs[w] (goTo xs ys zs i).1 ys.length := by
                rw [goTo_succ xs ys zs hlt, hw]
                simp only [goStep, Int.toNat_natCast, getM hwl2, hL]
              rw [← hnw] at hnow hL hat hlb hstep
              have hxw := hxl' _ (List.getElem_mem hwl2)
              have hsal := implSale_c n xs[w] nw ad bd (some ⟨idB, 0, none⟩) m' q1 q2 (RdI.of_get hnow (by simp) rfl rfl) hxw.1 hxw.2 (by omega)
              rw [hat, show saleO n xs[w] nw = some (saleN xs[w] nw nw.length) by simp [saleO, hat]] at hsal
              simp only [optV, optM, saleN_length, mkRow4, hL] at hsal
              have hwi : IntKind.i64.wrap ((i : Int) + 1) = i + 1 := wrapI (by omega) (by omega)
              simp -dsimp -implicitDefEqProofs [s3, s4, s6, s9, s29, s30, hlt, withO_of hzm, hzk, hzs, withC_of hzc, hwl2, withO_of hmo, hmk2, hms, hl4, hrow, mkRow4, hwi]
              refine callsTo Try.cal26 hsal ?_
              simp -dsimp -implicitDefEqProofs [s3, s4, s6, s9, s29, s30, hlt, withO_of hzm, hzk, hzs, withC_of hzc, hwl2, withO_of hmo, hmk2, hms, hl4, hrow, mkRow4, hwi]
              obtain ⟨mS, hmS⟩ : ∃ mS, mS = m' ++ [(⟨(saleN xs[w] nw ys.length).map (Value.int .i64), 2, 1, 2⟩ : AObj)] := ⟨_, rfl⟩
              rw [← hmS]
              have hpS : m9 <+: mS := by rw [hmS]; exact pre_app hp' _
              have hsaS : mS[m'.length]? = some ⟨(saleN xs[w] nw ys.length).map (Value.int .i64), 2, 1, 2⟩ := by rw [hmS]; simp
              have hnoS : mS[idB]? = some ⟨nw.map (Value.int .i64), 2, 1, 2⟩ := by rw [hmS]; exact get_old hnow
              have hidl := lt_of_get hnow
              refine loopN ys.length (fun k σ m'' => (RestS [idB] mS m'' ∧ m''[idB]? = some ⟨(mixL xs[w] nw k).map (Value.int .i64), 2, 1, 2⟩) ∧ ((σ 3 = some (.int .i64 n) ∧ σ 4 = some (.slice (some ⟨im, 0, none⟩) xs.length xs.length) ∧ σ 6 = some (.slice (some ⟨iz, 0, none⟩) zs.length zs.length)) ∧ σ 9 = some (.slice (optA m2.length (stockO n xs ys zs)) us.length us.length) ∧ σ 29 = some (.slice (some ⟨idB, 0, none⟩) ys.length ys.length)) ∧ σ 30 = some (.int .i64 i) ∧ σ 31 = some (.slice (some ⟨m'.length, 0, none⟩) ys.length ys.length) ∧ σ 33 = some (.int .i64 k))
                ⟨⟨RestS.refl _ _, by rw [mixL_zero]; exact hnoS⟩, by simp [s3, s4, s6, s9, s29], by simp [s30], by simp, by simp⟩ ?_
              clear s3 s4 s6 s9 s29 s30
              rintro k σ m'' hk ⟨⟨hrS, hmx⟩, ⟨⟨s3, s4, s6⟩, s9, s29⟩, s30, s31, s33⟩
              by_cases hlk : k < ys.length
              · have hwk : IntKind.i64.wrap ((k : Int) + 1) = k + 1 := wrapI (by omega) (by omega)
                have hkn : k < nw.length := by omega
                have hsa2 := hrS.get _ _ (show m'.length ∉ [idB] by simp; omega) hsaS
                have hsc : ((saleN xs[w] nw ys.length).map (Value.int .i64))[k]? = some (.int .i64 (saleAt xs[w] nw k)) := by simp [saleN, hlk]
                have hmc := mixL_get xs[w] nw hkn
                have hml := mixL_length xs[w] nw (k := k) (by omega)
                have hleft : IntKind.i64.wrap (nw[k] - saleAt xs[w] nw k) = leftAt xs[w] nw k := by unfold leftAt; rw [getI hkn]
                have hsl : ((saleN xs[w] nw ys.length).map (Value.int .i64)).length = ys.length := by simp [saleN_length]
                have hml2 : ((mixL xs[w] nw k).map (Value.int .i64)).length = ys.length := by rw [List.length_map, hml, hL]
                simp -dsimp -implicitDefEqProofs [s3, s4, s6, s9, s29, s30, s31, s33, hlk, withO_of hsa2, withC_of hsc, withO_of hmx, withC_of hmc, hwk, hleft]
                refine need_intro (by omega) (need_intro (.inr (by kernel_rfl)) ?_)
                refine next_ hlk ⟨⟨hrS.trans (RestS.set _ (by simp) _), by rw [mixL_set xs[w] nw hkn]; exact get_set hmx _⟩, by simp [s3, s4, s6, s9, s29], by simp [s30], by simp [s31], by simp [hwk]⟩
              · obtain rfl : k = ys.length := by omega
                have hmx2 := hmx
                rw [show ys.length = nw.length from hL.symm, mixL_all, hL, ← hstep] at hmx2
                simp -dsimp -implicitDefEqProofs [s3, s4, s6, s9, s29, s30, s31, s33, hwi]
                exact next_ hlt ⟨⟨hrS.base hpS (by intro j hj; simp at hj; omega), hmx2⟩, by simp [s3, s4, s6, s9, s29], by simp [hwi]⟩
            · obtain rfl : i = zs.length := by omega
              rw [← hus2] at hnow
              have hul2 : us.length = ys.length := by rw [hus2]; exact goTo_length _ _ _ _
              have hfi := f6ints_c us (some ⟨idB, 0, none⟩) (optA m2.length (stockO n xs ys zs)) m' (RdI.of_get hnow (by simp) rfl rfl) (rdPre hU9 hp') hul
              rw [hul2] at hfi
              simp -dsimp -implicitDefEqProofs [s3, s4, s6, s9, s29, s30, hul2]
              refine callsTo Try.cal45 hfi ?_
              simp -dsimp -implicitDefEqProofs [s3, s4, s6, s9, s29, s30, hul2]
              exact ⟨_, _, GC.refl _ _ _, rfl⟩
          · have hC' : (codeS n xs ys zs != 0) = true := by simpa using hC
            simp -dsimp -implicitDefEqProofs [s3, s4, s5, s6, s8, s9, hC']
            exact ⟨_, _, GC.refl _ _ _, rfl⟩
      · simp at gB
        by_cases hC : codeS n xs ys zs = 0
        · obtain ⟨hcm, hri, hgo⟩ := codeS_zero hC
          have hus2 : us = (goTo xs ys zs zs.length).1 := by rw [hus]; simp [stockO, hC]
          simp -dsimp -implicitDefEqProofs [s3, s4, s5, s6, s8, s9, s18, s19, s21, s22, hC]
          refine appTo_grow (e := 2) (sz := 1) (by_ := 8) (z := .int .i64 0) (by kernel_rfl) (by kernel_rfl) ⟨by decide, rfl⟩ (o := ⟨[], 2, 1, 1⟩) (by simp) (by simp) ⟨rfl, rfl⟩ rfl (by omega) (Src.rdI (hY9.ext _)) ?_
          intro mB idB hgB
          have hpB : m9 <+: mB := hgB.pre m9 ⟨_, rfl⟩ (Nat.le_refl _)
          simp -dsimp -implicitDefEqProofs [s3, s4, s5, s6, s8, s9, s18, s19, s21, s22, hC]
          refine loopN zs.length (fun i σ m' => (m9 <+: m' ∧ m'[idB]? = some ⟨(goTo xs ys zs i).1.map (Value.int .i64), 2, 1, 2⟩) ∧ ((σ 3 = some (.int .i64 n) ∧ σ 4 = some (.slice (some ⟨im, 0, none⟩) xs.length xs.length) ∧ σ 6 = some (.slice (some ⟨iz, 0, none⟩) zs.length zs.length)) ∧ σ 9 = some (.slice (optA m2.length (stockO n xs ys zs)) us.length us.length) ∧ σ 29 = some (.slice (some ⟨idB, 0, none⟩) ys.length ys.length)) ∧ σ 30 = some (.int .i64 i))
            ⟨⟨hpB, by rw [goTo_zero]; simpa using hgB.new⟩, by simp [s3, s4, s5, s6, s8, s9, s18, s19, s21, s22, hC], by simp⟩ ?_
          clear s3 s4 s5 s6 s8 s9 s18 s19 s21 s22 s12 s15 s24
          rintro i σ m' hi ⟨⟨hp', hnow⟩, ⟨⟨s3, s4, s6⟩, s9, s29⟩, s30⟩
          have hidB : m9.length ≤ idB := by rw [hgB.at_]; simp
          by_cases hlt : i < zs.length
          · have hL := goTo_length xs ys zs i
            obtain ⟨hz0, hz1⟩ := hgo.ix _ (List.getElem_mem hlt)
            obtain ⟨w, hw⟩ : ∃ w : Nat, zs[i] = w := ⟨zs[i].toNat, by omega⟩
            have hwl2 : w < xs.length := by omega
            obtain ⟨zid, zoff, zo, hza, hzm, hzk, hzs, hzc⟩ := (rdPre hZ9 hp').at_ hlt
            injection hza with hza
            injection hza with hz3 hz4
            subst hz3; subst hz4
            rw [hw] at hzc
            simp only [Nat.zero_add] at hzc
            obtain ⟨mo, ad, bd, hmo, hmk2, hms, hl4, hrow, c0, c1, c2, c3, q1, q2⟩ := row0 (hX9.pre hp') hwl2
            obtain ⟨nw, hnw⟩ : ∃ nw, nw = (goTo xs ys zs i).1 := ⟨_, rfl⟩
            have hst := goTo_stock hcm hgo.ix i (by omega)
            have hat := at_ok hcm hwl2 hst
            have hlb := (left_bound (mksB_at (codeM_zero hcm).1 hwl2) hst).2
            have hstep : (goTo xs ys zs (i + 1)).1 = leftN xs[w] (goTo xs ys zs i).1 ys.length := by
              rw [goTo_succ xs ys zs hlt, hw]
              simp only [goStep, Int.toNat_natCast, getM hwl2, hL]
            rw [← hnw] at hnow hL hat hlb hstep
            have hxw := hxl' _ (List.getElem_mem hwl2)
            have hsal := implSale_c n xs[w] nw ad bd (some ⟨idB, 0, none⟩) m' q1 q2 (RdI.of_get hnow (by simp) rfl rfl) hxw.1 hxw.2 (by omega)
            rw [hat, show saleO n xs[w] nw = some (saleN xs[w] nw nw.length) by simp [saleO, hat]] at hsal
            simp only [optV, optM, saleN_length, mkRow4, hL] at hsal
            have hwi : IntKind.i64.wrap ((i : Int) + 1) = i + 1 := wrapI (by omega) (by omega)
            simp -dsimp -implicitDefEqProofs [s3, s4, s6, s9, s29, s30, hlt, withO_of hzm, hzk, hzs, withC_of hzc, hwl2, withO_of hmo, hmk2, hms, hl4, hrow, mkRow4, hwi]
            refine callsTo Try.cal26 hsal ?_
            simp -dsimp -implicitDefEqProofs [s3, s4, s6, s9, s29, s30, hlt, withO_of hzm, hzk, hzs, withC_of hzc, hwl2, withO_of hmo, hmk2, hms, hl4, hrow, mkRow4, hwi]
            obtain ⟨mS, hmS⟩ : ∃ mS, mS = m' ++ [(⟨(saleN xs[w] nw ys.length).map (Value.int .i64), 2, 1, 2⟩ : AObj)] := ⟨_, rfl⟩
            rw [← hmS]
            have hpS : m9 <+: mS := by rw [hmS]; exact pre_app hp' _
            have hsaS : mS[m'.length]? = some ⟨(saleN xs[w] nw ys.length).map (Value.int .i64), 2, 1, 2⟩ := by rw [hmS]; simp
            have hnoS : mS[idB]? = some ⟨nw.map (Value.int .i64), 2, 1, 2⟩ := by rw [hmS]; exact get_old hnow
            have hidl := lt_of_get hnow
            refine loopN ys.length (fun k σ m'' => (RestS [idB] mS m'' ∧ m''[idB]? = some ⟨(mixL xs[w] nw k).map (Value.int .i64), 2, 1, 2⟩) ∧ ((σ 3 = some (.int .i64 n) ∧ σ 4 = some (.slice (some ⟨im, 0, none⟩) xs.length xs.length) ∧ σ 6 = some (.slice (some ⟨iz, 0, none⟩) zs.length zs.length)) ∧ σ 9 = some (.slice (optA m2.length (stockO n xs ys zs)) us.length us.length) ∧ σ 29 = some (.slice (some ⟨idB, 0, none⟩) ys.length ys.length)) ∧ σ 30 = some (.int .i64 i) ∧ σ 31 = some (.slice (some ⟨m'.length, 0, none⟩) ys.length ys.length) ∧ σ 33 = some (.int .i64 k))
              ⟨⟨RestS.refl _ _, by rw [mixL_zero]; exact hnoS⟩, by simp [s3, s4, s6, s9, s29], by simp [s30], by simp, by simp⟩ ?_
            clear s3 s4 s6 s9 s29 s30
            rintro k σ m'' hk ⟨⟨hrS, hmx⟩, ⟨⟨s3, s4, s6⟩, s9, s29⟩, s30, s31, s33⟩
            by_cases hlk : k < ys.length
            · have hwk : IntKind.i64.wrap ((k : Int) + 1) = k + 1 := wrapI (by omega) (by omega)
              have hkn : k < nw.length := by omega
              have hsa2 := hrS.get _ _ (show m'.length ∉ [idB] by simp; omega) hsaS
              have hsc : ((saleN xs[w] nw ys.length).map (Value.int .i64))[k]? = some (.int .i64 (saleAt xs[w] nw k)) := by simp [saleN, hlk]
              have hmc := mixL_get xs[w] nw hkn
              have hml := mixL_length xs[w] nw (k := k) (by omega)
              have hleft : IntKind.i64.wrap (nw[k] - saleAt xs[w] nw k) = leftAt xs[w] nw k := by unfold leftAt; rw [getI hkn]
              have hsl : ((saleN xs[w] nw ys.length).map (Value.int .i64)).length = ys.length := by simp [saleN_length]
              have hml2 : ((mixL xs[w] nw k).map (Value.int .i64)).length = ys.length := by rw [List.length_map, hml, hL]
              simp -dsimp -implicitDefEqProofs [s3, s4, s6, s9, s29, s30, s31, s33, hlk, withO_of hsa2, withC_of hsc, withO_of hmx, withC_of hmc, hwk, hleft]
              refine need_intro (by omega) (need_intro (.inr (by kernel_rfl)) ?_)
              refine next_ hlk ⟨⟨hrS.trans (RestS.set _ (by simp) _), by rw [mixL_set xs[w] nw hkn]; exact get_set hmx _⟩, by simp [s3, s4, s6, s9, s29], by simp [s30], by simp [s31], by simp [hwk]⟩
            · obtain rfl : k = ys.length := by omega
              have hmx2 := hmx
              rw [show ys.length = nw.length from hL.symm, mixL_all, hL, ← hstep] at hmx2
              simp -dsimp -implicitDefEqProofs [s3, s4, s6, s9, s29, s30, s31, s33, hwi]
              exact next_ hlt ⟨⟨hrS.base hpS (by intro j hj; simp at hj; omega), hmx2⟩, by simp [s3, s4, s6, s9, s29], by simp [hwi]⟩
          · obtain rfl : i = zs.length := by omega
            rw [← hus2] at hnow
            have hul2 : us.length = ys.length := by rw [hus2]; exact goTo_length _ _ _ _
            have hfi := f6ints_c us (some ⟨idB, 0, none⟩) (optA m2.length (stockO n xs ys zs)) m' (RdI.of_get hnow (by simp) rfl rfl) (rdPre hU9 hp') hul
            rw [hul2] at hfi
            simp -dsimp -implicitDefEqProofs [s3, s4, s6, s9, s29, s30, hul2]
            refine callsTo Try.cal45 hfi ?_
            simp -dsimp -implicitDefEqProofs [s3, s4, s6, s9, s29, s30, hul2]
            exact ⟨_, _, GC.refl _ _ _, rfl⟩
        · have hC' : (codeS n xs ys zs != 0) = true := by simpa using hC
          simp -dsimp -implicitDefEqProofs [s3, s4, s5, s6, s8, s9, s18, s19, s21, s22, hC']
          exact ⟨_, _, GC.refl _ _ _, rfl⟩
  · simp at gA
    refine sp2 (fun gB => ?_) (fun gB => ?_)
    · simp at gB
      obtain ⟨hdm, hdy⟩ := codeM_zero gB
      obtain ⟨hn1, hn6, hd10⟩ := mksB_n hdm
      have hws2 : ws = makeL nd.toNat ds es := by rw [hws]; simp [makeO, gB]
      have hwn : ws.length = nd.toNat := by rw [hws2, makeL_length]
      refine loopN ws.length (fun k σ m' => m' = m9 ∧ ((σ 3 = some (.int .i64 n) ∧ σ 4 = some (.slice (some ⟨im, 0, none⟩) xs.length xs.length) ∧ σ 5 = some (.slice (some ⟨iy, 0, none⟩) ys.length ys.length) ∧ σ 6 = some (.slice (some ⟨iz, 0, none⟩) zs.length zs.length)) ∧ σ 8 = some (.int .i64 (codeS n xs ys zs)) ∧ σ 9 = some (.slice (optA m2.length (stockO n xs ys zs)) us.length us.length)) ∧ (σ 18 = some (.slice (some ⟨jm, 0, none⟩) ds.length ds.length) ∧ σ 19 = some (.slice (some ⟨jy, 0, none⟩) es.length es.length) ∧ σ 21 = some (.int .i64 (codeM nd ds es)) ∧ σ 22 = some (.slice (optA m8.length (makeO nd ds es)) ws.length ws.length)) ∧ σ 26 = some (.int .i64 k)) ⟨rfl, by simp, by simp, by simp⟩ ?_
      rintro k σ m' hk ⟨hmm, ⟨⟨s3, s4, s5, s6⟩, s8, s9⟩, ⟨s18, s19, s21, s22⟩, s26⟩
      have hmm := hmm.symm
      subst hmm
      by_cases hlk : k < ws.length
      · have hwk : IntKind.i64.wrap ((k : Int) + 1) = k + 1 := wrapI (by omega) (by omega)
        have hke : k < es.length := by omega
        simp -dsimp -implicitDefEqProofs [s3, s4, s5, s6, s8, s9, s18, s19, s21, s22, s26, hlk]
        refine loopN ds.length (fun i σ m' => m' = m9 ∧ ((σ 3 = some (.int .i64 n) ∧ σ 4 = some (.slice (some ⟨im, 0, none⟩) xs.length xs.length) ∧ σ 5 = some (.slice (some ⟨iy, 0, none⟩) ys.length ys.length) ∧ σ 6 = some (.slice (some ⟨iz, 0, none⟩) zs.length zs.length)) ∧ σ 8 = some (.int .i64 (codeS n xs ys zs)) ∧ σ 9 = some (.slice (optA m2.length (stockO n xs ys zs)) us.length us.length)) ∧ (σ 18 = some (.slice (some ⟨jm, 0, none⟩) ds.length ds.length) ∧ σ 19 = some (.slice (some ⟨jy, 0, none⟩) es.length es.length) ∧ σ 21 = some (.int .i64 (codeM nd ds es)) ∧ σ 22 = some (.slice (optA m8.length (makeO nd ds es)) ws.length ws.length)) ∧ σ 26 = some (.int .i64 k) ∧ σ 27 = some (.int .i64 (soldTo ds k i)) ∧ σ 28 = some (.int .i64 i)) ⟨rfl, by simp [s3, s4, s5, s6, s8, s9], by simp [s18, s19, s21, s22], by simp [s26], by simp [soldTo], by simp⟩ ?_
        clear s3 s4 s5 s6 s8 s9 s18 s19 s21 s22 s26
        rintro i σ m' hi ⟨hmm, ⟨⟨s3, s4, s5, s6⟩, s8, s9⟩, ⟨s18, s19, s21, s22⟩, s26, s27, s28⟩
        have hmm := hmm.symm
        subst hmm
        by_cases hli : i < ds.length
        · have hwi : IntKind.i64.wrap ((i : Int) + 1) = i + 1 := wrapI (by omega) (by omega)
          obtain ⟨mo, ad, bd, hmo, hmk2, hms, hl4, hrow, c0, c1, c2, c3, q1, q2⟩ := row0 hD9 hli
          obtain ⟨ln1, ln2⟩ := mksB_len hdm hli
          have hkd2 : k < ds[i].2.2.1.length := by omega
          obtain ⟨sid, soff, so, rfl, hsm, hsk, hss, hsc⟩ := q1.at_ hkd2
          have hsum : IntKind.i64.wrap (soldTo ds k i + ds[i].2.2.1[k]) = soldTo ds k (i + 1) := by rw [soldTo_succ, sellsAt_eq hli hkd2]
          simp -dsimp -implicitDefEqProofs [s3, s4, s5, s6, s8, s9, s18, s19, s21, s22, s26, s27, s28, hli, withO_of hmo, hmk2, hms, withC_of c2, hkd2, withO_of hsm, hsk, hss, withC_of hsc, hwi, hsum]
          exact next_ hli ⟨rfl, by simp [s3, s4, s5, s6, s8, s9], by simp [s18, s19, s21, s22], by simp [s26], by simp [hsum], by simp [hwi]⟩
        · obtain rfl : i = ds.length := by omega
          obtain ⟨wid, woff, wo, hwa, hwm, hwk3, hws3, hwc⟩ := hw9.at_ hlk
          obtain ⟨eid, eoff, eo, hea, hem, hek, hes2, hec⟩ := hE9.at_ hke
          injection hea with hea
          injection hea with he3 he4
          subst he3; subst he4
          simp only [Nat.zero_add] at hec
          have hwv : ws[k] = makeAt ds es k := by simp [hws2, makeL]
          have hmk3 : max 0 (IntKind.i64.wrap (soldTo ds k ds.length - es[k])) = ws[k] := by rw [hwv]; unfold makeAt; rw [getI hke]
          simp -dsimp -implicitDefEqProofs [s3, s4, s5, s6, s8, s9, s18, s19, s21, s22, s26, s27, s28, hlk, hke, hwa, withO_of hwm, hwk3, hws3, withC_of hwc, withO_of hem, hek, hes2, withC_of hec, hwk, hmk3]
          exact next_ hlk ⟨rfl, by simp [s3, s4, s5, s6, s8, s9], by simp [s18, s19, s21, s22, hwa], by simp [hwk]⟩
      · obtain rfl : k = ws.length := by omega
        simp -dsimp -implicitDefEqProofs [s3, s4, s5, s6, s8, s9, s18, s19, s21, s22, s26]
        by_cases hC : codeS n xs ys zs = 0
        · obtain ⟨hcm, hri, hgo⟩ := codeS_zero hC
          have hus2 : us = (goTo xs ys zs zs.length).1 := by rw [hus]; simp [stockO, hC]
          simp -dsimp -implicitDefEqProofs [s3, s4, s5, s6, s8, s9, hC]
          refine appTo_grow (e := 2) (sz := 1) (by_ := 8) (z := .int .i64 0) (by kernel_rfl) (by kernel_rfl) ⟨by decide, rfl⟩ (o := ⟨[], 2, 1, 1⟩) (by simp) (by simp) ⟨rfl, rfl⟩ rfl (by omega) (Src.rdI (hY9.ext _)) ?_
          intro mB idB hgB
          have hpB : m9 <+: mB := hgB.pre m9 ⟨_, rfl⟩ (Nat.le_refl _)
          simp -dsimp -implicitDefEqProofs [s3, s4, s5, s6, s8, s9, hC]
          refine loopN zs.length (fun i σ m' => (m9 <+: m' ∧ m'[idB]? = some ⟨(goTo xs ys zs i).1.map (Value.int .i64), 2, 1, 2⟩) ∧ ((σ 3 = some (.int .i64 n) ∧ σ 4 = some (.slice (some ⟨im, 0, none⟩) xs.length xs.length) ∧ σ 6 = some (.slice (some ⟨iz, 0, none⟩) zs.length zs.length)) ∧ σ 9 = some (.slice (optA m2.length (stockO n xs ys zs)) us.length us.length) ∧ σ 29 = some (.slice (some ⟨idB, 0, none⟩) ys.length ys.length)) ∧ σ 30 = some (.int .i64 i))
            ⟨⟨hpB, by rw [goTo_zero]; simpa using hgB.new⟩, by simp [s3, s4, s5, s6, s8, s9, hC], by simp⟩ ?_
          clear s3 s4 s5 s6 s8 s9 s18 s19 s21 s22 s26
          rintro i σ m' hi ⟨⟨hp', hnow⟩, ⟨⟨s3, s4, s6⟩, s9, s29⟩, s30⟩
          have hidB : m9.length ≤ idB := by rw [hgB.at_]; simp
          by_cases hlt : i < zs.length
          · have hL := goTo_length xs ys zs i
            obtain ⟨hz0, hz1⟩ := hgo.ix _ (List.getElem_mem hlt)
            obtain ⟨w, hw⟩ : ∃ w : Nat, zs[i] = w := ⟨zs[i].toNat, by omega⟩
            have hwl2 : w < xs.length := by omega
            obtain ⟨zid, zoff, zo, hza, hzm, hzk, hzs, hzc⟩ := (rdPre hZ9 hp').at_ hlt
            injection hza with hza
            injection hza with hz3 hz4
            subst hz3; subst hz4
            rw [hw] at hzc
            simp only [Nat.zero_add] at hzc
            obtain ⟨mo, ad, bd, hmo, hmk2, hms, hl4, hrow, c0, c1, c2, c3, q1, q2⟩ := row0 (hX9.pre hp') hwl2
            obtain ⟨nw, hnw⟩ : ∃ nw, nw = (goTo xs ys zs i).1 := ⟨_, rfl⟩
            have hst := goTo_stock hcm hgo.ix i (by omega)
            have hat := at_ok hcm hwl2 hst
            have hlb := (left_bound (mksB_at (codeM_zero hcm).1 hwl2) hst).2
            have hstep : (goTo xs ys zs (i + 1)).1 = leftN xs[w] (goTo xs ys zs i).1 ys.length := by
              rw [goTo_succ xs ys zs hlt, hw]
              simp only [goStep, Int.toNat_natCast, getM hwl2, hL]
            rw [← hnw] at hnow hL hat hlb hstep
            have hxw := hxl' _ (List.getElem_mem hwl2)
            have hsal := implSale_c n xs[w] nw ad bd (some ⟨idB, 0, none⟩) m' q1 q2 (RdI.of_get hnow (by simp) rfl rfl) hxw.1 hxw.2 (by omega)
            rw [hat, show saleO n xs[w] nw = some (saleN xs[w] nw nw.length) by simp [saleO, hat]] at hsal
            simp only [optV, optM, saleN_length, mkRow4, hL] at hsal
            have hwi : IntKind.i64.wrap ((i : Int) + 1) = i + 1 := wrapI (by omega) (by omega)
            simp -dsimp -implicitDefEqProofs [s3, s4, s6, s9, s29, s30, hlt, withO_of hzm, hzk, hzs, withC_of hzc, hwl2, withO_of hmo, hmk2, hms, hl4, hrow, mkRow4, hwi]
            refine callsTo Try.cal26 hsal ?_
            simp -dsimp -implicitDefEqProofs [s3, s4, s6, s9, s29, s30, hlt, withO_of hzm, hzk, hzs, withC_of hzc, hwl2, withO_of hmo, hmk2, hms, hl4, hrow, mkRow4, hwi]
            obtain ⟨mS, hmS⟩ : ∃ mS, mS = m' ++ [(⟨(saleN xs[w] nw ys.length).map (Value.int .i64), 2, 1, 2⟩ : AObj)] := ⟨_, rfl⟩
            rw [← hmS]
            have hpS : m9 <+: mS := by rw [hmS]; exact pre_app hp' _
            have hsaS : mS[m'.length]? = some ⟨(saleN xs[w] nw ys.length).map (Value.int .i64), 2, 1, 2⟩ := by rw [hmS]; simp
            have hnoS : mS[idB]? = some ⟨nw.map (Value.int .i64), 2, 1, 2⟩ := by rw [hmS]; exact get_old hnow
            have hidl := lt_of_get hnow
            refine loopN ys.length (fun k σ m'' => (RestS [idB] mS m'' ∧ m''[idB]? = some ⟨(mixL xs[w] nw k).map (Value.int .i64), 2, 1, 2⟩) ∧ ((σ 3 = some (.int .i64 n) ∧ σ 4 = some (.slice (some ⟨im, 0, none⟩) xs.length xs.length) ∧ σ 6 = some (.slice (some ⟨iz, 0, none⟩) zs.length zs.length)) ∧ σ 9 = some (.slice (optA m2.length (stockO n xs ys zs)) us.length us.length) ∧ σ 29 = some (.slice (some ⟨idB, 0, none⟩) ys.length ys.length)) ∧ σ 30 = some (.int .i64 i) ∧ σ 31 = some (.slice (some ⟨m'.length, 0, none⟩) ys.length ys.length) ∧ σ 33 = some (.int .i64 k))
              ⟨⟨RestS.refl _ _, by rw [mixL_zero]; exact hnoS⟩, by simp [s3, s4, s6, s9, s29], by simp [s30], by simp, by simp⟩ ?_
            clear s3 s4 s6 s9 s29 s30
            rintro k σ m'' hk ⟨⟨hrS, hmx⟩, ⟨⟨s3, s4, s6⟩, s9, s29⟩, s30, s31, s33⟩
            by_cases hlk : k < ys.length
            · have hwk : IntKind.i64.wrap ((k : Int) + 1) = k + 1 := wrapI (by omega) (by omega)
              have hkn : k < nw.length := by omega
              have hsa2 := hrS.get _ _ (show m'.length ∉ [idB] by simp; omega) hsaS
              have hsc : ((saleN xs[w] nw ys.length).map (Value.int .i64))[k]? = some (.int .i64 (saleAt xs[w] nw k)) := by simp [saleN, hlk]
              have hmc := mixL_get xs[w] nw hkn
              have hml := mixL_length xs[w] nw (k := k) (by omega)
              have hleft : IntKind.i64.wrap (nw[k] - saleAt xs[w] nw k) = leftAt xs[w] nw k := by unfold leftAt; rw [getI hkn]
              have hsl : ((saleN xs[w] nw ys.length).map (Value.int .i64)).length = ys.length := by simp [saleN_length]
              have hml2 : ((mixL xs[w] nw k).map (Value.int .i64)).length = ys.length := by rw [List.length_map, hml, hL]
              simp -dsimp -implicitDefEqProofs [s3, s4, s6, s9, s29, s30, s31, s33, hlk, withO_of hsa2, withC_of hsc, withO_of hmx, withC_of hmc, hwk, hleft]
              refine need_intro (by omega) (need_intro (.inr (by kernel_rfl)) ?_)
              refine next_ hlk ⟨⟨hrS.trans (RestS.set _ (by simp) _), by rw [mixL_set xs[w] nw hkn]; exact get_set hmx _⟩, by simp [s3, s4, s6, s9, s29], by simp [s30], by simp [s31], by simp [hwk]⟩
            · obtain rfl : k = ys.length := by omega
              have hmx2 := hmx
              rw [show ys.length = nw.length from hL.symm, mixL_all, hL, ← hstep] at hmx2
              simp -dsimp -implicitDefEqProofs [s3, s4, s6, s9, s29, s30, s31, s33, hwi]
              exact next_ hlt ⟨⟨hrS.base hpS (by intro j hj; simp at hj; omega), hmx2⟩, by simp [s3, s4, s6, s9, s29], by simp [hwi]⟩
          · obtain rfl : i = zs.length := by omega
            rw [← hus2] at hnow
            have hul2 : us.length = ys.length := by rw [hus2]; exact goTo_length _ _ _ _
            have hfi := f6ints_c us (some ⟨idB, 0, none⟩) (optA m2.length (stockO n xs ys zs)) m' (RdI.of_get hnow (by simp) rfl rfl) (rdPre hU9 hp') hul
            rw [hul2] at hfi
            simp -dsimp -implicitDefEqProofs [s3, s4, s6, s9, s29, s30, hul2]
            refine callsTo Try.cal45 hfi ?_
            simp -dsimp -implicitDefEqProofs [s3, s4, s6, s9, s29, s30, hul2]
            exact ⟨_, _, GC.refl _ _ _, rfl⟩
        · have hC' : (codeS n xs ys zs != 0) = true := by simpa using hC
          simp -dsimp -implicitDefEqProofs [s3, s4, s5, s6, s8, s9, hC']
          exact ⟨_, _, GC.refl _ _ _, rfl⟩
    · simp at gB
      by_cases hC : codeS n xs ys zs = 0
      · obtain ⟨hcm, hri, hgo⟩ := codeS_zero hC
        have hus2 : us = (goTo xs ys zs zs.length).1 := by rw [hus]; simp [stockO, hC]
        simp -dsimp -implicitDefEqProofs [hC]
        refine appTo_grow (e := 2) (sz := 1) (by_ := 8) (z := .int .i64 0) (by kernel_rfl) (by kernel_rfl) ⟨by decide, rfl⟩ (o := ⟨[], 2, 1, 1⟩) (by simp) (by simp) ⟨rfl, rfl⟩ rfl (by omega) (Src.rdI (hY9.ext _)) ?_
        intro mB idB hgB
        have hpB : m9 <+: mB := hgB.pre m9 ⟨_, rfl⟩ (Nat.le_refl _)
        simp -dsimp -implicitDefEqProofs [hC]
        refine loopN zs.length (fun i σ m' => (m9 <+: m' ∧ m'[idB]? = some ⟨(goTo xs ys zs i).1.map (Value.int .i64), 2, 1, 2⟩) ∧ ((σ 3 = some (.int .i64 n) ∧ σ 4 = some (.slice (some ⟨im, 0, none⟩) xs.length xs.length) ∧ σ 6 = some (.slice (some ⟨iz, 0, none⟩) zs.length zs.length)) ∧ σ 9 = some (.slice (optA m2.length (stockO n xs ys zs)) us.length us.length) ∧ σ 29 = some (.slice (some ⟨idB, 0, none⟩) ys.length ys.length)) ∧ σ 30 = some (.int .i64 i))
          ⟨⟨hpB, by rw [goTo_zero]; simpa using hgB.new⟩, by simp [hC], by simp⟩ ?_
        rintro i σ m' hi ⟨⟨hp', hnow⟩, ⟨⟨s3, s4, s6⟩, s9, s29⟩, s30⟩
        have hidB : m9.length ≤ idB := by rw [hgB.at_]; simp
        by_cases hlt : i < zs.length
        · have hL := goTo_length xs ys zs i
          obtain ⟨hz0, hz1⟩ := hgo.ix _ (List.getElem_mem hlt)
          obtain ⟨w, hw⟩ : ∃ w : Nat, zs[i] = w := ⟨zs[i].toNat, by omega⟩
          have hwl2 : w < xs.length := by omega
          obtain ⟨zid, zoff, zo, hza, hzm, hzk, hzs, hzc⟩ := (rdPre hZ9 hp').at_ hlt
          injection hza with hza
          injection hza with hz3 hz4
          subst hz3; subst hz4
          rw [hw] at hzc
          simp only [Nat.zero_add] at hzc
          obtain ⟨mo, ad, bd, hmo, hmk2, hms, hl4, hrow, c0, c1, c2, c3, q1, q2⟩ := row0 (hX9.pre hp') hwl2
          obtain ⟨nw, hnw⟩ : ∃ nw, nw = (goTo xs ys zs i).1 := ⟨_, rfl⟩
          have hst := goTo_stock hcm hgo.ix i (by omega)
          have hat := at_ok hcm hwl2 hst
          have hlb := (left_bound (mksB_at (codeM_zero hcm).1 hwl2) hst).2
          have hstep : (goTo xs ys zs (i + 1)).1 = leftN xs[w] (goTo xs ys zs i).1 ys.length := by
            rw [goTo_succ xs ys zs hlt, hw]
            simp only [goStep, Int.toNat_natCast, getM hwl2, hL]
          rw [← hnw] at hnow hL hat hlb hstep
          have hxw := hxl' _ (List.getElem_mem hwl2)
          have hsal := implSale_c n xs[w] nw ad bd (some ⟨idB, 0, none⟩) m' q1 q2 (RdI.of_get hnow (by simp) rfl rfl) hxw.1 hxw.2 (by omega)
          rw [hat, show saleO n xs[w] nw = some (saleN xs[w] nw nw.length) by simp [saleO, hat]] at hsal
          simp only [optV, optM, saleN_length, mkRow4, hL] at hsal
          have hwi : IntKind.i64.wrap ((i : Int) + 1) = i + 1 := wrapI (by omega) (by omega)
          simp -dsimp -implicitDefEqProofs [s3, s4, s6, s9, s29, s30, hlt, withO_of hzm, hzk, hzs, withC_of hzc, hwl2, withO_of hmo, hmk2, hms, hl4, hrow, mkRow4, hwi]
          refine callsTo Try.cal26 hsal ?_
          simp -dsimp -implicitDefEqProofs [s3, s4, s6, s9, s29, s30, hlt, withO_of hzm, hzk, hzs, withC_of hzc, hwl2, withO_of hmo, hmk2, hms, hl4, hrow, mkRow4, hwi]
          obtain ⟨mS, hmS⟩ : ∃ mS, mS = m' ++ [(⟨(saleN xs[w] nw ys.length).map (Value.int .i64), 2, 1, 2⟩ : AObj)] := ⟨_, rfl⟩
          rw [← hmS]
          have hpS : m9 <+: mS := by rw [hmS]; exact pre_app hp' _
          have hsaS : mS[m'.length]? = some ⟨(saleN xs[w] nw ys.length).map (Value.int .i64), 2, 1, 2⟩ := by rw [hmS]; simp
          have hnoS : mS[idB]? = some ⟨nw.map (Value.int .i64), 2, 1, 2⟩ := by rw [hmS]; exact get_old hnow
          have hidl := lt_of_get hnow
          refine loopN ys.length (fun k σ m'' => (RestS [idB] mS m'' ∧ m''[idB]? = some ⟨(mixL xs[w] nw k).map (Value.int .i64), 2, 1, 2⟩) ∧ ((σ 3 = some (.int .i64 n) ∧ σ 4 = some (.slice (some ⟨im, 0, none⟩) xs.length xs.length) ∧ σ 6 = some (.slice (some ⟨iz, 0, none⟩) zs.length zs.length)) ∧ σ 9 = some (.slice (optA m2.length (stockO n xs ys zs)) us.length us.length) ∧ σ 29 = some (.slice (some ⟨idB, 0, none⟩) ys.length ys.length)) ∧ σ 30 = some (.int .i64 i) ∧ σ 31 = some (.slice (some ⟨m'.length, 0, none⟩) ys.length ys.length) ∧ σ 33 = some (.int .i64 k))
            ⟨⟨RestS.refl _ _, by rw [mixL_zero]; exact hnoS⟩, by simp [s3, s4, s6, s9, s29], by simp [s30], by simp, by simp⟩ ?_
          clear s3 s4 s6 s9 s29 s30
          rintro k σ m'' hk ⟨⟨hrS, hmx⟩, ⟨⟨s3, s4, s6⟩, s9, s29⟩, s30, s31, s33⟩
          by_cases hlk : k < ys.length
          · have hwk : IntKind.i64.wrap ((k : Int) + 1) = k + 1 := wrapI (by omega) (by omega)
            have hkn : k < nw.length := by omega
            have hsa2 := hrS.get _ _ (show m'.length ∉ [idB] by simp; omega) hsaS
            have hsc : ((saleN xs[w] nw ys.length).map (Value.int .i64))[k]? = some (.int .i64 (saleAt xs[w] nw k)) := by simp [saleN, hlk]
            have hmc := mixL_get xs[w] nw hkn
            have hml := mixL_length xs[w] nw (k := k) (by omega)
            have hleft : IntKind.i64.wrap (nw[k] - saleAt xs[w] nw k) = leftAt xs[w] nw k := by unfold leftAt; rw [getI hkn]
            have hsl : ((saleN xs[w] nw ys.length).map (Value.int .i64)).length = ys.length := by simp [saleN_length]
            have hml2 : ((mixL xs[w] nw k).map (Value.int .i64)).length = ys.length := by rw [List.length_map, hml, hL]
            simp -dsimp -implicitDefEqProofs [s3, s4, s6, s9, s29, s30, s31, s33, hlk, withO_of hsa2, withC_of hsc, withO_of hmx, withC_of hmc, hwk, hleft]
            refine need_intro (by omega) (need_intro (.inr (by kernel_rfl)) ?_)
            refine next_ hlk ⟨⟨hrS.trans (RestS.set _ (by simp) _), by rw [mixL_set xs[w] nw hkn]; exact get_set hmx _⟩, by simp [s3, s4, s6, s9, s29], by simp [s30], by simp [s31], by simp [hwk]⟩
          · obtain rfl : k = ys.length := by omega
            have hmx2 := hmx
            rw [show ys.length = nw.length from hL.symm, mixL_all, hL, ← hstep] at hmx2
            simp -dsimp -implicitDefEqProofs [s3, s4, s6, s9, s29, s30, s31, s33, hwi]
            exact next_ hlt ⟨⟨hrS.base hpS (by intro j hj; simp at hj; omega), hmx2⟩, by simp [s3, s4, s6, s9, s29], by simp [hwi]⟩
        · obtain rfl : i = zs.length := by omega
          rw [← hus2] at hnow
          have hul2 : us.length = ys.length := by rw [hus2]; exact goTo_length _ _ _ _
          have hfi := f6ints_c us (some ⟨idB, 0, none⟩) (optA m2.length (stockO n xs ys zs)) m' (RdI.of_get hnow (by simp) rfl rfl) (rdPre hU9 hp') hul
          rw [hul2] at hfi
          simp -dsimp -implicitDefEqProofs [s3, s4, s6, s9, s29, s30, hul2]
          refine callsTo Try.cal45 hfi ?_
          simp -dsimp -implicitDefEqProofs [s3, s4, s6, s9, s29, s30, hul2]
          exact ⟨_, _, GC.refl _ _ _, rfl⟩
      · have hC' : (codeS n xs ys zs != 0) = true := by simpa using hC
        simp -dsimp -implicitDefEqProofs [hC']
        exact ⟨_, _, GC.refl _ _ _, rfl⟩

set_option maxRecDepth 100000 in
theorem fnStocksLifted (os : Os) (started : os.Started) (H : Type) (enc : TypeId × Value → H) :
    ReturnsInHanded {} Try.checked os 11 .any (Rows.fnStocksSpec.pre6 enc Try.prog Try.f11 Rows.fnStocksRow.domain false) (Rows.fnStocksSpec.post enc Try.prog Try.f11 false true false false) :=
  lawLifted (C := Try.checked) [.one (.sl [.int .u8])] 3 4 (by kernel_rfl) started (by kernel_rfl) Try.func11
    (ChangeSpec.witness6 (enc := enc) (C := Try.checked) false ⟨#[], #[.slice none 0 0], []⟩ 8 (by kernel_rfl) (by kernel_rfl) (by kernel_rfl) (by kernel_rfl))
    (by kernel_rfl) (by kernel_rfl) (by kernel_rfl) rfl (by kernel_rfl) rfl (fun ds h => match ds, h with | [_], _ => rfl) fun m vs h => by
      obtain ⟨u0, rfl, hv0⟩ := h.one
      obtain ⟨a, xs, rfl, hl0, hr0⟩ := CV.slB hv0
      obtain ⟨v, m', hc, hv⟩ := lawStocks_c xs a m hr0 hl0
      have hv' : v = .bool true := hv
      exact ⟨m', hv' ▸ hc⟩

theorem fnStocksHolds : Rows.FnStocksSaid :=
  OpenClaim.holds_of_wide 11 Try.f11 rfl rfl rfl rfl rfl rfl rfl ⟨rfl, rfl, rfl, rfl, rfl⟩ rfl rfl rfl rfl rfl (by kernel_rfl) Try.func11 (by kernel_rfl)
    (of_decide_eq_true (by kernel_rfl)) (by unfold Func.isWrapper; first | (rw [if_pos (by decide +kernel)]; kernel_rfl) | (rw [if_neg (by decide +kernel)]; exact ⟨rfl, rfl⟩))
    (fun os started H enc _ => fnStocksLifted os started H enc)
end Go.Proofs.Ytciekhcdkfhcoaa
