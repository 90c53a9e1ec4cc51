/-
  Jobs, part 13: long baskets first, the program's code. Conditions: none.
-/
import Derived.Test.YtaggfcnaedadaaaJobL
set_option linter.unusedSimpArgs false
set_option linter.unusedVariables false
set_option linter.unusedSectionVars false
namespace Go.Proofs.Ytaggfcnaedadaaa
open Go.Abs Go.RowKit

theorem longCmp_c (js : List I2) (ss : List Int) (hjs : jobsB js ss = true) (a : Option Addr) (bj : Nat) (ty : TypeId) (x y : Nat) (hx : x < js.length) (hy : y < js.length) (m : Mem) (hb : m[bj]? = some ⟨[.slice a js.length js.length], ty, 1, 1⟩) (hr : RdG v2 2 m a js) :
    ∃ z, ACalls Try.prog 67 ([.int .i64 (x : Int), .int .i64 (y : Int)] ++ [.pointer (some ⟨bj, 0, none⟩)]) m (.int .i64 z) m ∧ decide (z < 0) = longP js x y := by
  obtain ⟨hjo, hso, hj7, hs1, hs4⟩ := jobsB_parts hjs
  have b1 := List.all_eq_true.1 hjo _ (List.getElem_mem hx)
  have b2 := List.all_eq_true.1 hjo _ (List.getElem_mem hy)
  simp only [jobB, Bool.and_eq_true, inB, decide_eq_true_eq] at b1 b2
  have hw : IntKind.i64.wrap (js[y].1 - js[x].1) = js[y].1 - js[x].1 := wrapI (by omega) (by omega)
  refine ⟨js[y].1 - js[x].1, ?_, ?_⟩
  · obtain ⟨jid, joff, jo, hje, hjm, hjk1, hjs1, hjl, hjrow, hjc0, hjc1⟩ := R2.at_ hr hx
    obtain ⟨jid2, joff2, jo2, hje2, hjm2, hjk2, hjs2, hjl2, hjrow2, hjd0, hjd1⟩ := R2.at_ hr hy
    rw [hje] at hje2 hb
    injection hje2 with hje2
    injection hje2 with e1 e2
    subst e1 e2
    rw [hjm] at hjm2
    injection hjm2 with hjm2
    subst hjm2
    refine acalls_of_vc Try.func67 rfl Try.fol (by kernel_rfl) ?_
    simp only [Try.f67]
    simp -dsimp -implicitDefEqProofs
    simp -dsimp -implicitDefEqProofs [withO_of hb, withO_of hjm, hjk1, hjs1, withC_of hjc0, withC_of hjd0, hx, hy, hw]
    exact GC.refl _ _ _
  · simp only [longP, Int.toNat_natCast, jobAt_eq hx, jobAt_eq hy]
    rw [decide_eq_decide]; omega
theorem implLong_c (js : List I2) (ss : List Int) (a b : Option Addr) (m : Mem) (hr : RdG v2 2 m a js) (hs : RdI m b ss) (hn : js.length ≤ 1048576) (hn' : ss.length ≤ 1048576) :
    ACalls Try.prog 39 [.slice a js.length js.length, .slice b ss.length ss.length] m (.tuple #[optV m.length (longO js ss), .int .i64 (earlyC js ss)]) (m ++ optM 2 (longO js ss)) := by
  refine acalls_of_vcF [5] Try.func39 rfl Try.fol (by kernel_rfl) ?_
  simp only [Try.f39]
  simp -dsimp -implicitDefEqProofs
  refine callsTo Try.cal18 (validJobs_c js ss a b _ (hr.ext _) (hs.ext _) hn hn') ?_
  simp -dsimp -implicitDefEqProofs
  refine sp2 (fun g => ?_) (fun g => ?_)
  · simp at g
    have hc : earlyC js ss = 1 := by simp [earlyC, g]
    simp [longO, hc, optV, optM]
    exact GC.dropP ⟨_, rfl⟩ rfl rfl
  simp at g
  refine callsTo Try.cal52 (missing_c js ss a b _ (hr.ext _) (hs.ext _) hn hn' g) ?_
  simp -dsimp -implicitDefEqProofs
  refine sp2 (fun g1 => ?_) (fun g1 => ?_)
  · simp at g1
    have hc : earlyC js ss = 3 := by simp [earlyC, g, g1]
    simp [longO, hc, optV, optM]
    exact GC.dropP ⟨_, rfl⟩ rfl rfl
  simp at g1
  have hc : earlyC js ss = 0 := by simp [earlyC, g, g1]
  obtain ⟨hjo, hso, hj7, hs1, hs4⟩ := jobsB_parts g
  obtain ⟨m5, hm5⟩ : ∃ m5, m5 = m ++ [(⟨[.slice a js.length js.length], 26, 1, 1⟩ : AObj), ⟨(missL js ss).map (Value.int .i64), 2, 1, 2⟩] := ⟨_, rfl⟩
  rw [← hm5]
  have hp5 : m <+: m5 := by rw [hm5]; exact ⟨_, rfl⟩
  have hl5 : m5.length = m.length + 2 := by rw [hm5]; simp
  have c0 : m5[m.length]? = some ⟨[.slice a js.length js.length], 26, 1, 1⟩ := by rw [hm5]; simp
  refine regF [[], [], [], [], [], [0, 2], [], []] 2 (by kernel_rfl) (by kernel_rfl) ?_
  have x1 : ¬ m5.length = m.length := by omega
  have x2 : ¬ m5.length + 1 = m.length := by omega
  simp -dsimp -implicitDefEqProofs [x1, x2, withO_of c0, fun l => withO_of (get_old (l := l) c0)]
  refine need_intro (by omega) (need_intro (by omega) ?_)
  obtain ⟨m6, hm6⟩ : ∃ m6, m6 = m5 ++ [(⟨List.replicate js.length (.int .i64 0), 2, 1, 1⟩ : AObj), ⟨List.replicate ss.length (.int .i64 0), 2, 1, 1⟩] := ⟨_, rfl⟩
  rw [← hm6]
  have hp6 : m5 <+: m6 := by rw [hm6]; exact ⟨_, rfl⟩
  have hl6 : m6.length = m5.length + 2 := by rw [hm6]; simp
  have hix := indicesOf_c 67 [.pointer (some ⟨m.length, 0, none⟩)] (fun _ => True) (longP js) js.length m6 Try.cal67 (by omega) (fun m' hm' x y hx hy => longCmp_c js ss g a m.length _ x y hx hy m' (prefix_get (hp6.trans hm') c0) (hr.pre (hp5.trans (hp6.trans hm'))))
  refine callsTo Try.cal66 hix ?_
  obtain ⟨m7, hm7⟩ : ∃ m7, m7 = m6 ++ [(⟨(sortT (longP js) (idxL js.length)).map (Value.int .i64), 2, 1, 2⟩ : AObj)] := ⟨_, rfl⟩
  rw [← hm7]
  have hp7 : m6 <+: m7 := by rw [hm7]; exact ⟨_, rfl⟩
  have ho7 : m7[m6.length]? = some ⟨iv (orderL js js.length), 2, 1, 2⟩ := by rw [hm7]; simp [orderL, iv]
  have hpm := hp5.trans (hp6.trans hp7)
  have hLl := orderL_length js js.length
  have hol : (iv (orderL js js.length)).length = js.length := by rw [iv_length, hLl]
  simp -dsimp -implicitDefEqProofs
  refine loopN js.length (fun k σ m2 => (RestS [m5.length, m5.length + 1] m7 m2 ∧ m2[m5.length]? = some ⟨iv (longT js ss k).1, 2, 1, 1⟩ ∧ m2[m5.length + 1]? = some ⟨iv (longT js ss k).2, 2, 1, 1⟩) ∧ (σ 1 = some (.slice b ss.length ss.length) ∧ σ 2 = some (.pointer (some ⟨m.length, 0, none⟩))) ∧
    (σ 6 = some (.slice (some ⟨m5.length, 0, none⟩) js.length js.length) ∧ σ 7 = some (.slice (some ⟨m5.length + 1, 0, none⟩) ss.length ss.length)) ∧ σ 31 = some (.slice (some ⟨m6.length, 0, none⟩) js.length js.length) ∧ σ 32 = some (.int .i64 js.length) ∧ σ 33 = some (.int .i64 k))
    ⟨⟨RestS.refl _ _, prefix_get hp7 (by rw [hm6]; simp [iv, longT]), prefix_get hp7 (by rw [hm6]; simp [iv, longT])⟩, by simp, by simp, by simp, by simp, by simp⟩ ?_
  rintro k σ m2 hk ⟨⟨hrest, hout, hload⟩, ⟨s1, s2⟩, ⟨s6, s7⟩, s31, s32, s33⟩
  by_cases hlt : k < js.length
  · obtain ⟨i, w, hi, hil, hwl, hwl2, hbw, hnext⟩ := long_at hc hlt
    have hlen := longT_length js ss k (by omega)
    have hpp : m <+: m2 := pre_of_get fun q x hq => hrest.get q x (by have := lt_of_get hq; simp; omega) (prefix_get hpm hq)
    have hr2 : RdG v2 2 m2 a js := hr.pre hpp
    have hs2 : RdI m2 b ss := by
      obtain ⟨l, rfl⟩ := hpp
      exact hs.ext l
    have hbj := hrest.get _ _ (show m.length ∉ [m5.length, m5.length + 1] by simp; omega) (prefix_get (hp6.trans hp7) c0)
    have hoo := hrest.get _ _ (show m6.length ∉ [m5.length, m5.length + 1] by simp; omega) ho7
    have hoc : (iv (orderL js js.length))[k]? = some (.int .i64 i) := iv_get (by rw [List.getElem?_eq_getElem (by rw [hLl]; exact hlt), hi])
    obtain ⟨jid, joff, jo, rfl, hjm, hjk1, hjs2, hjl, hjrow, hjc0, hjc1⟩ := R2.at_ hr2 hil
    have hwk : IntKind.i64.wrap ((k : Int) + 1) = k + 1 := wrapI (by omega) (by omega)
    obtain ⟨ld, hld⟩ : ∃ ld, ld = (longT js ss k).2 := ⟨_, rfl⟩
    obtain ⟨ou, hou⟩ : ∃ ou, ou = (longT js ss k).1 := ⟨_, rfl⟩
    rw [← hld] at hload hbw hlen
    rw [← hou] at hout hlen
    simp only [← hld, ← hou] at hnext
    have hldl : ld.length = ss.length := hlen.2
    have hldi : (iv ld).length = ss.length := by rw [iv_length, hldl]
    have houi : (iv ou).length = js.length := by rw [iv_length, hlen.1]
    simp -dsimp -implicitDefEqProofs [s1, s2, s6, s7, s31, s32, s33, hlt, withO_of hoo, hol, withC_of hoc]
    refine loopN ss.length (fun c σ m4 => m4 = m2 ∧ (σ 1 = some (.slice b ss.length ss.length) ∧ σ 2 = some (.pointer (some ⟨m.length, 0, none⟩)) ∧ σ 6 = some (.slice (some ⟨m5.length, 0, none⟩) js.length js.length) ∧ σ 7 = some (.slice (some ⟨m5.length + 1, 0, none⟩) ss.length ss.length) ∧ σ 31 = some (.slice (some ⟨m6.length, 0, none⟩) js.length js.length) ∧ σ 32 = some (.int .i64 js.length) ∧ σ 33 = some (.int .i64 k)) ∧
      (σ 9 = some (.int .i64 i) ∧ σ 37 = some (.slice b ss.length ss.length) ∧ σ 38 = some (.int .i64 ss.length)) ∧ σ 10 = some (.int .i64 (bestW ss ld js[i].2 c)) ∧ σ 39 = some (.int .i64 c)) ⟨rfl, by simp [s1, s2, s6, s7, s31, s32, s33], by simp [s1], by simp [bestW], by simp⟩ ?_
    clear s1 s2 s6 s7 s31 s32 s33
    rintro c σ m4 hcn ⟨hmm, ⟨s1, s2, s6, s7, s31, s32, s33⟩, ⟨s9, s37, s38⟩, s10, s39⟩
    have hmm := hmm.symm
    subst hmm
    by_cases hcl : c < ss.length
    · have hcd : c < ld.length := by omega
      obtain ⟨sid, soff, so, rfl, hsm, hsk, hss, hsc⟩ := hs2.at_ hcl
      have hwc : IntKind.i64.wrap ((c : Int) + 1) = c + 1 := wrapI (by omega) (by omega)
      have hlc := iv_get (List.getElem?_eq_getElem hcd)
      have e1 : ss.getD c 0 = ss[c] := by simp [List.getD_eq_getElem?_getD, hcl]
      have e2 : ld.getD c 0 = ld[c] := by simp [List.getD_eq_getElem?_getD, hcd]
      have hbs : bestW ss ld js[i].2 (c + 1) = if js[i].2 ≤ ss[c] ∧ (bestW ss ld js[i].2 c < 0 ∨ ld[c] < ld.getD (bestW ss ld js[i].2 c).toNat 0) then (c : Int) else bestW ss ld js[i].2 c := by rw [bestW, e1, e2]
      have hblt := bestW_lt ss ld js[i].2 c
      by_cases hneg : bestW ss ld js[i].2 c < 0
      · simp -dsimp -implicitDefEqProofs [s1, s2, s6, s7, s31, s32, s33, s9, s37, s38, s10, s39, hcl, hil, withO_of hsm, hsk, hss, withC_of hsc, withO_of hbj, withO_of hjm, hjk1, hjs2, withC_of hjc1, hneg, hwc]
        refine sp2 (fun g1 => ?_) (fun g1 => ?_)
        · simp at g1
          rw [if_pos ⟨g1, .inl hneg⟩] at hbs
          exact next_ hcl ⟨rfl, by simp [s1, s2, s6, s7, s31, s32, s33], by simp [s9, s37, s38], by simp [hbs], by simp [hwc]⟩
        · simp at g1
          rw [if_neg (by omega)] at hbs
          exact next_ hcl ⟨rfl, by simp [s1, s2, s6, s7, s31, s32, s33], by simp [s9, s37, s38], by simp [s10, hbs], by simp [hwc]⟩
      · obtain ⟨q, hq⟩ : ∃ q : Nat, bestW ss ld js[i].2 c = q := ⟨(bestW ss ld js[i].2 c).toNat, by omega⟩
        have hqc : q < c := by omega
        have hqd : q < ld.length := by omega
        have hqs : q < ss.length := by omega
        have e3 : ld.getD (bestW ss ld js[i].2 c).toNat 0 = ld[q] := by rw [hq]; simp [List.getD_eq_getElem?_getD, hqd]
        have hlq := iv_get (List.getElem?_eq_getElem hqd)
        rw [e3] at hbs
        rw [hq] at s10 hbs
        have hq0 : ¬ (q : Int) < 0 := by omega
        simp -dsimp -implicitDefEqProofs [s1, s2, s6, s7, s31, s32, s33, s9, s37, s38, s10, s39, hcl, hil, withO_of hsm, hsk, hss, withC_of hsc, withO_of hbj, withO_of hjm, hjk1, hjs2, withC_of hjc1, hwc, withO_of hload, hldi, withC_of hlc, withC_of hlq, hqs, hq0]
        refine sp2 (fun g1 => sp2 (fun g2 => ?_) (fun g2 => ?_)) (fun g1 => ?_)
        · simp at g1 g2
          rw [if_pos ⟨g1, .inr g2⟩] at hbs
          exact next_ hcl ⟨rfl, by simp [s1, s2, s6, s7, s31, s32, s33], by simp [s9, s37, s38], by simp [hbs], by simp [hwc]⟩
        · simp at g1 g2
          rw [if_neg (by omega)] at hbs
          exact next_ hcl ⟨rfl, by simp [s1, s2, s6, s7, s31, s32, s33], by simp [s9, s37, s38], by simp [s10, hbs], by simp [hwc]⟩
        · simp at g1
          rw [if_neg (by omega)] at hbs
          exact next_ hcl ⟨rfl, by simp [s1, s2, s6, s7, s31, s32, s33], by simp [s9, s37, s38], by simp [s10, hbs], by simp [hwc]⟩
    · obtain rfl : c = ss.length := by omega
      rw [hbw] at s10
      have hwd : w < ld.length := by omega
      have hlw := iv_get (List.getElem?_eq_getElem hwd)
      have hla : ∀ x, (m2.set m5.length x)[m5.length + 1]? = some ⟨iv ld, 2, 1, 1⟩ := fun x => by rw [List.getElem?_set_ne (by omega)]; exact hload
      have hba : ∀ x, (m2.set m5.length x)[m.length]? = some ⟨[.slice (some ⟨jid, joff, none⟩) js.length js.length], 26, 1, 1⟩ := fun x => by rw [List.getElem?_set_ne (by omega)]; exact hbj
      have hjlt : jid < m.length := by
        obtain ⟨j2, jo2, jx, he, hjmm, _⟩ := R2.at_ hr hil
        injection he with he
        injection he with he1 he2
        rw [he1]; exact lt_of_get hjmm
      have hja : ∀ x, (m2.set m5.length x)[jid]? = some jo := fun x => by rw [List.getElem?_set_ne (by omega)]; exact hjm
      simp -dsimp -implicitDefEqProofs [s1, s2, s6, s7, s31, s32, s33, s9, s10, s37, s38, s39, hil, hwl, hlt, withO_of hout, houi, fun x => withO_of (hla x), fun x => withO_of (hba x), fun x => withO_of (hja x), hjk1, hjs2, withC_of hjc0, hldi, withC_of hlw, hwk]
      refine need_intro (by omega) (need_intro (by omega) (need_intro (.inr (by kernel_rfl)) ?_))
      rw [iv_set, iv_set]
      have hn1 : (longT js ss (k + 1)).1 = ou.set i (w : Int) := by rw [hnext]
      have hn2 : (longT js ss (k + 1)).2 = ld.set w (w64 (ld[w] + js[i].1)) := by rw [hnext]
      refine next_ hlt ⟨⟨?_, ?_, ?_⟩, by simp [s1, s2], by simp [s6, s7], by simp [s31], by simp [s32], by simp [hwk]⟩
      · exact (hrest.trans (RestS.set (k := m5.length) _ (by simp) _)).trans (RestS.set (k := m5.length + 1) _ (by simp) _)
      · rw [hn1, List.getElem?_set_ne (by omega)]; exact get_set hout _
      · rw [hn2]; exact get_set (hla _) _
  · simp -dsimp -implicitDefEqProofs [s1, s2, s6, s7, s31, s32, s33, hlt]
    obtain rfl : k = js.length := by omega
    have hpp : m <+: m2 := pre_of_get fun q x hq => hrest.get q x (by have := lt_of_get hq; simp; omega) (prefix_get hpm hq)
    simp only [longO, hc, if_true, optV, optM]
    rw [(longT_length js ss js.length (Nat.le_refl _)).1]
    exact GC.keepTP (Fits.refl m) hpp hout (by omega) rfl rfl (.inr ⟨rfl, rfl⟩) rfl (ints_lit _) rfl
end Go.Proofs.Ytaggfcnaedadaaa
