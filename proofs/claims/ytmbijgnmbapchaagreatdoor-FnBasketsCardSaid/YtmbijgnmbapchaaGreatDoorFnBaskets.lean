/-
  'FnBaskets': the text of a drawn basket is read back without reports, reports of a drawn text have the rows of their lines, and the program's functions tell what the reference's tell. Conditions: none but those of the row (the library's tables are as the program's text lays them).
-/
import Derived.Test.YtmbijgnmbapchaaGreatDoorBkGG
import Derived.Test.YtmbijgnmbapchaaGreatDoorBkKK
import Derived.Test.YtmbijgnmbapchaaGreatDoorBkLL
import Derived.Test.YtmbijgnmbapchaaGreatDoorBkOO
import Derived.Test.YtmbijgnmbapchaaGreatDoorBkG
import Derived.Test.YtmbijgnmbapchaaGreatDoorDraw2
import Derived.Test.YtmbijgnmbapchaaGreatDoorDoor
set_option linter.unusedSimpArgs false
set_option linter.unusedVariables false
set_option linter.unusedSectionVars false
namespace Go.Proofs.YtmbijgnmbapchaaGreatDoor
open Go.Abs Go.RowKit Go.Law

theorem LyO.rdZ {m : Mem} {lo : Nat} {A : Option Addr} {ls : List LyT} (h : LyO m lo A ls) : RdG vl 2 m A ls := by
  rcases h with ⟨rfl, rfl⟩ | ⟨j, kd, rfl, _, h1, h2, h3⟩
  · exact RdG.nil _ _ _ _
  · exact RdG.of_get (g := vl) (sz := 2) (fun _ => rfl) ls h1 h3 rfl rfl
theorem RpO.rdZ {m : Mem} {lo : Nat} {R : Option Addr} {rs : List I2} (h : RpO m lo R rs) : RdG v2 2 m R rs := by
  rcases h with ⟨rfl, rfl⟩ | ⟨j, kd, rfl, _, h1, h2, h3⟩
  · exact RdG.nil _ _ _ _
  · exact RdG.of_get (g := v2) (sz := 2) (fun _ => rfl) rs h1 h3 rfl rfl
theorem LyObj.rdZ {m : Mem} {j : Nat} {ls : List LyT} (h : LyObj m j ls) : RdG vl 2 m (some ⟨j, 0, none⟩) ls := by
  obtain ⟨kd, h1, h2, h3⟩ := h
  exact RdG.of_get (g := vl) (sz := 2) (fun _ => rfl) ls h1 h3 rfl rfl
/-- What is read, plainly: the reports' rows rise and are rows of the text, and a basket that is read is valid. -/
theorem readR_told (t : ByteArray) {r : Bk × List I2 × Int} (hr : r = readR t) : r.1.2.1.length ≤ 40 ∧ r.2.1.length ≤ 20 ∧ Rises 3001 r.2.1 ∧ (r.2.2 = 0 → BkOk r.1) ∧ (r.2.2 = 0 ∨ r.2.2 = 2) := by
  subst hr
  unfold readR
  split
  · exact ⟨Nat.zero_le _, Nat.zero_le _, ⟨fun p hp => absurd hp List.not_mem_nil, fun i h => absurd h (Nat.not_lt_zero _)⟩, fun h => absurd h (by decide), .inr rfl⟩
  · rename_i hs
    have hk := run_ok (piecesB 10 t) (piecesB 10 t).length
    refine ⟨hk.nl, run_reports _ _, ?_, fun _ => hk, .inl rfl⟩
    obtain ⟨h1, h2⟩ := run_rises (piecesB 10 t) (piecesB 10 t).length
    have hl : (piecesB 10 t).length ≤ 3001 := by
      have := Go.Lib.countB_le ⟨#[10]⟩ (by decide) t.size t (Nat.le_refl _)
      rw [pieces_len]; omega
    exact ⟨fun p hp => by have := h1 p hp; omega, h2⟩
theorem specValid_c (st : Int) (ls : List LyT) (b : ByteArray) (A : Option Addr) (m : Mem) (hr : RdG vl 2 m A ls) (hn : ls.length ≤ 1048576) (hs : ∀ p ∈ ls, p.1.size ≤ maxLen) (hb : b.size ≤ maxLen) :
    ACalls Tryz.prog 18 [.agg (bkC st A ls.length b).toArray] m (.bool (okB st ls b)) m := by
  refine acalls_of_vc Tryz.func18 rfl Tryz.fol (by kernel_rfl) ?_
  simp only [Tryz.f18, bkC]
  simp -dsimp -implicitDefEqProofs
  refine callsTo Tryz.cal32 (l17Ok_c st ls b A m.length _ _ (get_len _ _) (by simp) rfl (hr.ext _) hn hs hb) ?_
  simp -dsimp -implicitDefEqProofs
  exact GC.dropEq rfl rfl
theorem textV_zero {ls : List LyT} {b : ByteArray} (h : okB 0 ls b = true) : (textV 0 ls b).size = 0 := by
  have : ls = [] ∧ b.size = 0 := by simpa [okB] using h
  obtain ⟨rfl, hb⟩ := this
  simp only [textV, hb, if_true, List.length_nil, textTo]
  rfl
def bkO (st : Int) (A : Option Addr) (n : Nat) (b : ByteArray) : AObj := ⟨[.int .i64 st, .slice A n n, .string b], 27, 3, 1⟩
set_option maxRecDepth 20000 in
set_option maxHeartbeats 3200000 in
theorem lawBaskets_c (xs : List Int) (a : Option Addr) (m : Mem) (hr0 : RdB m a xs) (hm0 : xs.length ≤ maxLen) :
    ∃ v m', ACalls Tryz.prog 3 [.slice a xs.length xs.length] m v m' ∧ IsT v m' := by
  refine ecalls_of_vcF [10] Tryz.func3 rfl Tryz.fol (by kernel_rfl) ?_
  simp only [Tryz.f3]
  simp -dsimp -implicitDefEqProofs
  refine callsTo Tryz.cal4 (f6big_c a _ _) ?_
  simp -dsimp -implicitDefEqProofs
  by_cases hlong : (4096 : Int) < xs.length
  · have h1 : decide ((4096 : Int) < xs.length) = true := by simpa using hlong
    simp -dsimp -implicitDefEqProofs [h1]
    exact ⟨_, _, GC.refl _ _ _, rfl⟩
  have h1 : decide ((4096 : Int) < xs.length) = false := by simpa using hlong
  simp -dsimp -implicitDefEqProofs [h1]
  obtain ⟨v1, m1, hc1, t, ht, rfl, p1⟩ := drawRead_c a xs m hr0 (by omega)
  obtain ⟨⟨⟨st, ls, b⟩, rs, c⟩, hr⟩ : ∃ r, r = readR t := ⟨_, rfl⟩
  obtain ⟨n40, n20, hris, hval, hc02⟩ := readR_told t hr
  simp only at n40 n20 hris hval hc02
  obtain ⟨v2, m2, hc2, Ax, Rx, rfl, p2, hL2, hR2, _⟩ := implRead_c t (by omega) m1
  rw [← hr] at hc2 hL2 hR2
  simp only [bkC] at hc2 hL2 hR2
  obtain ⟨M2, hM2⟩ : ∃ M2 : Mem, M2 = m2 ++ [bkO st Ax ls.length b] := ⟨_, rfl⟩
  have q2 : m2 <+: M2 := by rw [hM2]; exact ⟨_, rfl⟩
  have t4 : M2[m2.length]? = some (bkO st Ax ls.length b) := by rw [hM2]; simp
  obtain ⟨v3, m3, hc3, Am, Rm, rfl, p3, hL3, hR3, _⟩ := specRead_c t (by omega) M2
  rw [← hr] at hc3 hL3 hR3
  simp only [bkC] at hc3 hL3 hR3
  obtain ⟨M3, hM3⟩ : ∃ M3 : Mem, M3 = m3 ++ [bkO st Am ls.length b] := ⟨_, rfl⟩
  have q3 : m3 <+: M3 := by rw [hM3]; exact ⟨_, rfl⟩
  have t7 : M3[m3.length]? = some (bkO st Am ls.length b) := by rw [hM3]; simp
  have p03 : m <+: M3 := p1.trans (p2.trans (q2.trans (p3.trans q3)))
  have hr3 : RdB M3 a xs := ⟨hr0.1.pre p03, hr0.2⟩
  obtain ⟨v4, m4, hc4, sa, la, ba, ja, hsa, rfl, p4, hja, hLa⟩ := drawText_c a xs M3 hr3 (by omega)
  simp only [bkC] at hc4
  obtain ⟨M4, hM4⟩ : ∃ M4 : Mem, M4 = m4 ++ [bkO sa (some ⟨ja, 0, none⟩) la.length ba] := ⟨_, rfl⟩
  have q4 : m4 <+: M4 := by rw [hM4]; exact ⟨_, rfl⟩
  have t10 : M4[m4.length]? = some (bkO sa (some ⟨ja, 0, none⟩) la.length ba) := by rw [hM4]; simp
  have rda := hLa.rdZ
  have na : la.length ≤ 1048576 := by have := hsa.1; omega
  have za : ∀ p ∈ la, p.1.size ≤ maxLen := fun p hp => by have := hsa.2.1 p hp; unfold maxLen; omega
  have ya : ba.size ≤ maxLen := by have := hsa.2.2; unfold maxLen; omega
  obtain ⟨form, hform⟩ : ∃ f, f = (if okB sa la ba then textV sa la ba else (⟨#[]⟩ : ByteArray)) := ⟨_, rfl⟩
  have e11 := implTextA_c sa la ba (some ⟨ja, 0, none⟩) M4 (rda.pre q4) na za ya
  rw [← hform] at e11
  have p04 : m <+: M4 := p03.trans (p4.trans q4)
  have hr4 : RdB M4 a xs := ⟨hr0.1.pre p04, hr0.2⟩
  obtain ⟨v5, m5, hc5, sb, lb, bb, jb, sc, lc, bc, jc, ⟨nb, nc⟩, rfl, p5, hLb, hLc⟩ := drawSame_c a xs M4 hr4 (by omega)
  simp only [bkC] at hc5
  obtain ⟨M5, hM5⟩ : ∃ M5 : Mem, M5 = m5 ++ [bkO sb (some ⟨jb, 0, none⟩) lb.length bb, bkO sc (some ⟨jc, 0, none⟩) lc.length bc] := ⟨_, rfl⟩
  have q5 : m5 <+: M5 := by rw [hM5]; exact ⟨_, rfl⟩
  have t12 : M5[m5.length]? = some (bkO sb (some ⟨jb, 0, none⟩) lb.length bb) := by rw [hM5]; simp
  have t13 : M5[m5.length + 1]? = some (bkO sc (some ⟨jc, 0, none⟩) lc.length bc) := by rw [hM5]; simp
  have p05 : m <+: M5 := p04.trans (p5.trans q5)
  have hr5 : RdB M5 a xs := ⟨hr0.1.pre p05, hr0.2⟩
  obtain ⟨v6, m6, hc6, ⟨rr, rk⟩, rfl, p6⟩ := drawReport_c a xs M5 hr5 (by omega)
  simp only [v2] at hc6
  obtain ⟨M6, hM6⟩ : ∃ M6 : Mem, M6 = m6 ++ [⟨[.int .i64 rr, .int .i64 rk], 36, 2, 1⟩] := ⟨_, rfl⟩
  have q6 : m6 <+: M6 := by rw [hM6]; exact ⟨_, rfl⟩
  have t14 : M6[m6.length]? = some ⟨[.int .i64 rr, .int .i64 rk], 36, 2, 1⟩ := by rw [hM6]; simp
  have p56 : M5 <+: M6 := p6.trans q6
  have p46 : M4 <+: M6 := (p5.trans q5).trans p56
  have p36 : M3 <+: M6 := (p4.trans q4).trans p46
  have p26 : M2 <+: M6 := (p3.trans q3).trans p36
  have rd2 := hL2.rdZ.pre (q2.trans p26)
  have rd3 := hL3.rdZ.pre (q3.trans p36)
  have rr2 := hR2.rdZ.pre (q2.trans p26)
  have rr3 := hR3.rdZ.pre (q3.trans p36)
  have rda6 := rda.pre (q4.trans p46)
  have rdb6 := hLb.rdZ.pre (q5.trans p56)
  have rdc6 := hLc.rdZ.pre (q5.trans p56)
  have u4 := prefix_get p26 t4
  have u7 := prefix_get p36 t7
  have u10 := prefix_get p46 t10
  have u12 := prefix_get p56 t12
  have u13 := prefix_get p56 t13
  have E1 := specSame_c st st ls ls b b Ax Am M6 rd2 rd3 (by omega)
  have E2 := specTextA_c sa la ba (some ⟨ja, 0, none⟩) M6 rda6 na za ya
  rw [← hform] at E2
  have E3 := implSame_c sb sc lb lc bb bc (some ⟨jb, 0, none⟩) (some ⟨jc, 0, none⟩) M6 rdb6 rdc6 (by omega)
  have E4 := specSame_c sb sc lb lc bb bc (some ⟨jb, 0, none⟩) (some ⟨jc, 0, none⟩) M6 rdb6 rdc6 (by omega)
  have E5 := implRep_c (rr, rk) M6
  have E6 := specRep_c (rr, rk) M6
  have E7 := validBasket_c sa la ba (some ⟨ja, 0, none⟩) M6 rda6 na za ya
  have E8 := specValid_c sa la ba (some ⟨ja, 0, none⟩) M6 rda6 na za ya
  obtain ⟨sm, hsm⟩ : ∃ sm, sm = decide (sb = sc ∧ lb = lc ∧ bb = bc) := ⟨_, rfl⟩
  obtain ⟨rt, hrt⟩ : ∃ rt, rt = repT (rr, rk) := ⟨_, rfl⟩
  obtain ⟨ok, hok⟩ : ∃ ok, ok = okB sa la ba := ⟨_, rfl⟩
  rw [← hsm] at E3 E4
  rw [← hrt] at E5 E6
  rw [← hok] at E7 E8
  have htrue : decide (st = st ∧ ls = ls ∧ b = b) = true := by simp
  rw [htrue] at E1
  simp only [bkC, v2] at E1 E2 E3 E4 E5 E6 E7 E8 e11
  simp only [bkO] at *
  refine callsTo Tryz.cal5 hc1 ?_
  simp -dsimp -implicitDefEqProofs [h1, hM2.symm, hM3.symm, hM4.symm, hM5.symm, hM6.symm, withO_of t10, withO_of t4, withO_of t7]
  refine callsTo Tryz.cal6 hc2 ?_
  simp -dsimp -implicitDefEqProofs [h1, hM2.symm, hM3.symm, hM4.symm, hM5.symm, hM6.symm, withO_of t10, withO_of t4, withO_of t7]
  refine callsTo Tryz.cal7 hc3 ?_
  simp -dsimp -implicitDefEqProofs [h1, hM2.symm, hM3.symm, hM4.symm, hM5.symm, hM6.symm, withO_of t10, withO_of t4, withO_of t7]
  refine callsTo Tryz.cal8 hc4 ?_
  simp -dsimp -implicitDefEqProofs [h1, hM2.symm, hM3.symm, hM4.symm, hM5.symm, hM6.symm, withO_of t10, withO_of t4, withO_of t7]
  refine callsTo Tryz.cal9 e11 ?_
  simp -dsimp -implicitDefEqProofs [h1, hM2.symm, hM3.symm, hM4.symm, hM5.symm, hM6.symm, withO_of t10, withO_of t4, withO_of t7]
  refine callsTo Tryz.cal10 hc5 ?_
  simp -dsimp -implicitDefEqProofs [h1, hM2.symm, hM3.symm, hM4.symm, hM5.symm, hM6.symm, withO_of t10, withO_of t4, withO_of t7]
  refine callsTo Tryz.cal11 hc6 ?_
  simp -dsimp -implicitDefEqProofs [h1, hM2.symm, hM3.symm, hM4.symm, hM5.symm, hM6.symm, withO_of t10, withO_of t4, withO_of t7]
  refine regF [[], [], [], [], [], [], [], [], [], [], [], [], [], [], [], [], [], [], [], [], [], [], [], [], [], [], [25], [25], [], [], [], [], [], [], [33], [], [], [], [], [], [], [40], [], [], []] 0 (by kernel_rfl) (by kernel_rfl) ?_
  simp -dsimp -implicitDefEqProofs [h1, hM6.symm, withO_of u4, withO_of u7, withO_of u10, withO_of u12, withO_of u13, withO_of t14]
  refine callsTo Tryz.cal12 E1 ?_
  simp -dsimp -implicitDefEqProofs [h1, hM6.symm, withO_of u4, withO_of u7, withO_of u10, withO_of u12, withO_of u13, withO_of t14]
  refine callsTo Tryz.cal13 E2 ?_
  simp -dsimp -implicitDefEqProofs [h1, hM6.symm, withO_of u4, withO_of u7, withO_of u10, withO_of u12, withO_of u13, withO_of t14]
  refine callsTo Tryz.cal14 E3 ?_
  simp -dsimp -implicitDefEqProofs [h1, hM6.symm, withO_of u4, withO_of u7, withO_of u10, withO_of u12, withO_of u13, withO_of t14]
  refine callsTo Tryz.cal12 E4 ?_
  simp -dsimp -implicitDefEqProofs [h1, hM6.symm, withO_of u4, withO_of u7, withO_of u10, withO_of u12, withO_of u13, withO_of t14]
  refine callsTo Tryz.cal15 E5 ?_
  simp -dsimp -implicitDefEqProofs [h1, hM6.symm, withO_of u4, withO_of u7, withO_of u10, withO_of u12, withO_of u13, withO_of t14]
  refine callsTo Tryz.cal16 E6 ?_
  simp -dsimp -implicitDefEqProofs [h1, hM6.symm, withO_of u4, withO_of u7, withO_of u10, withO_of u12, withO_of u13, withO_of t14]
  refine callsTo Tryz.cal17 E7 ?_
  simp -dsimp -implicitDefEqProofs [h1, hM6.symm, withO_of u4, withO_of u7, withO_of u10, withO_of u12, withO_of u13, withO_of t14]
  refine callsTo Tryz.cal18 E8 ?_
  simp -dsimp -implicitDefEqProofs [h1, hM6.symm, withO_of u4, withO_of u7, withO_of u10, withO_of u12, withO_of u13, withO_of t14]
  refine loopN rs.length (fun k σ m' => m' = M6 ∧ σ 4 = some (.pointer (some ⟨m2.length, 0, none⟩)) ∧ σ 5 = some (.slice Rx rs.length rs.length) ∧ σ 6 = some (.int .i64 c) ∧ σ 8 = some (.slice Rm rs.length rs.length) ∧ σ 10 = some (.pointer (some ⟨m4.length, 0, none⟩)) ∧ σ 11 = some (.string form) ∧ σ 15 = some (.int .i64 k)) ⟨rfl, by simp, by simp, by simp, by simp, by simp, by simp, by simp⟩ ?_
  rintro k σ m' hk ⟨hmm, s4, s5, s6, s8, s10, s11, s15⟩
  have hmm := hmm.symm
  subst hmm
  by_cases hlt : k < rs.length
  · obtain ⟨id, off, o, ha, hm, hkd, hsz, hl, hrow, hx0, hx1⟩ := R2.at_ rr2 hlt
    obtain ⟨id', off', o', ha', hm', hkd', hsz', hl', hrow', hy0, hy1⟩ := R2.at_ rr3 hlt
    obtain ⟨⟨r1, r2⟩, hrk⟩ : ∃ p, p = rs[k] := ⟨_, rfl⟩
    have hb := hris.1 _ (List.getElem_mem hlt)
    rw [← hrk] at hrow hrow' hx0 hx1 hy0 hy1 hb
    simp only at hb
    simp only [v2] at hrow hrow'
    have hb1 : ¬ r1 < 1 := by omega
    have hrs := repT_some (p := (r1, r2)) (by simp only; omega) (by simp only; omega)
    have eR := implRep_c (r1, r2) M6
    obtain ⟨rp, hrp⟩ : ∃ rp, rp = repT (r1, r2) := ⟨_, rfl⟩
    rw [← hrp] at hrs eR
    simp only [v2] at eR
    have hrE := emptyE rp
    have hw : IntKind.i64.wrap ((k : Int) + 1) = k + 1 := wrapI (by omega) (by omega)
    by_cases hk0 : k = 0
    · have hk0' : ¬ 0 < k := by omega
      rw [ha] at s5
      rw [ha'] at s8
      simp -dsimp -implicitDefEqProofs [s4, s5, s6, s8, s10, s11, s15, hlt, hk0', withO_of hm, hkd, hsz, hl, hrow, withO_of hm', hkd', hsz', hl', hrow', withC_of hy0, hb1, hw, hrE, hrs, Abs.litsEq, Abs.litEq]
      refine callsTo Tryz.cal15 eR ?_
      simp -dsimp -implicitDefEqProofs [s4, s5, s6, s8, s10, s11, s15, hlt, hk0', withO_of hm, hkd, hsz, hl, hrow, withO_of hm', hkd', hsz', hl', hrow', withC_of hy0, hb1, hw, hrE, hrs, Abs.litsEq, Abs.litEq]
      exact next_ hlt ⟨rfl, by simp [s4], by simp [s5, ha], by simp [s6], by simp [s8, ha'], by simp [s10], by simp [s11], by simp [hw]⟩
    · obtain ⟨n, hn⟩ : ∃ n, k = n + 1 := ⟨k - 1, by omega⟩
      have hk0' : 0 < k := by omega
      have hnl : n < rs.length := by omega
      obtain ⟨id2, off2, o2, ha2, hm2', hkd2, hsz2, hl2, hrow2, hz0, hz1⟩ := R2.at_ rr3 hnl
      have hup := hris.2 n (by omega)
      have hrk2 : rs[n + 1]'(by omega) = (r1, r2) := by rw [hrk]; congr 1; omega
      rw [hrk2] at hup
      obtain ⟨u1, hu1⟩ : ∃ u1, u1 = (rs[n]).1 := ⟨_, rfl⟩
      rw [← hu1] at hup hz0
      simp only at hup
      have hup' : ¬ r1 ≤ u1 := by omega
      have hwn : IntKind.i64.wrap ((k : Int) - 1) = (n : Int) := by rw [wrapI (by omega) (by omega)]; omega
      rw [ha'] at ha2
      injection ha2 with ha2
      injection ha2 with e1 e2
      subst e1; subst e2
      have : o2 = o' := by
        have := hm2'.symm.trans hm'
        injection this
      subst this
      rw [ha] at s5
      rw [ha'] at s8
      simp -dsimp -implicitDefEqProofs [s4, s5, s6, s8, s10, s11, s15, hlt, hnl, hk0', withO_of hm, hkd, hsz, hl, hrow, withO_of hm', hkd', hsz', hl', hrow', withC_of hy0, withC_of hz0, hl2, hup', hwn, hb1, hw, hrE, hrs, Abs.litsEq, Abs.litEq]
      refine callsTo Tryz.cal15 eR ?_
      simp -dsimp -implicitDefEqProofs [s4, s5, s6, s8, s10, s11, s15, hlt, hnl, hk0', withO_of hm, hkd, hsz, hl, hrow, withO_of hm', hkd', hsz', hl', hrow', withC_of hy0, withC_of hz0, hl2, hup', hwn, hb1, hw, hrE, hrs, Abs.litsEq, Abs.litEq]
      exact next_ hlt ⟨rfl, by simp [s4], by simp [s5, ha], by simp [s6], by simp [s8, ha'], by simp [s10], by simp [s11], by simp [hw]⟩
  have hback : ¬ form.size = 0 → ¬ 3000 < form.size → ∃ m7 Ab Rb, ACalls Tryz.prog 6 [.string form] M6 (.tuple #[.agg #[.int .i64 sa, .slice Ab la.length la.length, .string ba], .slice Rb 0 0, .int .i64 0]) m7 ∧ M6 <+: m7 ∧ RdG vl 2 m7 Ab la := fun hf0 hf3 => by
    have hokt : okB sa la ba = true := by
      cases h : okB sa la ba with
      | true => rfl
      | false => rw [h] at hform; rw [hform] at hf0; exact absurd rfl hf0
    rw [hokt, if_pos rfl] at hform
    have hsa0 : sa ≠ 0 := by
      intro e
      rw [e] at hokt hform
      exact hf0 (by rw [hform]; exact textV_zero hokt)
    have hread : readR form = ((sa, la, ba), [], 0) := by
      unfold readR
      rw [if_neg hf3, hform, read_text hokt hsa0]
    obtain ⟨v7, m7, hc7, Ab, Rb, rfl, p7, hLb7, hRb7, _⟩ := implRead_c form (by omega) M6
    rw [hread] at hc7 hLb7
    simp only [bkC, List.length_nil] at hc7
    exact ⟨m7, Ab, Rb, hc7, p7, hLb7.rdZ⟩
  have hkl : k = rs.length := by omega
  have hkl' : ¬ (k : Int) < rs.length := by omega
  by_cases hcz : c = 0
  · have hc1' : (c == 0) = true := by simpa using hcz
    have hokx := hval hcz
    have hoky : okB st ls b = true := hokx
    obtain ⟨z1, z2, z3⟩ := okB_small hoky
    have E9 := validBasket_c st ls b Ax M6 rd2 (by omega) (fun p hp => by have := z2 p hp; unfold maxLen; omega) (by unfold maxLen; omega)
    rw [hoky] at E9
    simp only [bkC] at E9
    have hfE := emptyE form
    by_cases hf0 : form.size = 0
    · simp -dsimp -implicitDefEqProofs [s4, s5, s6, s8, s10, s11, s15, withO_of u4, withO_of u10, hkl', hc1', hfE, hf0]
      refine callsTo Tryz.cal17 E9 ?_
      simp -dsimp -implicitDefEqProofs [s4, s5, s6, s8, s10, s11, s15, withO_of u4, withO_of u10, hkl', hc1', hfE, hf0]
      exact ⟨_, _, GC.refl _ _ _, rfl⟩
    by_cases hf3 : 3000 < form.size
    · have hf3' : (3000 : Int) < form.size := by omega
      simp -dsimp -implicitDefEqProofs [s4, s5, s6, s8, s10, s11, s15, withO_of u4, withO_of u10, hkl', hc1', hfE, hf0, hf3']
      refine callsTo Tryz.cal17 E9 ?_
      simp -dsimp -implicitDefEqProofs [s4, s5, s6, s8, s10, s11, s15, withO_of u4, withO_of u10, hkl', hc1', hfE, hf0, hf3']
      exact ⟨_, _, GC.refl _ _ _, rfl⟩
    have hf3' : ¬ (3000 : Int) < form.size := by omega
    obtain ⟨m7, Ab, Rb, hc7, p7, rdb7⟩ := hback hf0 hf3
    obtain ⟨M7, hM7⟩ : ∃ M7 : Mem, M7 = m7 ++ [⟨[.int .i64 sa, .slice Ab la.length la.length, .string ba], 27, 3, 1⟩] := ⟨_, rfl⟩
    have q7 : m7 <+: M7 := by rw [hM7]; exact ⟨_, rfl⟩
    have t16 : M7[m7.length]? = some ⟨[.int .i64 sa, .slice Ab la.length la.length, .string ba], 27, 3, 1⟩ := by rw [hM7]; simp
    have w10 := prefix_get (p7.trans q7) u10
    have E10 := specSame_c sa sa la la ba ba Ab (some ⟨ja, 0, none⟩) M7 (rdb7.pre q7) (rda6.pre (p7.trans q7)) na
    have htrue2 : decide (sa = sa ∧ la = la ∧ ba = ba) = true := by simp
    rw [htrue2] at E10
    simp only [bkC] at E10
    simp -dsimp -implicitDefEqProofs [s4, s5, s6, s8, s10, s11, s15, withO_of u4, withO_of u10, hkl', hc1', hfE, hf0, hf3', hM7.symm, withO_of t16, withO_of w10]
    refine callsTo Tryz.cal17 E9 ?_
    simp -dsimp -implicitDefEqProofs [s4, s5, s6, s8, s10, s11, s15, withO_of u4, withO_of u10, hkl', hc1', hfE, hf0, hf3', hM7.symm, withO_of t16, withO_of w10]
    refine callsTo Tryz.cal6 hc7 ?_
    simp -dsimp -implicitDefEqProofs [s4, s5, s6, s8, s10, s11, s15, withO_of u4, withO_of u10, hkl', hc1', hfE, hf0, hf3', hM7.symm, withO_of t16, withO_of w10]
    refine callsTo Tryz.cal12 E10 ?_
    simp -dsimp -implicitDefEqProofs [s4, s5, s6, s8, s10, s11, s15, withO_of u4, withO_of u10, hkl', hc1', hfE, hf0, hf3', hM7.symm, withO_of t16, withO_of w10]
    exact ⟨_, _, GC.refl _ _ _, rfl⟩
  · have hc1' : (c == 0) = false := beq_eq_false_iff_ne.2 hcz
    have hfE := emptyE form
    by_cases hf0 : form.size = 0
    · simp -dsimp -implicitDefEqProofs [s4, s5, s6, s8, s10, s11, s15, withO_of u4, withO_of u10, hkl', hc1', hfE, hf0]
      exact ⟨_, _, GC.refl _ _ _, rfl⟩
    by_cases hf3 : 3000 < form.size
    · have hf3' : (3000 : Int) < form.size := by omega
      simp -dsimp -implicitDefEqProofs [s4, s5, s6, s8, s10, s11, s15, withO_of u4, withO_of u10, hkl', hc1', hfE, hf0, hf3']
      exact ⟨_, _, GC.refl _ _ _, rfl⟩
    have hf3' : ¬ (3000 : Int) < form.size := by omega
    obtain ⟨m7, Ab, Rb, hc7, p7, rdb7⟩ := hback hf0 hf3
    obtain ⟨M7, hM7⟩ : ∃ M7 : Mem, M7 = m7 ++ [⟨[.int .i64 sa, .slice Ab la.length la.length, .string ba], 27, 3, 1⟩] := ⟨_, rfl⟩
    have q7 : m7 <+: M7 := by rw [hM7]; exact ⟨_, rfl⟩
    have t16 : M7[m7.length]? = some ⟨[.int .i64 sa, .slice Ab la.length la.length, .string ba], 27, 3, 1⟩ := by rw [hM7]; simp
    have w10 := prefix_get (p7.trans q7) u10
    have E10 := specSame_c sa sa la la ba ba Ab (some ⟨ja, 0, none⟩) M7 (rdb7.pre q7) (rda6.pre (p7.trans q7)) na
    have htrue2 : decide (sa = sa ∧ la = la ∧ ba = ba) = true := by simp
    rw [htrue2] at E10
    simp only [bkC] at E10
    simp -dsimp -implicitDefEqProofs [s4, s5, s6, s8, s10, s11, s15, withO_of u4, withO_of u10, hkl', hc1', hfE, hf0, hf3', hM7.symm, withO_of t16, withO_of w10]
    refine callsTo Tryz.cal6 hc7 ?_
    simp -dsimp -implicitDefEqProofs [s4, s5, s6, s8, s10, s11, s15, withO_of u4, withO_of u10, hkl', hc1', hfE, hf0, hf3', hM7.symm, withO_of t16, withO_of w10]
    refine callsTo Tryz.cal12 E10 ?_
    simp -dsimp -implicitDefEqProofs [s4, s5, s6, s8, s10, s11, s15, withO_of u4, withO_of u10, hkl', hc1', hfE, hf0, hf3', hM7.symm, withO_of t16, withO_of w10]
    exact ⟨_, _, GC.refl _ _ _, rfl⟩
set_option maxRecDepth 100000 in
theorem fnBasketsLifted (os : Os) (started : os.Started) (H : Type) (enc : TypeId × Value → H) :
    ReturnsInHanded {} Tryz.checked os 3 .any (fun w args => (Rows.fnBasketsSpec.pre enc Tryz.prog Tryz.f3 [] false w args ∧ laidMetH Tryz.prog Rows.fnBasketsRow.laid w) ∧ sizedMet enc Tryz.prog Tryz.f3 (OpenSpec.ofChange Rows.fnBasketsSpec) false w args) (Rows.fnBasketsSpec.post enc Tryz.prog Tryz.f3 false true false false) :=
  lawLiftedD (C := Tryz.checked) Rows.fnBasketsRow.laid [.one (.sl [.int .u8])] 3 4 (by kernel_rfl) started (by kernel_rfl) Tryz.func3
    (ChangeSpec.witness_shaped (enc := enc) (C := Tryz.checked) (os := os) (X := fun w _ => laidMetH Tryz.prog Rows.fnBasketsRow.laid w) false (doorWorld os) #[.slice none 0 0] 8 rfl (doorShaped os _) (by kernel_rfl) (by kernel_rfl) (by kernel_rfl) (doorMet os _))
    (by kernel_rfl) (by kernel_rfl) (by kernel_rfl) (fun W hs h => doorTabs W hs h) rfl (by kernel_rfl) rfl (fun ds h => match ds, h with | [_], _ => rfl) fun m vs h => by
      obtain ⟨u0, rfl, hv0⟩ := h.one
      obtain ⟨a, xs, rfl, hl0, hr0⟩ := CV.slB hv0
      obtain ⟨v, m', hc, hv⟩ := lawBaskets_c xs a m hr0 hl0
      have hv' : v = .bool true := hv
      exact ⟨m', hv' ▸ hc⟩

theorem fnBasketsRow : Rows.FnBasketsSaid :=
  OpenClaim.holds_of_wide 3 Tryz.f3 rfl rfl rfl rfl rfl rfl rfl ⟨rfl, rfl, rfl, rfl, rfl⟩ rfl rfl rfl rfl rfl (by kernel_rfl) Tryz.func3 (by kernel_rfl)
    (of_decide_eq_true (by kernel_rfl)) (by unfold Func.isWrapper; first | (rw [if_pos (by decide +kernel)]; kernel_rfl) | (rw [if_neg (by decide +kernel)]; exact ⟨rfl, rfl⟩))
    (fun os started H enc _ => fnBasketsLifted os started H enc)

theorem fnBasketsHolds : Rows.FnBasketsCardSaid :=
  Claim7.holds_tied_plain_at .later [] [.data, .data, .data, .data, .pinned] true (true, "10e720fe61af5f1c542e64621a310e16fb0c553425a473b80901386763e875f5") false
    fnBasketsRow (fun _ h => by cases h) (by kernel_rfl) (fun _ h => by cases h) fnBaskets_row_tie rfl ⟨rfl, rfl⟩ (by kernel_rfl) rfl
    (fun f fn hf hfn => by
      obtain rfl : f = 3 := Option.some.inj ((show Tryz.prog.funcNamed Rows.fnBasketsRow.func = some 3 by kernel_rfl).symm.trans hf) |>.symm
      obtain rfl : fn = Tryz.f3 := (Option.some.inj (Tryz.func3.symm.trans hfn)).symm
      exact ⟨by kernel_rfl, fun j t ht => by
        have hall : (Tryz.f3.params.toList.all fun u => !Tryz.prog.wantsStandIn u) = true := by kernel_rfl
        have hm : t ∈ Tryz.f3.params.toList := by simpa using Array.mem_of_getElem? ht
        exact (show Tryz.prog.wantsStandIn t = false by simpa using List.all_eq_true.1 hall t hm)⟩)
    (by kernel_rfl)
end Go.Proofs.YtmbijgnmbapchaaGreatDoor
