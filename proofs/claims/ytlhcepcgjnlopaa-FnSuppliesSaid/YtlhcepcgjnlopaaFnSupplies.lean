/-
  'FnSupplies': no drawn rods that reach far enough leave less over than the told ones, taken rods are missing in stock, and rounds are those of all rods. Conditions: none.
-/
import Derived.Test.YtlhcepcgjnlopaaKinJ
set_option linter.unusedSimpArgs false
set_option linter.unusedVariables false
set_option linter.unusedSectionVars false
namespace Go.Proofs.Ytlhcepcgjnlopaa
open Go.Abs Go.RowKit Go.Law

def IsT (v : Value) (_ : Mem) : Prop := v = .bool true
theorem reachTo_hv {ks : List I2} {k : Nat} (h : k < ks.length) : allW (ks.take (k + 1)) = w64 (allW (ks.take k) + w64 (ks[k].2 * ks[k].1)) := by
  rw [Int.mul_comm]; exact fold_take _ _ h
set_option maxRecDepth 20000 in
set_option maxHeartbeats 1600000 in
theorem lawSupplies_c (xs : List Int) (a : Option Addr) (ys : List Int) (b : Option Addr) (m : Mem) (hr0 : RdB m a xs) (hm0 : xs.length ≤ maxLen) (hr1 : RdB m b ys) (hm1 : ys.length ≤ maxLen) :
    ∃ v m', ACalls Try.prog 12 [.slice a xs.length xs.length, .slice b ys.length ys.length] m v m' ∧ IsT v m' := by
  refine ecalls_of_vc Try.func12 rfl Try.fol (by kernel_rfl) ?_
  simp only [Try.f12]
  simp -dsimp -implicitDefEqProofs
  refine callsTo Try.cal40 (a2Long_c a b _ _ _) ?_
  simp -dsimp -implicitDefEqProofs
  by_cases hlong : (3000 : Int) < xs.length ∨ (3000 : Int) < ys.length
  · have h1 : (decide ((3000 : Int) < xs.length) || decide ((3000 : Int) < ys.length)) = true := by simpa using hlong
    simp -dsimp -implicitDefEqProofs [h1]
    exact ⟨_, _, GC.refl _ _ _, rfl⟩
  have h1 : (decide ((3000 : Int) < xs.length) || decide ((3000 : Int) < ys.length)) = false := by simp; omega
  simp -dsimp -implicitDefEqProofs [h1]
  obtain ⟨vk, m0, hck, ks, id, hks, rfl, hp1, hid, ok, hok, hok1, hok2, hok3, hok4⟩ := a2Kinds_c a xs m hr0 (by omega)
  refine callsTo Try.cal41 hck ?_
  simp -dsimp -implicitDefEqProofs [h1]
  have hr1' : RdB m0 b ys := ⟨hr1.1.pre hp1, hr1.2⟩
  obtain ⟨vn, m1, hcn, n, rfl, hn, hmn⟩ := a2At_c b ys 0 100 m0 hr1' (by omega) (by omega) (by omega)
  subst hmn
  refine callsTo Try.cal42 hcn ?_
  simp -dsimp -implicitDefEqProofs [h1]
  have hg2 : ∀ x, (v2 x).length = 2 := fun _ => rfl
  have hrk : RdG v2 2 m1 (some ⟨id, 0, none⟩) ks := RdG.of_get hg2 ks hok hok2 hok3 hok4
  have hlk : ks.length ≤ 1048576 := by have := hks.2.1; omega
  have hcode : codeK ks n = 0 := by simp [codeK, hks.1, inB]; omega
  obtain ⟨eA, hA0, hA1⟩ := allW_eq hks
  have hblk : ∀ (l : Mem) (x : Addr), some (⟨id, 0, none⟩ : Addr) = some x → x.block < (m1 ++ l).length := fun l x hx => by injection hx with hx; subst hx; have := lt_of_get hok; simp; omega
  have hallV : allV ks = .tuple #[.int .i64 (reachT ks (hv ks)), .int .i64 0] := by simp [allV, hks.1, eA]
  have hLO := implOver_c ks (some ⟨id, 0, none⟩) n m1 hrk hlk (by simpa using hblk [])
  have hbnd := hks.bounds
  have hkpos : ∀ k ∈ ks, 0 ≤ k.1 := fun k hk => by have := (hbnd k hk).1; omega
  obtain ⟨hw64, hway0, hwayp⟩ := ways_pos hks (n := n)
  have hwaysV : waysV ks n = .tuple #[.int .i64 (searchT ks n true).ways, .int .i64 0] := by simp [waysV, hcode, hw64]
  cases hbest : (searchT ks n false).best with
  | none =>
    have hlt := best_none hks hbest
    have hV : bestV m1.length ks n false = .tuple #[.slice none 0 0, .int .i64 0, .int .i64 3] := by simp [bestV, bestO, bestN, bestC, hcode, hbest, optV]
    have hM : optM 2 (bestO ks n false) = [] := by simp [bestO, hcode, hbest, optM]
    have hcmp : ¬ (n ≤ reachT ks (hv ks)) := by omega
    have hW : (searchT ks n true).ways = 0 := by
      have : ¬ 0 < (searchT ks n true).ways := fun h => by
        obtain ⟨zs, hz1, hz2⟩ := hwayp.1 h
        have := reach_le hkpos hz1
        omega
      omega
    rw [hW] at hwaysV
    rw [hV, hM] at hLO
    refine callsTo Try.cal39 hLO ?_
    simp -dsimp -implicitDefEqProofs [h1, hcmp]
    have hrk1 : RdG v2 2 m1 (some ⟨id, 0, none⟩) ks := hrk
    refine callsTo Try.cal21 (hallV ▸ implAll_c ks _ _ hrk1 hlk) ?_
    simp -dsimp -implicitDefEqProofs [h1, hcmp]
    have hr2' : RdB m1 b ys := hr1'
    obtain ⟨vz, m3, hcz, zs, zid, ⟨hzl, hzb⟩, rfl, hp3, hzid, oz, hoz, hoz1, hoz2, hoz3, hoz4⟩ := a2Taken_c b ys ks hks (some ⟨id, 0, none⟩) m1 hr2' (by omega) hrk1 (by simpa using hblk [])
    refine callsTo Try.cal43 hcz ?_
    simp -dsimp -implicitDefEqProofs [h1, hcmp]
    have hrk3 : RdG v2 2 m3 (some ⟨id, 0, none⟩) ks := hrk1.pre hp3
    have hrz3 : RdI m3 (some ⟨zid, 0, none⟩) zs := RdI.of_get hoz hoz2 hoz3 hoz4
    have htz : takenC ks zs = 0 := takenC_ok hks.1 hzl hzb
    have hwz : Within (hv ks) zs := within_of hzl hzb
    have hfz : FewT zs := Within.few hwz (fun h hh => (hv_nonneg hks.1 h hh).2)
    have hrV : reachV ks zs = .tuple #[.int .i64 (reachT ks zs), .int .i64 0] := by simp [reachV, htz, reachW_eq hks.1 hzl hfz]
    refine callsTo Try.cal26 (hrV ▸ implReach_c ks zs _ _ _ hrk3 hrz3 (by omega) hlk) ?_
    simp -dsimp -implicitDefEqProofs [h1, hcmp]
    refine loopN ks.length (fun k σ m' => m' = m3 ∧ (σ 1 = some (.slice b ys.length ys.length) ∧ σ 5 = some (.slice (some ⟨id, 0, none⟩) ks.length ks.length) ∧ σ 6 = some (.int .i64 n) ∧ σ 7 = some (.slice none 0 0) ∧ σ 8 = some (.int .i64 (0)) ∧ σ 9 = some (.int .i64 3) ∧ σ 10 = some (.int .i64 (reachT ks (hv ks))) ∧
        σ 12 = some (.slice (some ⟨zid, 0, none⟩) zs.length zs.length) ∧ σ 13 = some (.int .i64 (reachT ks zs))) ∧ σ 15 = some (.int .i64 (reachTo ks zs k)) ∧ σ 16 = some (.int .i64 (allW (ks.take k))) ∧ σ 17 = some (.int .i64 k)) ⟨rfl, by simp, by simp [reachTo], by simp [allW], by simp⟩ ?_
    rintro k σ m' hk ⟨hmm, ⟨s1, s5, s6, s7, s8, s9, s10, s12, s13⟩, s15, s16, s17⟩
    have hmm := hmm.symm
    subst hmm
    by_cases hlt1 : k < ks.length
    · have hlt2 : k < zs.length := by omega
      obtain ⟨kid, koff, ko, hke, hkm, hkk, hksz, hkl, hkrow, hkc0, hkc1⟩ := R2.at_ hrk3 hlt1
      injection hke with hke
      injection hke with hke1 hke2
      subst hke1; subst hke2
      obtain ⟨iid, ioff, io, hie, him, hik, hisz, hic⟩ := hrz3.at_ hlt2
      injection hie with hie
      injection hie with hie1 hie2
      subst hie1; subst hie2
      simp only [Nat.zero_add] at hic hkc0 hkc1
      have hwk : IntKind.i64.wrap ((k : Int) + 1) = k + 1 := wrapI (by omega) (by omega)
      simp -dsimp -implicitDefEqProofs [s1, s5, s6, s7, s8, s9, s10, s12, s13, s15, s16, s17, hlt1, hlt2, withO_of hkm, hkk, hksz, withC_of hkc0, withC_of hkc1, withO_of him, hik, hisz, withC_of hic, hwk]
      refine next_ hlt1 ⟨rfl, by simp [s1, s5, s6, s7, s8, s9, s10, s12, s13], by simp [reachTo_succ hlt2 hlt1], by simp [reachTo_hv hlt1], by simp [hwk]⟩
    have hkl : k = ks.length := by omega
    subst hkl
    have hsum : reachTo ks zs ks.length = reachT ks zs := by rw [← hzl]; exact reachW_eq hks.1 hzl hfz
    have hwhole : allW (ks.take ks.length) = reachT ks (hv ks) := by rw [List.take_length, eA]
    rw [hsum] at s15
    rw [hwhole] at s16
    simp -dsimp -implicitDefEqProofs [s1, s5, s6, s7, s8, s9, s10, s12, s13, s15, s16, s17, hcmp]
    refine callsTo Try.cal34 (hwaysV ▸ implWays_c ks _ n _ hrk3 hlk (fun x hx => by injection hx with hx; subst hx; exact (List.getElem?_eq_some_iff.1 (prefix_get hp3 hok)).1)) ?_
    simp -dsimp -implicitDefEqProofs [s1, s5, s6, s7, s8, s9, s10, s12, s13, s15, s16, s17, hcmp]
    have htO : takeO ks zs = some (takeL ks zs) := by simp [takeO, htz]
    have hTk := implTake_c ks zs id 0 _ m3 hrk3 hrz3 (by omega) hlk
    rw [htO, htz] at hTk
    simp only [optVG, optMG] at hTk
    refine callsTo Try.cal29 hTk ?_
    simp -dsimp -implicitDefEqProofs [s1, s5, s6, s7, s8, s9, s10, s12, s13, s15, s16, s17, hcmp]
    have hr4 : RdB (m3 ++ [⟨((takeL ks zs).map v2).flatten, 51, 2, 2⟩]) b ys := ⟨(hr2'.1.pre hp3).ext _, hr2'.2⟩
    obtain ⟨vs, m4, hcs, st, rfl, hst, hm4⟩ := a2At_c b ys 1 20 _ hr4 (by omega) (by omega) (by omega)
    have hm4 := hm4.symm
    subst hm4
    refine callsTo Try.cal42 hcs ?_
    simp -dsimp -implicitDefEqProofs [s1, s5, s6, s7, s8, s9, s10, s12, s13, s15, s16, s17, hcmp]
    have hw3 : IntKind.i64.wrap (3 + st) = 3 + st := wrapI (by omega) (by omega)
    have hstk : inB (3 + st) 3 60 = true := by simp [inB]; omega
    have hRC : roundsC ks (3 + st) = 0 := by simp [roundsC, hks.1, hstk]
    obtain ⟨rd, hrd⟩ : ∃ rd : Int, rd = reachT ks (hv ks) / (3 + st) := ⟨_, rfl⟩
    have hd1 : rd * (3 + st) ≤ reachT ks (hv ks) := by rw [hrd]; exact Int.ediv_mul_le _ (by omega)
    have hd2 : reachT ks (hv ks) < (rd + 1) * (3 + st) := by rw [hrd]; exact Int.lt_ediv_add_one_mul_self _ (by omega)
    have hd0 : 0 ≤ rd := by rw [hrd]; exact Int.ediv_nonneg hA0 (by omega)
    have hd3 : rd ≤ 504 := by
      have : rd * 1 ≤ rd * (3 + st) := Int.mul_le_mul_of_nonneg_left (by omega) hd0
      omega
    have hRV : roundsV ks (3 + st) = .tuple #[.int .i64 rd, .int .i64 0] := by
      have : (allW ks).tdiv (3 + st) = rd := by rw [eA, hrd, Int.tdiv_eq_ediv_of_nonneg hA0]
      simp only [roundsV, hRC, this, if_true]
      unfold w64
      rw [wrapI (by omega) (by omega)]
    have hd2' : (rd + 1) * (3 + st) ≤ 505 * 22 := Int.mul_le_mul (by omega) (by omega) (by omega) (by omega)
    have hq0 : 0 ≤ rd * (3 + st) := Int.mul_nonneg hd0 (by omega)
    have hq1 : 0 ≤ (rd + 1) * (3 + st) := Int.mul_nonneg (by omega) (by omega)
    have hx1 : IntKind.i64.wrap (rd * (3 + st)) = rd * (3 + st) := wrapI (by omega) (by omega)
    have hx2 : IntKind.i64.wrap (rd + 1) = rd + 1 := wrapI (by omega) (by omega)
    have hx3 : IntKind.i64.wrap ((rd + 1) * (3 + st)) = (rd + 1) * (3 + st) := wrapI (by omega) (by omega)
    have hy1 : ¬ (rd < 0) := by omega
    have hy2 : ¬ (1000 < rd) := by omega
    have hy3 : ¬ (reachT ks (hv ks) < rd * (3 + st)) := by omega
    have hy4 : ¬ ((rd + 1) * (3 + st) ≤ reachT ks (hv ks)) := by omega
    have hlT := takeL_length hzl
    simp -dsimp -implicitDefEqProofs [s1, s5, s6, s7, s8, s9, s10, s12, s13, s15, s16, s17, hcmp, hw3, hx1, hx2, hx3, hy1, hy2, hy3, hy4, hlT]
    refine callsTo Try.cal23 (hRV ▸ implRounds_c ks _ (3 + st) _ (hrk3.ext _) hlk) ?_
    simp -dsimp -implicitDefEqProofs [s1, s5, s6, s7, s8, s9, s10, s12, s13, s15, s16, s17, hcmp, hw3, hx1, hx2, hx3, hy1, hy2, hy3, hy4, hlT]
    have hrk5 : RdG v2 2 (m3 ++ [⟨((takeL ks zs).map v2).flatten, 51, 2, 2⟩]) (some ⟨id, 0, none⟩) ks := hrk3.ext _
    have hrz5 : RdI (m3 ++ [⟨((takeL ks zs).map v2).flatten, 51, 2, 2⟩]) (some ⟨zid, 0, none⟩) zs := hrz3.ext _
    have hrt5 : RdG v2 2 (m3 ++ [⟨((takeL ks zs).map v2).flatten, 51, 2, 2⟩]) (some ⟨m3.length, 0, none⟩) (takeL ks zs) := RdG.of_get hg2 (o := ⟨_, _, 2, 2⟩) (takeL ks zs) (by simp; rfl) (by simp) rfl rfl
    generalize (m3 ++ [(⟨((takeL ks zs).map v2).flatten, 51, 2, 2⟩ : AObj)]) = m5 at hrk5 hrz5 hrt5 ⊢
    refine loopN ks.length (fun k σ m' => m' = m5 ∧ (σ 5 = some (.slice (some ⟨id, 0, none⟩) ks.length ks.length) ∧ σ 12 = some (.slice (some ⟨zid, 0, none⟩) zs.length zs.length) ∧ σ 22 = some (.slice (some ⟨m3.length, 0, none⟩) (takeL ks zs).length (takeL ks zs).length)) ∧ σ 27 = some (.int .i64 k)) ⟨rfl, by simp [s5, s12, hlT], by simp⟩ ?_
    rintro k σ m' hk ⟨hmm, ⟨s5, s12, s22⟩, s27⟩
    have hmm := hmm.symm
    subst hmm
    by_cases hlt1 : k < ks.length
    · have hlt2 : k < zs.length := by omega
      have hlt3 : k < (takeL ks zs).length := by omega
      obtain ⟨kid, koff, ko, hke, hkm, hkk, hksz, hkl, hkrow, hkc0, hkc1⟩ := R2.at_ hrk5 hlt1
      injection hke with hke
      injection hke with hke1 hke2
      subst hke1; subst hke2
      obtain ⟨iid, ioff, io, hie, him, hik, hisz, hic⟩ := hrz5.at_ hlt2
      injection hie with hie
      injection hie with hie1 hie2
      subst hie1; subst hie2
      obtain ⟨tid, toff, to_, hte, htm, htk, htsz, htl, htrow, htc0, htc1⟩ := R2.at_ hrt5 hlt3
      injection hte with hte
      injection hte with hte1 hte2
      subst hte1; subst hte2
      rw [takeL_get hlt3 hlt1 hlt2] at htc0 htc1
      simp only [Nat.zero_add] at hic hkc0 hkc1 htc0 htc1
      have hwk : IntKind.i64.wrap ((k : Int) + 1) = k + 1 := wrapI (by omega) (by omega)
      simp -dsimp -implicitDefEqProofs [s5, s12, s22, s27, hlt1, hlt2, hlt3, withO_of hkm, hkk, hksz, withC_of hkc0, withC_of hkc1, withO_of him, hik, hisz, withC_of hic, withO_of htm, htk, htsz, withC_of htc0, withC_of htc1, hwk]
      exact next_ hlt1 ⟨rfl, by simp [s5, s12, s22], by simp [hwk]⟩
    · have hlt3 : ¬ k < (takeL ks zs).length := by omega
      simp -dsimp -implicitDefEqProofs [s5, s12, s22, s27, hlt3]
      exact ⟨_, _, GC.refl _ _ _, rfl⟩

  | some bs =>
    obtain ⟨hb1, hb2, hb3, hb4⟩ := best_some hks hbest
    have hover : w64 (reachT ks bs - n) = reachT ks bs - n := by unfold w64; exact wrapI (by omega) (by omega)
    have hV : bestV m1.length ks n false = .tuple #[.slice (some ⟨m1.length, 0, none⟩) bs.length bs.length, .int .i64 (reachT ks bs - n), .int .i64 0] := by simp [bestV, bestO, bestN, bestC, hcode, hbest, optV, hover]
    have hM : optM 2 (bestO ks n false) = [⟨bs.map (Value.int .i64), 2, 1, 2⟩] := by simp [bestO, hcode, hbest, optM]
    have hcmp : n ≤ reachT ks (hv ks) := by omega
    rw [hV, hM] at hLO
    refine callsTo Try.cal39 hLO ?_
    simp -dsimp -implicitDefEqProofs [h1, hcmp]
    have hrk1 : RdG v2 2 (m1 ++ [⟨bs.map (Value.int .i64), 2, 1, 2⟩]) (some ⟨id, 0, none⟩) ks := (hrk.ext _)
    refine callsTo Try.cal21 (hallV ▸ implAll_c ks _ _ hrk1 hlk) ?_
    simp -dsimp -implicitDefEqProofs [h1, hcmp]
    have hr2' : RdB (m1 ++ [⟨bs.map (Value.int .i64), 2, 1, 2⟩]) b ys := ⟨hr1'.1.ext _, hr1'.2⟩
    obtain ⟨vz, m3, hcz, zs, zid, ⟨hzl, hzb⟩, rfl, hp3, hzid, oz, hoz, hoz1, hoz2, hoz3, hoz4⟩ := a2Taken_c b ys ks hks (some ⟨id, 0, none⟩) (m1 ++ [⟨bs.map (Value.int .i64), 2, 1, 2⟩]) hr2' (by omega) hrk1 (by simpa using hblk [⟨bs.map (Value.int .i64), 2, 1, 2⟩])
    refine callsTo Try.cal43 hcz ?_
    simp -dsimp -implicitDefEqProofs [h1, hcmp]
    have hrk3 : RdG v2 2 m3 (some ⟨id, 0, none⟩) ks := hrk1.pre hp3
    have hrz3 : RdI m3 (some ⟨zid, 0, none⟩) zs := RdI.of_get hoz hoz2 hoz3 hoz4
    have htz : takenC ks zs = 0 := takenC_ok hks.1 hzl hzb
    have hwz : Within (hv ks) zs := within_of hzl hzb
    have hfz : FewT zs := Within.few hwz (fun h hh => (hv_nonneg hks.1 h hh).2)
    have hrV : reachV ks zs = .tuple #[.int .i64 (reachT ks zs), .int .i64 0] := by simp [reachV, htz, reachW_eq hks.1 hzl hfz]
    refine callsTo Try.cal26 (hrV ▸ implReach_c ks zs _ _ _ hrk3 hrz3 (by omega) hlk) ?_
    simp -dsimp -implicitDefEqProofs [h1, hcmp]
    refine loopN ks.length (fun k σ m' => m' = m3 ∧ (σ 1 = some (.slice b ys.length ys.length) ∧ σ 5 = some (.slice (some ⟨id, 0, none⟩) ks.length ks.length) ∧ σ 6 = some (.int .i64 n) ∧ σ 7 = some (.slice (some ⟨m1.length, 0, none⟩) bs.length bs.length) ∧ σ 8 = some (.int .i64 (reachT ks bs - n)) ∧ σ 9 = some (.int .i64 0) ∧ σ 10 = some (.int .i64 (reachT ks (hv ks))) ∧
        σ 12 = some (.slice (some ⟨zid, 0, none⟩) zs.length zs.length) ∧ σ 13 = some (.int .i64 (reachT ks zs))) ∧ σ 15 = some (.int .i64 (reachTo ks zs k)) ∧ σ 16 = some (.int .i64 (allW (ks.take k))) ∧ σ 17 = some (.int .i64 k)) ⟨rfl, by simp, by simp [reachTo], by simp [allW], by simp⟩ ?_
    rintro k σ m' hk ⟨hmm, ⟨s1, s5, s6, s7, s8, s9, s10, s12, s13⟩, s15, s16, s17⟩
    have hmm := hmm.symm
    subst hmm
    by_cases hlt1 : k < ks.length
    · have hlt2 : k < zs.length := by omega
      obtain ⟨kid, koff, ko, hke, hkm, hkk, hksz, hkl, hkrow, hkc0, hkc1⟩ := R2.at_ hrk3 hlt1
      injection hke with hke
      injection hke with hke1 hke2
      subst hke1; subst hke2
      obtain ⟨iid, ioff, io, hie, him, hik, hisz, hic⟩ := hrz3.at_ hlt2
      injection hie with hie
      injection hie with hie1 hie2
      subst hie1; subst hie2
      simp only [Nat.zero_add] at hic hkc0 hkc1
      have hwk : IntKind.i64.wrap ((k : Int) + 1) = k + 1 := wrapI (by omega) (by omega)
      simp -dsimp -implicitDefEqProofs [s1, s5, s6, s7, s8, s9, s10, s12, s13, s15, s16, s17, hlt1, hlt2, withO_of hkm, hkk, hksz, withC_of hkc0, withC_of hkc1, withO_of him, hik, hisz, withC_of hic, hwk]
      refine next_ hlt1 ⟨rfl, by simp [s1, s5, s6, s7, s8, s9, s10, s12, s13], by simp [reachTo_succ hlt2 hlt1], by simp [reachTo_hv hlt1], by simp [hwk]⟩
    have hkl : k = ks.length := by omega
    subst hkl
    have hsum : reachTo ks zs ks.length = reachT ks zs := by rw [← hzl]; exact reachW_eq hks.1 hzl hfz
    have hwhole : allW (ks.take ks.length) = reachT ks (hv ks) := by rw [List.take_length, eA]
    rw [hsum] at s15
    rw [hwhole] at s16
    have hrb3 : RdI m3 (some ⟨m1.length, 0, none⟩) bs := RdI.of_get (o := ⟨bs.map (Value.int .i64), 2, 1, 2⟩) (prefix_get hp3 (by simp)) (by simp) rfl rfl
    have hbl : bs.length = ks.length := by have := within_length hb1; rw [hv_length] at this; exact this
    have htb : takenC ks bs = 0 := takenC_ok hks.1 hbl (within_get hb1)
    have hfb : FewT bs := Within.few hb1 (fun h hh => (hv_nonneg hks.1 h hh).2)
    have hrVb : reachV ks bs = .tuple #[.int .i64 (reachT ks bs), .int .i64 0] := by simp [reachV, htb, reachW_eq hks.1 hbl hfb]
    have hov0 : ¬ (reachT ks bs - n < 0) := by omega
    have hov1 : ¬ (reachT ks bs < n) := by omega
    have hsm : IntKind.i64.wrap (n + (reachT ks bs - n)) = reachT ks bs := by rw [wrapI (by omega) (by omega)]; omega
    simp -dsimp -implicitDefEqProofs [s1, s5, s6, s7, s8, s9, s10, s12, s13, s15, s16, s17, hov0, hov1, hsm]
    refine callsTo Try.cal24 (hrVb ▸ specReach_c ks bs _ _ _ hrk3 hrb3 (by omega) hlk) ?_
    simp -dsimp -implicitDefEqProofs [s1, s5, s6, s7, s8, s9, s10, s12, s13, s15, s16, s17, hov0, hov1, hsm]
    have hway : (decide (0 < (searchT ks n true).ways) = (reachT ks bs - n == 0)) := by
      by_cases he : reachT ks bs = n
      · have := hwayp.2 ⟨bs, hb1, he⟩
        simp [this]; omega
      · have : ¬ 0 < (searchT ks n true).ways := fun h => by
          obtain ⟨us, hu1, hu2⟩ := hwayp.1 h
          have := hb4 us hu1 (by omega)
          omega
        simp [this]; omega
    have hwn : ¬ ((searchT ks n true).ways < 0) := by omega
    have hcl : n ≤ reachT ks zs → ¬ (reachT ks zs < reachT ks bs) := fun h => by have := hb4 zs hwz h; omega
    have hwc : ∀ (A B C : Prop), (n ≤ reachT ks zs → split2 (decide (reachT ks zs < reachT ks bs)) A B) = (n ≤ reachT ks zs → B) := fun A B C => propext ⟨fun h g => (h g).2 (by simpa using hcl g), fun h g => ⟨fun g2 => absurd (by simpa using g2) (hcl g), fun _ => h g⟩⟩
    refine sp2 (fun g => ?_) (fun g => ?_)
    · have hcl2 := hcl (by simpa using g)
      simp -dsimp -implicitDefEqProofs [s1, s5, s6, s7, s8, s9, s10, s12, s13, s15, s16, s17, hov0, hov1, hsm, hcl2]
      refine callsTo Try.cal34 (hwaysV ▸ implWays_c ks _ n _ hrk3 hlk (fun x hx => by injection hx with hx; subst hx; exact (List.getElem?_eq_some_iff.1 (prefix_get hp3 (get_old hok))).1)) ?_
      simp -dsimp -implicitDefEqProofs [s1, s5, s6, s7, s8, s9, s10, s12, s13, s15, s16, s17, hov0, hov1, hsm, hcl2]
      simp -dsimp -implicitDefEqProofs [s1, s5, s6, s7, s8, s9, s10, s12, s13, s15, s16, s17, hov0, hov1, hsm, hcl2, hwn, hway]
      have htO : takeO ks zs = some (takeL ks zs) := by simp [takeO, htz]
      have hTk := implTake_c ks zs id 0 _ m3 hrk3 hrz3 (by omega) hlk
      rw [htO, htz] at hTk
      simp only [optVG, optMG] at hTk
      refine callsTo Try.cal29 hTk ?_
      simp -dsimp -implicitDefEqProofs [s1, s5, s6, s7, s8, s9, s10, s12, s13, s15, s16, s17, hov0, hov1, hsm, hcl2, hwn, hway]
      have hr4 : RdB (m3 ++ [⟨((takeL ks zs).map v2).flatten, 51, 2, 2⟩]) b ys := ⟨(hr2'.1.pre hp3).ext _, hr2'.2⟩
      obtain ⟨vs, m4, hcs, st, rfl, hst, hm4⟩ := a2At_c b ys 1 20 _ hr4 (by omega) (by omega) (by omega)
      have hm4 := hm4.symm
      subst hm4
      refine callsTo Try.cal42 hcs ?_
      simp -dsimp -implicitDefEqProofs [s1, s5, s6, s7, s8, s9, s10, s12, s13, s15, s16, s17, hov0, hov1, hsm, hcl2, hwn, hway]
      have hw3 : IntKind.i64.wrap (3 + st) = 3 + st := wrapI (by omega) (by omega)
      have hstk : inB (3 + st) 3 60 = true := by simp [inB]; omega
      have hRC : roundsC ks (3 + st) = 0 := by simp [roundsC, hks.1, hstk]
      obtain ⟨rd, hrd⟩ : ∃ rd : Int, rd = reachT ks (hv ks) / (3 + st) := ⟨_, rfl⟩
      have hd1 : rd * (3 + st) ≤ reachT ks (hv ks) := by rw [hrd]; exact Int.ediv_mul_le _ (by omega)
      have hd2 : reachT ks (hv ks) < (rd + 1) * (3 + st) := by rw [hrd]; exact Int.lt_ediv_add_one_mul_self _ (by omega)
      have hd0 : 0 ≤ rd := by rw [hrd]; exact Int.ediv_nonneg hA0 (by omega)
      have hd3 : rd ≤ 504 := by
        have : rd * 1 ≤ rd * (3 + st) := Int.mul_le_mul_of_nonneg_left (by omega) hd0
        omega
      have hRV : roundsV ks (3 + st) = .tuple #[.int .i64 rd, .int .i64 0] := by
        have : (allW ks).tdiv (3 + st) = rd := by rw [eA, hrd, Int.tdiv_eq_ediv_of_nonneg hA0]
        simp only [roundsV, hRC, this, if_true]
        unfold w64
        rw [wrapI (by omega) (by omega)]
      have hd2' : (rd + 1) * (3 + st) ≤ 505 * 22 := Int.mul_le_mul (by omega) (by omega) (by omega) (by omega)
      have hq0 : 0 ≤ rd * (3 + st) := Int.mul_nonneg hd0 (by omega)
      have hq1 : 0 ≤ (rd + 1) * (3 + st) := Int.mul_nonneg (by omega) (by omega)
      have hx1 : IntKind.i64.wrap (rd * (3 + st)) = rd * (3 + st) := wrapI (by omega) (by omega)
      have hx2 : IntKind.i64.wrap (rd + 1) = rd + 1 := wrapI (by omega) (by omega)
      have hx3 : IntKind.i64.wrap ((rd + 1) * (3 + st)) = (rd + 1) * (3 + st) := wrapI (by omega) (by omega)
      have hy1 : ¬ (rd < 0) := by omega
      have hy2 : ¬ (1000 < rd) := by omega
      have hy3 : ¬ (reachT ks (hv ks) < rd * (3 + st)) := by omega
      have hy4 : ¬ ((rd + 1) * (3 + st) ≤ reachT ks (hv ks)) := by omega
      have hlT := takeL_length hzl
      simp -dsimp -implicitDefEqProofs [s1, s5, s6, s7, s8, s9, s10, s12, s13, s15, s16, s17, hov0, hov1, hsm, hcl2, hwn, hway, hw3, hx1, hx2, hx3, hy1, hy2, hy3, hy4, hlT]
      refine callsTo Try.cal23 (hRV ▸ implRounds_c ks _ (3 + st) _ (hrk3.ext _) hlk) ?_
      simp -dsimp -implicitDefEqProofs [s1, s5, s6, s7, s8, s9, s10, s12, s13, s15, s16, s17, hov0, hov1, hsm, hcl2, hwn, hway, hw3, hx1, hx2, hx3, hy1, hy2, hy3, hy4, hlT]
      have hrk5 : RdG v2 2 (m3 ++ [⟨((takeL ks zs).map v2).flatten, 51, 2, 2⟩]) (some ⟨id, 0, none⟩) ks := hrk3.ext _
      have hrz5 : RdI (m3 ++ [⟨((takeL ks zs).map v2).flatten, 51, 2, 2⟩]) (some ⟨zid, 0, none⟩) zs := hrz3.ext _
      have hrt5 : RdG v2 2 (m3 ++ [⟨((takeL ks zs).map v2).flatten, 51, 2, 2⟩]) (some ⟨m3.length, 0, none⟩) (takeL ks zs) := RdG.of_get hg2 (o := ⟨_, _, 2, 2⟩) (takeL ks zs) (by simp; rfl) (by simp) rfl rfl
      generalize (m3 ++ [(⟨((takeL ks zs).map v2).flatten, 51, 2, 2⟩ : AObj)]) = m5 at hrk5 hrz5 hrt5 ⊢
      refine loopN ks.length (fun k σ m' => m' = m5 ∧ (σ 5 = some (.slice (some ⟨id, 0, none⟩) ks.length ks.length) ∧ σ 12 = some (.slice (some ⟨zid, 0, none⟩) zs.length zs.length) ∧ σ 22 = some (.slice (some ⟨m3.length, 0, none⟩) (takeL ks zs).length (takeL ks zs).length)) ∧ σ 27 = some (.int .i64 k)) ⟨rfl, by simp [s5, s12, hlT], by simp⟩ ?_
      rintro k σ m' hk ⟨hmm, ⟨s5, s12, s22⟩, s27⟩
      have hmm := hmm.symm
      subst hmm
      by_cases hlt1 : k < ks.length
      · have hlt2 : k < zs.length := by omega
        have hlt3 : k < (takeL ks zs).length := by omega
        obtain ⟨kid, koff, ko, hke, hkm, hkk, hksz, hkl, hkrow, hkc0, hkc1⟩ := R2.at_ hrk5 hlt1
        injection hke with hke
        injection hke with hke1 hke2
        subst hke1; subst hke2
        obtain ⟨iid, ioff, io, hie, him, hik, hisz, hic⟩ := hrz5.at_ hlt2
        injection hie with hie
        injection hie with hie1 hie2
        subst hie1; subst hie2
        obtain ⟨tid, toff, to_, hte, htm, htk, htsz, htl, htrow, htc0, htc1⟩ := R2.at_ hrt5 hlt3
        injection hte with hte
        injection hte with hte1 hte2
        subst hte1; subst hte2
        rw [takeL_get hlt3 hlt1 hlt2] at htc0 htc1
        simp only [Nat.zero_add] at hic hkc0 hkc1 htc0 htc1
        have hwk : IntKind.i64.wrap ((k : Int) + 1) = k + 1 := wrapI (by omega) (by omega)
        simp -dsimp -implicitDefEqProofs [s5, s12, s22, s27, hlt1, hlt2, hlt3, withO_of hkm, hkk, hksz, withC_of hkc0, withC_of hkc1, withO_of him, hik, hisz, withC_of hic, withO_of htm, htk, htsz, withC_of htc0, withC_of htc1, hwk]
        exact next_ hlt1 ⟨rfl, by simp [s5, s12, s22], by simp [hwk]⟩
      · have hlt3 : ¬ k < (takeL ks zs).length := by omega
        simp -dsimp -implicitDefEqProofs [s5, s12, s22, s27, hlt3]
        exact ⟨_, _, GC.refl _ _ _, rfl⟩
    · refine callsTo Try.cal34 (hwaysV ▸ implWays_c ks _ n _ hrk3 hlk (fun x hx => by injection hx with hx; subst hx; exact (List.getElem?_eq_some_iff.1 (prefix_get hp3 (get_old hok))).1)) ?_
      simp -dsimp -implicitDefEqProofs [s1, s5, s6, s7, s8, s9, s10, s12, s13, s15, s16, s17, hov0, hov1, hsm]
      simp -dsimp -implicitDefEqProofs [s1, s5, s6, s7, s8, s9, s10, s12, s13, s15, s16, s17, hov0, hov1, hsm, hwn, hway]
      have htO : takeO ks zs = some (takeL ks zs) := by simp [takeO, htz]
      have hTk := implTake_c ks zs id 0 _ m3 hrk3 hrz3 (by omega) hlk
      rw [htO, htz] at hTk
      simp only [optVG, optMG] at hTk
      refine callsTo Try.cal29 hTk ?_
      simp -dsimp -implicitDefEqProofs [s1, s5, s6, s7, s8, s9, s10, s12, s13, s15, s16, s17, hov0, hov1, hsm, hwn, hway]
      have hr4 : RdB (m3 ++ [⟨((takeL ks zs).map v2).flatten, 51, 2, 2⟩]) b ys := ⟨(hr2'.1.pre hp3).ext _, hr2'.2⟩
      obtain ⟨vs, m4, hcs, st, rfl, hst, hm4⟩ := a2At_c b ys 1 20 _ hr4 (by omega) (by omega) (by omega)
      have hm4 := hm4.symm
      subst hm4
      refine callsTo Try.cal42 hcs ?_
      simp -dsimp -implicitDefEqProofs [s1, s5, s6, s7, s8, s9, s10, s12, s13, s15, s16, s17, hov0, hov1, hsm, hwn, hway]
      have hw3 : IntKind.i64.wrap (3 + st) = 3 + st := wrapI (by omega) (by omega)
      have hstk : inB (3 + st) 3 60 = true := by simp [inB]; omega
      have hRC : roundsC ks (3 + st) = 0 := by simp [roundsC, hks.1, hstk]
      obtain ⟨rd, hrd⟩ : ∃ rd : Int, rd = reachT ks (hv ks) / (3 + st) := ⟨_, rfl⟩
      have hd1 : rd * (3 + st) ≤ reachT ks (hv ks) := by rw [hrd]; exact Int.ediv_mul_le _ (by omega)
      have hd2 : reachT ks (hv ks) < (rd + 1) * (3 + st) := by rw [hrd]; exact Int.lt_ediv_add_one_mul_self _ (by omega)
      have hd0 : 0 ≤ rd := by rw [hrd]; exact Int.ediv_nonneg hA0 (by omega)
      have hd3 : rd ≤ 504 := by
        have : rd * 1 ≤ rd * (3 + st) := Int.mul_le_mul_of_nonneg_left (by omega) hd0
        omega
      have hRV : roundsV ks (3 + st) = .tuple #[.int .i64 rd, .int .i64 0] := by
        have : (allW ks).tdiv (3 + st) = rd := by rw [eA, hrd, Int.tdiv_eq_ediv_of_nonneg hA0]
        simp only [roundsV, hRC, this, if_true]
        unfold w64
        rw [wrapI (by omega) (by omega)]
      have hd2' : (rd + 1) * (3 + st) ≤ 505 * 22 := Int.mul_le_mul (by omega) (by omega) (by omega) (by omega)
      have hq0 : 0 ≤ rd * (3 + st) := Int.mul_nonneg hd0 (by omega)
      have hq1 : 0 ≤ (rd + 1) * (3 + st) := Int.mul_nonneg (by omega) (by omega)
      have hx1 : IntKind.i64.wrap (rd * (3 + st)) = rd * (3 + st) := wrapI (by omega) (by omega)
      have hx2 : IntKind.i64.wrap (rd + 1) = rd + 1 := wrapI (by omega) (by omega)
      have hx3 : IntKind.i64.wrap ((rd + 1) * (3 + st)) = (rd + 1) * (3 + st) := wrapI (by omega) (by omega)
      have hy1 : ¬ (rd < 0) := by omega
      have hy2 : ¬ (1000 < rd) := by omega
      have hy3 : ¬ (reachT ks (hv ks) < rd * (3 + st)) := by omega
      have hy4 : ¬ ((rd + 1) * (3 + st) ≤ reachT ks (hv ks)) := by omega
      have hlT := takeL_length hzl
      simp -dsimp -implicitDefEqProofs [s1, s5, s6, s7, s8, s9, s10, s12, s13, s15, s16, s17, hov0, hov1, hsm, hwn, hway, hw3, hx1, hx2, hx3, hy1, hy2, hy3, hy4, hlT]
      refine callsTo Try.cal23 (hRV ▸ implRounds_c ks _ (3 + st) _ (hrk3.ext _) hlk) ?_
      simp -dsimp -implicitDefEqProofs [s1, s5, s6, s7, s8, s9, s10, s12, s13, s15, s16, s17, hov0, hov1, hsm, hwn, hway, hw3, hx1, hx2, hx3, hy1, hy2, hy3, hy4, hlT]
      have hrk5 : RdG v2 2 (m3 ++ [⟨((takeL ks zs).map v2).flatten, 51, 2, 2⟩]) (some ⟨id, 0, none⟩) ks := hrk3.ext _
      have hrz5 : RdI (m3 ++ [⟨((takeL ks zs).map v2).flatten, 51, 2, 2⟩]) (some ⟨zid, 0, none⟩) zs := hrz3.ext _
      have hrt5 : RdG v2 2 (m3 ++ [⟨((takeL ks zs).map v2).flatten, 51, 2, 2⟩]) (some ⟨m3.length, 0, none⟩) (takeL ks zs) := RdG.of_get hg2 (o := ⟨_, _, 2, 2⟩) (takeL ks zs) (by simp; rfl) (by simp) rfl rfl
      generalize (m3 ++ [(⟨((takeL ks zs).map v2).flatten, 51, 2, 2⟩ : AObj)]) = m5 at hrk5 hrz5 hrt5 ⊢
      refine loopN ks.length (fun k σ m' => m' = m5 ∧ (σ 5 = some (.slice (some ⟨id, 0, none⟩) ks.length ks.length) ∧ σ 12 = some (.slice (some ⟨zid, 0, none⟩) zs.length zs.length) ∧ σ 22 = some (.slice (some ⟨m3.length, 0, none⟩) (takeL ks zs).length (takeL ks zs).length)) ∧ σ 27 = some (.int .i64 k)) ⟨rfl, by simp [s5, s12, hlT], by simp⟩ ?_
      rintro k σ m' hk ⟨hmm, ⟨s5, s12, s22⟩, s27⟩
      have hmm := hmm.symm
      subst hmm
      by_cases hlt1 : k < ks.length
      · have hlt2 : k < zs.length := by omega
        have hlt3 : k < (takeL ks zs).length := by omega
        obtain ⟨kid, koff, ko, hke, hkm, hkk, hksz, hkl, hkrow, hkc0, hkc1⟩ := R2.at_ hrk5 hlt1
        injection hke with hke
        injection hke with hke1 hke2
        subst hke1; subst hke2
        obtain ⟨iid, ioff, io, hie, him, hik, hisz, hic⟩ := hrz5.at_ hlt2
        injection hie with hie
        injection hie with hie1 hie2
        subst hie1; subst hie2
        obtain ⟨tid, toff, to_, hte, htm, htk, htsz, htl, htrow, htc0, htc1⟩ := R2.at_ hrt5 hlt3
        injection hte with hte
        injection hte with hte1 hte2
        subst hte1; subst hte2
        rw [takeL_get hlt3 hlt1 hlt2] at htc0 htc1
        simp only [Nat.zero_add] at hic hkc0 hkc1 htc0 htc1
        have hwk : IntKind.i64.wrap ((k : Int) + 1) = k + 1 := wrapI (by omega) (by omega)
        simp -dsimp -implicitDefEqProofs [s5, s12, s22, s27, hlt1, hlt2, hlt3, withO_of hkm, hkk, hksz, withC_of hkc0, withC_of hkc1, withO_of him, hik, hisz, withC_of hic, withO_of htm, htk, htsz, withC_of htc0, withC_of htc1, hwk]
        exact next_ hlt1 ⟨rfl, by simp [s5, s12, s22], by simp [hwk]⟩
      · have hlt3 : ¬ k < (takeL ks zs).length := by omega
        simp -dsimp -implicitDefEqProofs [s5, s12, s22, s27, hlt3]
        exact ⟨_, _, GC.refl _ _ _, rfl⟩


set_option maxRecDepth 100000 in
theorem fnSuppliesLifted (os : Os) (started : os.Started) (H : Type) (enc : TypeId × Value → H) :
    ReturnsInHanded {} Try.checked os 12 .any (Rows.fnSuppliesSpec.pre6 enc Try.prog Try.f12 Rows.fnSuppliesRow.domain false) (Rows.fnSuppliesSpec.post enc Try.prog Try.f12 false true false false) :=
  lawLifted (C := Try.checked) [.one (.sl [.int .u8]), .one (.sl [.int .u8])] 3 4 (by kernel_rfl) started (by kernel_rfl) Try.func12
    (ChangeSpec.witness6 (enc := enc) (C := Try.checked) false ⟨#[], #[.slice none 0 0,.slice none 0 0], []⟩ 8 (by kernel_rfl) (by kernel_rfl) (by kernel_rfl) (by kernel_rfl))
    (by kernel_rfl) (by kernel_rfl) (by kernel_rfl) rfl (by kernel_rfl) rfl (fun ds h => match ds, h with | [_, _], _ => rfl) fun m vs h => by
      obtain ⟨u0, u1, rfl, hv0, hv1⟩ := h.two
      obtain ⟨a, xs, rfl, hl0, hr0⟩ := CV.slB hv0
      obtain ⟨b, ys, rfl, hl1, hr1⟩ := CV.slB hv1
      obtain ⟨v, m', hc, hv⟩ := lawSupplies_c xs a ys b m hr0 hl0 hr1 hl1
      have hv' : v = .bool true := hv
      exact ⟨m', hv' ▸ hc⟩

theorem fnSuppliesHolds : Rows.FnSuppliesSaid :=
  OpenClaim.holds_of_wide 12 Try.f12 rfl rfl rfl rfl rfl rfl rfl ⟨rfl, rfl, rfl, rfl, rfl⟩ rfl rfl rfl rfl rfl (by kernel_rfl) Try.func12 (by kernel_rfl)
    (of_decide_eq_true (by kernel_rfl)) (by unfold Func.isWrapper; first | (rw [if_pos (by decide +kernel)]; kernel_rfl) | (rw [if_neg (by decide +kernel)]; exact ⟨rfl, rfl⟩))
    (fun os started H enc _ => fnSuppliesLifted os started H enc)
end Go.Proofs.Ytlhcepcgjnlopaa

