/-
  'FnLids': lids that are told fit and are different, as many as possible, and all widths have one with the least slack. Conditions: none.
-/
import Derived.Test.YthadhfogmfcacaaLidK
set_option linter.unusedSimpArgs false
set_option linter.unusedVariables false
set_option linter.unusedSectionVars false
namespace Go.Proofs.Ythadhfogmfcacaa
open Go.Abs Go.RowKit Go.Law

def IsT (v : Value) (_ : Mem) : Prop := v = .bool true
set_option maxRecDepth 20000 in
set_option maxHeartbeats 3200000 in
theorem lawLids_c (code : List Int) (a : Option Addr) (m : Mem) (hr0 : RdB m a code) (hm0 : code.length ≤ maxLen) :
    ∃ v m', ACalls Try.prog 10 [.slice a code.length code.length] m v m' ∧ IsT v m' := by
  refine ecalls_of_vc Try.func10 rfl Try.fol (by kernel_rfl) ?_
  simp only [Try.f10]
  simp -dsimp -implicitDefEqProofs
  refine callsTo Try.cal34 (f6big_c a _ _) ?_
  simp -dsimp -implicitDefEqProofs
  by_cases hlong : (4096 : Int) < code.length
  · have h1 : decide ((4096 : Int) < code.length) = true := by simpa using hlong
    simp -dsimp -implicitDefEqProofs [h1]
    exact ⟨_, _, GC.refl _ _ _, rfl⟩
  have h1 : decide ((4096 : Int) < code.length) = false := by simp; omega
  simp -dsimp -implicitDefEqProofs [h1]
  obtain ⟨v1, m1, hc1, xs, ws, s, i1, i2, hx, hw, rfl, hp1, hL1, hW1⟩ := drawLidsFor_c a code m hr0 (by omega)
  refine callsTo Try.cal35 hc1 ?_
  simp -dsimp -implicitDefEqProofs [h1]
  have hnx : xs.length ≤ 1048576 := by omega
  have hnw : ws.length ≤ 1048576 := by omega
  have e1 := implLidsFor_c xs ws (some ⟨i1, 0, none⟩) (some ⟨i2, 0, none⟩) s m1 hL1.rd hW1.rd hnx hnw
  rw [optV_eq] at e1
  refine callsTo Try.cal33 e1 ?_
  simp -dsimp -implicitDefEqProofs [h1]
  obtain ⟨zs, hzs⟩ : ∃ zs, zs = (lidsO xs ws s).getD [] := ⟨_, rfl⟩
  rw [← hzs]
  obtain ⟨m2, hm2⟩ : ∃ m2, m2 = m1 ++ optM 2 (lidsO xs ws s) := ⟨_, rfl⟩
  rw [← hm2]
  have hp2 : m1 <+: m2 := by rw [hm2]; exact ⟨_, rfl⟩
  have hz2 : RdI m2 (optA m1.length (lidsO xs ws s)) zs := by rw [hm2, hzs]; exact optRd _ _ _
  have e2 := specLidsFor_c xs ws (some ⟨i1, 0, none⟩) (some ⟨i2, 0, none⟩) s m2 (hL1.pre hp2).rd (hW1.pre hp2).rd hnx hnw (fun x h => by injection h with h; subst h; exact (hL1.pre hp2).lt) (fun x h => by injection h with h; subst h; exact (hW1.pre hp2).lt)
  rw [optV_eq, ← hzs] at e2
  refine callsTo Try.cal32 e2 ?_
  simp -dsimp -implicitDefEqProofs [h1]
  obtain ⟨m3, hm3⟩ : ∃ m3, m3 = m2 ++ optM 2 (lidsO xs ws s) := ⟨_, rfl⟩
  rw [← hm3]
  have hp3 : m2 <+: m3 := by rw [hm3]; exact ⟨_, rfl⟩
  have hz3 : RdI m3 (optA m2.length (lidsO xs ws s)) zs := by rw [hm3, hzs]; exact optRd _ _ _
  obtain ⟨v4, m4, hc4, bs, us, j1, j2, hb, hu, rfl, hp4, hL4, hW4⟩ := drawLeastSlack_c a code m3 (by
    obtain ⟨l, rfl⟩ := hp1.trans (hp2.trans hp3)
    exact ⟨RdG.ext hr0.1 l, hr0.2⟩) (by omega)
  refine callsTo Try.cal36 hc4 ?_
  simp -dsimp -implicitDefEqProofs [h1]
  have hnb : bs.length ≤ 1048576 := by omega
  have hnu : us.length ≤ 1048576 := by omega
  refine callsTo Try.cal31 (implLeastS_c bs us (some ⟨j1, 0, none⟩) (some ⟨j2, 0, none⟩) m4 hL4.rd hW4.rd hnb hnu) ?_
  simp -dsimp -implicitDefEqProofs [h1, leastSV]
  refine callsTo Try.cal30 (specLeastS_c bs us (some ⟨j1, 0, none⟩) (some ⟨j2, 0, none⟩) m4 hL4.rd hW4.rd hnb hnu (fun x h => by injection h with h; subst h; exact hL4.lt) (fun x h => by injection h with h; subst h; exact hW4.lt)) ?_
  simp -dsimp -implicitDefEqProofs [h1, leastSV]
  have hp14 := hp2.trans (hp3.trans hp4)
  have e5 := implLeft_c xs ws (some ⟨i1, 0, none⟩) (some ⟨i2, 0, none⟩) s m4 (hL1.pre hp14).rd (hW1.pre hp14).rd hnx hnw
  rw [optV_eq] at e5
  obtain ⟨rs, hrs⟩ : ∃ rs, rs = (leftO xs ws s).getD [] := ⟨_, rfl⟩
  rw [← hrs] at e5
  refine callsTo Try.cal25 e5 ?_
  simp -dsimp -implicitDefEqProofs [h1, leastSV]
  obtain ⟨m5, hm5⟩ : ∃ m5, m5 = m4 ++ optM 2 (leftO xs ws s) := ⟨_, rfl⟩
  rw [← hm5]
  have hp5 : m4 <+: m5 := by rw [hm5]; exact ⟨_, rfl⟩
  have hq5 : RdI m5 (optA m4.length (leftO xs ws s)) rs := by rw [hm5, hrs]; exact optRd _ _ _
  have hp15 := hp14.trans hp5
  have e6 := specLeft_c xs ws (some ⟨i1, 0, none⟩) (some ⟨i2, 0, none⟩) s m5 (hL1.pre hp15).rd (hW1.pre hp15).rd hnx hnw
  rw [optV_eq, ← hrs] at e6
  refine callsTo Try.cal23 e6 ?_
  simp -dsimp -implicitDefEqProofs [h1, leastSV]
  obtain ⟨m6, hm6⟩ : ∃ m6, m6 = m5 ++ optM 2 (leftO xs ws s) := ⟨_, rfl⟩
  rw [← hm6]
  have hp6 : m5 <+: m6 := by rw [hm6]; exact ⟨_, rfl⟩
  have hq6 : RdI m6 (optA m5.length (leftO xs ws s)) rs := by rw [hm6, hrs]; exact optRd _ _ _
  have hzl : zs.length ≤ 1048576 := by
    rw [hzs]
    cases hO : lidsO xs ws s with
    | none => simp
    | some ys => have := lidsO_length hO; simp; omega
  have hrl : rs.length ≤ 1048576 := by
    rw [hrs]
    cases hO : leftO xs ws s with
    | none => simp
    | some ys => have := leftO_length hO; simp; omega
  have hp26 := hp3.trans (hp4.trans (hp5.trans hp6))
  have hp36 := hp4.trans (hp5.trans hp6)
  have hp16 := hp15.trans hp6
  refine callsTo Try.cal37 (f6ints_c zs _ _ _ (rdPre hz2 hp26) (rdPre hz3 hp36) hzl) ?_
  simp -dsimp -implicitDefEqProofs [h1, leastSV]
  refine callsTo Try.cal37 (f6ints_c rs _ _ _ (rdPre hq5 hp6) hq6 hrl) ?_
  simp -dsimp -implicitDefEqProofs [h1, leastSV]
  refine callsTo Try.cal19 (validLids_c xs _ _ (hL1.pre hp16).rd hnx) ?_
  simp -dsimp -implicitDefEqProofs [h1, leastSV]
  refine callsTo Try.cal17 (specValidLids_c xs _ _ (hL1.pre hp16).rd hnx) ?_
  simp -dsimp -implicitDefEqProofs [h1, leastSV]
  refine sp2 (fun g => ?_) (fun g => ?_)
  · simp at g
    obtain ⟨k, hk, hk100, hc0, hmk, hmin⟩ := least_found g
    rw [hk]
    have hck : codeL bs us k = 0 := codeL_slack hc0 (by omega)
    have e7 := implLidsFor_c bs us (some ⟨j1, 0, none⟩) (some ⟨j2, 0, none⟩) k m6 (hL4.pre (hp5.trans hp6)).rd (hW4.pre (hp5.trans hp6)).rd hnb hnu
    rw [optV_eq, show lidsI bs us k = us.length by simp [lidsI, hck, hmk], hck] at e7
    refine callsTo Try.cal33 e7 ?_
    simp -dsimp -implicitDefEqProofs [h1]
    obtain ⟨m7, hm7⟩ : ∃ m7, m7 = m6 ++ optM 2 (lidsO bs us k) := ⟨_, rfl⟩
    rw [← hm7]
    have hp7 : m6 <+: m7 := by rw [hm7]; exact ⟨_, rfl⟩
    by_cases hk0 : 0 < k
    · have hkw : IntKind.i64.wrap ((k : Int) - 1) = ((k - 1 : Nat) : Int) := by rw [wrapI (by omega) (by omega)]; omega
      have hck1 : codeL bs us ((k - 1 : Nat) : Int) = 0 := codeL_slack hc0 (by omega)
      have e8 := implLidsFor_c bs us (some ⟨j1, 0, none⟩) (some ⟨j2, 0, none⟩) ((k - 1 : Nat) : Int) m7 (hL4.pre (hp5.trans (hp6.trans hp7))).rd (hW4.pre (hp5.trans (hp6.trans hp7))).rd hnb hnu
      have hless := hmin (k - 1) (by omega)
      have hle1 := mostL_le bs us ((k - 1 : Nat) : Int)
      rw [optV_eq, show lidsI bs us ((k - 1 : Nat) : Int) = mostL bs us ((k - 1 : Nat) : Int) by simp only [lidsI, hck1, if_true], hck1] at e8
      have n8 : ¬ us.length ≤ mostL bs us ((k - 1 : Nat) : Int) := by omega
      simp -dsimp -implicitDefEqProofs [hk0, hkw, n8]
      refine callsTo Try.cal33 e8 ?_
      simp -dsimp -implicitDefEqProofs [hk0, hkw, n8]
      obtain ⟨mF, hmF⟩ : ∃ mF, mF = m7 ++ optM 2 (lidsO bs us ((k - 1 : Nat) : Int)) := ⟨_, rfl⟩
      rw [← hmF]
      have hpF : m6 <+: mF := by rw [hmF]; exact hp7.trans ⟨_, rfl⟩
      have hF1 : m7 ++ (optM 2 (lidsO bs us ((k - 1 : Nat) : Int)) ++ [(⟨[], 2, 1, 1⟩ : AObj)]) = mF ++ [⟨[], 2, 1, 1⟩] := by rw [hmF, List.append_assoc]
      have hF2 : m7.length + (optM 2 (lidsO bs us ((k - 1 : Nat) : Int))).length = mF.length := by rw [hmF, List.length_append]
      by_cases hcx : codeL xs ws s = 0
      · have hzW : zs = (lidW xs ws s ws.length).1 := by rw [hzs]; simp [lidsO, hcx]
        have hrW : rs = leftTo xs ws s xs.length := by rw [hrs]; simp [leftO, hcx]
        have hzlen : zs.length = ws.length := by rw [hzW]; exact (lidW_length _).1
        have hLI : lidsI xs ws s = mostL xs ws s := by simp [lidsI, hcx]
        have hzF := rdPre hz3 (hp36.trans hpF)
        have hrF := rdPre hq6 hpF
        have hLF := hL1.pre (hp16.trans hpF)
        have hWF := hW1.pre (hp16.trans hpF)
        simp -dsimp -implicitDefEqProofs [hcx, hF1, hF2]
        refine loopN ws.length (fun i σ m' => ∃ iu, (mF <+: m' ∧ mF.length ≤ iu ∧ IntsAt m' iu (usedTo zs i)) ∧ ((σ 3 = some (.slice (some ⟨i1, 0, none⟩) xs.length xs.length) ∧ σ 4 = some (.slice (some ⟨i2, 0, none⟩) ws.length ws.length) ∧ σ 5 = some (.int .i64 s)) ∧
          (σ 9 = some (.slice (optA m2.length (lidsO xs ws s)) zs.length zs.length) ∧ σ 10 = some (.int .i64 (lidsI xs ws s)) ∧ σ 20 = some (.slice (optA m5.length (leftO xs ws s)) rs.length rs.length))) ∧ σ 28 = some (.slice (some ⟨iu, 0, none⟩) (usedTo zs i).length (usedTo zs i).length) ∧ σ 29 = some (.int .i64 i))
          ⟨mF.length, ⟨⟨_, rfl⟩, Nat.le_refl _, ⟨⟨[], 2, 1, 1⟩, by simp, by simp, by simp, rfl, rfl, by simp [usedTo]⟩⟩, by simp, by simp [usedTo, hF2], by simp⟩ ?_
        rintro i σ m' hi ⟨iu, ⟨hp', hiu, hU⟩, ⟨⟨s3, s4, s5⟩, s9, s10, s20⟩, s28, s29⟩
        by_cases hlt : i < ws.length
        · have hwi : IntKind.i64.wrap ((i : Int) + 1) = i + 1 := wrapI (by omega) (by omega)
          have hiz : i < zs.length := by omega
          obtain ⟨zid, zoff, zo, hza, hzm, hzk, hzs2, hzc⟩ := (rdPre hzF hp').at_ hiz
          have hui := usedTo_succ hiz
          have hule := usedTo_le zs i
          have hat := told_at hcx hlt
          simp only [← hzW] at hat
          rcases hat with hneg | ⟨b, hb2, hbe, hfv, hnu, hnl⟩
          · rw [if_pos hneg] at hui
            rw [hneg] at hzc
            simp -dsimp -implicitDefEqProofs [s3, s4, s5, s9, s10, s20, s28, s29, hlt, hza, withO_of hzm, hzk, hzs2, withC_of hzc, hiz, hwi]
            exact next_ hlt ⟨iu, ⟨hp', hiu, by rw [hui]; exact hU⟩, by simp [s3, s4, s5, s9, s10, s20], by simp [s28, hui], by simp [hwi]⟩
          · rw [if_neg (by omega), hbe] at hui
            rw [hbe] at hzc
            have nb : ((b : Int) == -1) = false := by rw [beq_eq_false_iff_ne]; omega
            obtain ⟨lid, loff, lo, hla, hlm, hlk, hls, hll, hlrow, _⟩ := R3.at_ (hLF.pre hp').rd hb2
            obtain ⟨wid, woff, wo, hwa, hwm, hwk, hws2, hwc⟩ := (hWF.pre hp').rd.at_ hlt
            injection hla with hla
            injection hla with hla1 hla2
            subst hla1; subst hla2
            injection hwa with hwa
            injection hwa with hwa1 hwa2
            subst hwa1; subst hwa2
            simp only [Nat.zero_add] at hll hlrow hwc
            have hLFt := implLidFits_c xs[b] ws[i] s m'
            rw [hfv] at hLFt
            rw [← hrW] at hnl
            have hh1 := f6has_c (usedTo zs i) (some ⟨iu, 0, none⟩) b m' hU.rd (by omega)
            rw [decide_eq_false hnu] at hh1
            have hh2 := f6has_c rs (optA m5.length (leftO xs ws s)) b m' (rdPre hrF hp') hrl
            rw [decide_eq_false hnl] at hh2
            obtain ⟨uo, huo, huo1, huo2, huo3, huo4, huo5⟩ := id hU
            simp -dsimp -implicitDefEqProofs [s3, s4, s5, s9, s10, s20, s28, s29, hlt, hza, withO_of hzm, hzk, hzs2, withC_of hzc, hiz, hwi, nb, withO_of hlm, hlk, hls, hll, hlrow, withO_of hwm, hwk, hws2, withC_of hwc, hb2]
            refine callsTo Try.cal13 hLFt ?_
            simp -dsimp -implicitDefEqProofs [s3, s4, s5, s9, s10, s20, s28, s29, hlt, hza, withO_of hzm, hzk, hzs2, withC_of hzc, hiz, hwi, nb, withO_of hlm, hlk, hls, hll, hlrow, withO_of hwm, hwk, hws2, withC_of hwc, hb2]
            refine callsTo Try.cal38 hh1 ?_
            simp -dsimp -implicitDefEqProofs [s3, s4, s5, s9, s10, s20, s28, s29, hlt, hza, withO_of hzm, hzk, hzs2, withC_of hzc, hiz, hwi, nb, withO_of hlm, hlk, hls, hll, hlrow, withO_of hwm, hwk, hws2, withC_of hwc, hb2]
            refine callsTo Try.cal38 hh2 ?_
            simp -dsimp -implicitDefEqProofs [s3, s4, s5, s9, s10, s20, s28, s29, hlt, hza, withO_of hzm, hzk, hzs2, withC_of hzc, hiz, hwi, nb, withO_of hlm, hlk, hls, hll, hlrow, withO_of hwm, hwk, hws2, withC_of hwc, hb2]
            refine appTo_grow (e := 2) (sz := 1) (by_ := 8) (z := .int .i64 0) (by kernel_rfl) (by kernel_rfl) ⟨by decide, rfl⟩ (o := uo) (get_old huo) ⟨huo1, huo2⟩ ⟨huo3, huo4⟩ (by rw [huo5]; simp) (by omega) (Src.obj (o := ⟨[.int .i64 (b : Int)], 2, 1, 1⟩) (by simp) (by simp) rfl rfl) ?_
            intro mZ idZ hgZ
            simp -dsimp -implicitDefEqProofs [s3, s4, s5, s9, s10, s20, s28, s29, hlt, hza, withO_of hzm, hzk, hzs2, withC_of hzc, hiz, hwi, nb, withO_of hlm, hlk, hls, hll, hlrow, withO_of hwm, hwk, hws2, withC_of hwc, hb2]
            exact next_ hlt ⟨idZ, ⟨hgZ.pre mF (pre_app hp' _) hiu, by rw [hgZ.at_]; simp; have := hp'.length_le; omega, ⟨_, hgZ.new, by simp, by simp, rfl, rfl, by rw [hui]; simp [huo5]⟩⟩, by simp [s3, s4, s5, s9, s10, s20], by simp [hui], by simp [hwi]⟩
        · obtain rfl : i = ws.length := by omega
          have hua : (usedTo zs ws.length).length = mostL xs ws s := by rw [hzW]; exact told_all
          simp -dsimp -implicitDefEqProofs [s3, s4, s5, s9, s10, s20, s28, s29, hzlen, hua, hLI]
          exact ⟨_, _, GC.refl _ _ _, rfl⟩
      · have hcx' : (codeL xs ws s != 0) = true := by simpa using hcx
        simp -dsimp -implicitDefEqProofs [hcx']
        exact ⟨_, _, GC.refl _ _ _, rfl⟩
    · simp -dsimp -implicitDefEqProofs [hk0]
      obtain ⟨mF, hmF⟩ : ∃ mF, mF = m7 := ⟨_, rfl⟩
      rw [← hmF]
      have hpF : m6 <+: mF := by rw [hmF]; exact hp7
      have hF1 : m6 ++ (optM 2 (lidsO bs us k) ++ [(⟨[], 2, 1, 1⟩ : AObj)]) = mF ++ [⟨[], 2, 1, 1⟩] := by rw [hmF, hm7, List.append_assoc]
      have hF2 : m6.length + (optM 2 (lidsO bs us k)).length = mF.length := by rw [hmF, hm7, List.length_append]
      by_cases hcx : codeL xs ws s = 0
      · have hzW : zs = (lidW xs ws s ws.length).1 := by rw [hzs]; simp [lidsO, hcx]
        have hrW : rs = leftTo xs ws s xs.length := by rw [hrs]; simp [leftO, hcx]
        have hzlen : zs.length = ws.length := by rw [hzW]; exact (lidW_length _).1
        have hLI : lidsI xs ws s = mostL xs ws s := by simp [lidsI, hcx]
        have hzF := rdPre hz3 (hp36.trans hpF)
        have hrF := rdPre hq6 hpF
        have hLF := hL1.pre (hp16.trans hpF)
        have hWF := hW1.pre (hp16.trans hpF)
        simp -dsimp -implicitDefEqProofs [hcx, hF1, hF2]
        refine loopN ws.length (fun i σ m' => ∃ iu, (mF <+: m' ∧ mF.length ≤ iu ∧ IntsAt m' iu (usedTo zs i)) ∧ ((σ 3 = some (.slice (some ⟨i1, 0, none⟩) xs.length xs.length) ∧ σ 4 = some (.slice (some ⟨i2, 0, none⟩) ws.length ws.length) ∧ σ 5 = some (.int .i64 s)) ∧
          (σ 9 = some (.slice (optA m2.length (lidsO xs ws s)) zs.length zs.length) ∧ σ 10 = some (.int .i64 (lidsI xs ws s)) ∧ σ 20 = some (.slice (optA m5.length (leftO xs ws s)) rs.length rs.length))) ∧ σ 28 = some (.slice (some ⟨iu, 0, none⟩) (usedTo zs i).length (usedTo zs i).length) ∧ σ 29 = some (.int .i64 i))
          ⟨mF.length, ⟨⟨_, rfl⟩, Nat.le_refl _, ⟨⟨[], 2, 1, 1⟩, by simp, by simp, by simp, rfl, rfl, by simp [usedTo]⟩⟩, by simp, by simp [usedTo, hF2], by simp⟩ ?_
        rintro i σ m' hi ⟨iu, ⟨hp', hiu, hU⟩, ⟨⟨s3, s4, s5⟩, s9, s10, s20⟩, s28, s29⟩
        by_cases hlt : i < ws.length
        · have hwi : IntKind.i64.wrap ((i : Int) + 1) = i + 1 := wrapI (by omega) (by omega)
          have hiz : i < zs.length := by omega
          obtain ⟨zid, zoff, zo, hza, hzm, hzk, hzs2, hzc⟩ := (rdPre hzF hp').at_ hiz
          have hui := usedTo_succ hiz
          have hule := usedTo_le zs i
          have hat := told_at hcx hlt
          simp only [← hzW] at hat
          rcases hat with hneg | ⟨b, hb2, hbe, hfv, hnu, hnl⟩
          · rw [if_pos hneg] at hui
            rw [hneg] at hzc
            simp -dsimp -implicitDefEqProofs [s3, s4, s5, s9, s10, s20, s28, s29, hlt, hza, withO_of hzm, hzk, hzs2, withC_of hzc, hiz, hwi]
            exact next_ hlt ⟨iu, ⟨hp', hiu, by rw [hui]; exact hU⟩, by simp [s3, s4, s5, s9, s10, s20], by simp [s28, hui], by simp [hwi]⟩
          · rw [if_neg (by omega), hbe] at hui
            rw [hbe] at hzc
            have nb : ((b : Int) == -1) = false := by rw [beq_eq_false_iff_ne]; omega
            obtain ⟨lid, loff, lo, hla, hlm, hlk, hls, hll, hlrow, _⟩ := R3.at_ (hLF.pre hp').rd hb2
            obtain ⟨wid, woff, wo, hwa, hwm, hwk, hws2, hwc⟩ := (hWF.pre hp').rd.at_ hlt
            injection hla with hla
            injection hla with hla1 hla2
            subst hla1; subst hla2
            injection hwa with hwa
            injection hwa with hwa1 hwa2
            subst hwa1; subst hwa2
            simp only [Nat.zero_add] at hll hlrow hwc
            have hLFt := implLidFits_c xs[b] ws[i] s m'
            rw [hfv] at hLFt
            rw [← hrW] at hnl
            have hh1 := f6has_c (usedTo zs i) (some ⟨iu, 0, none⟩) b m' hU.rd (by omega)
            rw [decide_eq_false hnu] at hh1
            have hh2 := f6has_c rs (optA m5.length (leftO xs ws s)) b m' (rdPre hrF hp') hrl
            rw [decide_eq_false hnl] at hh2
            obtain ⟨uo, huo, huo1, huo2, huo3, huo4, huo5⟩ := id hU
            simp -dsimp -implicitDefEqProofs [s3, s4, s5, s9, s10, s20, s28, s29, hlt, hza, withO_of hzm, hzk, hzs2, withC_of hzc, hiz, hwi, nb, withO_of hlm, hlk, hls, hll, hlrow, withO_of hwm, hwk, hws2, withC_of hwc, hb2]
            refine callsTo Try.cal13 hLFt ?_
            simp -dsimp -implicitDefEqProofs [s3, s4, s5, s9, s10, s20, s28, s29, hlt, hza, withO_of hzm, hzk, hzs2, withC_of hzc, hiz, hwi, nb, withO_of hlm, hlk, hls, hll, hlrow, withO_of hwm, hwk, hws2, withC_of hwc, hb2]
            refine callsTo Try.cal38 hh1 ?_
            simp -dsimp -implicitDefEqProofs [s3, s4, s5, s9, s10, s20, s28, s29, hlt, hza, withO_of hzm, hzk, hzs2, withC_of hzc, hiz, hwi, nb, withO_of hlm, hlk, hls, hll, hlrow, withO_of hwm, hwk, hws2, withC_of hwc, hb2]
            refine callsTo Try.cal38 hh2 ?_
            simp -dsimp -implicitDefEqProofs [s3, s4, s5, s9, s10, s20, s28, s29, hlt, hza, withO_of hzm, hzk, hzs2, withC_of hzc, hiz, hwi, nb, withO_of hlm, hlk, hls, hll, hlrow, withO_of hwm, hwk, hws2, withC_of hwc, hb2]
            refine appTo_grow (e := 2) (sz := 1) (by_ := 8) (z := .int .i64 0) (by kernel_rfl) (by kernel_rfl) ⟨by decide, rfl⟩ (o := uo) (get_old huo) ⟨huo1, huo2⟩ ⟨huo3, huo4⟩ (by rw [huo5]; simp) (by omega) (Src.obj (o := ⟨[.int .i64 (b : Int)], 2, 1, 1⟩) (by simp) (by simp) rfl rfl) ?_
            intro mZ idZ hgZ
            simp -dsimp -implicitDefEqProofs [s3, s4, s5, s9, s10, s20, s28, s29, hlt, hza, withO_of hzm, hzk, hzs2, withC_of hzc, hiz, hwi, nb, withO_of hlm, hlk, hls, hll, hlrow, withO_of hwm, hwk, hws2, withC_of hwc, hb2]
            exact next_ hlt ⟨idZ, ⟨hgZ.pre mF (pre_app hp' _) hiu, by rw [hgZ.at_]; simp; have := hp'.length_le; omega, ⟨_, hgZ.new, by simp, by simp, rfl, rfl, by rw [hui]; simp [huo5]⟩⟩, by simp [s3, s4, s5, s9, s10, s20], by simp [hui], by simp [hwi]⟩
        · obtain rfl : i = ws.length := by omega
          have hua : (usedTo zs ws.length).length = mostL xs ws s := by rw [hzW]; exact told_all
          simp -dsimp -implicitDefEqProofs [s3, s4, s5, s9, s10, s20, s28, s29, hzlen, hua, hLI]
          exact ⟨_, _, GC.refl _ _ _, rfl⟩
      · have hcx' : (codeL xs ws s != 0) = true := by simpa using hcx
        simp -dsimp -implicitDefEqProofs [hcx']
        exact ⟨_, _, GC.refl _ _ _, rfl⟩
  · obtain ⟨mF, hmF⟩ : ∃ mF, mF = m6 := ⟨_, rfl⟩
    rw [← hmF]
    have hpF : m6 <+: mF := by rw [hmF]; exact ⟨[], by simp⟩
    by_cases hcx : codeL xs ws s = 0
    · have hzW : zs = (lidW xs ws s ws.length).1 := by rw [hzs]; simp [lidsO, hcx]
      have hrW : rs = leftTo xs ws s xs.length := by rw [hrs]; simp [leftO, hcx]
      have hzlen : zs.length = ws.length := by rw [hzW]; exact (lidW_length _).1
      have hLI : lidsI xs ws s = mostL xs ws s := by simp [lidsI, hcx]
      have hzF := rdPre hz3 (hp36.trans hpF)
      have hrF := rdPre hq6 hpF
      have hLF := hL1.pre (hp16.trans hpF)
      have hWF := hW1.pre (hp16.trans hpF)
      simp -dsimp -implicitDefEqProofs [hcx, hmF.symm]
      refine loopN ws.length (fun i σ m' => ∃ iu, (mF <+: m' ∧ mF.length ≤ iu ∧ IntsAt m' iu (usedTo zs i)) ∧ ((σ 3 = some (.slice (some ⟨i1, 0, none⟩) xs.length xs.length) ∧ σ 4 = some (.slice (some ⟨i2, 0, none⟩) ws.length ws.length) ∧ σ 5 = some (.int .i64 s)) ∧
        (σ 9 = some (.slice (optA m2.length (lidsO xs ws s)) zs.length zs.length) ∧ σ 10 = some (.int .i64 (lidsI xs ws s)) ∧ σ 20 = some (.slice (optA m5.length (leftO xs ws s)) rs.length rs.length))) ∧ σ 28 = some (.slice (some ⟨iu, 0, none⟩) (usedTo zs i).length (usedTo zs i).length) ∧ σ 29 = some (.int .i64 i))
        ⟨mF.length, ⟨⟨_, rfl⟩, Nat.le_refl _, ⟨⟨[], 2, 1, 1⟩, by simp, by simp, by simp, rfl, rfl, by simp [usedTo]⟩⟩, by simp, by simp [usedTo], by simp⟩ ?_
      rintro i σ m' hi ⟨iu, ⟨hp', hiu, hU⟩, ⟨⟨s3, s4, s5⟩, s9, s10, s20⟩, s28, s29⟩
      by_cases hlt : i < ws.length
      · have hwi : IntKind.i64.wrap ((i : Int) + 1) = i + 1 := wrapI (by omega) (by omega)
        have hiz : i < zs.length := by omega
        obtain ⟨zid, zoff, zo, hza, hzm, hzk, hzs2, hzc⟩ := (rdPre hzF hp').at_ hiz
        have hui := usedTo_succ hiz
        have hule := usedTo_le zs i
        have hat := told_at hcx hlt
        simp only [← hzW] at hat
        rcases hat with hneg | ⟨b, hb2, hbe, hfv, hnu, hnl⟩
        · rw [if_pos hneg] at hui
          rw [hneg] at hzc
          simp -dsimp -implicitDefEqProofs [s3, s4, s5, s9, s10, s20, s28, s29, hlt, hza, withO_of hzm, hzk, hzs2, withC_of hzc, hiz, hwi]
          exact next_ hlt ⟨iu, ⟨hp', hiu, by rw [hui]; exact hU⟩, by simp [s3, s4, s5, s9, s10, s20], by simp [s28, hui], by simp [hwi]⟩
        · rw [if_neg (by omega), hbe] at hui
          rw [hbe] at hzc
          have nb : ((b : Int) == -1) = false := by rw [beq_eq_false_iff_ne]; omega
          obtain ⟨lid, loff, lo, hla, hlm, hlk, hls, hll, hlrow, _⟩ := R3.at_ (hLF.pre hp').rd hb2
          obtain ⟨wid, woff, wo, hwa, hwm, hwk, hws2, hwc⟩ := (hWF.pre hp').rd.at_ hlt
          injection hla with hla
          injection hla with hla1 hla2
          subst hla1; subst hla2
          injection hwa with hwa
          injection hwa with hwa1 hwa2
          subst hwa1; subst hwa2
          simp only [Nat.zero_add] at hll hlrow hwc
          have hLFt := implLidFits_c xs[b] ws[i] s m'
          rw [hfv] at hLFt
          rw [← hrW] at hnl
          have hh1 := f6has_c (usedTo zs i) (some ⟨iu, 0, none⟩) b m' hU.rd (by omega)
          rw [decide_eq_false hnu] at hh1
          have hh2 := f6has_c rs (optA m5.length (leftO xs ws s)) b m' (rdPre hrF hp') hrl
          rw [decide_eq_false hnl] at hh2
          obtain ⟨uo, huo, huo1, huo2, huo3, huo4, huo5⟩ := id hU
          simp -dsimp -implicitDefEqProofs [s3, s4, s5, s9, s10, s20, s28, s29, hlt, hza, withO_of hzm, hzk, hzs2, withC_of hzc, hiz, hwi, nb, withO_of hlm, hlk, hls, hll, hlrow, withO_of hwm, hwk, hws2, withC_of hwc, hb2]
          refine callsTo Try.cal13 hLFt ?_
          simp -dsimp -implicitDefEqProofs [s3, s4, s5, s9, s10, s20, s28, s29, hlt, hza, withO_of hzm, hzk, hzs2, withC_of hzc, hiz, hwi, nb, withO_of hlm, hlk, hls, hll, hlrow, withO_of hwm, hwk, hws2, withC_of hwc, hb2]
          refine callsTo Try.cal38 hh1 ?_
          simp -dsimp -implicitDefEqProofs [s3, s4, s5, s9, s10, s20, s28, s29, hlt, hza, withO_of hzm, hzk, hzs2, withC_of hzc, hiz, hwi, nb, withO_of hlm, hlk, hls, hll, hlrow, withO_of hwm, hwk, hws2, withC_of hwc, hb2]
          refine callsTo Try.cal38 hh2 ?_
          simp -dsimp -implicitDefEqProofs [s3, s4, s5, s9, s10, s20, s28, s29, hlt, hza, withO_of hzm, hzk, hzs2, withC_of hzc, hiz, hwi, nb, withO_of hlm, hlk, hls, hll, hlrow, withO_of hwm, hwk, hws2, withC_of hwc, hb2]
          refine appTo_grow (e := 2) (sz := 1) (by_ := 8) (z := .int .i64 0) (by kernel_rfl) (by kernel_rfl) ⟨by decide, rfl⟩ (o := uo) (get_old huo) ⟨huo1, huo2⟩ ⟨huo3, huo4⟩ (by rw [huo5]; simp) (by omega) (Src.obj (o := ⟨[.int .i64 (b : Int)], 2, 1, 1⟩) (by simp) (by simp) rfl rfl) ?_
          intro mZ idZ hgZ
          simp -dsimp -implicitDefEqProofs [s3, s4, s5, s9, s10, s20, s28, s29, hlt, hza, withO_of hzm, hzk, hzs2, withC_of hzc, hiz, hwi, nb, withO_of hlm, hlk, hls, hll, hlrow, withO_of hwm, hwk, hws2, withC_of hwc, hb2]
          exact next_ hlt ⟨idZ, ⟨hgZ.pre mF (pre_app hp' _) hiu, by rw [hgZ.at_]; simp; have := hp'.length_le; omega, ⟨_, hgZ.new, by simp, by simp, rfl, rfl, by rw [hui]; simp [huo5]⟩⟩, by simp [s3, s4, s5, s9, s10, s20], by simp [hui], by simp [hwi]⟩
      · obtain rfl : i = ws.length := by omega
        have hua : (usedTo zs ws.length).length = mostL xs ws s := by rw [hzW]; exact told_all
        simp -dsimp -implicitDefEqProofs [s3, s4, s5, s9, s10, s20, s28, s29, hzlen, hua, hLI]
        exact ⟨_, _, GC.refl _ _ _, rfl⟩
    · have hcx' : (codeL xs ws s != 0) = true := by simpa using hcx
      simp -dsimp -implicitDefEqProofs [hcx']
      exact ⟨_, _, GC.refl _ _ _, rfl⟩

set_option maxRecDepth 100000 in
theorem fnLidsLifted (os : Os) (started : os.Started) (H : Type) (enc : TypeId × Value → H) :
    ReturnsInHanded {} Try.checked os 10 .any (Rows.fnLidsSpec.pre6 enc Try.prog Try.f10 Rows.fnLidsRow.domain false) (Rows.fnLidsSpec.post enc Try.prog Try.f10 false true false false) :=
  lawLifted (C := Try.checked) [.one (.sl [.int .u8])] 3 4 (by kernel_rfl) started (by kernel_rfl) Try.func10
    (ChangeSpec.witness6 (enc := enc) (C := Try.checked) false ⟨#[], #[.slice none 0 0], []⟩ 8 (by kernel_rfl) (by kernel_rfl) (by kernel_rfl) (by kernel_rfl))
    (by kernel_rfl) (by kernel_rfl) (by kernel_rfl) rfl (by kernel_rfl) rfl (fun ds h => match ds, h with | [_], _ => rfl) fun m vs h => by
      obtain ⟨u0, rfl, hv0⟩ := h.one
      obtain ⟨a, xs, rfl, hl0, hr0⟩ := CV.slB hv0
      obtain ⟨v, m', hc, hv⟩ := lawLids_c xs a m hr0 hl0
      have hv' : v = .bool true := hv
      exact ⟨m', hv' ▸ hc⟩

theorem fnLidsHolds : Rows.FnLidsSaid :=
  OpenClaim.holds_of_wide 10 Try.f10 rfl rfl rfl rfl rfl rfl rfl ⟨rfl, rfl, rfl, rfl, rfl⟩ rfl rfl rfl rfl rfl (by kernel_rfl) Try.func10 (by kernel_rfl)
    (of_decide_eq_true (by kernel_rfl)) (by unfold Func.isWrapper; first | (rw [if_pos (by decide +kernel)]; kernel_rfl) | (rw [if_neg (by decide +kernel)]; exact ⟨rfl, rfl⟩))
    (fun os started H enc _ => fnLidsLifted os started H enc)
end Go.Proofs.Ythadhfogmfcacaa
