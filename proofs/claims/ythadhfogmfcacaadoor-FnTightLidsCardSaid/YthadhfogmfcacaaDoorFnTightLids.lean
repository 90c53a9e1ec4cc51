/-
  'FnTightLids': the tightest lid fits, no other one is tighter, and a lid with a slack fits with it. Conditions: none but those of the row (the library's tables are as the program's text lays them). The walk is printed by a program (tight.py).
-/
import Derived.Test.YthadhfogmfcacaaDoorLidW
import Derived.Test.YthadhfogmfcacaaDoorLidT
import Derived.Test.YthadhfogmfcacaaDoorDoor
set_option linter.unusedSimpArgs false
set_option linter.unusedVariables false
set_option linter.unusedSectionVars false
namespace Go.Proofs.YthadhfogmfcacaaDoor
open Go.Abs Go.RowKit

def IsT (v : Value) (_ : Mem) : Prop := v = .bool true
set_option maxRecDepth 20000 in
set_option maxHeartbeats 3200000 in
theorem lawTightLids_c (code : List Int) (a : Option Addr) (m : Mem) (hr0 : RdB m a code) (hm0 : code.length ≤ maxLen) :
    ∃ v m', ACalls Tryd.prog 4 [.slice a code.length code.length] m v m' ∧ IsT v m' := by
  refine ecalls_of_vc Tryd.func4 rfl Tryd.fol (by kernel_rfl) ?_
  simp only [Tryd.f4]
  simp -dsimp -implicitDefEqProofs
  refine callsTo Tryd.cal8 (f6big_c a _ _) ?_
  simp -dsimp -implicitDefEqProofs
  by_cases hlong : (4096 : Int) < code.length
  · have h1 : decide ((4096 : Int) < code.length) = true := by simpa using hlong
    simp -dsimp -implicitDefEqProofs [h1]
    exact ⟨_, _, GC.refl _ _ _, rfl⟩
  have h1 : decide ((4096 : Int) < code.length) = false := by simp; omega
  simp -dsimp -implicitDefEqProofs [h1]
  obtain ⟨v1, m1, hc1, xs, i1, w, s, hx, rfl, hp1, hL1⟩ := drawTightestLid_c a code m hr0 (by omega)
  refine callsTo Tryd.cal9 hc1 ?_
  simp -dsimp -implicitDefEqProofs [h1]
  have hnx : xs.length ≤ 1048576 := by omega
  obtain ⟨cT, hcT⟩ : ∃ z, z = tightC xs w s := ⟨_, rfl⟩
  obtain ⟨nT, hnT⟩ : ∃ z, z = (if tightC xs w s = 0 then tightI xs w s else 0) := ⟨_, rfl⟩
  have eT : tightV xs w s = .tuple #[.int .i64 nT, .int .i64 cT] := by rw [hcT, hnT]; rfl
  have e1 := implTight_c xs (some ⟨i1, 0, none⟩) w s m1 hL1.rd hnx
  rw [eT] at e1
  have e2 := specTight_c xs (some ⟨i1, 0, none⟩) w s m1 hL1.rd hnx
  rw [eT] at e2
  refine callsTo Tryd.cal10 e1 ?_
  simp -dsimp -implicitDefEqProofs [h1]
  refine callsTo Tryd.cal11 e2 ?_
  simp -dsimp -implicitDefEqProofs [h1]
  obtain ⟨v2, m2, hc2, p, u, rfl, hp2⟩ := drawSlackOf_c a code m1 (by
    obtain ⟨l, rfl⟩ := hp1
    exact ⟨RdG.ext hr0.1 l, hr0.2⟩) (by omega)
  obtain ⟨m3, hm3⟩ : ∃ m3, m3 = m2 ++ [⟨[.int .i64 p.1, .int .i64 p.2.1, .int .i64 p.2.2], 25, 3, 1⟩] := ⟨_, rfl⟩
  have hp3 : m2 <+: m3 := by rw [hm3]; exact ⟨_, rfl⟩
  have t3 : m3[m2.length]? = some ⟨[.int .i64 p.1, .int .i64 p.2.1, .int .i64 p.2.2], 25, 3, 1⟩ := by rw [hm3]; simp
  obtain ⟨cS, hcS⟩ : ∃ z, z = slackC p u := ⟨_, rfl⟩
  obtain ⟨nS, hnS⟩ : ∃ z, z = (if slackC p u = 0 then slk p u else 0) := ⟨_, rfl⟩
  have eS : slackV p u = .tuple #[.int .i64 nS, .int .i64 cS] := by rw [hcS, hnS]; rfl
  have e3 := implSlack_c p u m3
  rw [eS] at e3
  have e4 := specSlack_c p u m3
  rw [eS] at e4
  obtain ⟨v4, m4, hc4, q, u2, s2, rfl, hp4⟩ := drawLidFits_c a code m3 (by
    obtain ⟨l, rfl⟩ := hp1.trans (hp2.trans hp3)
    exact ⟨RdG.ext hr0.1 l, hr0.2⟩) (by omega)
  obtain ⟨m5, hm5⟩ : ∃ m5, m5 = m4 ++ [⟨[.int .i64 q.1, .int .i64 q.2.1, .int .i64 q.2.2], 25, 3, 1⟩] := ⟨_, rfl⟩
  have hp5 : m4 <+: m5 := by rw [hm5]; exact ⟨_, rfl⟩
  have t5 : m5[m4.length]? = some ⟨[.int .i64 q.1, .int .i64 q.2.1, .int .i64 q.2.2], 25, 3, 1⟩ := by rw [hm5]; simp
  obtain ⟨cF, hcF⟩ : ∃ z, z = lidC q u2 s2 := ⟨_, rfl⟩
  obtain ⟨bF, hbF⟩ : ∃ z, z = (decide (lidC q u2 s2 = 0) && inB (slk q u2) 0 s2) := ⟨_, rfl⟩
  have eF : lidFitsV q u2 s2 = .tuple #[.bool bF, .int .i64 cF] := by rw [hcF, hbF]; rfl
  have e5 := implLidFits_c q u2 s2 m5
  rw [eF] at e5
  have e6 := specLidFits_c q u2 s2 m5
  rw [eF] at e6
  obtain ⟨v6, m6, hc6, r, rfl, hp6⟩ := drawLidText_c a code m5 (by
    obtain ⟨l, rfl⟩ := hp1.trans (hp2.trans (hp3.trans (hp4.trans hp5)))
    exact ⟨RdG.ext hr0.1 l, hr0.2⟩) (by omega)
  obtain ⟨m7, hm7⟩ : ∃ m7, m7 = m6 ++ [⟨[.int .i64 r.1, .int .i64 r.2.1, .int .i64 r.2.2], 25, 3, 1⟩] := ⟨_, rfl⟩
  have hp7 : m6 <+: m7 := by rw [hm7]; exact ⟨_, rfl⟩
  have t7 : m7[m6.length]? = some ⟨[.int .i64 r.1, .int .i64 r.2.1, .int .i64 r.2.2], 25, 3, 1⟩ := by rw [hm7]; simp
  have hp57 := hp6.trans hp7
  have hp37 := hp4.trans (hp5.trans hp57)
  have hp17 := hp2.trans (hp3.trans hp37)
  have t37 := prefix_get hp37 t3
  refine callsTo Tryd.cal12 hc2 ?_
  simp -dsimp -implicitDefEqProofs [h1, hm3.symm, hm5.symm, hm7.symm, v3, withO_of t3, withO_of t5, withO_of t7, withO_of t37, bytes_beq]
  refine callsTo Tryd.cal13 e3 ?_
  simp -dsimp -implicitDefEqProofs [h1, hm3.symm, hm5.symm, hm7.symm, v3, withO_of t3, withO_of t5, withO_of t7, withO_of t37, bytes_beq]
  refine callsTo Tryd.cal14 e4 ?_
  simp -dsimp -implicitDefEqProofs [h1, hm3.symm, hm5.symm, hm7.symm, v3, withO_of t3, withO_of t5, withO_of t7, withO_of t37, bytes_beq]
  refine callsTo Tryd.cal15 hc4 ?_
  simp -dsimp -implicitDefEqProofs [h1, hm3.symm, hm5.symm, hm7.symm, v3, withO_of t3, withO_of t5, withO_of t7, withO_of t37, bytes_beq]
  refine callsTo Tryd.cal16 e5 ?_
  simp -dsimp -implicitDefEqProofs [h1, hm3.symm, hm5.symm, hm7.symm, v3, withO_of t3, withO_of t5, withO_of t7, withO_of t37, bytes_beq]
  refine callsTo Tryd.cal17 e6 ?_
  simp -dsimp -implicitDefEqProofs [h1, hm3.symm, hm5.symm, hm7.symm, v3, withO_of t3, withO_of t5, withO_of t7, withO_of t37, bytes_beq]
  refine callsTo Tryd.cal18 hc6 ?_
  simp -dsimp -implicitDefEqProofs [h1, hm3.symm, hm5.symm, hm7.symm, v3, withO_of t3, withO_of t5, withO_of t7, withO_of t37, bytes_beq]
  refine callsTo Tryd.cal7 (implLidText_c r m7) ?_
  simp -dsimp -implicitDefEqProofs [h1, hm3.symm, hm5.symm, hm7.symm, v3, withO_of t3, withO_of t5, withO_of t7, withO_of t37, bytes_beq]
  refine callsTo Tryd.cal5 (specLidText_c r m7) ?_
  simp -dsimp -implicitDefEqProofs [h1, hm3.symm, hm5.symm, hm7.symm, v3, withO_of t3, withO_of t5, withO_of t7, withO_of t37, bytes_beq]
  by_cases hcs : cS = 0 ∧ nS ≤ 100
  · have hs0 : slackC p u = 0 := hcS ▸ hcs.1
    have hnk : nS = slk p u := by rw [hnS, if_pos hs0]
    obtain ⟨f1, f2, f3⟩ := slack_fits hs0 (by omega)
    rw [← hnk] at f1 f2 f3
    have e7 := implLidFits_c p u nS m7
    rw [f1] at e7
    simp -dsimp -implicitDefEqProofs [h1, hm3.symm, hm5.symm, hm7.symm, v3, withO_of t3, withO_of t5, withO_of t7, withO_of t37, bytes_beq, hcs.1, hcs.2]
    refine callsTo Tryd.cal16 e7 ?_
    simp -dsimp -implicitDefEqProofs [h1, hm3.symm, hm5.symm, hm7.symm, v3, withO_of t3, withO_of t5, withO_of t7, withO_of t37, bytes_beq, hcs.1, hcs.2]
    by_cases hpos : 0 < nS
    · have e8 := implLidFits_c p u (nS - 1) m7
      rw [f2 hpos] at e8
      have hw1 : IntKind.i64.wrap (nS - 1) = nS - 1 := wrapI (by omega) (by omega)
      simp -dsimp -implicitDefEqProofs [h1, hm3.symm, hm5.symm, hm7.symm, v3, withO_of t3, withO_of t5, withO_of t7, withO_of t37, bytes_beq, hpos, hw1]
      refine callsTo Tryd.cal16 e8 ?_
      simp -dsimp -implicitDefEqProofs [h1, hm3.symm, hm5.symm, hm7.symm, v3, withO_of t3, withO_of t5, withO_of t7, withO_of t37, bytes_beq, hpos, hw1]
      by_cases hct : cT = 0
      · obtain ⟨b, hb, hbT, hb0, hbs, hbm⟩ := tight_spec (hcT ▸ hct)
        have hnb : nT = (b : Int) := by rw [hnT, if_pos (hcT ▸ hct), hbT]
        obtain ⟨id, off, o, ha, hmo, hkd, hsz, hlen, hrow, _, _, _⟩ := R3.at_ (hL1.pre hp17).rd hb
        simp only [Option.some.injEq, Addr.mk.injEq] at ha
        obtain ⟨rfl, rfl, _⟩ := ha
        have eB : slackV xs[b] w = .tuple #[.int .i64 (slk xs[b] w), .int .i64 0] := by simp [slackV, hb0]
        have e20 := implSlack_c xs[b] w m7
        rw [eB] at e20
        obtain ⟨own, hown⟩ : ∃ z, z = slk xs[b] w := ⟨_, rfl⟩
        rw [← hown] at e20 hbs hbm
        have hns : ¬ s < own := by omega
        simp only [Nat.zero_add] at hlen hrow
        simp -dsimp -implicitDefEqProofs [h1, hm3.symm, hm5.symm, hm7.symm, v3, withO_of t3, withO_of t5, withO_of t7, withO_of t37, bytes_beq, hct, hnb, hb, withO_of hmo, hkd, hsz, hlen, hrow, hns, Nat.zero_add]
        refine callsTo Tryd.cal13 e20 ?_
        simp -dsimp -implicitDefEqProofs [h1, hm3.symm, hm5.symm, hm7.symm, v3, withO_of t3, withO_of t5, withO_of t7, withO_of t37, bytes_beq, hct, hnb, hb, withO_of hmo, hkd, hsz, hlen, hrow, hns, Nat.zero_add]
        refine loopN xs.length (fun i σ m' => m' = m7 ∧ σ 3 = some (.slice (some ⟨i1, 0, none⟩) xs.length xs.length) ∧ σ 4 = some (.int .i64 w) ∧ σ 28 = some (.int .i64 own) ∧ σ 30 = some (.int .i64 i)) ⟨rfl, by simp⟩ ?_
        rintro i σ m' hi ⟨rfl, s3, s4, s28, s30⟩
        by_cases hlt : i < xs.length
        · have hw : IntKind.i64.wrap ((i : Int) + 1) = i + 1 := wrapI (by omega) (by omega)
          obtain ⟨id, off, o, ha, hmo, hkd, hsz, hlen, hrow, _, _, _⟩ := R3.at_ (hL1.pre hp17).rd hlt
          simp only [Option.some.injEq, Addr.mk.injEq] at ha
          obtain ⟨rfl, rfl, _⟩ := ha
          simp only [Nat.zero_add] at hlen hrow
          obtain ⟨ci, hci⟩ : ∃ z, z = slackC xs[i] w := ⟨_, rfl⟩
          obtain ⟨ni, hni⟩ : ∃ z, z = (if slackC xs[i] w = 0 then slk xs[i] w else 0) := ⟨_, rfl⟩
          have eI : slackV xs[i] w = .tuple #[.int .i64 ni, .int .i64 ci] := by rw [hci, hni]; rfl
          have e21 := implSlack_c xs[i] w m'
          rw [eI] at e21
          by_cases hz : ci = 0
          · have hge : ¬ ni < own := by
              have h1 := hbm i hlt (hci ▸ hz)
              rw [hni, if_pos (hci ▸ hz)]; omega
            simp -dsimp -implicitDefEqProofs [s3, s4, s28, s30, hlt, withO_of hmo, hkd, hsz, hlen, hrow, hz, hge, hw, Nat.zero_add]
            refine callsTo Tryd.cal13 e21 ?_
            simp -dsimp -implicitDefEqProofs [s3, s4, s28, s30, hlt, withO_of hmo, hkd, hsz, hlen, hrow, hz, hge, hw, Nat.zero_add]
            exact next_ hlt ⟨rfl, by simp [s3, s4, s28, hw]⟩
          · have hz' : (ci == 0) = false := beq_eq_false_iff_ne.2 hz
            simp -dsimp -implicitDefEqProofs [s3, s4, s28, s30, hlt, withO_of hmo, hkd, hsz, hlen, hrow, hz', hw, Nat.zero_add]
            refine callsTo Tryd.cal13 e21 ?_
            simp -dsimp -implicitDefEqProofs [s3, s4, s28, s30, hlt, withO_of hmo, hkd, hsz, hlen, hrow, hz', hw, Nat.zero_add]
            exact next_ hlt ⟨rfl, by simp [s3, s4, s28, hw]⟩
        · simp -dsimp -implicitDefEqProofs [s3, s4, s28, s30, hlt]
          exact ⟨_, _, GC.refl _ _ _, rfl⟩
      · have hct' : (cT != 0) = true := by simpa using hct
        simp -dsimp -implicitDefEqProofs [h1, hm3.symm, hm5.symm, hm7.symm, v3, withO_of t3, withO_of t5, withO_of t7, withO_of t37, bytes_beq, hct']
        exact ⟨_, _, GC.refl _ _ _, rfl⟩
    · simp -dsimp -implicitDefEqProofs [h1, hm3.symm, hm5.symm, hm7.symm, v3, withO_of t3, withO_of t5, withO_of t7, withO_of t37, bytes_beq, hpos]
      by_cases hct : cT = 0
      · obtain ⟨b, hb, hbT, hb0, hbs, hbm⟩ := tight_spec (hcT ▸ hct)
        have hnb : nT = (b : Int) := by rw [hnT, if_pos (hcT ▸ hct), hbT]
        obtain ⟨id, off, o, ha, hmo, hkd, hsz, hlen, hrow, _, _, _⟩ := R3.at_ (hL1.pre hp17).rd hb
        simp only [Option.some.injEq, Addr.mk.injEq] at ha
        obtain ⟨rfl, rfl, _⟩ := ha
        have eB : slackV xs[b] w = .tuple #[.int .i64 (slk xs[b] w), .int .i64 0] := by simp [slackV, hb0]
        have e20 := implSlack_c xs[b] w m7
        rw [eB] at e20
        obtain ⟨own, hown⟩ : ∃ z, z = slk xs[b] w := ⟨_, rfl⟩
        rw [← hown] at e20 hbs hbm
        have hns : ¬ s < own := by omega
        simp only [Nat.zero_add] at hlen hrow
        simp -dsimp -implicitDefEqProofs [h1, hm3.symm, hm5.symm, hm7.symm, v3, withO_of t3, withO_of t5, withO_of t7, withO_of t37, bytes_beq, hct, hnb, hb, withO_of hmo, hkd, hsz, hlen, hrow, hns, Nat.zero_add]
        refine callsTo Tryd.cal13 e20 ?_
        simp -dsimp -implicitDefEqProofs [h1, hm3.symm, hm5.symm, hm7.symm, v3, withO_of t3, withO_of t5, withO_of t7, withO_of t37, bytes_beq, hct, hnb, hb, withO_of hmo, hkd, hsz, hlen, hrow, hns, Nat.zero_add]
        refine loopN xs.length (fun i σ m' => m' = m7 ∧ σ 3 = some (.slice (some ⟨i1, 0, none⟩) xs.length xs.length) ∧ σ 4 = some (.int .i64 w) ∧ σ 28 = some (.int .i64 own) ∧ σ 30 = some (.int .i64 i)) ⟨rfl, by simp⟩ ?_
        rintro i σ m' hi ⟨rfl, s3, s4, s28, s30⟩
        by_cases hlt : i < xs.length
        · have hw : IntKind.i64.wrap ((i : Int) + 1) = i + 1 := wrapI (by omega) (by omega)
          obtain ⟨id, off, o, ha, hmo, hkd, hsz, hlen, hrow, _, _, _⟩ := R3.at_ (hL1.pre hp17).rd hlt
          simp only [Option.some.injEq, Addr.mk.injEq] at ha
          obtain ⟨rfl, rfl, _⟩ := ha
          simp only [Nat.zero_add] at hlen hrow
          obtain ⟨ci, hci⟩ : ∃ z, z = slackC xs[i] w := ⟨_, rfl⟩
          obtain ⟨ni, hni⟩ : ∃ z, z = (if slackC xs[i] w = 0 then slk xs[i] w else 0) := ⟨_, rfl⟩
          have eI : slackV xs[i] w = .tuple #[.int .i64 ni, .int .i64 ci] := by rw [hci, hni]; rfl
          have e21 := implSlack_c xs[i] w m'
          rw [eI] at e21
          by_cases hz : ci = 0
          · have hge : ¬ ni < own := by
              have h1 := hbm i hlt (hci ▸ hz)
              rw [hni, if_pos (hci ▸ hz)]; omega
            simp -dsimp -implicitDefEqProofs [s3, s4, s28, s30, hlt, withO_of hmo, hkd, hsz, hlen, hrow, hz, hge, hw, Nat.zero_add]
            refine callsTo Tryd.cal13 e21 ?_
            simp -dsimp -implicitDefEqProofs [s3, s4, s28, s30, hlt, withO_of hmo, hkd, hsz, hlen, hrow, hz, hge, hw, Nat.zero_add]
            exact next_ hlt ⟨rfl, by simp [s3, s4, s28, hw]⟩
          · have hz' : (ci == 0) = false := beq_eq_false_iff_ne.2 hz
            simp -dsimp -implicitDefEqProofs [s3, s4, s28, s30, hlt, withO_of hmo, hkd, hsz, hlen, hrow, hz', hw, Nat.zero_add]
            refine callsTo Tryd.cal13 e21 ?_
            simp -dsimp -implicitDefEqProofs [s3, s4, s28, s30, hlt, withO_of hmo, hkd, hsz, hlen, hrow, hz', hw, Nat.zero_add]
            exact next_ hlt ⟨rfl, by simp [s3, s4, s28, hw]⟩
        · simp -dsimp -implicitDefEqProofs [s3, s4, s28, s30, hlt]
          exact ⟨_, _, GC.refl _ _ _, rfl⟩
      · have hct' : (cT != 0) = true := by simpa using hct
        simp -dsimp -implicitDefEqProofs [h1, hm3.symm, hm5.symm, hm7.symm, v3, withO_of t3, withO_of t5, withO_of t7, withO_of t37, bytes_beq, hct']
        exact ⟨_, _, GC.refl _ _ _, rfl⟩
  · by_cases hcs0 : cS = 0
    · have hn1 : ¬ nS ≤ 100 := fun h => hcs ⟨hcs0, h⟩
      simp -dsimp -implicitDefEqProofs [h1, hm3.symm, hm5.symm, hm7.symm, v3, withO_of t3, withO_of t5, withO_of t7, withO_of t37, bytes_beq, hcs0, hn1]
      by_cases hct : cT = 0
      · obtain ⟨b, hb, hbT, hb0, hbs, hbm⟩ := tight_spec (hcT ▸ hct)
        have hnb : nT = (b : Int) := by rw [hnT, if_pos (hcT ▸ hct), hbT]
        obtain ⟨id, off, o, ha, hmo, hkd, hsz, hlen, hrow, _, _, _⟩ := R3.at_ (hL1.pre hp17).rd hb
        simp only [Option.some.injEq, Addr.mk.injEq] at ha
        obtain ⟨rfl, rfl, _⟩ := ha
        have eB : slackV xs[b] w = .tuple #[.int .i64 (slk xs[b] w), .int .i64 0] := by simp [slackV, hb0]
        have e20 := implSlack_c xs[b] w m7
        rw [eB] at e20
        obtain ⟨own, hown⟩ : ∃ z, z = slk xs[b] w := ⟨_, rfl⟩
        rw [← hown] at e20 hbs hbm
        have hns : ¬ s < own := by omega
        simp only [Nat.zero_add] at hlen hrow
        simp -dsimp -implicitDefEqProofs [h1, hm3.symm, hm5.symm, hm7.symm, v3, withO_of t3, withO_of t5, withO_of t7, withO_of t37, bytes_beq, hct, hnb, hb, withO_of hmo, hkd, hsz, hlen, hrow, hns, Nat.zero_add]
        refine callsTo Tryd.cal13 e20 ?_
        simp -dsimp -implicitDefEqProofs [h1, hm3.symm, hm5.symm, hm7.symm, v3, withO_of t3, withO_of t5, withO_of t7, withO_of t37, bytes_beq, hct, hnb, hb, withO_of hmo, hkd, hsz, hlen, hrow, hns, Nat.zero_add]
        refine loopN xs.length (fun i σ m' => m' = m7 ∧ σ 3 = some (.slice (some ⟨i1, 0, none⟩) xs.length xs.length) ∧ σ 4 = some (.int .i64 w) ∧ σ 28 = some (.int .i64 own) ∧ σ 30 = some (.int .i64 i)) ⟨rfl, by simp⟩ ?_
        rintro i σ m' hi ⟨rfl, s3, s4, s28, s30⟩
        by_cases hlt : i < xs.length
        · have hw : IntKind.i64.wrap ((i : Int) + 1) = i + 1 := wrapI (by omega) (by omega)
          obtain ⟨id, off, o, ha, hmo, hkd, hsz, hlen, hrow, _, _, _⟩ := R3.at_ (hL1.pre hp17).rd hlt
          simp only [Option.some.injEq, Addr.mk.injEq] at ha
          obtain ⟨rfl, rfl, _⟩ := ha
          simp only [Nat.zero_add] at hlen hrow
          obtain ⟨ci, hci⟩ : ∃ z, z = slackC xs[i] w := ⟨_, rfl⟩
          obtain ⟨ni, hni⟩ : ∃ z, z = (if slackC xs[i] w = 0 then slk xs[i] w else 0) := ⟨_, rfl⟩
          have eI : slackV xs[i] w = .tuple #[.int .i64 ni, .int .i64 ci] := by rw [hci, hni]; rfl
          have e21 := implSlack_c xs[i] w m'
          rw [eI] at e21
          by_cases hz : ci = 0
          · have hge : ¬ ni < own := by
              have h1 := hbm i hlt (hci ▸ hz)
              rw [hni, if_pos (hci ▸ hz)]; omega
            simp -dsimp -implicitDefEqProofs [s3, s4, s28, s30, hlt, withO_of hmo, hkd, hsz, hlen, hrow, hz, hge, hw, Nat.zero_add]
            refine callsTo Tryd.cal13 e21 ?_
            simp -dsimp -implicitDefEqProofs [s3, s4, s28, s30, hlt, withO_of hmo, hkd, hsz, hlen, hrow, hz, hge, hw, Nat.zero_add]
            exact next_ hlt ⟨rfl, by simp [s3, s4, s28, hw]⟩
          · have hz' : (ci == 0) = false := beq_eq_false_iff_ne.2 hz
            simp -dsimp -implicitDefEqProofs [s3, s4, s28, s30, hlt, withO_of hmo, hkd, hsz, hlen, hrow, hz', hw, Nat.zero_add]
            refine callsTo Tryd.cal13 e21 ?_
            simp -dsimp -implicitDefEqProofs [s3, s4, s28, s30, hlt, withO_of hmo, hkd, hsz, hlen, hrow, hz', hw, Nat.zero_add]
            exact next_ hlt ⟨rfl, by simp [s3, s4, s28, hw]⟩
        · simp -dsimp -implicitDefEqProofs [s3, s4, s28, s30, hlt]
          exact ⟨_, _, GC.refl _ _ _, rfl⟩
      · have hct' : (cT != 0) = true := by simpa using hct
        simp -dsimp -implicitDefEqProofs [h1, hm3.symm, hm5.symm, hm7.symm, v3, withO_of t3, withO_of t5, withO_of t7, withO_of t37, bytes_beq, hct']
        exact ⟨_, _, GC.refl _ _ _, rfl⟩
    · have hcs' : (cS == 0) = false := beq_eq_false_iff_ne.2 hcs0
      simp -dsimp -implicitDefEqProofs [h1, hm3.symm, hm5.symm, hm7.symm, v3, withO_of t3, withO_of t5, withO_of t7, withO_of t37, bytes_beq, hcs']
      by_cases hct : cT = 0
      · obtain ⟨b, hb, hbT, hb0, hbs, hbm⟩ := tight_spec (hcT ▸ hct)
        have hnb : nT = (b : Int) := by rw [hnT, if_pos (hcT ▸ hct), hbT]
        obtain ⟨id, off, o, ha, hmo, hkd, hsz, hlen, hrow, _, _, _⟩ := R3.at_ (hL1.pre hp17).rd hb
        simp only [Option.some.injEq, Addr.mk.injEq] at ha
        obtain ⟨rfl, rfl, _⟩ := ha
        have eB : slackV xs[b] w = .tuple #[.int .i64 (slk xs[b] w), .int .i64 0] := by simp [slackV, hb0]
        have e20 := implSlack_c xs[b] w m7
        rw [eB] at e20
        obtain ⟨own, hown⟩ : ∃ z, z = slk xs[b] w := ⟨_, rfl⟩
        rw [← hown] at e20 hbs hbm
        have hns : ¬ s < own := by omega
        simp only [Nat.zero_add] at hlen hrow
        simp -dsimp -implicitDefEqProofs [h1, hm3.symm, hm5.symm, hm7.symm, v3, withO_of t3, withO_of t5, withO_of t7, withO_of t37, bytes_beq, hct, hnb, hb, withO_of hmo, hkd, hsz, hlen, hrow, hns, Nat.zero_add]
        refine callsTo Tryd.cal13 e20 ?_
        simp -dsimp -implicitDefEqProofs [h1, hm3.symm, hm5.symm, hm7.symm, v3, withO_of t3, withO_of t5, withO_of t7, withO_of t37, bytes_beq, hct, hnb, hb, withO_of hmo, hkd, hsz, hlen, hrow, hns, Nat.zero_add]
        refine loopN xs.length (fun i σ m' => m' = m7 ∧ σ 3 = some (.slice (some ⟨i1, 0, none⟩) xs.length xs.length) ∧ σ 4 = some (.int .i64 w) ∧ σ 28 = some (.int .i64 own) ∧ σ 30 = some (.int .i64 i)) ⟨rfl, by simp⟩ ?_
        rintro i σ m' hi ⟨rfl, s3, s4, s28, s30⟩
        by_cases hlt : i < xs.length
        · have hw : IntKind.i64.wrap ((i : Int) + 1) = i + 1 := wrapI (by omega) (by omega)
          obtain ⟨id, off, o, ha, hmo, hkd, hsz, hlen, hrow, _, _, _⟩ := R3.at_ (hL1.pre hp17).rd hlt
          simp only [Option.some.injEq, Addr.mk.injEq] at ha
          obtain ⟨rfl, rfl, _⟩ := ha
          simp only [Nat.zero_add] at hlen hrow
          obtain ⟨ci, hci⟩ : ∃ z, z = slackC xs[i] w := ⟨_, rfl⟩
          obtain ⟨ni, hni⟩ : ∃ z, z = (if slackC xs[i] w = 0 then slk xs[i] w else 0) := ⟨_, rfl⟩
          have eI : slackV xs[i] w = .tuple #[.int .i64 ni, .int .i64 ci] := by rw [hci, hni]; rfl
          have e21 := implSlack_c xs[i] w m'
          rw [eI] at e21
          by_cases hz : ci = 0
          · have hge : ¬ ni < own := by
              have h1 := hbm i hlt (hci ▸ hz)
              rw [hni, if_pos (hci ▸ hz)]; omega
            simp -dsimp -implicitDefEqProofs [s3, s4, s28, s30, hlt, withO_of hmo, hkd, hsz, hlen, hrow, hz, hge, hw, Nat.zero_add]
            refine callsTo Tryd.cal13 e21 ?_
            simp -dsimp -implicitDefEqProofs [s3, s4, s28, s30, hlt, withO_of hmo, hkd, hsz, hlen, hrow, hz, hge, hw, Nat.zero_add]
            exact next_ hlt ⟨rfl, by simp [s3, s4, s28, hw]⟩
          · have hz' : (ci == 0) = false := beq_eq_false_iff_ne.2 hz
            simp -dsimp -implicitDefEqProofs [s3, s4, s28, s30, hlt, withO_of hmo, hkd, hsz, hlen, hrow, hz', hw, Nat.zero_add]
            refine callsTo Tryd.cal13 e21 ?_
            simp -dsimp -implicitDefEqProofs [s3, s4, s28, s30, hlt, withO_of hmo, hkd, hsz, hlen, hrow, hz', hw, Nat.zero_add]
            exact next_ hlt ⟨rfl, by simp [s3, s4, s28, hw]⟩
        · simp -dsimp -implicitDefEqProofs [s3, s4, s28, s30, hlt]
          exact ⟨_, _, GC.refl _ _ _, rfl⟩
      · have hct' : (cT != 0) = true := by simpa using hct
        simp -dsimp -implicitDefEqProofs [h1, hm3.symm, hm5.symm, hm7.symm, v3, withO_of t3, withO_of t5, withO_of t7, withO_of t37, bytes_beq, hct']
        exact ⟨_, _, GC.refl _ _ _, rfl⟩
set_option maxRecDepth 100000 in
theorem fnTightLidsLifted (os : Os) (started : os.Started) (H : Type) (enc : TypeId × Value → H) :
    ReturnsInHanded {} Tryd.checked os 4 .any (fun w args => (Rows.fnTightLidsSpec.pre enc Tryd.prog Tryd.f4 [] false w args ∧ laidMetH Tryd.prog Rows.fnTightLidsRow.laid w) ∧ sizedMet enc Tryd.prog Tryd.f4 (OpenSpec.ofChange Rows.fnTightLidsSpec) false w args) (Rows.fnTightLidsSpec.post enc Tryd.prog Tryd.f4 false true false false) :=
  lawLiftedD (C := Tryd.checked) Rows.fnTightLidsRow.laid [.one (.sl [.int .u8])] 3 4 (by kernel_rfl) started (by kernel_rfl) Tryd.func4
    (ChangeSpec.witness_shaped (enc := enc) (C := Tryd.checked) (os := os) (X := fun w _ => laidMetH Tryd.prog Rows.fnTightLidsRow.laid w) false (doorWorld os) #[.slice none 0 0] 8 rfl (doorShaped os _) (by kernel_rfl) (by kernel_rfl) (by kernel_rfl) (doorMet os _))
    (by kernel_rfl) (by kernel_rfl) (by kernel_rfl) (fun W hs h => doorTabs W hs h) rfl (by kernel_rfl) rfl (fun ds h => match ds, h with | [_], _ => rfl) fun m vs h => by
      obtain ⟨u0, rfl, hv0⟩ := h.one
      obtain ⟨a, xs, rfl, hl0, hr0⟩ := CV.slB hv0
      obtain ⟨v, m', hc, hv⟩ := lawTightLids_c xs a m hr0 hl0
      have hv' : v = .bool true := hv
      exact ⟨m', hv' ▸ hc⟩

theorem fnTightLidsRow : Rows.FnTightLidsSaid :=
  OpenClaim.holds_of_wide 4 Tryd.f4 rfl rfl rfl rfl rfl rfl rfl ⟨rfl, rfl, rfl, rfl, rfl⟩ rfl rfl rfl rfl rfl (by kernel_rfl) Tryd.func4 (by kernel_rfl)
    (of_decide_eq_true (by kernel_rfl)) (by unfold Func.isWrapper; first | (rw [if_pos (by decide +kernel)]; kernel_rfl) | (rw [if_neg (by decide +kernel)]; exact ⟨rfl, rfl⟩))
    (fun os started H enc _ => fnTightLidsLifted os started H enc)

theorem fnTightLidsHolds : Rows.FnTightLidsCardSaid :=
  Claim7.holds_tied_plain_at .later [] [.data, .data, .data] true (true, "3987e356d695e392881ab485eba87bf4eb925380b8f5784048972f361d69f77c") false
    fnTightLidsRow (fun _ h => by cases h) (by kernel_rfl) (fun _ h => by cases h) fnTightLids_row_tie rfl ⟨rfl, rfl⟩ (by kernel_rfl) rfl
    (fun f fn hf hfn => by
      obtain rfl : f = 4 := Option.some.inj ((show Tryd.prog.funcNamed Rows.fnTightLidsRow.func = some 4 by kernel_rfl).symm.trans hf) |>.symm
      obtain rfl : fn = Tryd.f4 := (Option.some.inj (Tryd.func4.symm.trans hfn)).symm
      exact ⟨by kernel_rfl, fun j t ht => by
        have hall : (Tryd.f4.params.toList.all fun u => !Tryd.prog.wantsStandIn u) = true := by kernel_rfl
        have hm : t ∈ Tryd.f4.params.toList := by simpa using Array.mem_of_getElem? ht
        exact (show Tryd.prog.wantsStandIn t = false by simpa using List.all_eq_true.1 hall t hm)⟩)
    (by kernel_rfl)
end Go.Proofs.YthadhfogmfcacaaDoor
