/-
  'FnExactUnsoundLayers': for all arguments the program's UnsoundLayers returns what the reference's returns, leaves its arguments as they are and returns memory of its own. Conditions: none but those of the row (the library's tables are as the program's text lays them). Printed by a program (unslaw.py).
-/
import Derived.Test.YtmbijgnmbapchaaDoorBkL
import Derived.Test.YtmbijgnmbapchaaDoorBkM
import Derived.Test.YtmbijgnmbapchaaDoorBkG
import Derived.Test.YtmbijgnmbapchaaDoorDoor
set_option linter.unusedSimpArgs false
set_option linter.unusedVariables false
set_option linter.unusedSectionVars false
namespace Go.Proofs.YtmbijgnmbapchaaDoor
open Go.Abs Go.RowKit

set_option maxRecDepth 20000 in
set_option maxHeartbeats 1600000 in
theorem lawUns_c (st : Int) (ls : List LyT) (b : ByteArray) (A : Option Addr) (fl : Int) (m : Mem) (hr : RdG vl 2 m A ls) (hn : ls.length ≤ maxLen) (hs : ∀ p ∈ ls, in64 p.2 ∧ p.1.size ≤ maxLen) (hb : b.size ≤ maxLen) :
    ∃ v m', ACalls Tryd.prog 4 [.agg (bkC st A ls.length b).toArray, .int .i64 fl] m v m' ∧ IsT v m' := by
  obtain ⟨m0, hm0⟩ : ∃ m0 : Mem, m0 = m ++ [⟨bkC st A ls.length b, 24, 3, 1⟩] := ⟨_, rfl⟩
  have hp0 : m <+: m0 := by rw [hm0]; exact ⟨_, rfl⟩
  have t0 : m0[m.length]? = some ⟨bkC st A ls.length b, 24, 3, 1⟩ := by rw [hm0]; simp
  have hr0 := hr.pre hp0
  have hsz := szBasket_c st ls A b 1048576 m0 hr0 hn (fun p hp => (hs p hp).2) hb (by omega)
  have hm0' := hm0.symm
  simp only [bkC] at t0 hm0' hsz
  refine ecalls_of_vc Tryd.func4 rfl Tryd.fol (by kernel_rfl) ?_
  simp only [Tryd.f4, bkC]
  simp -dsimp -implicitDefEqProofs [hm0', withO_of t0]
  refine callsTo Tryd.cal8 hsz ?_
  simp -dsimp -implicitDefEqProofs [hm0', withO_of t0]
  refine sp2 (fun g => ⟨_, _, GC.refl _ _ _, rfl⟩) (fun g => ?_)
  have hsmall := (leftI_ok g).1
  have hn2 : ls.length ≤ 1048576 := by omega
  obtain ⟨v1, m1, hc1, j1, rfl, hp1, hj1, q1⟩ := toBasket_c st ls A b m0 hr0 hn2
  have rd1 : RdG vl 2 m1 (some ⟨j1, 0, none⟩) ls := RdG.of_get (g := vl) (sz := 2) (fun _ => rfl) ls q1 (by simp) rfl rfl
  cases hO : unsO st ls b fl with
  | none =>
    have hp1' : m1 <+: m1 := pre_refl _
    have e1 := specUns_c st ls b (some ⟨j1, 0, none⟩) fl m1 rd1 hn2 (fun p hp => (hs p hp).2) hb
    simp only [hO, optV, optM, List.append_nil] at e1
    obtain ⟨v2, m2, hc2, j2, rfl, hp2, hj2, q2⟩ := toBasket_c st ls A b m1 (hr0.pre (hp1.trans hp1')) hn2
    obtain ⟨m3, hm3⟩ : ∃ m3, m3 = m2 ++ [(⟨bkC st (some ⟨j2, 0, none⟩) ls.length b, 29, 3, 1⟩ : AObj)] := ⟨_, rfl⟩
    have hp3 : m2 <+: m3 := by rw [hm3]; exact ⟨_, rfl⟩
    have hl3 : m3.length = m2.length + 1 := by rw [hm3]; simp
    have t3 : m3[m2.length]? = some ⟨bkC st (some ⟨j2, 0, none⟩) ls.length b, 29, 3, 1⟩ := by rw [hm3]; simp
    have hj2l := lt_of_get q2
    have rd3 : RdG vl 2 m3 (some ⟨j2, 0, none⟩) ls := RdG.of_get (g := vl) (sz := 2) (fun _ => rfl) ls (prefix_get hp3 q2) (by simp) rfl rfl
    have hp3' : m3 <+: m3 := pre_refl _
    have e2 := implUns_c st ls b (some ⟨j2, 0, none⟩) fl m3 rd3 hn2 (fun p hp => (hs p hp).2) hb
    simp only [hO, optV, optM, List.append_nil] at e2
    have hp13 : m1 <+: m3 := hp2.trans (hp3.trans hp3')
    have hp03 : m0 <+: m3 := hp1.trans (hp1'.trans hp13)
    have E1 := eqInt64S_c [] [] none none m3 (RdI.nil _ _) (RdI.nil _ _) (by simp)
    obtain ⟨v4, m4, hc4, j4, rfl, hp4, hj4, q4⟩ := toBasket_c st ls A b m3 (hr0.pre hp03) hn2
    have rd4 : RdG vl 2 m4 (some ⟨j4, 0, none⟩) ls := RdG.of_get (g := vl) (sz := 2) (fun _ => rfl) ls q4 (by simp) rfl rfl
    have E2 := eqBasket_c st st ls ls (some ⟨j2, 0, none⟩) (some ⟨j4, 0, none⟩) b b m4 (rd3.pre (hp3'.trans hp4)) rd4 hn2
    have q24 := prefix_get (hp3.trans (hp3'.trans hp4)) q2
    obtain ⟨v5, m5, hc5, rfl, r5, q5⟩ := markBasket_c st ls b 1 j2 _ _ m4 q24 (by omega) hn2 (by omega)
    have hl4 := hp4.length_le
    have hl04 := (hp03.trans hp4).length_le
    have hp0j : m0.length ≤ j2 := by have := (hp1.trans hp1').length_le; omega
    have hp05 : m0 <+: m5 := r5.base (hp03.trans hp4) (by simpa using hp0j)
    have E3 := eqInt64S_c [] [] none none m5 (RdI.nil _ _) (RdI.nil _ _) (by simp)
    have E4 := markInt64S_nil none 1 m5
    obtain ⟨m6, hm6⟩ : ∃ m6 : Mem, m6 = m5 := ⟨_, rfl⟩
    have hp06 : m0 <+: m6 := by rw [hm6]; exact hp05
    have E5 := heldInt64S_c 0 1 none m5 (RdMk.nil 1 1 _ _) (by simp) (by decide)
    obtain ⟨v7, m7, hc7, j7, rfl, hp7, hj7, q7⟩ := toBasket_c st ls A b m5 (hr0.pre hp05) hn2
    have rd7 : RdG vl 2 m7 (some ⟨j7, 0, none⟩) ls := RdG.of_get (g := vl) (sz := 2) (fun _ => rfl) ls q7 (by simp) rfl rfl
    have hp7' : m7 <+: m7 := pre_refl _
    have e7 := implUns_c st ls b (some ⟨j7, 0, none⟩) fl m7 rd7 hn2 (fun p hp => (hs p hp).2) hb
    simp only [hO, optV, optM, List.append_nil] at e7
    have E6 := eqInt64S_c [] [] none none m7 (RdI.nil _ _) (RdI.nil _ _) (by simp)
    have E7 := heldInt64S_c 0 1 none m7 (RdMk.nil 1 1 _ _) (by simp) (by decide)
    have u0 := t0
    have u1 := prefix_get (hp1.trans hp1') t0
    have u3 := prefix_get hp03 t0
    have u6 := prefix_get hp05 t0
    have w3 := prefix_get hp3' t3
    have w4 := prefix_get hp4 w3
    obtain ⟨nm, hnm⟩ : ∃ nm : Nat, nm = 1 + 2 * ls.length := ⟨_, rfl⟩
    rw [← hnm] at hc5
    have hnm0 : ¬ ((nm : Int) < 0) := by omega
    have hm3s := hm3.symm
    simp only [bkC] at hc1 hc2 hc4 hc5 hc7 e1 e2 e7 E2 t3 w3 w4 hm3s
    have hnk : ¬ ((1 : Int) + (([] : List Int).length : Int) < 0) := by omega
    refine callsTo Tryd.cal10 hc1 ?_
    simp -dsimp -implicitDefEqProofs [withO_of u0, withO_of u1, withO_of u3, withO_of u6, withO_of t3, withO_of w3, withO_of w4, hm3s, bkC, hnm0, hnk]
    refine callsTo Tryd.cal13 e1 ?_
    simp -dsimp -implicitDefEqProofs [withO_of u0, withO_of u1, withO_of u3, withO_of u6, withO_of t3, withO_of w3, withO_of w4, hm3s, bkC, hnm0, hnk]
    refine callsTo Tryd.cal10 hc2 ?_
    simp -dsimp -implicitDefEqProofs [withO_of u0, withO_of u1, withO_of u3, withO_of u6, withO_of t3, withO_of w3, withO_of w4, hm3s, bkC, hnm0, hnk]
    refine callsTo Tryd.cal14 e2 ?_
    simp -dsimp -implicitDefEqProofs [withO_of u0, withO_of u1, withO_of u3, withO_of u6, withO_of t3, withO_of w3, withO_of w4, hm3s, bkC, hnm0, hnk]
    refine callsTo Tryd.cal15 E1 ?_
    simp -dsimp -implicitDefEqProofs [withO_of u0, withO_of u1, withO_of u3, withO_of u6, withO_of t3, withO_of w3, withO_of w4, hm3s, bkC, hnm0, hnk]
    refine callsTo Tryd.cal10 hc4 ?_
    simp -dsimp -implicitDefEqProofs [withO_of u0, withO_of u1, withO_of u3, withO_of u6, withO_of t3, withO_of w3, withO_of w4, hm3s, bkC, hnm0, hnk]
    refine need_intro (.inl hp4) ?_
    refine callsTo Tryd.cal12 E2 ?_
    simp -dsimp -implicitDefEqProofs [withO_of u0, withO_of u1, withO_of u3, withO_of u6, withO_of t3, withO_of w3, withO_of w4, hm3s, bkC, hnm0, hnk]
    refine callsTo Tryd.cal16 hc5 ?_
    simp -dsimp -implicitDefEqProofs [withO_of u0, withO_of u1, withO_of u3, withO_of u6, withO_of t3, withO_of w3, withO_of w4, hm3s, bkC, hnm0, hnk]
    refine callsTo Tryd.cal15 E3 ?_
    simp -dsimp -implicitDefEqProofs [withO_of u0, withO_of u1, withO_of u3, withO_of u6, withO_of t3, withO_of w3, withO_of w4, hm3s, bkC, hnm0, hnk]
    refine callsTo Tryd.cal17 E4 ?_
    simp -dsimp -implicitDefEqProofs [withO_of u0, withO_of u1, withO_of u3, withO_of u6, withO_of t3, withO_of w3, withO_of w4, hm3s, bkC, hnm0, hnk]
    refine callsTo Tryd.cal18 E5 ?_
    simp -dsimp -implicitDefEqProofs [withO_of u0, withO_of u1, withO_of u3, withO_of u6, withO_of t3, withO_of w3, withO_of w4, hm3s, bkC, hnm0, hnk]
    refine callsTo Tryd.cal10 hc7 ?_
    simp -dsimp -implicitDefEqProofs [withO_of u0, withO_of u1, withO_of u3, withO_of u6, withO_of t3, withO_of w3, withO_of w4, hm3s, bkC, hnm0, hnk]
    refine callsTo Tryd.cal14 e7 ?_
    simp -dsimp -implicitDefEqProofs [withO_of u0, withO_of u1, withO_of u3, withO_of u6, withO_of t3, withO_of w3, withO_of w4, hm3s, bkC, hnm0, hnk]
    refine callsTo Tryd.cal15 E6 ?_
    simp -dsimp -implicitDefEqProofs [withO_of u0, withO_of u1, withO_of u3, withO_of u6, withO_of t3, withO_of w3, withO_of w4, hm3s, bkC, hnm0, hnk]
    refine callsTo Tryd.cal18 E7 ?_
    simp -dsimp -implicitDefEqProofs [withO_of u0, withO_of u1, withO_of u3, withO_of u6, withO_of t3, withO_of w3, withO_of w4, hm3s, bkC, hnm0, hnk]
    exact ⟨_, _, GC.refl _ _ _, rfl⟩
  | some zs =>
    have hz : zs.length ≤ 1048576 := by
      unfold unsO at hO
      split at hO
      · injection hO with hO
        rw [← hO]
        exact Nat.le_trans (unsTo_length _ _ _ _) hn2
      · cases hO
    obtain ⟨m1', hm1'⟩ : ∃ m1' : Mem, m1' = m1 ++ [⟨zs.map (Value.int .i64), 2, 1, 2⟩] := ⟨_, rfl⟩
    have hp1' : m1 <+: m1' := by rw [hm1']; exact ⟨_, rfl⟩
    have q6 : m1'[m1.length]? = some ⟨zs.map (Value.int .i64), 2, 1, 2⟩ := by rw [hm1']; simp
    have hl1 : m1'.length = m1.length + 1 := by rw [hm1']; simp
    have e1 := specUns_c st ls b (some ⟨j1, 0, none⟩) fl m1 rd1 hn2 (fun p hp => (hs p hp).2) hb
    simp only [hO, optV, optM, List.append_nil, ← hm1'] at e1
    obtain ⟨v2, m2, hc2, j2, rfl, hp2, hj2, q2⟩ := toBasket_c st ls A b m1' (hr0.pre (hp1.trans hp1')) hn2
    obtain ⟨m3, hm3⟩ : ∃ m3, m3 = m2 ++ [(⟨bkC st (some ⟨j2, 0, none⟩) ls.length b, 29, 3, 1⟩ : AObj)] := ⟨_, rfl⟩
    have hp3 : m2 <+: m3 := by rw [hm3]; exact ⟨_, rfl⟩
    have hl3 : m3.length = m2.length + 1 := by rw [hm3]; simp
    have t3 : m3[m2.length]? = some ⟨bkC st (some ⟨j2, 0, none⟩) ls.length b, 29, 3, 1⟩ := by rw [hm3]; simp
    have hj2l := lt_of_get q2
    have rd3 : RdG vl 2 m3 (some ⟨j2, 0, none⟩) ls := RdG.of_get (g := vl) (sz := 2) (fun _ => rfl) ls (prefix_get hp3 q2) (by simp) rfl rfl
    obtain ⟨m3', hm3'⟩ : ∃ m3' : Mem, m3' = m3 ++ [⟨zs.map (Value.int .i64), 2, 1, 2⟩] := ⟨_, rfl⟩
    have hp3' : m3 <+: m3' := by rw [hm3']; exact ⟨_, rfl⟩
    have e2 := implUns_c st ls b (some ⟨j2, 0, none⟩) fl m3 rd3 hn2 (fun p hp => (hs p hp).2) hb
    simp only [hO, optV, optM, List.append_nil, ← hm3'] at e2
    have hp13 : m1' <+: m3' := hp2.trans (hp3.trans hp3')
    have hp03 : m0 <+: m3' := hp1.trans (hp1'.trans hp13)
    have q9 : m3'[m3.length]? = some ⟨zs.map (Value.int .i64), 2, 1, 2⟩ := by rw [hm3']; simp
    have q63 := prefix_get hp13 q6
    have E1 := eqInt64S_c zs zs (some ⟨m3.length, 0, none⟩) (some ⟨m1.length, 0, none⟩) m3' (RdI.of_get q9 (by simp) rfl rfl) (RdI.of_get q63 (by simp) rfl rfl) hz
    obtain ⟨v4, m4, hc4, j4, rfl, hp4, hj4, q4⟩ := toBasket_c st ls A b m3' (hr0.pre hp03) hn2
    have rd4 : RdG vl 2 m4 (some ⟨j4, 0, none⟩) ls := RdG.of_get (g := vl) (sz := 2) (fun _ => rfl) ls q4 (by simp) rfl rfl
    have E2 := eqBasket_c st st ls ls (some ⟨j2, 0, none⟩) (some ⟨j4, 0, none⟩) b b m4 (rd3.pre (hp3'.trans hp4)) rd4 hn2
    have q24 := prefix_get (hp3.trans (hp3'.trans hp4)) q2
    obtain ⟨v5, m5, hc5, rfl, r5, q5⟩ := markBasket_c st ls b 1 j2 _ _ m4 q24 (by omega) hn2 (by omega)
    have hl4 := hp4.length_le
    have hl04 := (hp03.trans hp4).length_le
    have hp0j : m0.length ≤ j2 := by have := (hp1.trans hp1').length_le; omega
    have hp05 : m0 <+: m5 := r5.base (hp03.trans hp4) (by simpa using hp0j)
    have q65 : m5[m1.length]? = some ⟨zs.map (Value.int .i64), 2, 1, 2⟩ := r5.get _ _ (by simp; omega) (prefix_get hp4 q63)
    have q95 : m5[m3.length]? = some ⟨zs.map (Value.int .i64), 2, 1, 2⟩ := r5.get _ _ (by simp; omega) (prefix_get hp4 q9)
    have E3 := eqInt64S_c zs zs (some ⟨m3.length, 0, none⟩) (some ⟨m1.length, 0, none⟩) m5 (RdI.of_get q95 (by simp) rfl rfl) (RdI.of_get q65 (by simp) rfl rfl) hz
    have E4 := markInt64S_c zs 1 m3.length _ m5 q95 rfl rfl (by simp) hz (by decide)
    obtain ⟨m6, hm6⟩ : ∃ m6, m6 = m5.set m3.length ⟨mkCells 1 1 zs.length, 2, 1, 2⟩ := ⟨_, rfl⟩
    simp only [← hm6] at E4
    have q96 : m6[m3.length]? = some ⟨mkCells 1 1 zs.length, 2, 1, 2⟩ := by rw [hm6]; exact get_set q95 _
    have q66 : m6[m1.length]? = some ⟨zs.map (Value.int .i64), 2, 1, 2⟩ := by rw [hm6, List.getElem?_set_ne (by omega)]; exact q65
    have hp06 : m0 <+: m6 := by rw [hm6]; exact pre_set hp05 (by omega) _
    have E5 := heldInt64S_c zs.length 1 (some ⟨m3.length, 0, none⟩) m6 (RdMk.of_get zs.length q96 (by simp) rfl rfl) hz (by decide)
    obtain ⟨v7, m7, hc7, j7, rfl, hp7, hj7, q7⟩ := toBasket_c st ls A b m6 (hr0.pre hp06) hn2
    have rd7 : RdG vl 2 m7 (some ⟨j7, 0, none⟩) ls := RdG.of_get (g := vl) (sz := 2) (fun _ => rfl) ls q7 (by simp) rfl rfl
    obtain ⟨m7', hm7'⟩ : ∃ m7' : Mem, m7' = m7 ++ [⟨zs.map (Value.int .i64), 2, 1, 2⟩] := ⟨_, rfl⟩
    have hp7' : m7 <+: m7' := by rw [hm7']; exact ⟨_, rfl⟩
    have e7 := implUns_c st ls b (some ⟨j7, 0, none⟩) fl m7 rd7 hn2 (fun p hp => (hs p hp).2) hb
    simp only [hO, optV, optM, List.append_nil, ← hm7'] at e7
    have q14 : m7'[m7.length]? = some ⟨zs.map (Value.int .i64), 2, 1, 2⟩ := by rw [hm7']; simp
    have E6 := eqInt64S_c zs zs (some ⟨m7.length, 0, none⟩) (some ⟨m1.length, 0, none⟩) m7' (RdI.of_get q14 (by simp) rfl rfl) (RdI.of_get (prefix_get (hp7.trans hp7') q66) (by simp) rfl rfl) hz
    have E7 := heldInt64S_c zs.length 1 (some ⟨m3.length, 0, none⟩) m7' (RdMk.of_get zs.length (prefix_get (hp7.trans hp7') q96) (by simp) rfl rfl) hz (by decide)
    have u0 := t0
    have u1 := prefix_get (hp1.trans hp1') t0
    have u3 := prefix_get hp03 t0
    have u6 := prefix_get hp06 t0
    have w3 := prefix_get hp3' t3
    have w4 := prefix_get hp4 w3
    obtain ⟨nm, hnm⟩ : ∃ nm : Nat, nm = 1 + 2 * ls.length := ⟨_, rfl⟩
    rw [← hnm] at hc5
    have hnm0 : ¬ ((nm : Int) < 0) := by omega
    have hm3s := hm3.symm
    simp only [bkC] at hc1 hc2 hc4 hc5 hc7 e1 e2 e7 E2 t3 w3 w4 hm3s
    have hnk : ¬ ((1 : Int) + ((zs : List Int).length : Int) < 0) := by omega
    refine callsTo Tryd.cal10 hc1 ?_
    simp -dsimp -implicitDefEqProofs [withO_of u0, withO_of u1, withO_of u3, withO_of u6, withO_of t3, withO_of w3, withO_of w4, hm3s, bkC, hnm0, hnk]
    refine callsTo Tryd.cal13 e1 ?_
    simp -dsimp -implicitDefEqProofs [withO_of u0, withO_of u1, withO_of u3, withO_of u6, withO_of t3, withO_of w3, withO_of w4, hm3s, bkC, hnm0, hnk]
    refine callsTo Tryd.cal10 hc2 ?_
    simp -dsimp -implicitDefEqProofs [withO_of u0, withO_of u1, withO_of u3, withO_of u6, withO_of t3, withO_of w3, withO_of w4, hm3s, bkC, hnm0, hnk]
    refine callsTo Tryd.cal14 e2 ?_
    simp -dsimp -implicitDefEqProofs [withO_of u0, withO_of u1, withO_of u3, withO_of u6, withO_of t3, withO_of w3, withO_of w4, hm3s, bkC, hnm0, hnk]
    refine callsTo Tryd.cal15 E1 ?_
    simp -dsimp -implicitDefEqProofs [withO_of u0, withO_of u1, withO_of u3, withO_of u6, withO_of t3, withO_of w3, withO_of w4, hm3s, bkC, hnm0, hnk]
    refine callsTo Tryd.cal10 hc4 ?_
    simp -dsimp -implicitDefEqProofs [withO_of u0, withO_of u1, withO_of u3, withO_of u6, withO_of t3, withO_of w3, withO_of w4, hm3s, bkC, hnm0, hnk]
    refine need_intro (.inl hp4) ?_
    refine callsTo Tryd.cal12 E2 ?_
    simp -dsimp -implicitDefEqProofs [withO_of u0, withO_of u1, withO_of u3, withO_of u6, withO_of t3, withO_of w3, withO_of w4, hm3s, bkC, hnm0, hnk]
    refine callsTo Tryd.cal16 hc5 ?_
    simp -dsimp -implicitDefEqProofs [withO_of u0, withO_of u1, withO_of u3, withO_of u6, withO_of t3, withO_of w3, withO_of w4, hm3s, bkC, hnm0, hnk]
    refine callsTo Tryd.cal15 E3 ?_
    simp -dsimp -implicitDefEqProofs [withO_of u0, withO_of u1, withO_of u3, withO_of u6, withO_of t3, withO_of w3, withO_of w4, hm3s, bkC, hnm0, hnk]
    refine callsTo Tryd.cal17 E4 ?_
    simp -dsimp -implicitDefEqProofs [withO_of u0, withO_of u1, withO_of u3, withO_of u6, withO_of t3, withO_of w3, withO_of w4, hm3s, bkC, hnm0, hnk]
    refine callsTo Tryd.cal18 E5 ?_
    simp -dsimp -implicitDefEqProofs [withO_of u0, withO_of u1, withO_of u3, withO_of u6, withO_of t3, withO_of w3, withO_of w4, hm3s, bkC, hnm0, hnk]
    refine callsTo Tryd.cal10 hc7 ?_
    simp -dsimp -implicitDefEqProofs [withO_of u0, withO_of u1, withO_of u3, withO_of u6, withO_of t3, withO_of w3, withO_of w4, hm3s, bkC, hnm0, hnk]
    refine callsTo Tryd.cal14 e7 ?_
    simp -dsimp -implicitDefEqProofs [withO_of u0, withO_of u1, withO_of u3, withO_of u6, withO_of t3, withO_of w3, withO_of w4, hm3s, bkC, hnm0, hnk]
    refine callsTo Tryd.cal15 E6 ?_
    simp -dsimp -implicitDefEqProofs [withO_of u0, withO_of u1, withO_of u3, withO_of u6, withO_of t3, withO_of w3, withO_of w4, hm3s, bkC, hnm0, hnk]
    refine callsTo Tryd.cal18 E7 ?_
    simp -dsimp -implicitDefEqProofs [withO_of u0, withO_of u1, withO_of u3, withO_of u6, withO_of t3, withO_of w3, withO_of w4, hm3s, bkC, hnm0, hnk]
    exact ⟨_, _, GC.refl _ _ _, rfl⟩
set_option maxRecDepth 100000 in
theorem unsLifted (os : Os) (started : os.Started) (H : Type) (enc : TypeId × Value → H) :
    ReturnsInHanded {} Tryd.checked os 4 .any (fun w args => (Rows.fnExactUnsoundLayersSpec.pre enc Tryd.prog Tryd.f4 [] false w args ∧ laidMetH Tryd.prog Rows.fnExactUnsoundLayersRow.laid w) ∧ sizedMet enc Tryd.prog Tryd.f4 (OpenSpec.ofChange Rows.fnExactUnsoundLayersSpec) false w args) (Rows.fnExactUnsoundLayersSpec.post enc Tryd.prog Tryd.f4 false true false false) :=
  lawLiftedD (C := Tryd.checked) Rows.fnExactUnsoundLayersRow.laid [.agg [I64, .sl [.str, I64], .str], .one I64] 3 4 (by kernel_rfl) started (by kernel_rfl) Tryd.func4
    (ChangeSpec.witness_shaped (enc := enc) (C := Tryd.checked) (os := os) (X := fun w _ => laidMetH Tryd.prog Rows.fnExactUnsoundLayersRow.laid w) false (doorWorld os) #[.agg #[.int .i64 0, .slice none 0 0, .string ⟨#[]⟩], .int .i64 0] 8 rfl (doorShaped os _) (by kernel_rfl) (by kernel_rfl) (by kernel_rfl) (doorMet os _))
    (by kernel_rfl) (by kernel_rfl) (by kernel_rfl) (fun W hs h => doorTabs W hs h) rfl (by kernel_rfl) rfl (fun ds h => match ds, h with | [_, _], _ => rfl) fun m vs h => by
      obtain ⟨v0, v1, rfl, hv0, hv1⟩ := h.two
      obtain ⟨st, a, xs, b, rfl, h1, h2, h3, h4, h5⟩ := AV.bask hv0
      obtain ⟨fl, rfl, _⟩ := CV.int hv1
      obtain ⟨v, m', hc, hv⟩ := lawUns_c st xs b a fl m h4 h3 h5 h2
      have hv' : v = .bool true := hv
      exact ⟨m', hv' ▸ hc⟩

theorem unsRow : Rows.FnExactUnsoundLayersSaid :=
  OpenClaim.holds_of_wide 4 Tryd.f4 rfl rfl rfl rfl rfl rfl rfl ⟨rfl, rfl, rfl, rfl, rfl⟩ rfl rfl rfl rfl rfl (by kernel_rfl) Tryd.func4 (by kernel_rfl)
    (of_decide_eq_true (by kernel_rfl)) (by unfold Func.isWrapper; first | (rw [if_pos (by decide +kernel)]; kernel_rfl) | (rw [if_neg (by decide +kernel)]; exact ⟨rfl, rfl⟩))
    (fun os started H enc _ => unsLifted os started H enc)

theorem unsHolds : Rows.FnExactUnsoundLayersCardSaid :=
  Claim7.holds_tied_plain_at .later [] [.data, .pinned] true (true, "68bcc4c865424b8343f4614056183390edf6139d20cb2c7cc7fdeafc599d8833") false
    unsRow (fun _ h => by cases h) (by kernel_rfl) (fun _ h => by cases h) fnExactUnsoundLayers_row_tie rfl ⟨rfl, rfl⟩ (by kernel_rfl) rfl
    (fun f fn hf hfn => by
      obtain rfl : f = 4 := Option.some.inj ((show Tryd.prog.funcNamed Rows.fnExactUnsoundLayersRow.func = some 4 by kernel_rfl).symm.trans hf) |>.symm
      obtain rfl : fn = Tryd.f4 := (Option.some.inj (Tryd.func4.symm.trans hfn)).symm
      exact ⟨by kernel_rfl, fun j t ht => by
        have hall : (Tryd.f4.params.toList.all fun u => !Tryd.prog.wantsStandIn u) = true := by kernel_rfl
        have hm : t ∈ Tryd.f4.params.toList := by simpa using Array.mem_of_getElem? ht
        exact (show Tryd.prog.wantsStandIn t = false by simpa using List.all_eq_true.1 hall t hm)⟩)
    (by kernel_rfl)
end Go.Proofs.YtmbijgnmbapchaaDoor
