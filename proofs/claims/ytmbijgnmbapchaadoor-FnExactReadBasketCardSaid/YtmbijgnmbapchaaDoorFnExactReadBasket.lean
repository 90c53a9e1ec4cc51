/-
  'FnExactReadBasket': for every text the program's ReadBasket returns what the reference's returns, and memory of its own. Conditions: none but those of the row (the library's tables are as the program's text lays them).
-/
import Derived.Test.YtmbijgnmbapchaaDoorBkHH
import Derived.Test.YtmbijgnmbapchaaDoorBkG
import Derived.Test.YtmbijgnmbapchaaDoorDoor
set_option linter.unusedSimpArgs false
set_option linter.unusedVariables false
set_option linter.unusedSectionVars false
namespace Go.Proofs.YtmbijgnmbapchaaDoor
open Go.Abs Go.RowKit Go.Law

theorem get_rest {S : List Nat} {m m' : Mem} (h : RestS S m m') {i : Nat} {o : AObj} (hi : m[i]? = some o) (hs : ∀ j ∈ S, i ≠ j) : m'[i]? = some o := h.get i o (fun hj => hs i hj rfl) hi
set_option maxRecDepth 20000 in
set_option maxHeartbeats 1600000 in
theorem lawReadBasket_c (t : ByteArray) (ht : t.size ≤ maxLen) (m : Mem) : ∃ v m', ACalls Tryd.prog 5 [.string t] m v m' ∧ IsT v m' := by
  have hmx : t.size ≤ 9223372036854775807 := ht
  by_cases hbig : 1048576 < t.size
  · have hb : (1048576 : Int) < t.size := by omega
    refine ecalls_of_vc Tryd.func5 rfl Tryd.fol (by kernel_rfl) ?_
    simp only [Tryd.f5]
    simp -dsimp -implicitDefEqProofs [hb]
    exact ⟨_, _, GC.refl _ _ _, rfl⟩
  have hb : ¬ (1048576 : Int) < t.size := by omega
  have ht2 : t.size ≤ 1048576 := by omega
  obtain ⟨⟨⟨st, ls, b⟩, rs, c⟩, hr⟩ : ∃ r, r = readR t := ⟨_, rfl⟩
  have hsm := readR_small t
  rw [← hr] at hsm
  simp only at hsm
  obtain ⟨v1, m1, hc1, Aw, Rw, rfl, hp1, hLw, hRw, hneW⟩ := specRead_c t ht2 m
  rw [← hr] at hc1 hLw hRw
  simp only [bkC] at hc1 hLw hRw
  obtain ⟨m2, hm2⟩ : ∃ m2 : Mem, m2 = m1 ++ [⟨[.int .i64 st, .slice Aw ls.length ls.length, .string b], 29, 3, 1⟩] := ⟨_, rfl⟩
  have t2 : m2[m1.length]? = some ⟨[.int .i64 st, .slice Aw ls.length ls.length, .string b], 29, 3, 1⟩ := by rw [hm2]; simp
  have hl2 : m2.length = m1.length + 1 := by rw [hm2]; simp
  have r12 : RestS [] m1 m2 := by rw [hm2]; exact RestS.app _ _ _
  have hLw2 := hLw.rest r12 (fun i hi => by simp)
  have hRw2 := hRw.rest r12 (fun i hi => by simp)
  obtain ⟨v4, m4, hc4, Ag, Rg, rfl, hp4, hLg, hRg, hneG⟩ := implRead_c t ht2 m2
  rw [← hr] at hc4 hLg hRg
  simp only [bkC] at hc4 hLg hRg
  have hl4 := hp4.length_le
  obtain ⟨m5, hm5⟩ : ∃ m5 : Mem, m5 = m4 ++ [⟨[.int .i64 st, .slice Ag ls.length ls.length, .string b], 29, 3, 1⟩] := ⟨_, rfl⟩
  have g5 : m5[m4.length]? = some ⟨[.int .i64 st, .slice Ag ls.length ls.length, .string b], 29, 3, 1⟩ := by rw [hm5]; simp
  have hl5 : m5.length = m4.length + 1 := by rw [hm5]; simp
  have r45 : RestS [] m4 m5 := by rw [hm5]; exact RestS.app _ _ _
  have r25 : RestS [] m2 m5 := (RestS.of_pre hp4).trans r45
  have t5 := get_rest r25 t2 (by simp)
  have hLw5 := hLw2.rest r25 (fun i hi => by simp)
  have hRw5 := hRw2.rest r25 (fun i hi => by simp)
  have hLg5 := hLg.rest r45 (fun i hi => by simp)
  have hRg5 := hRg.rest r45 (fun i hi => by simp)
  have E1 := eqBasket_c st st ls ls Ag Aw b b m5 hLg5.rd hLw5.rd (by omega)
  have E2 := eqReportS_c rs rs Rg Rw m5 hRg5.rd hRw5.rd (by omega)
  obtain ⟨v6, m6, hc6, rfl, r56, hh6⟩ := markRd_c st ls b Ag _ m5 hLg5 (by omega)
  have hRg6 := hRg5.rest r56 (fun i hi hj => blk_apart hneG i hj hi)
  obtain ⟨N1, hN1⟩ : ∃ N1 : Int, N1 = 1 + 2 * (ls.length : Int) := ⟨_, rfl⟩
  rw [← hN1] at hc6
  obtain ⟨v7, m7, hc7, rfl, r67, hh7⟩ := markRp_c rs Rg N1 _ m6 hRg6 (by omega) (by omega)
  obtain ⟨N2, hN2⟩ : ∃ N2 : Int, N2 = N1 + (rs.length : Int) * 2 := ⟨_, rfl⟩
  rw [← hN2] at hc7
  have r57 : RestS (blk Ag ++ blk Rg) m5 m7 := ⟨Nat.le_trans r56.len r67.len, fun i o h1 h2 => r67.get i o (fun x => h1 (by simp [x])) (r56.get i o (fun x => h1 (by simp [x])) h2)⟩
  have hoff : ∀ i, i < m2.length ∨ m4.length ≤ i → ∀ j ∈ blk Ag ++ blk Rg, i ≠ j := fun i hi j hj => by
    rcases List.mem_append.1 hj with hj | hj
    · have := hLg.in_ j hj; omega
    · have := hRg.in_ j hj; omega
  have t7 := get_rest r57 t5 (hoff _ (by omega))
  have t6 := get_rest r56 t5 (fun j hj => hoff _ (by omega) j (by simp [hj]))
  have g6 := get_rest r56 g5 (fun j hj => hoff _ (by omega) j (by simp [hj]))
  have g7 := get_rest r57 g5 (hoff _ (by omega))
  have hLw7 := hLw5.rest r57 (fun i hi hj => hoff i (by have := hLw2.in_ i hi; omega) i hj rfl)
  have hRw7 := hRw5.rest r57 (fun i hi hj => hoff i (by have := hRw2.in_ i hi; omega) i hj rfl)
  have hhB7 : RdG vl 2 m7 Ag (mkLy 1 ls.length) := r67.rdG (fun a ha hj => blk_apart hneG a.block (by rw [ha]; simp [blk]) hj) hh6
  have F1 := heldBasket_c st ls.length b 1 Ag m7 hhB7 (by omega) (by omega)
  rw [show ((1 + 2 * ls.length : Nat) : Int) = N1 by omega] at F1
  have F2 := heldReportS_c rs.length N1 Rg m7 hh7 (by omega) (by omega)
  rw [← hN2] at F2
  obtain ⟨v9, m9, hc9, Ah, Rh, rfl, hp9, hLh, hRh, hneH⟩ := implRead_c t ht2 m7
  rw [← hr] at hc9 hLh hRh
  simp only [bkC] at hc9 hLh hRh
  obtain ⟨mA, hmA⟩ : ∃ mA : Mem, mA = m9 ++ [⟨[.int .i64 st, .slice Ah ls.length ls.length, .string b], 29, 3, 1⟩] := ⟨_, rfl⟩
  have hA : mA[m9.length]? = some ⟨[.int .i64 st, .slice Ah ls.length ls.length, .string b], 29, 3, 1⟩ := by rw [hmA]; simp
  have r9A : RestS [] m9 mA := by rw [hmA]; exact RestS.app _ _ _
  have r7A : RestS [] m7 mA := (RestS.of_pre hp9).trans r9A
  have tA := get_rest r7A t7 (by simp)
  have gA := get_rest r7A g7 (by simp)
  have hLwA := hLw7.rest r7A (fun i hi => by simp)
  have hRwA := hRw7.rest r7A (fun i hi => by simp)
  have hLhA := hLh.rest r9A (fun i hi => by simp)
  have hRhA := hRh.rest r9A (fun i hi => by simp)
  have E3 := eqBasket_c st st ls ls Ah Aw b b mA hLhA.rd hLwA.rd (by omega)
  have E4 := eqReportS_c rs rs Rh Rw mA hRhA.rd hRwA.rd (by omega)
  have hhBA : RdG vl 2 mA Ag (mkLy 1 ls.length) := r7A.rdG (fun a ha => by simp) hhB7
  have hhRA : RdG (mkRow 2 N1) 2 mA Rg (List.range rs.length) := r7A.rdG (fun a ha => by simp) hh7
  have F3 := heldBasket_c st ls.length b 1 Ag mA hhBA (by omega) (by omega)
  rw [show ((1 + 2 * ls.length : Nat) : Int) = N1 by omega] at F3
  have F4 := heldReportS_c rs.length N1 Rg mA hhRA (by omega) (by omega)
  rw [← hN2] at F4
  have p1 : ¬ N1 < 0 := by omega
  have p2 : ¬ N2 < 0 := by omega
  have hm2' := hm2.symm
  have hm5' := hm5.symm
  have hmA' := hmA.symm
  simp only [bkC] at hc6 E1 E3 F1 F3
  refine ecalls_of_vc Tryd.func5 rfl Tryd.fol (by kernel_rfl) ?_
  simp only [Tryd.f5]
  simp -dsimp -implicitDefEqProofs [hb, hm2', withO_of t2, hm5', withO_of g5, withO_of t5, withO_of g6, withO_of g7, withO_of t7, hmA', withO_of hA, withO_of tA, withO_of gA, p1, p2]
  refine callsTo Tryd.cal19 hc1 ?_
  simp -dsimp -implicitDefEqProofs [hb, hm2', withO_of t2, hm5', withO_of g5, withO_of t5, withO_of g6, withO_of g7, withO_of t7, hmA', withO_of hA, withO_of tA, withO_of gA, p1, p2]
  refine callsTo Tryd.cal20 hc4 ?_
  simp -dsimp -implicitDefEqProofs [hb, hm2', withO_of t2, hm5', withO_of g5, withO_of t5, withO_of g6, withO_of g7, withO_of t7, hmA', withO_of hA, withO_of tA, withO_of gA, p1, p2]
  refine callsTo Tryd.cal12 E1 ?_
  simp -dsimp -implicitDefEqProofs [hb, hm2', withO_of t2, hm5', withO_of g5, withO_of t5, withO_of g6, withO_of g7, withO_of t7, hmA', withO_of hA, withO_of tA, withO_of gA, p1, p2]
  refine callsTo Tryd.cal21 E2 ?_
  simp -dsimp -implicitDefEqProofs [hb, hm2', withO_of t2, hm5', withO_of g5, withO_of t5, withO_of g6, withO_of g7, withO_of t7, hmA', withO_of hA, withO_of tA, withO_of gA, p1, p2]
  refine callsTo Tryd.cal16 hc6 ?_
  simp -dsimp -implicitDefEqProofs [hb, hm2', withO_of t2, hm5', withO_of g5, withO_of t5, withO_of g6, withO_of g7, withO_of t7, hmA', withO_of hA, withO_of tA, withO_of gA, p1, p2]
  refine callsTo Tryd.cal22 hc7 ?_
  simp -dsimp -implicitDefEqProofs [hb, hm2', withO_of t2, hm5', withO_of g5, withO_of t5, withO_of g6, withO_of g7, withO_of t7, hmA', withO_of hA, withO_of tA, withO_of gA, p1, p2]
  refine callsTo Tryd.cal23 F1 ?_
  simp -dsimp -implicitDefEqProofs [hb, hm2', withO_of t2, hm5', withO_of g5, withO_of t5, withO_of g6, withO_of g7, withO_of t7, hmA', withO_of hA, withO_of tA, withO_of gA, p1, p2]
  refine callsTo Tryd.cal24 F2 ?_
  simp -dsimp -implicitDefEqProofs [hb, hm2', withO_of t2, hm5', withO_of g5, withO_of t5, withO_of g6, withO_of g7, withO_of t7, hmA', withO_of hA, withO_of tA, withO_of gA, p1, p2]
  refine callsTo Tryd.cal20 hc9 ?_
  simp -dsimp -implicitDefEqProofs [hb, hm2', withO_of t2, hm5', withO_of g5, withO_of t5, withO_of g6, withO_of g7, withO_of t7, hmA', withO_of hA, withO_of tA, withO_of gA, p1, p2]
  refine callsTo Tryd.cal12 E3 ?_
  simp -dsimp -implicitDefEqProofs [hb, hm2', withO_of t2, hm5', withO_of g5, withO_of t5, withO_of g6, withO_of g7, withO_of t7, hmA', withO_of hA, withO_of tA, withO_of gA, p1, p2]
  refine callsTo Tryd.cal21 E4 ?_
  simp -dsimp -implicitDefEqProofs [hb, hm2', withO_of t2, hm5', withO_of g5, withO_of t5, withO_of g6, withO_of g7, withO_of t7, hmA', withO_of hA, withO_of tA, withO_of gA, p1, p2]
  refine callsTo Tryd.cal23 F3 ?_
  simp -dsimp -implicitDefEqProofs [hb, hm2', withO_of t2, hm5', withO_of g5, withO_of t5, withO_of g6, withO_of g7, withO_of t7, hmA', withO_of hA, withO_of tA, withO_of gA, p1, p2]
  refine callsTo Tryd.cal24 F4 ?_
  simp -dsimp -implicitDefEqProofs [hb, hm2', withO_of t2, hm5', withO_of g5, withO_of t5, withO_of g6, withO_of g7, withO_of t7, hmA', withO_of hA, withO_of tA, withO_of gA, p1, p2]
  exact ⟨_, _, GC.refl _ _ _, rfl⟩
set_option maxRecDepth 100000 in
theorem readBasketLifted (os : Os) (started : os.Started) (H : Type) (enc : TypeId × Value → H) :
    ReturnsInHanded {} Tryd.checked os 5 .any (fun w args => (Rows.fnExactReadBasketSpec.pre enc Tryd.prog Tryd.f5 [] false w args ∧ laidMetH Tryd.prog Rows.fnExactReadBasketRow.laid w) ∧ sizedMet enc Tryd.prog Tryd.f5 (OpenSpec.ofChange Rows.fnExactReadBasketSpec) false w args) (Rows.fnExactReadBasketSpec.post enc Tryd.prog Tryd.f5 false true false false) :=
  lawLiftedD (C := Tryd.checked) Rows.fnExactReadBasketRow.laid [.one .str] 3 4 (by kernel_rfl) started (by kernel_rfl) Tryd.func5
    (ChangeSpec.witness_shaped (enc := enc) (C := Tryd.checked) (os := os) (X := fun w _ => laidMetH Tryd.prog Rows.fnExactReadBasketRow.laid w) false (doorWorld os) #[.string ⟨#[]⟩] 8 rfl (doorShaped os _) (by kernel_rfl) (by kernel_rfl) (by kernel_rfl) (doorMet os _))
    (by kernel_rfl) (by kernel_rfl) (by kernel_rfl) (fun W hs h => doorTabs W hs h) rfl (by kernel_rfl) rfl (fun ds h => match ds, h with | [_], _ => rfl) fun m vs h => by
      obtain ⟨v0, rfl, hv0⟩ := h.one
      obtain ⟨s, rfl, hs⟩ := CV.strg hv0
      obtain ⟨v, m', hc, hv⟩ := lawReadBasket_c s hs m
      have hv' : v = .bool true := hv
      exact ⟨m', hv' ▸ hc⟩

theorem readBasketRow : Rows.FnExactReadBasketSaid :=
  OpenClaim.holds_of_wide 5 Tryd.f5 rfl rfl rfl rfl rfl rfl rfl ⟨rfl, rfl, rfl, rfl, rfl⟩ rfl rfl rfl rfl rfl (by kernel_rfl) Tryd.func5 (by kernel_rfl)
    (of_decide_eq_true (by kernel_rfl)) (by unfold Func.isWrapper; first | (rw [if_pos (by decide +kernel)]; kernel_rfl) | (rw [if_neg (by decide +kernel)]; exact ⟨rfl, rfl⟩))
    (fun os started H enc _ => readBasketLifted os started H enc)

theorem readBasketHolds : Rows.FnExactReadBasketCardSaid :=
  Claim7.holds_tied_plain_at .later [] [.data, .data, .data, .data, .pinned] true (true, "68bcc4c865424b8343f4614056183390edf6139d20cb2c7cc7fdeafc599d8833") false
    readBasketRow (fun _ h => by cases h) (by kernel_rfl) (fun _ h => by cases h) fnExactReadBasket_row_tie rfl ⟨rfl, rfl⟩ (by kernel_rfl) rfl
    (fun f fn hf hfn => by
      obtain rfl : f = 5 := Option.some.inj ((show Tryd.prog.funcNamed Rows.fnExactReadBasketRow.func = some 5 by kernel_rfl).symm.trans hf) |>.symm
      obtain rfl : fn = Tryd.f5 := (Option.some.inj (Tryd.func5.symm.trans hfn)).symm
      exact ⟨by kernel_rfl, fun j t ht => by
        have hall : (Tryd.f5.params.toList.all fun u => !Tryd.prog.wantsStandIn u) = true := by kernel_rfl
        have hm : t ∈ Tryd.f5.params.toList := by simpa using Array.mem_of_getElem? ht
        exact (show Tryd.prog.wantsStandIn t = false by simpa using List.all_eq_true.1 hall t hm)⟩)
    (by kernel_rfl)
end Go.Proofs.YtmbijgnmbapchaaDoor
