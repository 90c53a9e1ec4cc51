/-
  'FnExactBasketText': for every basket the program's BasketText returns what the reference's returns. Conditions: none but those of the row (the library's tables are as the program's text lays them).
-/
import Derived.Test.YtmbijgnmbapchaaDoorBkF
import Derived.Test.YtmbijgnmbapchaaDoorBkG
import Derived.Test.YtmbijgnmbapchaaDoorDoor
set_option linter.unusedSimpArgs false
set_option linter.unusedVariables false
set_option linter.unusedSectionVars false
namespace Go.Proofs.YtmbijgnmbapchaaDoor
open Go.Abs Go.RowKit

set_option maxRecDepth 20000 in
theorem lawBasketText_c (st : Int) (ls : List LyT) (b : ByteArray) (A : Option Addr) (m : Mem) (hr : RdG vl 2 m A ls) (hn : ls.length ≤ maxLen) (hst : in64 st) (hs : ∀ p ∈ ls, in64 p.2 ∧ p.1.size ≤ maxLen) (hb : b.size ≤ maxLen) :
    ∃ v m', ACalls Tryd.prog 3 [.agg (bkC st A ls.length b).toArray] m v m' ∧ IsT v m' := by
  obtain ⟨m0, hm0⟩ : ∃ m0 : Mem, m0 = m ++ [⟨bkC st A ls.length b, 24, 3, 1⟩] := ⟨_, rfl⟩
  have hp0 : m <+: m0 := by rw [hm0]; exact ⟨_, rfl⟩
  have t0 : m0[m.length]? = some ⟨bkC st A ls.length b, 24, 3, 1⟩ := by rw [hm0]; simp
  have hr0 := hr.pre hp0
  have hsz := szBasket_c st ls A b 1048576 m0 hr0 hn (fun p hp => (hs p hp).2) hb (by omega)
  have hm0' := hm0.symm
  simp only [bkC] at t0 hm0' hsz
  refine ecalls_of_vc Tryd.func3 rfl Tryd.fol (by kernel_rfl) ?_
  simp only [Tryd.f3, bkC]
  simp -dsimp -implicitDefEqProofs [hm0', withO_of t0]
  refine callsTo Tryd.cal8 hsz ?_
  simp -dsimp -implicitDefEqProofs [hm0', withO_of t0]
  refine sp2 (fun g => ⟨_, _, GC.refl _ _ _, rfl⟩) (fun g => ?_)
  have hsmall := (leftI_ok g).1
  have hn2 : ls.length ≤ 1048576 := by omega
  obtain ⟨v1, m1, hc1, j1, rfl, hp1, hj1, q1⟩ := toBasket_c st ls A b m0 hr0 hn2
  have rd1 : RdG vl 2 m1 (some ⟨j1, 0, none⟩) ls := RdG.of_get (g := vl) (sz := 2) (fun _ => rfl) ls q1 (by simp) rfl rfl
  have e1 := specText_c st ls b (some ⟨j1, 0, none⟩) m1 rd1 hn2 hst hs hb
  obtain ⟨v2, m2, hc2, j2, rfl, hp2, hj2, q2⟩ := toBasket_c st ls A b m1 (hr0.pre hp1) hn2
  obtain ⟨m3, hm3⟩ : ∃ m3, m3 = m2 ++ [(⟨bkC st (some ⟨j2, 0, none⟩) ls.length b, 29, 3, 1⟩ : AObj)] := ⟨_, rfl⟩
  have hp3 : m2 <+: m3 := by rw [hm3]; exact ⟨_, rfl⟩
  have t3 : m3[m2.length]? = some ⟨bkC st (some ⟨j2, 0, none⟩) ls.length b, 29, 3, 1⟩ := by rw [hm3]; simp
  have rd3 : RdG vl 2 m3 (some ⟨j2, 0, none⟩) ls := RdG.of_get (g := vl) (sz := 2) (fun _ => rfl) ls (prefix_get hp3 q2) (by simp) rfl rfl
  have e2 := implText_c st ls b (some ⟨j2, 0, none⟩) m3 rd3 hn2 hst hs hb
  obtain ⟨v4, m4, hc4, j4, rfl, hp4, hj4, q4⟩ := toBasket_c st ls A b m3 (hr0.pre (hp1.trans (hp2.trans hp3))) hn2
  have rd4 : RdG vl 2 m4 (some ⟨j4, 0, none⟩) ls := RdG.of_get (g := vl) (sz := 2) (fun _ => rfl) ls q4 (by simp) rfl rfl
  have e3 := eqBasket_c st st ls ls (some ⟨j2, 0, none⟩) (some ⟨j4, 0, none⟩) b b m4 (rd3.pre hp4) rd4 hn2
  have t01 := prefix_get hp1 t0
  have t03 := prefix_get (hp1.trans (hp2.trans hp3)) t0
  obtain ⟨txt, htxt⟩ : ∃ t, t = (if okB st ls b then textV st ls b else (⟨#[]⟩ : ByteArray)) := ⟨_, rfl⟩
  rw [← htxt] at e1 e2
  have hm3' := hm3.symm
  simp only [bkC] at hc1 hc2 hc4 e1 e2 e3 t3 hm3'
  refine callsTo Tryd.cal10 hc1 ?_
  simp -dsimp -implicitDefEqProofs [withO_of t0, withO_of t01, withO_of t03, withO_of t3, hm3', bkC, bytes_beq]
  refine callsTo Tryd.cal9 e1 ?_
  simp -dsimp -implicitDefEqProofs [withO_of t0, withO_of t01, withO_of t03, withO_of t3, hm3', bkC, bytes_beq]
  refine callsTo Tryd.cal10 hc2 ?_
  simp -dsimp -implicitDefEqProofs [withO_of t0, withO_of t01, withO_of t03, withO_of t3, hm3', bkC, bytes_beq]
  refine callsTo Tryd.cal11 e2 ?_
  simp -dsimp -implicitDefEqProofs [withO_of t0, withO_of t01, withO_of t03, withO_of t3, hm3', bkC, bytes_beq]
  refine callsTo Tryd.cal10 hc4 ?_
  simp -dsimp -implicitDefEqProofs [withO_of t0, withO_of t01, withO_of t03, withO_of t3, hm3', bkC, bytes_beq]
  refine need_intro (.inl hp4) ?_
  refine callsTo Tryd.cal12 e3 ?_
  simp -dsimp -implicitDefEqProofs [withO_of t0, withO_of t01, withO_of t03, withO_of t3, hm3', bkC, bytes_beq]
  exact ⟨_, _, GC.refl _ _ _, rfl⟩
set_option maxRecDepth 100000 in
theorem basketTextLifted (os : Os) (started : os.Started) (H : Type) (enc : TypeId × Value → H) :
    ReturnsInHanded {} Tryd.checked os 3 .any (fun w args => (Rows.fnExactBasketTextSpec.pre enc Tryd.prog Tryd.f3 [] false w args ∧ laidMetH Tryd.prog Rows.fnExactBasketTextRow.laid w) ∧ sizedMet enc Tryd.prog Tryd.f3 (OpenSpec.ofChange Rows.fnExactBasketTextSpec) false w args) (Rows.fnExactBasketTextSpec.post enc Tryd.prog Tryd.f3 false true false false) :=
  lawLiftedD (C := Tryd.checked) Rows.fnExactBasketTextRow.laid [.agg [I64, .sl [.str, I64], .str]] 3 4 (by kernel_rfl) started (by kernel_rfl) Tryd.func3
    (ChangeSpec.witness_shaped (enc := enc) (C := Tryd.checked) (os := os) (X := fun w _ => laidMetH Tryd.prog Rows.fnExactBasketTextRow.laid w) false (doorWorld os) #[.agg #[.int .i64 0, .slice none 0 0, .string ⟨#[]⟩]] 8 rfl (doorShaped os _) (by kernel_rfl) (by kernel_rfl) (by kernel_rfl) (doorMet os _))
    (by kernel_rfl) (by kernel_rfl) (by kernel_rfl) (fun W hs h => doorTabs W hs h) rfl (by kernel_rfl) rfl (fun ds h => match ds, h with | [_], _ => rfl) fun m vs h => by
      obtain ⟨v0, rfl, hv0⟩ := h.one
      obtain ⟨st, a, xs, b, rfl, h1, h2, h3, h4, h5⟩ := AV.bask hv0
      obtain ⟨v, m', hc, hv⟩ := lawBasketText_c st xs b a m h4 h3 h1 h5 h2
      have hv' : v = .bool true := hv
      exact ⟨m', hv' ▸ hc⟩

theorem basketTextRow : Rows.FnExactBasketTextSaid :=
  OpenClaim.holds_of_wide 3 Tryd.f3 rfl rfl rfl rfl rfl rfl rfl ⟨rfl, rfl, rfl, rfl, rfl⟩ rfl rfl rfl rfl rfl (by kernel_rfl) Tryd.func3 (by kernel_rfl)
    (of_decide_eq_true (by kernel_rfl)) (by unfold Func.isWrapper; first | (rw [if_pos (by decide +kernel)]; kernel_rfl) | (rw [if_neg (by decide +kernel)]; exact ⟨rfl, rfl⟩))
    (fun os started H enc _ => basketTextLifted os started H enc)

theorem basketTextHolds : Rows.FnExactBasketTextCardSaid :=
  Claim7.holds_tied_plain_at .later [] [.data, .data, .data, .data, .pinned] true (true, "68bcc4c865424b8343f4614056183390edf6139d20cb2c7cc7fdeafc599d8833") false
    basketTextRow (fun _ h => by cases h) (by kernel_rfl) (fun _ h => by cases h) fnExactBasketText_row_tie rfl ⟨rfl, rfl⟩ (by kernel_rfl) rfl
    (fun f fn hf hfn => by
      obtain rfl : f = 3 := Option.some.inj ((show Tryd.prog.funcNamed Rows.fnExactBasketTextRow.func = some 3 by kernel_rfl).symm.trans hf) |>.symm
      obtain rfl : fn = Tryd.f3 := (Option.some.inj (Tryd.func3.symm.trans hfn)).symm
      exact ⟨by kernel_rfl, fun j t ht => by
        have hall : (Tryd.f3.params.toList.all fun u => !Tryd.prog.wantsStandIn u) = true := by kernel_rfl
        have hm : t ∈ Tryd.f3.params.toList := by simpa using Array.mem_of_getElem? ht
        exact (show Tryd.prog.wantsStandIn t = false by simpa using List.all_eq_true.1 hall t hm)⟩)
    (by kernel_rfl)
end Go.Proofs.YtmbijgnmbapchaaDoor
