/-
  Jobs, part 6: the reference's search for the earliest end, its code. Conditions: none.
-/
import Derived.Test.YtaggfcnaedadaaaJobE
set_option linter.unusedSimpArgs false
set_option linter.unusedVariables false
set_option linter.unusedSectionVars false
namespace Go.Proofs.Ytaggfcnaedadaaa
open Go.Abs Go.RowKit

theorem walkJ_c (lo : Nat) (js : List I2) (ss : List Int) (hjs : jobsB js ss = true) (ja sa : Option Addr) (iw it il : Nat) (h12 : iw ≠ it) (h13 : iw ≠ il) (h23 : it ≠ il) (hja : ∀ a, ja = some a → a.block ∉ [iw, it, il]) (hsa : ∀ a, sa = some a → a.block ∉ [iw, it, il]) :
    ∀ (d : Nat) (who loads : List Int) (en : Int) (st : List Int × Int) (m : Mem), js.length - who.length = d → who.length ≤ js.length → loads.length = ss.length → (∀ x ∈ loads, w64 x = x) → RdG v2 2 m ja js → RdI m sa ss → WJ lo js ss ja sa iw it il m st → ChoAt it js.length m who → LoadAt il m loads → lo ≤ m.length →
      ∃ v m', ACalls Try.prog 62 [.pointer (some ⟨iw, 0, none⟩), .slice (some ⟨it, 0, none⟩) who.length who.length, .int .i64 en] m v m' ∧ JPost lo js ss ja sa iw it il m who loads (giveT ss (js.drop who.length) who loads en st) m' := by
  obtain ⟨hjo, hso, hj7, hs1, hs4⟩ := jobsB_parts hjs
  intro d
  induction d with
  | zero =>
    intro who loads en st m hd hle hll hlw hr hs hw ht hl hlo
    obtain ⟨ty, b, hm, hb⟩ := id hw
    have hlen : who.length = js.length := by omega
    have hdrop : js.drop who.length = [] := List.drop_eq_nil_of_le (by omega)
    rw [hdrop]
    refine ecalls_of_vcF [11] Try.func62 rfl Try.fol (by kernel_rfl) ?_
    simp only [Try.f62]
    simp -dsimp -implicitDefEqProofs
    have hlenB : ((who.length : Int) == (js.length : Int)) = true := by simp; omega
    simp -dsimp -implicitDefEqProofs [withO_of hm, jRow, hlenB]
    have hleaf : ¬ (0 ≤ st.2 ∧ st.2 ≤ en) → JPost lo js ss ja sa iw it il m who loads (giveT ss [] who loads en st) (m.set iw ⟨jRow ja sa js.length ss.length il (.slice (some ⟨m.length, 0, none⟩) who.length who.length) en, ty, 5, 1⟩ ++ [⟨who.map (Value.int .i64), 2, 1, 2⟩]) := fun h => by
      rw [giveT_nil h]
      have hiw := lt_of_get hm
      have hil := lt_of_get hl
      obtain ⟨ot, ht1, ht2⟩ := id ht
      have hit := lt_of_get ht1
      refine ⟨⟨ty, _, get_old (get_set hm _), .inr ⟨m.length, _, rfl, hlo, by simp; omega, by simp; rfl, by simp, by simp, rfl, rfl, rfl⟩⟩, (RestS.set m (by simp) _).trans (RestS.app _ _ _), ⟨ot, get_old (by rw [List.getElem?_set_ne h12]; exact ht1), ht2⟩, get_old (by rw [List.getElem?_set_ne h13]; exact hl)⟩
    have hsb : ∀ (b : AObj) (l : Mem), (m ++ l).set iw b = m.set iw b ++ l := fun b l => by rw [List.set_append_left _ _ (lt_of_get hm)]
    have hown := ownJ_c who (some ⟨it, 0, none⟩) m (choRd ht) (by omega)
    have hty : m[iw]? = some ⟨jRow ja sa js.length ss.length il b st.2, ty, 5, 1⟩ := hm
    have hsa' : ∀ (a b : AObj) (l : Mem), (m.set iw a ++ l).set iw b = m.set iw b ++ l := fun a b l => by rw [List.set_append_left _ _ (by simpa using lt_of_get hm), List.set_set]
    refine sp2 (fun g0 => sp2 (fun g1 => ?_) (fun g1 => ?_)) (fun g0 => ?_)
    · simp at g0 g1
      rw [giveT_cut ⟨g0, g1⟩]
      exact ⟨_, _, GC.refl _ _ _, hw, RestS.refl _ _, ht, hl⟩
    · simp at g1
      refine callsTo Try.cal65 hown ?_
      simp -dsimp -implicitDefEqProofs [withO_of hm, jRow, hlenB, hsb, hsa', fun l => withO_of (get_old (l := l) hm), fun x l => withO_of (get_old (l := l) (get_set hm x))]
      exact ⟨_, _, GC.refl _ _ _, hleaf (by omega)⟩
    · simp at g0
      refine callsTo Try.cal65 hown ?_
      simp -dsimp -implicitDefEqProofs [withO_of hm, jRow, hlenB, hsb, hsa', fun l => withO_of (get_old (l := l) hm), fun x l => withO_of (get_old (l := l) (get_set hm x))]
      exact ⟨_, _, GC.refl _ _ _, hleaf (by omega)⟩
  | succ d ih =>
    intro who loads en st m hd hle hll hlw hr hs hw ht hl hlo
    have hlt : who.length < js.length := by omega
    have hlenB : ((who.length : Int) == (js.length : Int)) = false := by simp; omega
    have hdrop : js.drop who.length = js[who.length] :: js.drop (who.length + 1) := List.drop_eq_getElem_cons hlt
    rw [hdrop]
    obtain ⟨ty, b, hm, hb⟩ := id hw
    refine ecalls_of_vcF [11] Try.func62 rfl Try.fol (by kernel_rfl) ?_
    simp only [Try.f62]
    simp -dsimp -implicitDefEqProofs
    obtain ⟨id1, off1, o1, rfl, hmk, hkd, hsz, hl1, hrow, hc0, hc1⟩ := R2.at_ hr hlt
    simp -dsimp -implicitDefEqProofs [withO_of hm, jRow, hlenB, hlt, withO_of hmk, fun l => withO_of (get_old (l := l) hm), fun l => withO_of (get_old (l := l) hmk), hkd, hsz, withC_of hc0, withC_of hc1, hl1, hrow]
    refine sp2 (fun g0 => sp2 (fun g1 => ?_) (fun g1 => ?_)) (fun g0 => ?_)
    · simp at g0 g1
      rw [giveT_cut ⟨g0, g1⟩]
      exact ⟨_, _, GC.refl _ _ _, hw, RestS.refl _ _, ht, hl⟩
    have hno : ¬ (0 ≤ st.2 ∧ st.2 ≤ en) := by simp at g1; omega
    rotate_left
    have hno : ¬ (0 ≤ st.2 ∧ st.2 ≤ en) := by simp at g0; omega
    all_goals
      rw [giveT_cons hno]
      refine need_intro rfl ?_
      have hbx : ∀ i, i ∈ [iw, it, il] → i < m.length := fun i hi => by
        obtain ⟨ot, ht1, _⟩ := id ht
        simp at hi
        rcases hi with rfl | rfl | rfl
        · exact lt_of_get hm
        · exact lt_of_get ht1
        · exact lt_of_get hl
      refine loopN ss.length (fun i σ m' => (σ 0 = some (.pointer (some ⟨iw, 0, none⟩)) ∧ σ 1 = some (.slice (some ⟨it, 0, none⟩) who.length who.length) ∧ σ 2 = some (.int .i64 en) ∧ σ 7 = some (.pointer (some ⟨m.length, 0, none⟩)) ∧ σ 8 = some (.int .i64 i)) ∧
        JPost lo js ss (some ⟨id1, off1, none⟩) sa iw it il m who loads (stepJ ss js[who.length] (js.drop (who.length + 1)) who loads en st i) m' ∧ ∃ bt, m'[m.length]? = some ⟨v2 js[who.length], bt, 2, 1⟩) ⟨by simp, ?_, ?_⟩ ?_
      · refine ⟨⟨ty, b, get_old hm, hb.rest (RestS.app _ _ _)⟩, RestS.app _ _ _, ?_, get_old hl⟩
        obtain ⟨ot, ht1, ht2⟩ := id ht
        exact ⟨ot, get_old ht1, ht2⟩
      · exact ⟨_, by simp [splice, v2]; rfl⟩
      rintro i σ m' hi ⟨⟨s0, s1, s2, s7, s8⟩, ⟨⟨ty', b', hm', hb'⟩, hrest, ht', hl'⟩, bt, hbt⟩
      by_cases hil : i < ss.length
      · have hs' := hrest.rdI hsa hs
        have hill : i < loads.length := by omega
        obtain ⟨id2, off2, o2, rfl, hm2, hkd2, hsz2, hc2⟩ := hs'.at_ hil
        have hid2 := hsa _ rfl
        simp at hid2
        have hwi : IntKind.i64.wrap ((i : Int) + 1) = i + 1 := wrapI (by omega) (by omega)
        have hbx1 := hbx iw (by simp)
        have hbx2 := hbx it (by simp)
        have hbx3 := hbx il (by simp)
        simp -dsimp -implicitDefEqProofs [withO_of hm', jRow, s0, s1, s2, s7, s8, hil, withO_of hm2, hkd2, hsz2, withC_of hc2, withO_of hbt, v2, hwi]
        refine sp2 (fun g => ?_) (fun g => ?_)
        · simp at g
          simp -dsimp -implicitDefEqProofs [withO_of hm', jRow, s0, s1, s2, s7, s8, hil, withO_of hm2, hkd2, hsz2, withC_of hc2, withO_of hbt, v2, hwi, withO_of hl', hill, withC_of (ints_get hill)]
          refine need_intro (by omega) (need_intro (.inr (by kernel_rfl)) ?_)
          refine regF [[], [], [], [], [], [], [], [], [], [3, 4], [], [3, 4], [3, 4], [], []] 1 (by kernel_rfl) (by kernel_rfl) ?_
          rw [ints_set]
          obtain ⟨l2, hl2⟩ : ∃ l2, l2 = IntKind.i64.wrap (loads[i] + js[who.length].1) := ⟨_, rfl⟩
          rw [← hl2]
          obtain ⟨mS, hmS⟩ : ∃ mS, mS = m'.set il ⟨(loads.set i l2).map (Value.int .i64), 2, 1, 1⟩ := ⟨_, rfl⟩
          rw [← hmS]
          have hRS : RestS [iw, it, il] m' mS := by rw [hmS]; exact RestS.set _ (by simp) _
          have hW2 := (show mS[iw]? = m'[iw]? by rw [hmS, List.getElem?_set_ne (Ne.symm h13)]).trans hm'
          have hL2 : LoadAt il mS (loads.set i l2) := by rw [hmS]; exact get_set hl' _
          obtain ⟨ot, ht1, ht2, ht3, ht4, ht5, ht6⟩ : ChoAt it js.length mS who := by
            obtain ⟨ot, ht1, ht2⟩ := ht'
            exact ⟨ot, by rw [hmS, List.getElem?_set_ne (Ne.symm h23)]; exact ht1, ht2⟩
          have hitl := lt_of_get ht1
          have hiwl := lt_of_get hW2
          have hill' := lt_of_get hL2
          have hW3 := fun (l : Mem) (x : AObj) => (show ((mS ++ l).set it x)[iw]? = (mS ++ l)[iw]? by rw [List.getElem?_set_ne (Ne.symm h12)]).trans (get_old hW2)
          have hL3 := fun (l : Mem) (x : AObj) => (show ((mS ++ l).set it x)[il]? = (mS ++ l)[il]? by rw [List.getElem?_set_ne h23]).trans (get_old hL2)
          have n1 : ¬ mS.length = iw := by omega
          have n2 : ¬ mS.length = il := by omega
          have hlg : ((loads.map (Value.int .i64)).set i (.int .i64 l2))[i]? = some (.int .i64 l2) := by simp [hill]
          simp -dsimp -implicitDefEqProofs [s0, s1, s2, s7, s8, jRow, hil, hwi, h12, h13, h23, Ne.symm h12, Ne.symm h13, Ne.symm h23, n1, n2, withO_of hW2, withO_of hL2, fun l x => withO_of (hW3 l x), fun l x => withO_of (hL3 l x), hill, withC_of hlg]
          refine .inr (appTo_in (e := 2) (sz := 1) (by_ := 8) (z := .int .i64 0) (by kernel_rfl) (by kernel_rfl) ⟨by decide, rfl⟩ (o := ot) (get_old ht1) ht2 ⟨ht3, ht4⟩ (by omega) (by omega) (Src.obj (o := ⟨[.int .i64 i], 2, 1, 1⟩) (by simp) (by simp) rfl rfl) ?_)
          refine ⟨by simp, by simp; omega, ?_⟩
          simp -dsimp -implicitDefEqProofs [s0, s1, s2, s7, s8, jRow, hil, hwi, h12, h13, h23, Ne.symm h12, Ne.symm h13, Ne.symm h23, n1, n2, withO_of hW2, withO_of hL2, fun l x => withO_of (hW3 l x), fun l x => withO_of (hL3 l x), hill, withC_of hlg]
          refine callsTo Try.cal51 (l00Max_c _ _ _) ?_
          simp -dsimp -implicitDefEqProofs [s0, s1, s2, s7, s8, jRow, hil, hwi, h12, h13, h23, Ne.symm h12, Ne.symm h13, Ne.symm h23, n1, n2, withO_of hW2, withO_of hL2, fun l x => withO_of (hW3 l x), fun l x => withO_of (hL3 l x), hill, withC_of hlg]
          have hR := hRS.trans ((RestS.app [iw, it, il] mS [(⟨[.int .i64 i], 2, 1, 1⟩ : AObj)]).trans (RestS.set (k := it) _ (by simp) ⟨ot.cells.set who.length (.int .i64 i), ot.elem, ot.sz, ot.kind⟩))
          have hA := (hrest.trans hR).rd2 hja hr
          have hS := (hrest.trans hR).rdI hsa hs
          have hB : WJ lo js ss (some ⟨id1, off1, none⟩) (some ⟨id2, off2, none⟩) iw it il ((mS ++ [(⟨[.int .i64 i], 2, 1, 1⟩ : AObj)]).set it ⟨ot.cells.set who.length (.int .i64 i), ot.elem, ot.sz, ot.kind⟩) (stepJ ss js[who.length] (js.drop (who.length + 1)) who loads en st i) :=
            ⟨ty', b', hW3 _ _, hb'.rest hR⟩
          have hC : ChoAt it js.length ((mS ++ [(⟨[.int .i64 i], 2, 1, 1⟩ : AObj)]).set it ⟨ot.cells.set who.length (.int .i64 i), ot.elem, ot.sz, ot.kind⟩) (who ++ [(i : Int)]) := by
            refine ⟨_, get_set (get_old ht1) _, ht2, ht3, ht4, by simp [ht5], ?_⟩
            simp only [List.length_append, List.length_singleton, List.map_append, List.map_cons, List.map_nil]
            rw [List.take_add_one, List.getElem?_set_self (by omega), List.take_set_of_le (Nat.le_refl _), ht6]
            rfl
          have hlw' : ∀ x ∈ loads.set i l2, w64 x = x := fun x hx => by
            rcases List.mem_or_eq_of_mem_set hx with hx | hx
            · exact hlw x hx
            · rw [hx, hl2]; exact w64_idem _
          obtain ⟨v, m2, hcall, ⟨ty2, b2, hm2', hb2⟩, hrest2, hcho2, hload2⟩ := ih (who ++ [(i : Int)]) (loads.set i l2) (max en l2) _ _ (by simp; omega) (by simp; omega) (by simp [hll]) hlw' hA hS hB hC (hL3 _ _) (by have := hrest.len; have := hR.len; simp at this ⊢; omega)
          simp only [List.length_append, List.length_singleton] at hcall hm2' hb2
          refine callsTo Try.cal62 hcall ?_
          have hmn : m.length ∉ [iw, it, il] := by simp; omega
          have hbt2 := hrest2.get _ _ hmn (hR.get _ _ hmn hbt)
          have hback : IntKind.i64.wrap (l2 - js[who.length].1) = loads[i] := by rw [hl2]; exact w64_back (hlw _ (List.getElem_mem hill))
          have hlg2 : ((loads.map (Value.int .i64)).set i (.int .i64 l2))[i]? = some (.int .i64 l2) := by simp [hill]
          have hself : (loads.map (Value.int .i64)).set i (.int .i64 loads[i]) = loads.map (Value.int .i64) := by rw [← List.map_set, List.set_getElem_self]
          simp -dsimp -implicitDefEqProofs [s0, s1, s2, s7, s8, jRow, hil, hwi, withO_of hm2', withO_of hload2, withO_of hbt2, v2, hill, withC_of hlg2, hback, hself]
          refine need_intro (by omega) (need_intro (.inr (by kernel_rfl)) ?_)
          refine next_ hil ⟨by simp [s0, s1, s2, s7, hwi], ?_, bt, by rw [List.getElem?_set_ne (by omega)]; exact hbt2⟩
          rw [stepJ_yes hil hill (by omega), show w64 (loads[i] + js[who.length].1) = l2 from hl2.symm]
          have hR3 : RestS [iw, it, il] m2 (m2.set il ⟨loads.map (Value.int .i64), 2, 1, 1⟩) := RestS.set _ (by simp) _
          obtain ⟨o', k1, k2, k3, k4, k5, k6⟩ := hcho2
          refine ⟨⟨ty2, b2, by rw [List.getElem?_set_ne (Ne.symm h13)]; exact hm2', hb2.rest hR3⟩, ((hrest.trans hR).trans hrest2).trans hR3, ⟨o', by rw [List.getElem?_set_ne (Ne.symm h23)]; exact k1, k2, k3, k4, k5, ?_⟩, get_set hload2 _⟩
          have := congrArg (List.take who.length) k6
          simpa [List.take_take, List.map_append] using this
        · simp at g
          exact next_ hil ⟨by simp [s0, s1, s2, s7, hwi], by rw [stepJ_no hil (by omega)]; exact ⟨⟨ty', b', hm', hb'⟩, hrest, ht', hl'⟩, bt, hbt⟩
      · simp -dsimp -implicitDefEqProofs [withO_of hm', jRow, s0, s1, s2, s7, s8, hil]
        obtain rfl : i = ss.length := by omega
        exact ⟨_, _, GC.refl _ _ _, ⟨ty', b', hm', hb'⟩, hrest, ht', hl'⟩
end Go.Proofs.Ytaggfcnaedadaaa
