/-
  Jobs, part 12: long baskets first, the reference's code. Conditions: none.
-/
import Derived.Test.YtaggfcnaedadaaaJobK
set_option linter.unusedSimpArgs false
set_option linter.unusedVariables false
set_option linter.unusedSectionVars false
namespace Go.Proofs.Ytaggfcnaedadaaa
open Go.Abs Go.RowKit

theorem specLong_c (js : List I2) (ss : List Int) (a b : Option Addr) (m : Mem) (hr : RdG v2 2 m a js) (hs : RdI m b ss) (hn : js.length ≤ 1048576) (hn' : ss.length ≤ 1048576) :
    ACalls Try.prog 38 [.slice a js.length js.length, .slice b ss.length ss.length] m (.tuple #[optV m.length (longO js ss), .int .i64 (earlyC js ss)]) (m ++ optM 2 (longO js ss)) := by
  refine acalls_of_vc Try.func38 rfl Try.fol (by kernel_rfl) ?_
  simp only [Try.f38]
  simp -dsimp -implicitDefEqProofs
  refine callsTo Try.cal61 (l20Can_c js ss a b _ hr hs hn hn') ?_
  simp -dsimp -implicitDefEqProofs
  refine sp2 (fun g => ?_) (fun g => ?_)
  · simp at g
    simp [longO, g, optV, optM]
    exact GC.refl _ _ _
  simp at g
  obtain ⟨hjs, hcan⟩ := early_can g
  obtain ⟨hjo, hso, hj7, hs1, hs4⟩ := jobsB_parts hjs
  refine loopN js.length (fun k σ m' => ∃ (id : Nat) (o : AObj), (m <+: m' ∧ m.length ≤ id) ∧ (m'[id]? = some o ∧ 1 ≤ o.kind ∧ o.kind ≤ 2 ∧ o.sz = 1 ∧ o.elem = 2 ∧ o.cells = iv (orderL js k)) ∧
      (σ 0 = some (.slice a js.length js.length) ∧ σ 1 = some (.slice b ss.length ss.length)) ∧ σ 7 = some (.slice (some ⟨id, 0, none⟩) k k) ∧ σ 8 = some (.int .i64 k))
    ⟨m.length, ⟨[], 2, 1, 1⟩, ⟨⟨_, rfl⟩, Nat.le_refl _⟩, ⟨by simp, by simp, by simp, rfl, rfl, rfl⟩, by simp, by simp, by simp⟩ ?_
  rintro k σ m' hk ⟨id, o, ⟨hp, hid⟩, ⟨ho, ho1, ho2, ho3, ho4, ho5⟩, ⟨s0, s1⟩, s7, s8⟩
  have hLl := orderL_length js k
  have hrA := hr.pre hp
  by_cases hlt : k < js.length
  · obtain ⟨L, hL⟩ : ∃ L, L = orderL js k := ⟨_, rfl⟩
    rw [← hL] at hLl ho5
    have hlen5 : o.cells.length = k := by rw [ho5, iv_length, hLl]
    have ho1' : 1 ≤ o.kind ∧ o.kind ≤ 2 := ⟨ho1, ho2⟩
    simp -dsimp -implicitDefEqProofs [s0, s1, s7, s8, hlt]
    refine loopN k (fun c σ m2 => m2 = m' ∧ (σ 0 = some (.slice a js.length js.length) ∧ σ 1 = some (.slice b ss.length ss.length)) ∧ σ 7 = some (.slice (some ⟨id, 0, none⟩) k k) ∧ σ 8 = some (.int .i64 k) ∧ σ 9 = some (.int .i64 ((k - c : Nat) : Int)) ∧ keepN (longP js k) L (k - c) = keepN (longP js k) L L.length) ⟨rfl, by simp [s0, s1], by simp [s7], by simp [s8], by simp, by rw [hLl]; rfl⟩ ?_
    clear s0 s1 s7 s8
    rintro c σ m2 hc ⟨hmm, ⟨s0, s1⟩, s7, s8, s9, hkeep⟩
    have hmm := hmm.symm
    subst hmm
    obtain ⟨j, hj⟩ : ∃ j, j = k - c := ⟨_, rfl⟩
    rw [← hj] at s9 hkeep
    have hLr : RdI m' (some ⟨id, 0, none⟩) L := RdI.of_get ho ho2 ho3 ho5
    cases j with
    | zero =>
      have hJk : 0 ≤ k := by omega
      have hown := ownJ_c (L.take 0) (some ⟨id, 0, none⟩) m' (hLr.take 0) (by simp)
      rw [List.length_take, hLl, Nat.min_eq_left hJk] at hown
      simp -dsimp -implicitDefEqProofs [s0, s1, s7, s8, s9, hlt, withO_of ho, ho2, ho3, hlen5]
      refine callsTo Try.cal65 hown ?_
      simp -dsimp -implicitDefEqProofs [s0, s1, s7, s8, s9]
      refine appTo_grow (e := 2) (sz := 1) (by_ := 8) (z := .int .i64 0) (by kernel_rfl) (by kernel_rfl) ⟨by decide, rfl⟩ (o := ⟨(L.take 0).map (Value.int .i64), 2, 1, 2⟩) (by simp) (by simp) ⟨rfl, rfl⟩ (by simp) (by omega) (Src.obj (o := ⟨[.int .i64 k], 2, 1, 1⟩) (by simp) (by simp) rfl rfl) ?_
      intro m4 id4 hg4
      have hp4 : m' <+: m4 := hg4.pre m' ⟨_, rfl⟩ (Nat.le_refl _)
      have ho4' := prefix_get hp4 ho
      simp -dsimp -implicitDefEqProofs [s0, s1, s7, s8, s9, withO_of ho4', ho2, ho3, hlen5]
      have hLr4 : RdI m4 (some ⟨id, 0, none⟩) L := RdI.of_get ho4' ho2 ho3 ho5
      have hwk : IntKind.i64.wrap ((k : Int) + 1) = k + 1 := wrapI (by omega) (by omega)
      have hid4 : m.length ≤ id4 := by rw [hg4.at_]; simp; have := hp.length_le; omega
      have hnew : orderL js (k + 1) = L.take 0 ++ (k : Int) :: L.drop 0 := by rw [orderL_succ, ← hL, insT, ← hkeep, keepN]
      refine appTo_grow (e := 2) (sz := 1) (by_ := 8) (z := .int .i64 0) (by kernel_rfl) (by kernel_rfl) ⟨by decide, rfl⟩ (o := ⟨(L.take 0).map (Value.int .i64) ++ [.int .i64 k], 2, 1, 2⟩) hg4.new (by simp) ⟨rfl, rfl⟩ (by simp) (by omega) (by rw [← hLl]; exact Src.rdI hLr4) ?_
      intro m5 id5 hg5
      simp -dsimp -implicitDefEqProofs [s0, s1, s7, s8, s9, withO_of ho4', ho2, ho3, hlen5, hwk]
      exact next_ hlt ⟨id5, _, ⟨hg5.pre m (hp.trans hp4) hid4, by rw [hg5.at_]; have := hp.length_le; have := hp4.length_le; omega⟩, ⟨hg5.new, by simp, by simp, rfl, rfl, by rw [hnew]; simp [iv]⟩, by simp [s0, s1], by simp; omega, by simp [hwk]⟩
    | succ j =>
      have hj1 : j < L.length := by omega
      have hjk : j < k := by omega
      obtain ⟨i, hi, hil⟩ := orderL_mem js k L[j] (by rw [← hL]; exact List.getElem_mem hj1)
      have hik : i < js.length := by omega
      obtain ⟨jid, joff, jo, hje, hjm, hjk1, hjs, hjl, hjrow, hjc0, hjc1⟩ := R2.at_ hrA hlt
      obtain ⟨jid2, joff2, jo2, hje2, hjm2, hjk2, hjs2, hjl2, hjrow2, hjd0, hjd1⟩ := R2.at_ hrA hik
      rw [hje] at hje2 s0
      injection hje2 with hje2
      injection hje2 with e1 e2
      subst e1 e2
      rw [hjm] at hjm2
      injection hjm2 with hjm2
      subst hjm2
      have w1 : IntKind.i64.wrap ((j : Int) + 1 - 1) = j := by rw [show ((j : Int) + 1 - 1) = j by omega]; exact wrapI (by omega) (by omega)
      have w2 : IntKind.i64.wrap (j : Int) = j := wrapI (by omega) (by omega)
      have b4 : ((0 : Int) < (j : Int) + 1) := by omega
      have hc1 : o.cells[j]? = some (.int .i64 i) := by rw [ho5, ← hi]; exact iv_get (List.getElem?_eq_getElem hj1)
      have hJk : (j + 1) ≤ k := by omega
      have hown := ownJ_c (L.take (j + 1)) (some ⟨id, 0, none⟩) m' (hLr.take (j + 1)) (by simp; omega)
      rw [List.length_take, hLl, Nat.min_eq_left hJk] at hown
      simp -dsimp -implicitDefEqProofs [s0, s1, s7, s8, s9, hlt, withO_of ho, ho2, ho3, hlen5, w1, w2, b4, hjk, withC_of hc1, hik, withO_of hjm, hjk1, hjs, withC_of hjc0, withC_of hjd0]
      have hpj : longP js k L[j] = decide (js[i].1 < js[k].1) := by rw [hi]; simp [longP, jobAt_eq hik, jobAt_eq hlt]
      have hgd : L.getD j 0 = L[j] := by simp [List.getD_eq_getElem?_getD, hj1]
      refine sp2 (fun g1 => ?_) (fun g1 => ?_)
      · have hkp : keepN (longP js k) L (j + 1) = keepN (longP js k) L j := by rw [keepN, hgd, hpj, if_pos g1]
        have hjc : k - (c + 1) = j := by omega
        exact next_ (by omega) ⟨rfl, by simp [s0, s1, hje], by simp [s7], by simp [s8], by rw [hjc]; simp [w1], by rw [hjc, ← hkp]; exact hkeep⟩
      have hkp : keepN (longP js k) L (j + 1) = j + 1 := by rw [keepN, hgd, hpj, if_neg (by simp [g1])]
      refine need_intro (by omega) (need_intro (by omega) ?_)
      refine callsTo Try.cal65 hown ?_
      simp -dsimp -implicitDefEqProofs [s0, s1, s7, s8, s9]
      refine appTo_grow (e := 2) (sz := 1) (by_ := 8) (z := .int .i64 0) (by kernel_rfl) (by kernel_rfl) ⟨by decide, rfl⟩ (o := ⟨(L.take (j + 1)).map (Value.int .i64), 2, 1, 2⟩) (by simp) (by simp) ⟨rfl, rfl⟩ (by simp; omega) (by omega) (Src.obj (o := ⟨[.int .i64 k], 2, 1, 1⟩) (by simp) (by simp) rfl rfl) ?_
      intro m4 id4 hg4
      have hp4 : m' <+: m4 := hg4.pre m' ⟨_, rfl⟩ (Nat.le_refl _)
      have ho4' := prefix_get hp4 ho
      simp -dsimp -implicitDefEqProofs [s0, s1, s7, s8, s9, withO_of ho4', ho2, ho3, hlen5]
      have hLr4 : RdI m4 (some ⟨id, 0, none⟩) L := RdI.of_get ho4' ho2 ho3 ho5
      have hwk : IntKind.i64.wrap ((k : Int) + 1) = k + 1 := wrapI (by omega) (by omega)
      have hid4 : m.length ≤ id4 := by rw [hg4.at_]; simp; have := hp.length_le; omega
      have hnew : orderL js (k + 1) = L.take (j + 1) ++ (k : Int) :: L.drop (j + 1) := by rw [orderL_succ, ← hL, insT, ← hkeep, hkp]
      refine need_intro (by omega) (need_intro (by omega) ⟨fun hj2 => ?_, fun hj2 => ?_⟩)
      · refine appTo_grow (e := 2) (sz := 1) (by_ := 8) (z := .int .i64 0) (by kernel_rfl) (by kernel_rfl) ⟨by decide, rfl⟩ (o := ⟨(L.take (j + 1)).map (Value.int .i64) ++ [.int .i64 k], 2, 1, 2⟩) hg4.new (by simp) ⟨rfl, rfl⟩ (by simp; omega) (by omega) (by rw [show k - (j + 1) = (L.drop (j + 1)).length by rw [List.length_drop, hLl]]; have := hLr4.drop (k := j + 1) (by omega); rw [Nat.zero_add] at this; exact Src.rdI this) ?_
        intro m5 id5 hg5
        simp -dsimp -implicitDefEqProofs [s0, s1, s7, s8, s9, withO_of ho4', ho2, ho3, hlen5, hwk]
        exact next_ hlt ⟨id5, _, ⟨hg5.pre m (hp.trans hp4) hid4, by rw [hg5.at_]; have := hp.length_le; have := hp4.length_le; omega⟩, ⟨hg5.new, by simp, by simp, rfl, rfl, by rw [hnew]; simp [iv]⟩, by simp [s0, s1, hje], by simp; omega, by simp [hwk]⟩
      · have hdn : L.drop (j + 1) = [] := List.drop_eq_nil_of_le (by omega)
        rw [hdn] at hnew
        refine appTo_grow (e := 2) (sz := 1) (by_ := 8) (z := .int .i64 0) (by kernel_rfl) (by kernel_rfl) ⟨by decide, rfl⟩ (o := ⟨(L.take (j + 1)).map (Value.int .i64) ++ [.int .i64 k], 2, 1, 2⟩) hg4.new (by simp) ⟨rfl, rfl⟩ (by simp; omega) (by omega) (Src.rdI (xs := []) (RdI.nil _ _)) ?_
        intro m5 id5 hg5
        simp -dsimp -implicitDefEqProofs [s0, s1, s7, s8, s9, withO_of ho4', ho2, ho3, hlen5, hwk, hwk]
        exact next_ hlt ⟨id5, _, ⟨hg5.pre m (hp.trans hp4) hid4, by rw [hg5.at_]; have := hp.length_le; have := hp4.length_le; omega⟩, ⟨hg5.new, by simp, by simp, rfl, rfl, by rw [hnew]; simp [iv]⟩, by simp [s0, s1, hje], by simp; omega, by simp [hwk]⟩
  · obtain rfl : k = js.length := by omega
    simp -dsimp -implicitDefEqProofs [s0, s1, s7, s8, hlt]
    refine need_intro (by omega) (need_intro (by omega) ?_)
    obtain ⟨m6, hm6⟩ : ∃ m6, m6 = m' ++ [(⟨List.replicate js.length (.int .i64 0), 2, 1, 1⟩ : AObj), ⟨List.replicate ss.length (.int .i64 0), 2, 1, 1⟩] := ⟨_, rfl⟩
    rw [← hm6]
    have hp6 : m' <+: m6 := by rw [hm6]; exact ⟨_, rfl⟩
    have hl6 : m6.length = m'.length + 2 := by rw [hm6]; simp
    have hlm := hp.length_le
    have hidl := lt_of_get ho
    refine loopN js.length (fun k σ m2 => (RestS [m'.length, m'.length + 1] m6 m2 ∧ m2[m'.length]? = some ⟨iv (longT js ss k).1, 2, 1, 1⟩ ∧ m2[m'.length + 1]? = some ⟨iv (longT js ss k).2, 2, 1, 1⟩) ∧ (σ 0 = some (.slice a js.length js.length) ∧ σ 1 = some (.slice b ss.length ss.length) ∧ σ 7 = some (.slice (some ⟨id, 0, none⟩) js.length js.length)) ∧
      (σ 11 = some (.slice (some ⟨m'.length, 0, none⟩) js.length js.length) ∧ σ 12 = some (.slice (some ⟨m'.length + 1, 0, none⟩) ss.length ss.length)) ∧ σ 13 = some (.int .i64 k)) ⟨⟨RestS.refl _ _, by rw [hm6]; simp [iv, longT], by rw [hm6]; simp [iv, longT]⟩, by simp [s0, s1, s7], by simp, by simp⟩ ?_
    clear s0 s1 s7 s8
    rintro k σ m2 hk ⟨⟨hrest, hout, hload⟩, ⟨s0, s1, s7⟩, ⟨s11, s12⟩, s13⟩
    by_cases hlt : k < js.length
    · obtain ⟨i, w, hi, hil, hwl, hwl2, hbw, hnext⟩ := long_at g hlt
      have hlen := longT_length js ss k (by omega)
      have hr2 : RdG v2 2 m2 a js := hr.pre (pre_of_get fun q x hq => hrest.get q x (by have := lt_of_get hq; simp; omega) (prefix_get (hp.trans hp6) hq))
      have hs2 : RdI m2 b ss := by
        have hpp : m <+: m2 := pre_of_get fun q x hq => hrest.get q x (by have := lt_of_get hq; simp; omega) (prefix_get (hp.trans hp6) hq)
        obtain ⟨l, rfl⟩ := hpp
        exact hs.ext l
      have hoo := hrest.get _ _ (show id ∉ [m'.length, m'.length + 1] by simp; omega) (prefix_get hp6 ho)
      have hol : (iv (orderL js js.length)).length = js.length := by rw [iv_length, hLl]
      have hoc : o.cells[k]? = some (.int .i64 i) := by rw [ho5]; exact iv_get (by rw [List.getElem?_eq_getElem (by rw [hLl]; exact hlt), hi])
      have hocl : o.cells.length = js.length := by rw [ho5, hol]
      obtain ⟨jid, joff, jo, rfl, hjm, hjk1, hjs2, hjl, hjrow, hjc0, hjc1⟩ := R2.at_ hr2 hil
      have hwk : IntKind.i64.wrap ((k : Int) + 1) = k + 1 := wrapI (by omega) (by omega)
      simp -dsimp -implicitDefEqProofs [s0, s1, s7, s11, s12, s13, hlt, withO_of hoo, ho2, ho3, hocl, withC_of hoc, hil, withO_of hjm, fun l => withO_of (get_old (l := l) hoo), fun l => withO_of (get_old (l := l) hjm), hjk1, hjs2, hjl, hjrow]
      refine need_intro rfl ?_
      obtain ⟨ld, hld⟩ : ∃ ld, ld = (longT js ss k).2 := ⟨_, rfl⟩
      obtain ⟨ou, hou⟩ : ∃ ou, ou = (longT js ss k).1 := ⟨_, rfl⟩
      rw [← hld] at hload hbw hlen
      rw [← hou] at hout hlen
      simp only [← hld, ← hou] at hnext
      have hldl : ld.length = ss.length := hlen.2
      have hldi : (iv ld).length = ss.length := by rw [iv_length, hldl]
      have houi : (iv ou).length = js.length := by rw [iv_length, hlen.1]
      obtain ⟨m3, hm3⟩ : ∃ m3, m3 = m2 ++ [(⟨v2 js[i], 51, 2, 1⟩ : AObj)] := ⟨_, rfl⟩
      have hp3 : m2 <+: m3 := by rw [hm3]; exact ⟨_, rfl⟩
      have hbx : m3[m2.length]? = some ⟨v2 js[i], 51, 2, 1⟩ := by rw [hm3]; simp
      have hload3 := prefix_get hp3 hload
      have hout3 := prefix_get hp3 hout
      have hoo3 := prefix_get hp3 hoo
      have hs3 : RdI m3 b ss := by rw [hm3]; exact hs2.ext _
      refine loopN ss.length (fun c σ m4 => m4 = m3 ∧ (σ 0 = some (.slice (some ⟨jid, joff, none⟩) js.length js.length) ∧ σ 1 = some (.slice b ss.length ss.length) ∧ σ 7 = some (.slice (some ⟨id, 0, none⟩) js.length js.length) ∧ σ 11 = some (.slice (some ⟨m'.length, 0, none⟩) js.length js.length) ∧ σ 12 = some (.slice (some ⟨m'.length + 1, 0, none⟩) ss.length ss.length) ∧ σ 13 = some (.int .i64 k) ∧ σ 14 = some (.pointer (some ⟨m2.length, 0, none⟩))) ∧
        σ 15 = some (.int .i64 (bestW ss ld js[i].2 c)) ∧ σ 16 = some (.int .i64 c)) ⟨by rw [hm3]; rfl, by simp [s0, s1, s7, s11, s12, s13], by simp [bestW], by simp⟩ ?_
      clear s0 s1 s7 s11 s12 s13
      rintro c σ m4 hc ⟨hmm, ⟨s0, s1, s7, s11, s12, s13, s14⟩, s15, s16⟩
      have hmm := hmm.symm
      subst hmm
      by_cases hcl : c < ss.length
      · have hcd : c < ld.length := by omega
        obtain ⟨sid, soff, so, rfl, hsm, hsk, hss, hsc⟩ := hs3.at_ hcl
        have hwc : IntKind.i64.wrap ((c : Int) + 1) = c + 1 := wrapI (by omega) (by omega)
        have hlc := iv_get (List.getElem?_eq_getElem hcd)
        have e1 : ss.getD c 0 = ss[c] := by simp [List.getD_eq_getElem?_getD, hcl]
        have e2 : ld.getD c 0 = ld[c] := by simp [List.getD_eq_getElem?_getD, hcd]
        have hbs : bestW ss ld js[i].2 (c + 1) = if js[i].2 ≤ ss[c] ∧ (bestW ss ld js[i].2 c < 0 ∨ ld[c] < ld.getD (bestW ss ld js[i].2 c).toNat 0) then (c : Int) else bestW ss ld js[i].2 c := by rw [bestW, e1, e2]
        have hblt := bestW_lt ss ld js[i].2 c
        by_cases hneg : bestW ss ld js[i].2 c < 0
        · simp -dsimp -implicitDefEqProofs [s0, s1, s7, s11, s12, s13, s14, s15, s16, hcl, withO_of hsm, hsk, hss, withC_of hsc, withO_of hbx, v2, hneg, hwc]
          refine sp2 (fun g1 => ?_) (fun g1 => ?_)
          · simp at g1
            rw [if_pos ⟨g1, .inl hneg⟩] at hbs
            exact next_ hcl ⟨rfl, by simp [s0, s1, s7, s11, s12, s13, s14], by simp [hbs], by simp [hwc]⟩
          · simp at g1
            rw [if_neg (by omega)] at hbs
            exact next_ hcl ⟨rfl, by simp [s0, s1, s7, s11, s12, s13, s14], by simp [s15, hbs], by simp [hwc]⟩
        · obtain ⟨q, hq⟩ : ∃ q : Nat, bestW ss ld js[i].2 c = q := ⟨(bestW ss ld js[i].2 c).toNat, by omega⟩
          have hqc : q < c := by omega
          have hqd : q < ld.length := by omega
          have hqs : q < ss.length := by omega
          have e3 : ld.getD (bestW ss ld js[i].2 c).toNat 0 = ld[q] := by rw [hq]; simp [List.getD_eq_getElem?_getD, hqd]
          have hlq := iv_get (List.getElem?_eq_getElem hqd)
          rw [e3] at hbs
          rw [hq] at s15 hbs
          have hq0 : ¬ (q : Int) < 0 := by omega
          simp -dsimp -implicitDefEqProofs [s0, s1, s7, s11, s12, s13, s14, s15, s16, hcl, withO_of hsm, hsk, hss, withC_of hsc, withO_of hbx, v2, hwc, withO_of hload3, hldi, withC_of hlc, withC_of hlq, hqs, hq0]
          refine sp2 (fun g1 => sp2 (fun g2 => ?_) (fun g2 => ?_)) (fun g1 => ?_)
          · simp at g1 g2
            rw [if_pos ⟨g1, .inr g2⟩] at hbs
            exact next_ hcl ⟨rfl, by simp [s0, s1, s7, s11, s12, s13, s14], by simp [hbs], by simp [hwc]⟩
          · simp at g1 g2
            rw [if_neg (by omega)] at hbs
            exact next_ hcl ⟨rfl, by simp [s0, s1, s7, s11, s12, s13, s14], by simp [s15, hbs], by simp [hwc]⟩
          · simp at g1
            rw [if_neg (by omega)] at hbs
            exact next_ hcl ⟨rfl, by simp [s0, s1, s7, s11, s12, s13, s14], by simp [s15, hbs], by simp [hwc]⟩
      · obtain rfl : c = ss.length := by omega
        rw [hbw] at s15
        have hwd : w < ld.length := by omega
        have hlw := iv_get (List.getElem?_eq_getElem hwd)
        have ho4 := fun x => (show (m3.set (m'.length + 1) x)[id]? = m3[id]? by rw [List.getElem?_set_ne (by omega)]).trans hoo3
        have hou4 := fun x => (show (m3.set (m'.length + 1) x)[m'.length]? = m3[m'.length]? by rw [List.getElem?_set_ne (by omega)]).trans hout3
        simp -dsimp -implicitDefEqProofs [s0, s1, s7, s11, s12, s13, s14, s15, s16, withO_of hbx, v2, withO_of hload3, hldi, hwl, withC_of hlw, hlt, fun x => withO_of (ho4 x), fun x => withO_of (hou4 x), ho2, ho3, hocl, withC_of hoc, hil, houi, hwk]
        refine need_intro (by omega) (need_intro (.inr (by kernel_rfl)) (need_intro (by omega) ?_))
        rw [iv_set, iv_set]
        have hn1 : (longT js ss (k + 1)).1 = ou.set i (w : Int) := by rw [hnext]
        have hn2 : (longT js ss (k + 1)).2 = ld.set w (w64 (ld[w] + js[i].1)) := by rw [hnext]
        refine next_ hlt ⟨⟨?_, ?_, ?_⟩, by simp [s0, s1, s7], by simp [s11, s12], by simp [hwk]⟩
        · exact ((hrest.pre hp3).trans (RestS.set (k := m'.length + 1) _ (by simp) _)).trans (RestS.set (k := m'.length) _ (by simp) _)
        · rw [hn1]; exact get_set (hou4 _) _
        · rw [List.getElem?_set_ne (by omega), hn2]; exact get_set hload3 _
    · simp -dsimp -implicitDefEqProofs [s0, s1, s7, s11, s12, s13, hlt]
      obtain rfl : k = js.length := by omega
      have hpp : m <+: m2 := pre_of_get fun q x hq => hrest.get q x (by have := lt_of_get hq; simp; omega) (prefix_get (hp.trans hp6) hq)
      simp only [longO, g, if_true, optV, optM]
      rw [(longT_length js ss js.length (Nat.le_refl _)).1]
      exact GC.keepTP (Fits.refl m) hpp hout (by omega) rfl rfl (.inr ⟨rfl, rfl⟩) rfl (ints_lit _) rfl
end Go.Proofs.Ytaggfcnaedadaaa
