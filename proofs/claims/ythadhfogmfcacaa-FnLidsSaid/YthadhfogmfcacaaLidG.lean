/-
  Lids, part 7: lids given out, the program's code. Conditions: none.
-/
import Derived.Test.YthadhfogmfcacaaLidF
set_option linter.unusedSimpArgs false
set_option linter.unusedVariables false
set_option linter.unusedSectionVars false
namespace Go.Proofs.Ythadhfogmfcacaa
open Go.Abs Go.RowKit Go.Law

theorem implLidsFor_c (xs : List I3) (ws : List Int) (la wa : Option Addr) (sl : Int) (m : Mem) (hr : RdG v3 3 m la xs) (hs : RdI m wa ws) (hn : xs.length ≤ 1048576) (hn' : ws.length ≤ 1048576) :
    ACalls Try.prog 33 [.slice la xs.length xs.length, .slice wa ws.length ws.length, .int .i64 sl] m (.tuple #[optV m.length (lidsO xs ws sl), .int .i64 (lidsI xs ws sl), .int .i64 (codeL xs ws sl)]) (m ++ optM 2 (lidsO xs ws sl)) := by
  refine acalls_of_vcF [5] Try.func33 rfl Try.fol (by kernel_rfl) ?_
  simp only [Try.f33]
  simp -dsimp -implicitDefEqProofs
  refine callsTo Try.cal19 (validLids_c xs la _ hr hn) ?_
  simp -dsimp -implicitDefEqProofs
  refine sp2 (fun g => ?_) (fun g => ?_)
  · simp at g
    have hc : codeL xs ws sl = 1 := by simp [codeL, g]
    simp [lidsO, lidsI, hc, optV, optM]
    exact GC.refl _ _ _
  simp at g
  refine callsTo Try.cal44 (areWidths_c ws wa sl _ hs (Nat.le_trans hn' (by decide))) ?_
  simp -dsimp -implicitDefEqProofs
  refine sp2 (fun g0 => ?_) (fun g0 => ?_)
  · have hc : codeL xs ws sl = 2 := by
      unfold codeL
      rw [if_pos g, if_neg]
      intro h
      rw [Bool.and_eq_true, Bool.and_eq_true] at h
      simp [h.1.1, h.1.2, h.2] at g0
    simp [lidsO, lidsI, hc, optV, optM]
    exact GC.refl _ _ _
  have hc : codeL xs ws sl = 0 := by
    unfold codeL
    rw [if_pos g, if_pos]
    simp only [Bool.or_eq_false_iff, Bool.not_eq_false'] at g0
    rw [Bool.and_eq_true, Bool.and_eq_true]
    exact ⟨⟨g0.1.1, g0.1.2⟩, g0.2⟩
  refine regF [[], [], [], [0], [], []] 2 (by kernel_rfl) (by kernel_rfl) ?_
  simp -dsimp -implicitDefEqProofs
  have hw12 : ws.length ≤ 12 := by
    simp only [Bool.or_eq_false_iff, Bool.not_eq_false', decide_eq_true_eq] at g0
    exact g0.1.1
  refine need_intro (by omega) ?_
  obtain ⟨m1, hm1⟩ : ∃ m1, m1 = m ++ [(⟨[], 2, 1, 1⟩ : AObj), ⟨List.replicate xs.length (.bool false), 4, 1, 1⟩] := ⟨_, rfl⟩
  rw [← hm1]
  have hp1 : m <+: m1 := by rw [hm1]; exact ⟨_, rfl⟩
  have hl1 : m1.length = m.length + 2 := by rw [hm1]; simp
  obtain ⟨L, hL⟩ : ∃ L, m.length = L := ⟨_, rfl⟩
  have c0 : m1[L]? = some ⟨([] : List Int).map (Value.int .i64), 2, 1, 1⟩ := by rw [hm1, ← hL]; simp
  have c1 : m1[L + 1]? = some ⟨(List.replicate xs.length false).map Value.bool, 4, 1, 1⟩ := by rw [hm1, ← hL]; simp
  rw [hL] at hl1 ⊢
  have hs1 : RdI m1 wa ws := by obtain ⟨l, rfl⟩ := hp1; exact hs.ext l
  refine callsToE Try.cal52 (mostLids_c xs ws sl (List.replicate xs.length false) la wa (some ⟨L + 1, 0, none⟩) m1 (by simp) (hr.pre hp1) hs1 ⟨L + 1, _, rfl, c1, by simp, rfl, rfl⟩ hn hn') ?_
  rintro _ m2 ⟨rfl, hp2⟩
  have hmost : mostK (mayG xs ws sl (List.replicate xs.length false)) xs.length ws.length = mostL xs ws sl := mostK_congr fun a b _ hb => by simp [mayG, List.getD_eq_getElem?_getD, hb]
  rw [hmost]
  have hml : mostL xs ws sl ≤ ws.length := mostK_le_left _ _ _
  simp -dsimp -implicitDefEqProofs
  refine loopN ws.length (fun w σ m' => ∃ (io : Nat) (oo : AObj), (m <+: m' ∧ L ≤ io ∧ io ≠ L + 1 ∧ m'[L + 1]? = some ⟨(lidW xs ws sl w).2.map Value.bool, 4, 1, 1⟩) ∧
      (m'[io]? = some oo ∧ 1 ≤ oo.kind ∧ oo.kind ≤ 2 ∧ oo.sz = 1 ∧ oo.elem = 2 ∧ oo.cells = (lidW xs ws sl w).1.map (Value.int .i64)) ∧
      (σ 0 = some (.slice la xs.length xs.length) ∧ σ 1 = some (.slice wa ws.length ws.length) ∧ σ 2 = some (.int .i64 sl) ∧ σ 10 = some (.slice (some ⟨L + 1, 0, none⟩) xs.length xs.length) ∧ σ 11 = some (.int .i64 (mostL xs ws sl))) ∧
      (σ 36 = some (.slice wa ws.length ws.length) ∧ σ 37 = some (.int .i64 ws.length)) ∧ σ 9 = some (.slice (some ⟨io, 0, none⟩) w w) ∧ σ 38 = some (.int .i64 w))
    ⟨L, _, ⟨hp1.trans hp2, Nat.le_refl _, by omega, prefix_get hp2 c1⟩, ⟨prefix_get hp2 c0, by simp, by simp, rfl, rfl, rfl⟩, by simp, by simp, by simp, by simp⟩ ?_
  rintro w σ m' hw ⟨io, oo, ⟨hp, hio, hio2, hgv⟩, ⟨ho, ho1, ho2, ho3, ho4, ho5⟩, ⟨s0, s1, s2, s10, s11⟩, ⟨s36, s37⟩, s9, s38⟩
  obtain ⟨hlo, hlg⟩ := lidW_length (xs := xs) (ws := ws) (sl := sl) w
  have hNL := negTo_all (lidW xs ws sl w).1
  have hneg0 := negTo_le (lidW xs ws sl w).1
  have hneed : needL xs ws sl (lidW xs ws sl w).1 = (mostL xs ws sl : Int) - hasN (lidW xs ws sl w).1 := rfl
  by_cases hlt : w < ws.length
  · have hww : IntKind.i64.wrap ((w : Int) + 1) = w + 1 := wrapI (by omega) (by omega)
    have hs' : RdI m' wa ws := by obtain ⟨l, rfl⟩ := hp; exact hs.ext l
    obtain ⟨wid, woff, wo, rfl, hwm0, hwk, hws, hwc⟩ := hs.at_ hlt
    have hwm := prefix_get hp hwm0
    have hwL : wid < L := by rw [← hL]; exact lt_of_get hwm0
    have hal : IntKind.i64.wrap ((mostL xs ws sl : Int) - (w : Int)) = (mostL xs ws sl : Int) - w := wrapI (by omega) (by omega)
    simp -dsimp -implicitDefEqProofs [s0, s1, s2, s10, s11, s36, s37, s9, s38, hlt, withO_of hwm, hwk, hws, withC_of hwc, hal]
    refine loopN w (fun k σ m4 => m4 = m' ∧ ((σ 0 = some (.slice la xs.length xs.length) ∧ σ 1 = some (.slice (some ⟨wid, woff, none⟩) ws.length ws.length) ∧ σ 2 = some (.int .i64 sl) ∧ σ 10 = some (.slice (some ⟨L + 1, 0, none⟩) xs.length xs.length) ∧ σ 11 = some (.int .i64 (mostL xs ws sl))) ∧
        (σ 36 = some (.slice (some ⟨wid, woff, none⟩) ws.length ws.length) ∧ σ 37 = some (.int .i64 ws.length)) ∧ σ 9 = some (.slice (some ⟨io, 0, none⟩) w w) ∧ σ 38 = some (.int .i64 w)) ∧
        (σ 12 = some (.int .i64 w) ∧ σ 13 = some (.int .i64 ws[w]) ∧ σ 14 = some (.int .i64 (-1))) ∧ σ 15 = some (.int .i64 ((mostL xs ws sl : Int) - w + negTo (lidW xs ws sl w).1 k)) ∧ (σ 47 = some (.slice (some ⟨io, 0, none⟩) w w) ∧ σ 48 = some (.int .i64 w)) ∧ σ 49 = some (.int .i64 k))
      ⟨rfl, by simp [s0, s1, s2, s10, s11, s36, s37, s9, s38], by simp, by simp [negTo], by simp [s9], by simp⟩ ?_
    clear s0 s1 s2 s10 s11 s36 s37 s9 s38
    rintro k σ m4 hk ⟨hmm, ⟨⟨s0, s1, s2, s10, s11⟩, ⟨s36, s37⟩, s9, s38⟩, ⟨s12, s13, s14⟩, s15, ⟨s47, s48⟩, s49⟩
    have hmm := hmm.symm
    subst hmm
    by_cases hlk : k < w
    · have hwk' : IntKind.i64.wrap ((k : Int) + 1) = k + 1 := wrapI (by omega) (by omega)
      have hko : k < (lidW xs ws sl w).1.length := by omega
      have hoc : oo.cells[k]? = some (.int .i64 (lidW xs ws sl w).1[k]) := by rw [ho5]; simp [hko]
      have hns := negTo_succ hko
      have hnl := hneg0 k
      simp -dsimp -implicitDefEqProofs [s0, s1, s2, s10, s11, s36, s37, s9, s38, s12, s13, s14, s15, s47, s48, s49, hlk, withO_of ho, ho2, ho3, withC_of hoc, hwk']
      refine sp2 (fun g1 => ?_) (fun g1 => ?_)
      · simp at g1
        rw [if_pos g1] at hns
        have hwn : IntKind.i64.wrap ((mostL xs ws sl : Int) - w + negTo (lidW xs ws sl w).1 k + 1) = (mostL xs ws sl : Int) - w + negTo (lidW xs ws sl w).1 (k + 1) := by rw [wrapI (by omega) (by omega)]; omega
        exact next_ hlk ⟨rfl, by simp [s0, s1, s2, s10, s11, s36, s37, s9, s38], by simp [s12, s13, s14], by simp [hwn], by simp [s47, s48], by simp [hwk']⟩
      · simp at g1
        rw [if_neg (by omega), Nat.add_zero] at hns
        exact next_ hlk ⟨rfl, by simp [s0, s1, s2, s10, s11, s36, s37, s9, s38], by simp [s12, s13, s14], by simp [s15, hns], by simp [s47, s48], by simp [hwk']⟩
    obtain rfl : k = w := by omega
    rw [show (mostL xs ws sl : Int) - k + negTo (lidW xs ws sl k).1 k = needL xs ws sl (lidW xs ws sl k).1 by rw [hneed]; rw [hlo] at hNL; omega] at s15
    obtain ⟨nd, hnd⟩ : ∃ nd, nd = needL xs ws sl (lidW xs ws sl k).1 := ⟨_, rfl⟩
    have hndb : -12 ≤ nd ∧ nd ≤ 12 := by have := hasN_le (lidW xs ws sl k).1; omega
    rw [← hnd] at s15
    -- the continuation: what was chosen is put behind
    have hdone : ∀ (m5 : Mem) (x : Int) (g' : List Bool), m <+: m5 → m5[L + 1]? = some ⟨g'.map Value.bool, 4, 1, 1⟩ → m5[io]? = some oo → True := fun _ _ _ _ _ _ => trivial
    have hdn : RdI m' (some ⟨wid, woff + (k + 1), none⟩) (ws.drop (k + 1)) := hs'.drop (by omega)
    simp -dsimp -implicitDefEqProofs [s0, s1, s2, s10, s11, s36, s37, s9, s38, s12, s13, s14, s15, s47, s48, s49]
    refine loopN xs.length (fun b σ m4 => (m <+: m4 ∧ m4[L + 1]? = some ⟨(lidW xs ws sl k).2.map Value.bool, 4, 1, 1⟩ ∧ m4[io]? = some oo ∧ ∀ c, c < b → okPick (fitL xs ws sl) xs.length ws.length (lidW xs ws sl k).2 k nd c = false) ∧
        ((σ 0 = some (.slice la xs.length xs.length) ∧ σ 1 = some (.slice (some ⟨wid, woff, none⟩) ws.length ws.length) ∧ σ 2 = some (.int .i64 sl) ∧ σ 10 = some (.slice (some ⟨L + 1, 0, none⟩) xs.length xs.length) ∧ σ 11 = some (.int .i64 (mostL xs ws sl))) ∧
        (σ 36 = some (.slice (some ⟨wid, woff, none⟩) ws.length ws.length) ∧ σ 37 = some (.int .i64 ws.length)) ∧ σ 9 = some (.slice (some ⟨io, 0, none⟩) k k) ∧ σ 38 = some (.int .i64 k)) ∧
        (σ 12 = some (.int .i64 k) ∧ σ 13 = some (.int .i64 ws[k]) ∧ σ 14 = some (.int .i64 (-1)) ∧ σ 15 = some (.int .i64 nd)) ∧ (σ 58 = some (.slice la xs.length xs.length) ∧ σ 59 = some (.int .i64 xs.length)) ∧ σ 60 = some (.int .i64 b))
      ⟨⟨hp, hgv, ho, fun c hc => by omega⟩, by simp [s0, s1, s2, s10, s11, s36, s37, s9, s38], by simp [s12, s13, s14, s15], by simp [s0], by simp⟩ ?_
    clear s0 s1 s2 s10 s11 s36 s37 s9 s38 s12 s13 s14 s15 s47 s48 s49
    rintro b σ m4 hb ⟨⟨hp4, hgv4, ho4', hno⟩, ⟨⟨s0, s1, s2, s10, s11⟩, ⟨s36, s37⟩, s9, s38⟩, ⟨s12, s13, s14, s15⟩, ⟨s58, s59⟩, s60⟩
    by_cases hlb : b < xs.length
    · have hwb : IntKind.i64.wrap ((b : Int) + 1) = b + 1 := wrapI (by omega) (by omega)
      have hr4 := hr.pre hp4
      obtain ⟨id, off, o, rfl, hm, hkd, hsz, hl, hrow, _⟩ := R3.at_ hr4 hlb
      have hbg : b < (lidW xs ws sl k).2.length := by omega
      have hgd : (lidW xs ws sl k).2.getD b false = (lidW xs ws sl k).2[b] := by simp [List.getD_eq_getElem?_getD, hbg]
      have hfit : inB (slk xs[b] ws[k]) 0 sl = fitL xs ws sl k b := by rw [fitL, getD3 hlb, getI hlt]
      have hgl : ((lidW xs ws sl k).2.map Value.bool).length = xs.length := by simp [hlg]
      have hgc : ∀ x, (lidW xs ws sl k).2[b] = x → ((lidW xs ws sl k).2.map Value.bool)[b]? = some (.bool x) := fun x hx => by simp [hbg, hx]
      cases hgb : (lidW xs ws sl k).2[b] with
      | true =>
        have hoky : okPick (fitL xs ws sl) xs.length ws.length (lidW xs ws sl k).2 k nd b = false := by rw [okPick_eq, hgd, hgb]; rfl
        simp -dsimp -implicitDefEqProofs [s0, s1, s2, s10, s11, s36, s37, s9, s38, s12, s13, s14, s15, s58, s59, s60, hlb, withO_of hm, hkd, hsz, hl, hrow, v3, fun l => withO_of (get_old (l := l) hgv4), hgl, withC_of (hgc _ hgb), hwb]
        exact next_ hlb ⟨⟨pre_app hp4 _, get_old hgv4, get_old ho4', fun c hc => by
          by_cases e : c = b
          · subst e; exact hoky
          · exact hno c (by omega)⟩, by simp [s0, s1, s2, s10, s11, s36, s37, s9, s38], by simp [s12, s13, s14, s15], by simp [s58, s59], by simp [hwb]⟩
      | false =>
        simp -dsimp -implicitDefEqProofs [s0, s1, s2, s10, s11, s36, s37, s9, s38, s12, s13, s14, s15, s58, s59, s60, hlb, withO_of hm, hkd, hsz, hl, hrow, v3, fun l => withO_of (get_old (l := l) hgv4), hgl, withC_of (hgc _ hgb), hwb]
        refine callsTo Try.cal45 (lidFits_c xs[b] ws[k] sl _) ?_
        simp -dsimp -implicitDefEqProofs [s0, s1, s2, s10, s11, s36, s37, s9, s38, s12, s13, s14, s15, s58, s59, s60, hlb, withO_of hm, hkd, hsz, hl, hrow, v3, fun l => withO_of (get_old (l := l) hgv4), hgl, withC_of (hgc _ hgb), hwb]
        cases hf : inB (slk xs[b] ws[k]) 0 sl with
        | false =>
          have hoky : okPick (fitL xs ws sl) xs.length ws.length (lidW xs ws sl k).2 k nd b = false := by rw [okPick_eq, hgd, hgb, qPick, ← hfit, hf]; rfl
          simp -dsimp -implicitDefEqProofs [s0, s1, s2, s10, s11, s36, s37, s9, s38, s12, s13, s14, s15, s58, s59, s60, hlb, withO_of hm, hkd, hsz, hl, hrow, v3, fun l => withO_of (get_old (l := l) hgv4), hgl, withC_of (hgc _ hgb), hwb]
          exact next_ hlb ⟨⟨pre_app hp4 _, get_old hgv4, get_old ho4', fun c hc => by
            by_cases e : c = b
            · subst e; exact hoky
            · exact hno c (by omega)⟩, by simp [s0, s1, s2, s10, s11, s36, s37, s9, s38], by simp [s12, s13, s14, s15], by simp [s58, s59], by simp [hwb]⟩
        | true =>
          simp -dsimp -implicitDefEqProofs [s0, s1, s2, s10, s11, s36, s37, s9, s38, s12, s13, s14, s15, s58, s59, s60, hlb, withO_of hm, hkd, hsz, hl, hrow, v3, fun l => withO_of (get_old (l := l) hgv4), hgl, withC_of (hgc _ hgb), hwb]
          refine need_intro (by omega) ?_
          obtain ⟨m5, hm5⟩ : ∃ m5, m5 = (m4 ++ [(⟨[.int .i64 xs[b].1, .int .i64 xs[b].2.1, .int .i64 xs[b].2.2], 26, 3, 1⟩ : AObj)]).set (L + 1) ⟨((lidW xs ws sl k).2.set b true).map Value.bool, 4, 1, 1⟩ := ⟨_, rfl⟩
          have hfold : (m4 ++ [(⟨[.int .i64 xs[b].1, .int .i64 xs[b].2.1, .int .i64 xs[b].2.2], 26, 3, 1⟩ : AObj)]).set (L + 1) ⟨((lidW xs ws sl k).2.map Value.bool).set b (.bool true), 4, 1, 1⟩ = m5 := by rw [hm5, List.map_set]
          have hp5 : m <+: m5 := by rw [hm5]; exact pre_set (pre_app hp4 _) (by omega) _
          have hg5 : m5[L + 1]? = some ⟨((lidW xs ws sl k).2.set b true).map Value.bool, 4, 1, 1⟩ := by rw [hm5]; exact get_set (get_old hgv4) _
          have ho5' : m5[io]? = some oo := by rw [hm5, List.getElem?_set_ne (Ne.symm hio2)]; exact get_old ho4'
          have hwm5 := prefix_get hp5 hwm0
          have hs5 : RdI m5 (some ⟨wid, woff, none⟩) ws := by obtain ⟨l, rfl⟩ := hp5; exact hs.ext l
          have hnw : IntKind.i64.wrap (nd - 1) = nd - 1 := wrapI (by omega) (by omega)
          have hset : (lidW xs ws sl k).2.set b false = (lidW xs ws sl k).2 := by have := List.set_getElem_self hbg; rwa [hgb] at this
          have hql : okPick (fitL xs ws sl) xs.length ws.length (lidW xs ws sl k).2 k nd b = decide ((restL xs ws sl ((lidW xs ws sl k).2.set b true) (k + 1) : Int) = nd - 1) := by rw [okPick_eq, hgd, hgb, qPick, ← hfit, hf]; simp
          have hgl5 : (((lidW xs ws sl k).2.set b true).map Value.bool).length = xs.length := by simp [hlg]
          have e1 : (0 : Int) ≤ (k : Int) + 1 := by omega
          have e2 : (k : Int) + 1 ≤ ws.length := by omega
          have e3 : ((k : Int) + 1).toNat = k + 1 := by omega
          have hML := fun A (hA : RdI m5 A (ws.drop (k + 1))) => mostLids_c xs (ws.drop (k + 1)) sl ((lidW xs ws sl k).2.set b true) _ A (some ⟨L + 1, 0, none⟩) m5 (by simp [hlg]) (hr.pre hp5) hA ⟨L + 1, _, rfl, hg5, by simp, rfl, rfl⟩ hn (by simp; omega)
          have hRI : mostK (mayG xs (ws.drop (k + 1)) sl ((lidW xs ws sl k).2.set b true)) xs.length (ws.length - (k + 1)) = restL xs ws sl ((lidW xs ws sl k).2.set b true) (k + 1) := by
            have := rest_impl (xs := xs) (ws := ws) (sl := sl) ((lidW xs ws sl k).2.set b true) (k + 1)
            rwa [List.length_drop] at this
          simp only [MostPost, List.length_drop, hRI] at hML
          simp -dsimp -implicitDefEqProofs [hfold, s0, s1, s2, s10, s11, s36, s37, s9, s38, s12, s13, s14, s15, s58, s59, s60, hlb, hlt, withO_of hwm5, hwk, hws, hww, e1, e2, e3]
          refine need_intro (by omega) ⟨fun hj2 => ?_, fun hj2 => ?_⟩
          · have hD := hML _ (hs5.drop (by omega))
            refine callsToE Try.cal52 hD ?_
            rintro _ m6 ⟨rfl, hp6⟩
            have hg6 := prefix_get hp6 hg5
            have ho6 := prefix_get hp6 ho5'
            simp -dsimp -implicitDefEqProofs [s0, s1, s2, s10, s11, s36, s37, s9, s38, s12, s13, s14, s15, s58, s59, s60, hlb, hnw, hww, withO_of hg6, hgl5]
            refine sp2 (fun g1 => ?_) (fun g1 => ?_)
            · have hstep := step_some (xs := xs) (ws := ws) (sl := sl) (w := k) hlb (by rw [← hnd]; exact hno) (by rw [← hnd, hql]; simpa using g1)
              refine appTo_grow (e := 2) (sz := 1) (by_ := 8) (z := .int .i64 0) (by kernel_rfl) (by kernel_rfl) ⟨by decide, rfl⟩ (o := oo) (get_old ho6) ⟨ho1, ho2⟩ ⟨ho3, ho4⟩ (by rw [ho5]; simp [hlo]) (by omega) (Src.obj (o := ⟨[.int .i64 b], 2, 1, 1⟩) (by simp) (by simp) rfl rfl) ?_
              intro m7 id7 hg7
              simp -dsimp -implicitDefEqProofs [s0, s1, s2, s10, s11, s36, s37, s9, s38, s12, s13, s14, s15, s58, s59, s60, hlb, hnw, hww, withO_of hg6, hgl5]
              refine next_ hlt ⟨id7, _, ⟨hg7.pre m (pre_app (hp5.trans hp6) _) (by omega), by rw [hg7.at_]; simp; have := lt_of_get ho6; omega, by rw [hg7.at_]; simp; have := lt_of_get hg6; omega, by rw [hstep]; exact hg7.old _ _ (Ne.symm hio2) (get_old hg6)⟩, ⟨hg7.new, by simp, by simp, rfl, rfl, by rw [hstep]; simp [ho5]⟩, by simp [s0, s1, s2, s10, s11], by simp [s36, s37], by simp, by simp [hww]⟩
            · have hoky : okPick (fitL xs ws sl) xs.length ws.length (lidW xs ws sl k).2 k nd b = false := by rw [hql]; simpa using g1
              refine need_intro (by omega) ?_
              refine next_ hlb ⟨⟨pre_set (hp5.trans hp6) (by omega) _, ?_, by rw [List.getElem?_set_ne (Ne.symm hio2)]; exact ho6, fun c hc => by
                by_cases e : c = b
                · subst e; exact hoky
                · exact hno c (by omega)⟩, by simp [s0, s1, s2, s10, s11, s36, s37, s9, s38], by simp [s12, s13, s14, s15], by simp [s58, s59], by simp [hwb]⟩
              rw [get_set hg6, bools_set]
              simp only [List.set_set, hset]
          · have hD := hML (some ⟨0, 0, some 0⟩) (by rw [List.drop_eq_nil_of_le (by omega)]; exact RdI.nil _ _)
            rw [show ws.length - (k + 1) = 0 by omega] at hD
            refine callsToE Try.cal52 hD ?_
            rintro _ m6 ⟨rfl, hp6⟩
            have hg6 := prefix_get hp6 hg5
            have ho6 := prefix_get hp6 ho5'
            simp -dsimp -implicitDefEqProofs [s0, s1, s2, s10, s11, s36, s37, s9, s38, s12, s13, s14, s15, s58, s59, s60, hlb, hnw, hww, withO_of hg6, hgl5]
            refine sp2 (fun g1 => ?_) (fun g1 => ?_)
            · have hstep := step_some (xs := xs) (ws := ws) (sl := sl) (w := k) hlb (by rw [← hnd]; exact hno) (by rw [← hnd, hql]; simpa using g1)
              refine appTo_grow (e := 2) (sz := 1) (by_ := 8) (z := .int .i64 0) (by kernel_rfl) (by kernel_rfl) ⟨by decide, rfl⟩ (o := oo) (get_old ho6) ⟨ho1, ho2⟩ ⟨ho3, ho4⟩ (by rw [ho5]; simp [hlo]) (by omega) (Src.obj (o := ⟨[.int .i64 b], 2, 1, 1⟩) (by simp) (by simp) rfl rfl) ?_
              intro m7 id7 hg7
              simp -dsimp -implicitDefEqProofs [s0, s1, s2, s10, s11, s36, s37, s9, s38, s12, s13, s14, s15, s58, s59, s60, hlb, hnw, hww, withO_of hg6, hgl5]
              refine next_ hlt ⟨id7, _, ⟨hg7.pre m (pre_app (hp5.trans hp6) _) (by omega), by rw [hg7.at_]; simp; have := lt_of_get ho6; omega, by rw [hg7.at_]; simp; have := lt_of_get hg6; omega, by rw [hstep]; exact hg7.old _ _ (Ne.symm hio2) (get_old hg6)⟩, ⟨hg7.new, by simp, by simp, rfl, rfl, by rw [hstep]; simp [ho5]⟩, by simp [s0, s1, s2, s10, s11], by simp [s36, s37], by simp, by simp [hww]⟩
            · have hoky : okPick (fitL xs ws sl) xs.length ws.length (lidW xs ws sl k).2 k nd b = false := by rw [hql]; simpa using g1
              refine need_intro (by omega) ?_
              refine next_ hlb ⟨⟨pre_set (hp5.trans hp6) (by omega) _, ?_, by rw [List.getElem?_set_ne (Ne.symm hio2)]; exact ho6, fun c hc => by
                by_cases e : c = b
                · subst e; exact hoky
                · exact hno c (by omega)⟩, by simp [s0, s1, s2, s10, s11, s36, s37, s9, s38], by simp [s12, s13, s14, s15], by simp [s58, s59], by simp [hwb]⟩
              rw [get_set hg6, bools_set]
              simp only [List.set_set, hset]
    obtain rfl : b = xs.length := by omega
    have hstep := step_none (xs := xs) (ws := ws) (sl := sl) (w := k) (by rw [← hnd]; exact hno)
    simp -dsimp -implicitDefEqProofs [s0, s1, s2, s10, s11, s36, s37, s9, s38, s12, s13, s14, s15, s58, s59, s60]
    refine appTo_grow (e := 2) (sz := 1) (by_ := 8) (z := .int .i64 0) (by kernel_rfl) (by kernel_rfl) ⟨by decide, rfl⟩ (o := oo) (get_old ho4') ⟨ho1, ho2⟩ ⟨ho3, ho4⟩ (by rw [ho5]; simp [hlo]) (by omega) (Src.obj (o := ⟨[.int .i64 (-1)], 2, 1, 1⟩) (by simp) (by simp) rfl rfl) ?_
    intro m6 id6 hg6
    simp -dsimp -implicitDefEqProofs [s0, s1, s2, s10, s11, s36, s37, s9, s38, s12, s13, s14, s15, s58, s59, s60]
    refine next_ hlt ⟨id6, _, ⟨hg6.pre m (pre_app hp4 _) (by omega), by rw [hg6.at_]; simp; have := lt_of_get ho4'; omega, by rw [hg6.at_]; simp; have := lt_of_get hgv4; omega, by rw [hstep]; exact hg6.old _ _ (Ne.symm hio2) (get_old hgv4)⟩, ⟨hg6.new, by simp, by simp, rfl, rfl, by rw [hstep]; simp [ho5]⟩, by simp [s0, s1, s2, s10, s11], by simp [s36, s37], by simp, by simp [hww]⟩
  · obtain rfl : w = ws.length := by omega
    simp -dsimp -implicitDefEqProofs [s0, s1, s2, s10, s11, s36, s37, s9, s38]
    simp only [lidsO, lidsI, hc, if_true, optV, optM, hlo]
    subst hL
    exact GC.keepTP (Fits.refl m) hp ho hio ho3.symm ho4.symm (by simp; omega) ho5.symm (by rw [ho5]; exact ints_lit _) rfl
end Go.Proofs.Ythadhfogmfcacaa
