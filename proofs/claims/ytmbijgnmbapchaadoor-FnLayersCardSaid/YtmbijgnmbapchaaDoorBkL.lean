/-
  Baskets, part 12: unsound layers. Conditions: none. Printed by a program (uns.py).
-/
import Derived.Test.YtmbijgnmbapchaaDoorBkO
import Derived.Test.YtmbijgnmbapchaaDoorBkE
set_option linter.unusedSimpArgs false
set_option linter.unusedVariables false
set_option linter.unusedSectionVars false
namespace Go.Proofs.YtmbijgnmbapchaaDoor
open Go.Abs Go.RowKit Go.Law

theorem isFloat_c (n : Int) (m : Mem) : ACalls Tryd.prog 64 [.int .i64 n] m (.bool (inB n 1 12)) m := by
  refine acalls_of_vc Tryd.func64 rfl Tryd.fol (by kernel_rfl) ?_
  simp only [Tryd.f64]
  simp -dsimp -implicitDefEqProofs
  refine callsTo Tryd.cal88 (within_c _ _ _ _) ?_
  simp -dsimp -implicitDefEqProofs
  exact GC.refl _ _ _
def unsTo (st : Int) (ls : List LyT) (fl : Int) (k : Nat) : List Int := ((List.range k).filter fun (i : Nat) => !soundB (ls.getD i (B0, 0)).1 st.toNat fl).map fun (i : Nat) => (i : Int)
def unsO (st : Int) (ls : List LyT) (b : ByteArray) (fl : Int) : Option (List Int) := if okB st ls b && inB fl 1 12 then some (unsTo st ls fl ls.length) else none
def unsC (st : Int) (ls : List LyT) (b : ByteArray) (fl : Int) : Int := if okB st ls b then (if inB fl 1 12 then 0 else 2) else 1
theorem unsTo_succ {st : Int} {ls : List LyT} {fl : Int} {k : Nat} (h : k < ls.length) : unsTo st ls fl (k + 1) = unsTo st ls fl k ++ (if soundB ls[k].1 st.toNat fl then [] else [(k : Int)]) := by
  unfold unsTo
  rw [List.range_succ, List.filter_append, List.map_append]
  congr 1
  rw [← getL h]
  cases h : soundB (ls.getD k (B0, 0)).1 st.toNat fl <;> simp only [List.filter_cons, List.filter_nil, h] <;> rfl
theorem unsTo_length (st : Int) (ls : List LyT) (fl : Int) (k : Nat) : (unsTo st ls fl k).length ≤ k := by
  unfold unsTo
  rw [List.length_map]
  exact Nat.le_trans (List.length_filter_le _ _) (by simp)
theorem okB_lays2 {st : Int} {ls : List LyT} {b : ByteArray} (h : okB st ls b = true) (hl : ls ≠ []) : 3 ≤ st ∧ st ≤ 60 ∧ ∀ k (hk : k < ls.length), strokeB ls[k].1 = true := by
  unfold okB at h
  split at h
  · simp [hl] at h
  · simp only [Bool.and_eq_true] at h
    obtain ⟨⟨h1, h2⟩, _⟩ := h
    simp [inB] at h1
    refine ⟨h1.1, h1.2, fun k hk => ?_⟩
    have := of_decide_eq_true (allTo_get h2 hk)
    rw [getL hk] at this
    unfold layerK at this
    split at this
    · omega
    · rename_i hs; simpa using hs
theorem specUns_c (st : Int) (ls : List LyT) (b : ByteArray) (A : Option Addr) (fl : Int) (m : Mem) (hr : RdG vl 2 m A ls) (hn : ls.length ≤ 1048576) (hs : ∀ p ∈ ls, p.1.size ≤ maxLen) (hb : b.size ≤ maxLen) :
    ACalls Tryd.prog 13 [.agg (bkC st A ls.length b).toArray, .int .i64 fl] m (.tuple #[optV m.length (unsO st ls b fl), .int .i64 (unsC st ls b fl)]) (m ++ optM 2 (unsO st ls b fl)) := by
  obtain ⟨m0, hm0⟩ : ∃ m0 : Mem, m0 = m ++ [⟨[.int .i64 st, .slice A ls.length ls.length, .string b], 29, 3, 1⟩] := ⟨_, rfl⟩
  have hp0 : m <+: m0 := by rw [hm0]; exact ⟨_, rfl⟩
  have t0 : m0[m.length]? = some ⟨[.int .i64 st, .slice A ls.length ls.length, .string b], 29, 3, 1⟩ := by rw [hm0]; simp
  have hl0 : m0.length = m.length + 1 := by rw [hm0]; simp
  have hr0 := hr.pre hp0
  refine acalls_of_vc Tryd.func13 rfl Tryd.fol (by kernel_rfl) ?_
  simp only [Tryd.f13, bkC]
  simp -dsimp -implicitDefEqProofs [hm0.symm, withO_of t0, fun l => withO_of (get_old (l := l) t0)]
  refine callsTo Tryd.cal56 (l17Ok_c st ls b A m.length _ m0 t0 (by simp) rfl hr0 hn hs hb) ?_
  simp -dsimp -implicitDefEqProofs [hm0.symm, withO_of t0, fun l => withO_of (get_old (l := l) t0)]
  cases hok : okB st ls b
  · simp -dsimp -implicitDefEqProofs [hm0.symm, withO_of t0, fun l => withO_of (get_old (l := l) t0)]
    simp [unsO, unsC, hok, optV, optM]
    exact GC.dropP hp0 rfl rfl
  simp -dsimp -implicitDefEqProofs [hm0.symm, withO_of t0, fun l => withO_of (get_old (l := l) t0)]
  refine callsTo Tryd.cal62 (l00In_c fl 1 12 _) ?_
  simp -dsimp -implicitDefEqProofs [hm0.symm, withO_of t0, fun l => withO_of (get_old (l := l) t0)]
  cases hfl : inB fl 1 12
  · simp -dsimp -implicitDefEqProofs [hm0.symm, withO_of t0, fun l => withO_of (get_old (l := l) t0)]
    simp [unsO, unsC, hok, hfl, optV, optM]
    exact GC.dropP hp0 rfl rfl
  simp -dsimp -implicitDefEqProofs [hm0.symm, withO_of t0, fun l => withO_of (get_old (l := l) t0)]
  have hO : unsO st ls b fl = some (unsTo st ls fl ls.length) := by simp [unsO, hok, hfl]
  have hC : unsC st ls b fl = 0 := by simp [unsC, hok, hfl]
  rw [hO, hC]
  obtain ⟨U, hU⟩ : ∃ U, U = unsTo st ls fl := ⟨_, rfl⟩
  have hUl : ∀ k, (U k).length ≤ k := fun k => by rw [hU]; exact unsTo_length _ _ _ _
  have hU0 : U 0 = [] := by rw [hU]; rfl
  rw [← hU]
  refine loopN ls.length (fun k σ m' => ∃ id kd, m0 <+: m' ∧ m0.length ≤ id ∧ (kd = 1 ∨ kd = 2) ∧ m'[id]? = some ⟨(U k).map (Value.int .i64), 2, 1, kd⟩ ∧ σ 2 = some (.pointer (some ⟨m.length, 0, none⟩)) ∧ σ 1 = some (.int .i64 fl) ∧ σ 6 = some (.slice (some ⟨id, 0, none⟩) (U k).length (U k).length) ∧ σ 7 = some (.int .i64 k))
    ?_ ?_
  · exact ⟨m0.length, 1, pre_app (pre_refl m0) _, Nat.le_refl _, .inl rfl, by simp [hU0], by simp [hU0], by simp [hU0], by simp [hU0], by simp [hU0]⟩
  rintro k σ m' hk ⟨id, kd, hp, hid, hkd', ho, s2, s1, s6, s7⟩
  have hxm := prefix_get hp t0
  have hlk := hUl k
  have hml := hp.length_le
  by_cases hlt : k < ls.length
  · have hltI : (k : Int) < (ls.length : Int) := by omega
    have hw : IntKind.i64.wrap ((k : Int) + 1) = (k : Int) + 1 := wrapI (by omega) (by omega)
    have hst0 : ls ≠ [] := by intro e; rw [e] at hlt; simp at hlt
    obtain ⟨hst1, hst2, hlays⟩ := okB_lays2 hok hst0
    have hstroke := hlays k hlt
    obtain ⟨id', off, ob, rfl, hmo, hkd, hsz, hlen, hrow, c0, c1⟩ := RL.at_ (hr0.pre hp) hlt
    have hsd := fun m => l06Sound_c ls[k].1 st.toNat fl hstroke (by omega) m
    rw [show ((st.toNat : Nat) : Int) = st by omega] at hsd
    have hstep := unsTo_succ (st := st) (fl := fl) hlt
    rw [← hU] at hstep
    cases hb2 : soundB ls[k].1 st.toNat fl
    · rw [hb2] at hstep hsd
      have hstep' : U (k + 1) = U k ++ [(k : Int)] := by simpa using hstep
      simp -dsimp -implicitDefEqProofs [s2, s1, s6, s7, hlt, hltI, hw, withO_of hxm, withO_of hmo, hkd, hsz, hlen, withC_of c0]
      refine callsTo Tryd.cal63 (hsd _) ?_
      simp -dsimp -implicitDefEqProofs [s2, s1, s6, s7, hlt, hltI, hw, withO_of hxm, withO_of hmo, hkd, hsz, hlen, withC_of c0]
      refine appTo_grow (n := (U k).length) (c := 1) (e := 2) (sz := 1) (by_ := 8) (z := .int .i64 0) (by kernel_rfl) (by kernel_rfl) ⟨by decide, rfl⟩ (get_old ho) (by simp; omega) ⟨rfl, rfl⟩ (by simp) (by omega) (Src.obj (o := ⟨[.int .i64 k], 2, 1, 1⟩) (by simp) (by simp) rfl rfl) ?_
      intro m2 id2 gr
      simp -dsimp -implicitDefEqProofs [s2, s1, s6, s7, hlt, hltI, hw, withO_of hxm, withO_of hmo, hkd, hsz, hlen, withC_of c0]
      have hat := gr.at_
      simp at hat
      have hmm := List.IsPrefix.length_le hp
      exact next_ hlt ⟨id2, 2, gr.pre _ (pre_app hp _) hid, by omega, .inr rfl, by rw [hstep']; simpa using gr.new, by simp [s2], by simp [s1], by rw [hstep']; simp, by simp [s7, hw]⟩
    · rw [hb2] at hstep hsd
      have hstep' : U (k + 1) = U k := by simpa using hstep
      simp -dsimp -implicitDefEqProofs [s2, s1, s6, s7, hlt, hltI, hw, withO_of hxm, withO_of hmo, hkd, hsz, hlen, withC_of c0]
      refine callsTo Tryd.cal63 (hsd _) ?_
      simp -dsimp -implicitDefEqProofs [s2, s1, s6, s7, hlt, hltI, hw, withO_of hxm, withO_of hmo, hkd, hsz, hlen, withC_of c0]
      exact next_ hlt ⟨id, kd, hp, hid, hkd', by rw [hstep']; exact ho, by simp [s2], by simp [s1], by rw [hstep']; simp [s6], by simp [s7, hw]⟩
  · obtain rfl : k = ls.length := by omega
    simp -dsimp -implicitDefEqProofs [s2, s1, s6, s7, withO_of hxm]
    simp only [optV, optM]
    exact GC.keepTP (Fits.refl m) (hp0.trans hp) ho (by omega) rfl rfl (by simp; omega) rfl (ints_lit _) rfl
theorem implUns_c (st : Int) (ls : List LyT) (b : ByteArray) (A : Option Addr) (fl : Int) (m : Mem) (hr : RdG vl 2 m A ls) (hn : ls.length ≤ 1048576) (hs : ∀ p ∈ ls, p.1.size ≤ maxLen) (hb : b.size ≤ maxLen) :
    ACalls Tryd.prog 14 [.agg (bkC st A ls.length b).toArray, .int .i64 fl] m (.tuple #[optV m.length (unsO st ls b fl), .int .i64 (unsC st ls b fl)]) (m ++ optM 2 (unsO st ls b fl)) := by
  obtain ⟨m0, hm0⟩ : ∃ m0 : Mem, m0 = m ++ [⟨[.int .i64 st, .slice A ls.length ls.length, .string b], 29, 3, 1⟩] := ⟨_, rfl⟩
  have hp0 : m <+: m0 := by rw [hm0]; exact ⟨_, rfl⟩
  have t0 : m0[m.length]? = some ⟨[.int .i64 st, .slice A ls.length ls.length, .string b], 29, 3, 1⟩ := by rw [hm0]; simp
  have hl0 : m0.length = m.length + 1 := by rw [hm0]; simp
  have hr0 := hr.pre hp0
  have hval := validBasket_c st ls b A m0 hr0 hn hs hb
  simp only [bkC] at hval
  refine acalls_of_vc Tryd.func14 rfl Tryd.fol (by kernel_rfl) ?_
  simp only [Tryd.f14, bkC]
  simp -dsimp -implicitDefEqProofs [hm0.symm, withO_of t0, fun l => withO_of (get_old (l := l) t0)]
  refine callsTo Tryd.cal59 hval ?_
  simp -dsimp -implicitDefEqProofs [hm0.symm, withO_of t0, fun l => withO_of (get_old (l := l) t0)]
  cases hok : okB st ls b
  · simp -dsimp -implicitDefEqProofs [hm0.symm, withO_of t0, fun l => withO_of (get_old (l := l) t0)]
    simp [unsO, unsC, hok, optV, optM]
    exact GC.dropP hp0 rfl rfl
  simp -dsimp -implicitDefEqProofs [hm0.symm, withO_of t0, fun l => withO_of (get_old (l := l) t0)]
  refine callsTo Tryd.cal64 (isFloat_c fl _) ?_
  simp -dsimp -implicitDefEqProofs [hm0.symm, withO_of t0, fun l => withO_of (get_old (l := l) t0)]
  cases hfl : inB fl 1 12
  · simp -dsimp -implicitDefEqProofs [hm0.symm, withO_of t0, fun l => withO_of (get_old (l := l) t0)]
    simp [unsO, unsC, hok, hfl, optV, optM]
    exact GC.dropP hp0 rfl rfl
  simp -dsimp -implicitDefEqProofs [hm0.symm, withO_of t0, fun l => withO_of (get_old (l := l) t0)]
  have hO : unsO st ls b fl = some (unsTo st ls fl ls.length) := by simp [unsO, hok, hfl]
  have hC : unsC st ls b fl = 0 := by simp [unsC, hok, hfl]
  rw [hO, hC]
  obtain ⟨U, hU⟩ : ∃ U, U = unsTo st ls fl := ⟨_, rfl⟩
  have hUl : ∀ k, (U k).length ≤ k := fun k => by rw [hU]; exact unsTo_length _ _ _ _
  have hU0 : U 0 = [] := by rw [hU]; rfl
  rw [← hU]
  refine loopN ls.length (fun k σ m' => ∃ id kd, m0 <+: m' ∧ m0.length ≤ id ∧ (kd = 1 ∨ kd = 2) ∧ m'[id]? = some ⟨(U k).map (Value.int .i64), 2, 1, kd⟩ ∧ σ 2 = some (.pointer (some ⟨m.length, 0, none⟩)) ∧ σ 1 = some (.int .i64 fl) ∧ σ 6 = some (.slice (some ⟨id, 0, none⟩) (U k).length (U k).length) ∧ σ 17 = some (.slice A ls.length ls.length) ∧ σ 18 = some (.int .i64 ls.length) ∧ σ 19 = some (.int .i64 k))
    ?_ ?_
  · exact ⟨m0.length, 1, pre_app (pre_refl m0) _, Nat.le_refl _, .inl rfl, by simp [hU0], by simp [hU0], by simp [hU0], by simp [hU0], by simp [hU0], by simp [hU0], by simp [hU0]⟩
  rintro k σ m' hk ⟨id, kd, hp, hid, hkd', ho, s2, s1, s6, s17, s18, s19⟩
  have hxm := prefix_get hp t0
  have hlk := hUl k
  have hml := hp.length_le
  by_cases hlt : k < ls.length
  · have hltI : (k : Int) < (ls.length : Int) := by omega
    have hw : IntKind.i64.wrap ((k : Int) + 1) = (k : Int) + 1 := wrapI (by omega) (by omega)
    have hst0 : ls ≠ [] := by intro e; rw [e] at hlt; simp at hlt
    obtain ⟨hst1, hst2, hlays⟩ := okB_lays2 hok hst0
    have hstroke := hlays k hlt
    obtain ⟨id', off, ob, rfl, hmo, hkd, hsz, hlen, hrow, c0, c1⟩ := RL.at_ (hr0.pre hp) hlt
    obtain ⟨m3, hm3⟩ : ∃ m3, m3 = m' ++ [(⟨[.string ls[k].1, .int .i64 ls[k].2], 56, 2, 1⟩ : AObj)] := ⟨_, rfl⟩
    have hp3 : m' <+: m3 := by rw [hm3]; exact ⟨_, rfl⟩
    have t3 : m3[m'.length]? = some ⟨[.string ls[k].1, .int .i64 ls[k].2], 56, 2, 1⟩ := by rw [hm3]; simp
    have ho3 := prefix_get hp3 ho
    have hx3 := prefix_get hp3 hxm
    have hsd := fun m => isSoundI_c ls[k].1 st.toNat fl hstroke (by omega) m
    rw [show ((st.toNat : Nat) : Int) = st by omega] at hsd
    have hstep := unsTo_succ (st := st) (fl := fl) hlt
    rw [← hU] at hstep
    cases hb2 : soundB ls[k].1 st.toNat fl
    · rw [hb2] at hstep hsd
      have hstep' : U (k + 1) = U k ++ [(k : Int)] := by simpa using hstep
      simp -dsimp -implicitDefEqProofs [s2, s1, s6, s17, s18, s19, hlt, hltI, hw, withO_of hx3, withO_of hmo, hkd, hsz, hlen, hrow, vl, hm3.symm, withO_of t3]
      refine callsTo Tryd.cal65 (hsd _) ?_
      simp -dsimp -implicitDefEqProofs [s2, s1, s6, s17, s18, s19, hlt, hltI, hw, withO_of hx3, withO_of hmo, hkd, hsz, hlen, hrow, vl, hm3.symm, withO_of t3]
      refine appTo_grow (n := (U k).length) (c := 1) (e := 2) (sz := 1) (by_ := 8) (z := .int .i64 0) (by kernel_rfl) (by kernel_rfl) ⟨by decide, rfl⟩ (get_old ho3) (by simp; omega) ⟨rfl, rfl⟩ (by simp) (by omega) (Src.obj (o := ⟨[.int .i64 k], 2, 1, 1⟩) (by simp) (by simp) rfl rfl) ?_
      intro m2 id2 gr
      simp -dsimp -implicitDefEqProofs [s2, s1, s6, s17, s18, s19, hlt, hltI, hw, withO_of hx3, withO_of hmo, hkd, hsz, hlen, hrow, vl, hm3.symm, withO_of t3]
      have hat := gr.at_
      simp at hat
      have hmm := List.IsPrefix.length_le (hp.trans hp3)
      exact next_ hlt ⟨id2, 2, gr.pre _ (pre_app (hp.trans hp3) _) hid, by omega, .inr rfl, by rw [hstep']; simpa using gr.new, by simp [s2], by simp [s1], by rw [hstep']; simp, by simp [s17], by simp [s18], by simp [s19, hw]⟩
    · rw [hb2] at hstep hsd
      have hstep' : U (k + 1) = U k := by simpa using hstep
      simp -dsimp -implicitDefEqProofs [s2, s1, s6, s17, s18, s19, hlt, hltI, hw, withO_of hx3, withO_of hmo, hkd, hsz, hlen, hrow, vl, hm3.symm, withO_of t3]
      refine callsTo Tryd.cal65 (hsd _) ?_
      simp -dsimp -implicitDefEqProofs [s2, s1, s6, s17, s18, s19, hlt, hltI, hw, withO_of hx3, withO_of hmo, hkd, hsz, hlen, hrow, vl, hm3.symm, withO_of t3]
      exact next_ hlt ⟨id, kd, (hp.trans hp3), hid, hkd', by rw [hstep']; exact ho3, by simp [s2], by simp [s1], by rw [hstep']; simp [s6], by simp [s17], by simp [s18], by simp [s19, hw]⟩
  · obtain rfl : k = ls.length := by omega
    simp -dsimp -implicitDefEqProofs [s2, s1, s6, s17, s18, s19, withO_of hxm]
    simp only [optV, optM]
    exact GC.keepTP (Fits.refl m) (hp0.trans hp) ho (by omega) rfl rfl (by simp; omega) rfl (ints_lit _) rfl
end Go.Proofs.YtmbijgnmbapchaaDoor
