/-
  Jobs, part 8: the earliest end, its contracts. Conditions: none.
-/
import Derived.Test.YtaggfcnaedadaaaJobG
set_option linter.unusedSimpArgs false
set_option linter.unusedVariables false
set_option linter.unusedSectionVars false
namespace Go.Proofs.Ytaggfcnaedadaaa
open Go.Abs Go.RowKit

def earlyC (js : List I2) (ss : List Int) : Int := if jobsB js ss then (if 0 < (missL js ss).length then 3 else 0) else 1
def earlyT (js : List I2) (ss : List Int) : List Int × Int := giveT ss js [] (List.replicate ss.length 0) 0 ([], -1)
def earlyO (js : List I2) (ss : List Int) : Option (List Int) := if earlyC js ss = 0 then some (earlyT js ss).1 else none
def earlyI (js : List I2) (ss : List Int) : Int := if earlyC js ss = 0 then (earlyT js ss).2 else 0
theorem overTo_nil {js : List I2} {b : Int} : ∀ {k : Nat}, k ≤ js.length → overTo js b k = [] → ∀ i (_ : i < k) (h : i < js.length), js[i].2 ≤ b
  | 0, _, _, i, hi, _ => by omega
  | k + 1, hk, h, i, hi, hij => by
    rw [overTo_succ (show k < js.length by omega)] at h
    split at h
    · simp at h
    · rename_i hb
      rcases Nat.lt_or_ge i k with hik | hik
      · exact overTo_nil (by omega) h i hik hij
      · obtain rfl : i = k := by omega
        omega
theorem maxTo_mem : ∀ (xs : List Int) (b : Int), maxTo xs b = b ∨ maxTo xs b ∈ xs
  | [], b => .inl rfl
  | x :: xs, b => by
    show maxTo xs (max b x) = b ∨ maxTo xs (max b x) ∈ x :: xs
    rcases maxTo_mem xs (max b x) with h | h
    · rw [h]
      rcases Int.le_total b x with h2 | h2
      · rw [Int.max_eq_right h2]; exact .inr (by simp)
      · rw [Int.max_eq_left h2]; exact .inl rfl
    · exact .inr (by simp [h])
theorem early_can {js : List I2} {ss : List Int} (h : earlyC js ss = 0) : jobsB js ss = true ∧ ∀ j ∈ js, ∃ w, ∃ h : w < ss.length, j.2 ≤ ss[w] := by
  unfold earlyC at h
  split at h
  · rename_i hj
    refine ⟨hj, fun j hjm => ?_⟩
    split at h
    · omega
    · rename_i hm
      obtain ⟨hjo, hso, hj7, hs1, hs4⟩ := jobsB_parts hj
      obtain ⟨i, hi, rfl⟩ := List.getElem_of_mem hjm
      have hle := overTo_nil (Nat.le_refl _) (show overTo js (maxTo ss 0) js.length = [] from List.length_eq_zero_iff.1 (by unfold missL at hm; omega)) i hi hi
      rcases maxTo_mem ss 0 with hz | hz
      · refine ⟨0, by omega, ?_⟩
        have := List.all_eq_true.1 hso _ (List.getElem_mem (show 0 < ss.length by omega))
        simp [inB] at this
        omega
      · obtain ⟨w, hw, hw2⟩ := List.getElem_of_mem hz
        exact ⟨w, hw, by omega⟩
  · omega
theorem early_found {js : List I2} {ss : List Int} (h : earlyC js ss = 0) : 0 ≤ (earlyT js ss).2 := giveT_found ss js _ _ _ _ (by omega) (.inr (early_can h).2)
theorem l20Can_c (js : List I2) (ss : List Int) (a b : Option Addr) (m : Mem) (hr : RdG v2 2 m a js) (hs : RdI m b ss) (hn : js.length ≤ 1048576) (hn' : ss.length ≤ 1048576) :
    ACalls Try.prog 61 [.slice a js.length js.length, .slice b ss.length ss.length] m (.int .i64 (earlyC js ss)) m := by
  refine acalls_of_vc Try.func61 rfl Try.fol (by kernel_rfl) ?_
  simp only [Try.f61]
  simp -dsimp -implicitDefEqProofs
  refine callsTo Try.cal44 (l20Ok_c js ss a b _ hr hs hn hn') ?_
  simp -dsimp -implicitDefEqProofs
  cases g : jobsB js ss with
  | false =>
    simp -dsimp -implicitDefEqProofs
    exact GC.eq (by simp [earlyC, g])
  | true =>
    simp -dsimp -implicitDefEqProofs
    refine callsTo Try.cal50 (l20Missing_c js ss a b _ hr hs hn hn') ?_
    simp -dsimp -implicitDefEqProofs
    refine sp2 (fun g1 => ?_) (fun g1 => ?_)
    · simp at g1
      rw [show earlyC js ss = 3 by simp [earlyC, g, g1]]
      exact GC.dropP ⟨_, rfl⟩ rfl rfl
    · simp at g1
      rw [show earlyC js ss = 0 by simp [earlyC, g, g1]]
      exact GC.dropP ⟨_, rfl⟩ rfl rfl
theorem specEarly_c (js : List I2) (ss : List Int) (a b : Option Addr) (m : Mem) (hr : RdG v2 2 m a js) (hs : RdI m b ss) (hn : js.length ≤ 1048576) (hn' : ss.length ≤ 1048576) (ha : ∀ x, a = some x → x.block < m.length) (hb : ∀ x, b = some x → x.block < m.length) :
    ACalls Try.prog 36 [.slice a js.length js.length, .slice b ss.length ss.length] m (.tuple #[optV m.length (earlyO js ss), .int .i64 (earlyI js ss), .int .i64 (earlyC js ss)]) (m ++ optM 2 (earlyO js ss)) := by
  refine acalls_of_vc Try.func36 rfl Try.fol (by kernel_rfl) ?_
  simp only [Try.f36]
  simp -dsimp -implicitDefEqProofs
  refine callsTo Try.cal61 (l20Can_c js ss a b _ hr hs hn hn') ?_
  simp -dsimp -implicitDefEqProofs
  refine sp2 (fun g => ?_) (fun g => ?_)
  · simp at g
    simp [earlyO, earlyI, g, optV, optM]
    exact GC.refl _ _ _
  simp at g
  obtain ⟨hjs, hcan⟩ := early_can g
  obtain ⟨hjo, hso, hj7, hs1, hs4⟩ := jobsB_parts hjs
  refine need_intro (by omega) (need_intro (by omega) ?_)
  obtain ⟨m3, hm3⟩ : ∃ m3, m3 = m ++ [(⟨List.replicate ss.length (.int .i64 0), 2, 1, 1⟩ : AObj), ⟨[.slice a js.length js.length, .slice b ss.length ss.length, .slice (some ⟨m.length, 0, none⟩) ss.length ss.length, .slice none 0 0, .int .i64 (-1)], 66, 5, 1⟩, ⟨List.replicate js.length (.int .i64 0), 2, 1, 1⟩] := ⟨_, rfl⟩
  rw [← hm3]
  have hp3 : m <+: m3 := by rw [hm3]; exact ⟨_, rfl⟩
  have hnot : ∀ (x : Nat), x < m.length → x ∉ [m.length + 1, m.length + 2, m.length] := fun x hx => by simp; omega
  obtain ⟨v, m', hcall, ⟨ty, bv, hmw, hbest⟩, hrest, hcho, hload⟩ := walkJ_c m.length js ss hjs a b (m.length + 1) (m.length + 2) m.length (by omega) (by omega) (by omega) (fun x hx => hnot _ (ha x hx)) (fun x hx => hnot _ (hb x hx)) js.length [] (List.replicate ss.length 0) 0 ([], -1) m3 (by simp) (by simp) (by simp)
    (fun x hx => by obtain ⟨_, rfl⟩ := List.mem_replicate.1 hx; rfl) (hr.pre hp3) (by rw [hm3]; exact hs.ext _) ⟨66, .slice none 0 0, by rw [hm3]; simp [jRow], .inl ⟨by simp, rfl, rfl⟩⟩ ⟨⟨List.replicate js.length (.int .i64 0), 2, 1, 1⟩, by rw [hm3]; simp, rfl, rfl, rfl, by simp, by simp⟩ (by unfold LoadAt; rw [hm3]; simp) hp3.length_le
  have hfound := early_found g
  have hval : earlyT js ss = giveT ss js [] (List.replicate ss.length 0) 0 ([], -1) := rfl
  simp only [List.length_nil, List.drop_zero] at hcall hmw hbest
  rw [← hval] at hmw hbest
  refine callsTo Try.cal62 hcall ?_
  rcases hbest with ⟨h, _⟩ | ⟨ib, o, rfl, hlo, hS, ho, ho1, ho2, ho3, ho4, ho5⟩
  · omega
  simp -dsimp -implicitDefEqProofs [withO_of hmw, jRow]
  have hp' : m <+: m' := pre_of_get fun i o hi => hrest.get i o (hnot _ (lt_of_get hi)) (prefix_get hp3 hi)
  simp only [earlyO, earlyI, g, if_true, optV, optM]
  exact GC.keepTP (Fits.refl m) hp' ho hlo ho3.symm ho4.symm (by simp; omega) ho5.symm (by rw [ho5]; exact ints_lit _) rfl
set_option maxRecDepth 20000 in
theorem implEarly_c (js : List I2) (ss : List Int) (a b : Option Addr) (m : Mem) (hr : RdG v2 2 m a js) (hs : RdI m b ss) (hn : js.length ≤ 1048576) (hn' : ss.length ≤ 1048576) (ha : ∀ x, a = some x → x.block < m.length) (hb : ∀ x, b = some x → x.block < m.length) :
    ACalls Try.prog 37 [.slice a js.length js.length, .slice b ss.length ss.length] m (.tuple #[optV m.length (earlyO js ss), .int .i64 (earlyI js ss), .int .i64 (earlyC js ss)]) (m ++ optM 2 (earlyO js ss)) := by
  refine acalls_of_vcF [6] Try.func37 rfl Try.fol (by kernel_rfl) ?_
  simp only [Try.f37]
  simp -dsimp -implicitDefEqProofs
  refine callsTo Try.cal18 (validJobs_c js ss a b _ (hr.ext _) (hs.ext _) hn hn') ?_
  simp -dsimp -implicitDefEqProofs
  refine sp2 (fun g => ?_) (fun g => ?_)
  · simp at g
    have hc : earlyC js ss = 1 := by simp [earlyC, g]
    simp [earlyO, earlyI, hc, optV, optM]
    exact GC.dropP ⟨_, rfl⟩ rfl rfl
  simp at g
  refine callsTo Try.cal52 (missing_c js ss a b _ (hr.ext _) (hs.ext _) hn hn' g) ?_
  simp -dsimp -implicitDefEqProofs
  refine sp2 (fun g1 => ?_) (fun g1 => ?_)
  · simp at g1
    have hc : earlyC js ss = 3 := by simp [earlyC, g, g1]
    simp [earlyO, earlyI, hc, optV, optM]
    exact GC.dropP ⟨_, rfl⟩ rfl rfl
  simp at g1
  have hc : earlyC js ss = 0 := by simp [earlyC, g, g1]
  obtain ⟨m6, hm6⟩ : ∃ m6, m6 = m ++ [(⟨[.slice a js.length js.length], 26, 1, 1⟩ : AObj), ⟨[.slice b ss.length ss.length], 23, 1, 1⟩, ⟨(missL js ss).map (Value.int .i64), 2, 1, 2⟩, ⟨[], 2, 1, 1⟩, ⟨[.slice (some ⟨m.length + 3, 0, none⟩) 0 0], 23, 1, 1⟩, ⟨[.int .i64 (-1)], 2, 1, 1⟩] := ⟨_, rfl⟩
  rw [← hm6]
  have hp6 : m <+: m6 := by rw [hm6]; exact ⟨_, rfl⟩
  have hl6 : m6.length = m.length + 6 := by rw [hm6]; simp
  have c0 : m6[m.length]? = some ⟨[.slice a js.length js.length], 26, 1, 1⟩ := by rw [hm6]; simp
  have c1 : m6[m.length + 1]? = some ⟨[.slice b ss.length ss.length], 23, 1, 1⟩ := by rw [hm6]; simp
  have c4 : m6[m.length + 4]? = some ⟨[.slice (some ⟨m.length + 3, 0, none⟩) 0 0], 23, 1, 1⟩ := by rw [hm6]; simp
  have c5 : m6[m.length + 5]? = some ⟨[.int .i64 (-1)], 2, 1, 1⟩ := by rw [hm6]; simp
  have c3 : m6[m.length + 3]? = some ⟨[], 2, 1, 1⟩ := by rw [hm6]; simp
  refine regF [[], [], [], [2], [], [0, 2], [0, 2, 3, 5], [0, 2, 3, 5, 6], [3, 5], []] 4 (by kernel_rfl) (by kernel_rfl) ?_
  have x1 : ¬ m6.length = m.length + 1 := by omega
  have x2 : ¬ m6.length + 1 = m.length := by omega
  have x3 : ¬ m6.length + 2 = m.length := by omega
  have x4 : ¬ m6.length + 3 = m.length := by omega
  have x5 : ¬ m6.length + 4 = m.length := by omega
  simp -dsimp -implicitDefEqProofs [tinfF, aggF, x1, x2, x3, x4, x5, fun l => withO_of (get_old (l := l) c0), fun l => withO_of (get_old (l := l) c1)]
  refine need_intro (by omega) (need_intro (by omega) ?_)
  obtain ⟨cc, hcc⟩ : ∃ cc : Caps, cc = ⟨m.length + 5, m.length, m6.length + 2, m.length + 4, m.length + 1, m6.length + 3, m6.length + 4⟩ := ⟨_, rfl⟩
  obtain ⟨m7, hm7⟩ : ∃ m7, m7 = m6 ++ [(⟨List.replicate js.length (.int .i64 0), 2, 1, 1⟩ : AObj), ⟨List.replicate ss.length (.int .i64 0), 2, 1, 1⟩, ⟨[.slice (some ⟨m6.length, 0, none⟩) js.length js.length], 23, 1, 1⟩, ⟨[.slice (some ⟨m6.length + 1, 0, none⟩) ss.length ss.length], 23, 1, 1⟩, ⟨[.func (.func 63) #[] cc.args.toArray], 68, 1, 1⟩] := ⟨_, rfl⟩
  have hp7 : m6 <+: m7 := by rw [hm7]; exact ⟨_, rfl⟩
  have ok : CapOK cc m6.length (m6.length + 1) := by
    rw [hcc]; constructor <;> simp [Caps.out] <;> omega
  have hnot : ∀ (x : Nat), x < m.length → x ∉ cc.out m6.length (m6.length + 1) := fun x hx => by rw [hcc]; simp [Caps.out]; omega
  have hcap : CapAt cc js.length ss.length a b m6.length (m6.length + 1) m7 := by
    refine ⟨⟨26, ?_⟩, ⟨23, ?_⟩, ⟨23, ?_⟩, ⟨23, ?_⟩, ⟨68, ?_⟩⟩
    · rw [hcc]; exact prefix_get hp7 c0
    · rw [hm7, hcc]; simp
    · rw [hcc]; exact prefix_get hp7 c1
    · rw [hm7, hcc]; simp
    · rw [hm7]; simp [hcc]
  obtain ⟨v, m', hcall, ⟨t, t', bv, hml, hmb, hbest⟩, hrest, hcho, hload⟩ := giveJ_c m.length js ss g a b cc m6.length (m6.length + 1) ok (fun x hx => hnot _ (ha x hx)) (fun x hx => hnot _ (hb x hx)) js.length [] (List.replicate ss.length 0) 0 ([], -1) m7 (by simp) (by simp) (by simp)
    (fun x hx => by obtain ⟨_, rfl⟩ := List.mem_replicate.1 hx; rfl) (hr.pre (hp6.trans hp7)) (by rw [hm7, hm6, List.append_assoc]; exact hs.ext _) hcap
    ⟨2, 23, .slice (some ⟨m.length + 3, 0, none⟩) 0 0, by rw [hcc]; exact prefix_get hp7 c5, by rw [hcc]; exact prefix_get hp7 c4, .inr ⟨m.length + 3, _, rfl, by omega, by rw [hcc]; simp [Caps.out]; omega, prefix_get hp7 c3, by simp, by simp, rfl, rfl, rfl⟩⟩
    ⟨⟨List.replicate js.length (.int .i64 0), 2, 1, 1⟩, by rw [hm7]; simp, rfl, rfl, rfl, by simp, by simp⟩ (by unfold LoadAt; rw [hm7]; simp) (by have := hp7.length_le; omega)
  have hfound := early_found hc
  have hval : earlyT js ss = giveT ss js [] (List.replicate ss.length 0) 0 ([], -1) := rfl
  simp only [List.length_nil, List.drop_zero] at hcall hml hbest
  rw [← hval] at hml hbest
  subst hcc
  subst hm7
  refine callsTo Try.cal63 hcall ?_
  rcases hbest with ⟨h, _⟩ | ⟨ib, o, rfl, hlo, hS, ho, ho1, ho2, ho3, ho4, ho5⟩
  · omega
  simp -dsimp -implicitDefEqProofs [withO_of hml, withO_of hmb]
  have hp' : m <+: m' := pre_of_get fun i o hi => hrest.get i o (hnot _ (lt_of_get hi)) (prefix_get (hp6.trans hp7) hi)
  simp only [earlyO, earlyI, hc, if_true, optV, optM]
  exact GC.keepTP (Fits.refl m) hp' ho hlo ho3.symm ho4.symm (by simp; omega) ho5.symm (by rw [ho5]; exact ints_lit _) rfl
theorem giveT_len (ss : List Int) (n : Nat) : ∀ (js : List I2) (who loads : List Int) (en : Int) (st : List Int × Int), who.length + js.length ≤ n → st.1.length ≤ n → (giveT ss js who loads en st).1.length ≤ n
  | [], who, loads, en, st, h1, h2 => by
    by_cases h : 0 ≤ st.2 ∧ st.2 ≤ en
    · rw [giveT_cut h]; exact h2
    · rw [giveT_nil h]; simpa using h1
  | j :: js, who, loads, en, st, h1, h2 => by
    by_cases h : 0 ≤ st.2 ∧ st.2 ≤ en
    · rw [giveT_cut h]; exact h2
    · rw [giveT, if_neg h]
      have keep : ∀ (ws : List Nat) (st : List Int × Int), st.1.length ≤ n → (ws.foldl (fun (st : List Int × Int) (w : Nat) => if j.2 ≤ ss.getD w 0 then giveT ss js (who ++ [(w : Int)]) (loads.set w (w64 (loads.getD w 0 + j.1))) (max en (w64 (loads.getD w 0 + j.1))) st else st) st).1.length ≤ n := by
        intro ws
        induction ws with
        | nil => intro st h; exact h
        | cons w ws ih =>
          intro st h
          rw [List.foldl_cons]
          refine ih _ ?_
          split
          · exact giveT_len ss n js _ _ _ _ (by simp at h1 ⊢; omega) h
          · exact h
      exact keep _ _ h2
theorem earlyO_length {js : List I2} {ss zs : List Int} (h : earlyO js ss = some zs) : zs.length ≤ js.length := by
  unfold earlyO at h
  split at h
  · injection h with h
    subst h
    exact giveT_len ss js.length js [] _ _ _ (by simp) (by simp)
  · cases h
end Go.Proofs.Ytaggfcnaedadaaa
