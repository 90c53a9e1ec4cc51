/-
  Baskets, part 22: merged layers, the program's. Conditions: none.
-/
import Derived.Test.YtmbijgnmbapchaaDoorBkU
set_option linter.unusedSimpArgs false
set_option linter.unusedVariables false
set_option linter.unusedSectionVars false
namespace Go.Proofs.YtmbijgnmbapchaaDoor
open Go.Abs Go.RowKit

set_option maxRecDepth 20000 in
theorem implMerge_c (st : Int) (ls : List LyT) (b : ByteArray) (A : Option Addr) (m : Mem) (hr : RdG vl 2 m A ls) (hn : ls.length ≤ 1048576) (hs : ∀ p ∈ ls, p.1.size ≤ maxLen) (hb : b.size ≤ maxLen) :
    ∃ v m', ACalls Tryd.prog 27 [.agg (bkC st A ls.length b).toArray] m v m' ∧ MergeQ st ls b m v m' := by
  obtain ⟨m1, hm1⟩ : ∃ m1 : Mem, m1 = m ++ [⟨bkC st A ls.length b, 29, 3, 1⟩, ⟨[.int .i64 0, .slice none 0 0, .string ⟨#[]⟩], 29, 3, 1⟩] := ⟨_, rfl⟩
  have hm1' := hm1.symm
  have hp1 : m <+: m1 := by rw [hm1]; exact ⟨_, rfl⟩
  have t1 : m1[m.length]? = some ⟨bkC st A ls.length b, 29, 3, 1⟩ := by rw [hm1]; simp
  have tz : m1[m.length + 1]? = some ⟨[.int .i64 0, .slice none 0 0, .string ⟨#[]⟩], 29, 3, 1⟩ := by rw [hm1]; simp
  have hl1 : m1.length = m.length + 2 := by rw [hm1]; simp
  have hr1 : RdG vl 2 m1 A ls := hr.pre hp1
  have e1 := validBasket_c st ls b A m1 hr1 hn hs hb
  have t1' := t1
  simp only [bkC] at hm1' t1' e1
  have hset := set_self tz
  obtain ⟨i4, hi4⟩ : ∃ i4, i4 = m1.length + 1 := ⟨_, rfl⟩
  obtain ⟨m2, hm2⟩ : ∃ m2 : Mem, m2 = m1 ++ [⟨[], 56, 2, 1⟩, ⟨[.int .i64 st, .slice (some ⟨m1.length, 0, none⟩) 0 0, .string b], 29, 3, 1⟩] := ⟨_, rfl⟩
  have hm2' := hm2.symm
  have hp2 : m1 <+: m2 := by rw [hm2]; exact ⟨_, rfl⟩
  have q1 : m2[m1.length]? = some ⟨[], 56, 2, 1⟩ := by rw [hm2]; simp
  have q4 : m2[i4]? = some ⟨[.int .i64 st, .slice (some ⟨m1.length, 0, none⟩) 0 0, .string b], 29, 3, 1⟩ := by rw [hm2, hi4]; simp
  refine ecalls_of_vc Tryd.func27 rfl Tryd.fol (by kernel_rfl) ?_
  simp only [Tryd.f27, bkC]
  simp -dsimp -implicitDefEqProofs [hm1', withO_of t1', withO_of tz, hset, fun l => withO_of (get_old (l := l) t1'), hm2', withO_of (prefix_get hp2 t1')]
  refine callsTo Tryd.cal59 e1 ?_
  simp -dsimp -implicitDefEqProofs [hm1', withO_of t1', withO_of tz, hset, fun l => withO_of (get_old (l := l) t1'), hm2', withO_of (prefix_get hp2 t1')]
  cases hok : okB st ls b
  · simp -dsimp -implicitDefEqProofs [hm1', withO_of t1', withO_of tz, hset, fun l => withO_of (get_old (l := l) t1'), hm2', withO_of (prefix_get hp2 t1')]
    exact ⟨_, _, GC.refl _ _ _, hp1, .inl ⟨hok, rfl⟩⟩
  · have hg := (okB_good hok).1
    have hg40 := hg.1
    have hgm := merge_all (P := fun s => s.size ≤ maxLen) (ls := ls) fun p hp => ⟨hs p hp, (hg.2 p hp).2.1⟩
    simp -dsimp -implicitDefEqProofs [hm1', withO_of t1', withO_of tz, hset, fun l => withO_of (get_old (l := l) t1'), hm2', withO_of (prefix_get hp2 t1')]
    refine loopN ls.length (fun k σ m' => ∃ jd, (m1 <+: m' ∧ m1.length ≤ jd ∧ jd ≠ i4) ∧ (m'[i4]? = some ⟨[.int .i64 st, .slice (some ⟨jd, 0, none⟩) (mergeL (ls.take k)).length (mergeL (ls.take k)).length, .string b], 29, 3, 1⟩ ∧ LyObj m' jd (mergeL (ls.take k))) ∧
        (σ 19 = some (.slice A ls.length ls.length) ∧ σ 20 = some (.int .i64 ls.length)) ∧ σ 2 = some (.pointer (some ⟨m.length + 1, 0, none⟩)) ∧ σ 4 = some (.pointer (some ⟨i4, 0, none⟩)) ∧ σ 21 = some (.int .i64 k))
      ⟨m1.length, ⟨hp2, Nat.le_refl _, by omega⟩, ⟨q4, ⟨1, q1, by decide, by decide⟩⟩, by simp, by simp, by simp [hi4], by simp⟩ ?_
    rintro k σ m' hk' ⟨jd, ⟨hp, hjd, hne⟩, ⟨o4, kd, oj, hk1, hk2⟩, ⟨s19, s20⟩, s2, s4, s21⟩
    have u1 := prefix_get hp t1'
    have hi4m : m1.length ≤ i4 := by omega
    by_cases hlt : k < ls.length
    · obtain ⟨lid, loff, lo, rfl, hlm, hlk, hlsz, hll, hlrow, hlc0, hlc1⟩ := RL.at_ (hr1.pre hp) hlt
      obtain ⟨p, hpd⟩ : ∃ p, p = ls[k] := ⟨_, rfl⟩
      obtain ⟨acc, hacc⟩ : ∃ acc, acc = mergeL (ls.take k) := ⟨_, rfl⟩
      obtain ⟨g1, g2, g3⟩ := hgm k (by omega)
      obtain ⟨g1', g2', g3'⟩ := hgm (k + 1) (by omega)
      have hsm1 := (hg.take k).sum
      have hsm2 := (hg.take (k + 1)).sum
      have hnx := mergeL_succ hlt
      rw [← hpd, ← hacc] at hnx
      rw [← hpd] at hlrow hlc0 hlc1
      rw [← hacc] at o4 oj g1 g2 g3
      obtain ⟨m3, hm3⟩ : ∃ m3 : Mem, m3 = m' ++ [⟨[.string p.1, .int .i64 p.2], 56, 2, 1⟩] := ⟨_, rfl⟩
      have hm3' := hm3.symm
      have hp3 : m' <+: m3 := by rw [hm3]; exact ⟨_, rfl⟩
      have t3 : m3[m'.length]? = some ⟨[.string p.1, .int .i64 p.2], 56, 2, 1⟩ := by rw [hm3]; simp
      have o4 := prefix_get hp3 o4
      have oj := prefix_get hp3 oj
      have hpo := hp
      have hp := hp.trans hp3
      have hw : IntKind.i64.wrap ((k : Int) + 1) = k + 1 := wrapI (by omega) (by omega)
      have hmem : ∀ x ∈ addM acc p, x.2 ≤ 4000 := fun x hx => by
        have := sumR_mem (fun y hy => (g3' y hy).2) x (hnx ▸ hx)
        omega
      rcases snoc_ways acc with hA | ⟨a, q, hA⟩
      · subst hA
        simp -dsimp -implicitDefEqProofs [s19, s20, s2, s4, s21, hlt, withO_of o4, withO_of hlm, fun l => withO_of (get_old (l := l) hlm), hlk, hlsz, hll, hlrow, vl, madeL, hm3', withO_of t3, hw]
        refine appTo_grow (n := 0) (c := 1) (e := 56) (sz := 2) (by_ := 24) (z := .agg #[.string ⟨#[]⟩, .int .i64 0]) (by kernel_rfl) (by kernel_rfl) ⟨by decide, rfl⟩ (get_old oj) ⟨hk1, hk2⟩ ⟨rfl, rfl⟩ (by simp) (by simp at g2; omega) (Src.obj (o := ⟨[.string p.1, .int .i64 p.2], 56, 2, 1⟩) (by simp) (by simp) rfl rfl) ?_
        intro m6 id2 gr
        obtain ⟨z1, z2, z3⟩ := grow_bk m1 m3 m6 _ st [] b p jd i4 id2 hp hjd hi4m hne o4 (by simpa [vl] using gr)
        obtain ⟨c1, c2, c3, c4⟩ := z3 _ rfl
        simp -dsimp -implicitDefEqProofs [s19, s20, s2, s4, s21, hlt, withO_of z2, hw]
        exact next_ hlt ⟨id2, ⟨c1, c2, z1⟩, ⟨by rw [hnx, addM_nil]; exact c3, by rw [hnx, addM_nil]; exact c4⟩, by simp [s19, s20], by simp [s2], by simp [s4], by simp [hw]⟩
      · subst hA
        have ha1 : (a ++ [q]).length = a.length + 1 := by simp
        obtain ⟨C, hC⟩ : ∃ C, C = ((a ++ [q]).map vl).flatten := ⟨_, rfl⟩
        rw [← hC] at oj
        have hCl : C.length = (a.length + 1) * 2 := by rw [hC, lenF, ha1]
        have rdA : RdG vl 2 m3 (some ⟨jd, 0, none⟩) (a ++ [q]) := RdG.of_get (g := vl) (sz := 2) (fun _ => rfl) (a ++ [q]) oj hk2 rfl hC
        obtain ⟨aid, aoff, ao, hae, ham, hak, hasz, hal, harow, hac0, hac1⟩ := RL.at_ rdA (i := a.length) (by simp)
        simp only [Option.some.injEq, Addr.mk.injEq] at hae
        obtain ⟨rfl, rfl, _⟩ := hae
        have hao : ao = ⟨C, 56, 2, kd⟩ := by
          have := oj.symm.trans ham
          injection this with this
          exact this.symm
        subst hao
        simp only at hak hasz hal harow hac0 hac1
        have hq : (a ++ [q])[a.length]'(by simp) = q := by simp
        have gl : (a.length : Int) < (a.length : Int) + 1 := by omega
        rw [hq] at harow hac0 hac1
        rw [ha1] at o4
        simp only [Nat.zero_add] at hal harow hac0 hac1
        have hwl : IntKind.i64.wrap (a.length : Int) = (a.length : Int) := wrapI (by omega) (by simp at g2; omega)
        by_cases heq : q.1 = p.1
        · simp -dsimp -implicitDefEqProofs [s19, s20, s2, s4, s21, hlt, withO_of o4, withO_of hlm, fun l => withO_of (get_old (l := l) hlm), hlk, hlsz, hll, hlrow, vl, madeL, hm3', withO_of t3, withO_of ham, hak, hasz, withC_of hac0, withC_of hac1, hw, hwl, heq, gl, hk1]
          refine need_intro (by omega) (need_intro (.inr (by kernel_rfl)) ?_)
          have hsum2 : IntKind.i64.wrap (q.2 + p.2) = q.2 + p.2 := by
            have h1 := hmem (q.1, q.2 + p.2) (by rw [addM_same a q p heq]; simp)
            have h2 := (g3 q (by simp)).2
            have h3 := (hg.2 p (by rw [hpd]; exact List.getElem_mem hlt)).2.1
            simp only at h1
            exact wrapI (by omega) (by omega)
          refine next_ hlt ⟨jd, ⟨pre_set hp hjd _, hjd, hne⟩, ⟨?_, kd, ?_, hk1, hk2⟩, by simp [s19, s20], by simp [s2], by simp [s4], by simp [hw]⟩
          · rw [List.getElem?_set_ne hne, hnx, addM_same a q p heq, List.length_append, List.length_singleton]; exact o4
          · rw [hnx, addM_same a q p heq, get_set oj, hC, hsum2, setLast]
        · have heqb : (q.1.toList == p.1.toList) = false := by rw [bytes_beq]; simpa using heq
          simp -dsimp -implicitDefEqProofs [heqb, s19, s20, s2, s4, s21, hlt, withO_of o4, withO_of hlm, fun l => withO_of (get_old (l := l) hlm), hlk, hlsz, hll, hlrow, vl, madeL, hm3', withO_of t3, withO_of ham, hak, hasz, withC_of hac0, withC_of hac1, hw, hwl, heq, gl]
          refine appTo_grow (n := a.length + 1) (c := 1) (e := 56) (sz := 2) (by_ := 24) (z := .agg #[.string ⟨#[]⟩, .int .i64 0]) (by kernel_rfl) (by kernel_rfl) ⟨by decide, rfl⟩ (get_old oj) ⟨hk1, hk2⟩ ⟨rfl, rfl⟩ hCl.symm (by have := g2; rw [ha1] at this; omega) (Src.obj (o := ⟨[.string p.1, .int .i64 p.2], 56, 2, 1⟩) (by simp) (by simp) rfl rfl) ?_
          intro m6 id2 gr
          obtain ⟨z1, z2, z3⟩ := grow_bk m1 m3 m6 _ st (a ++ [q]) b p jd i4 id2 hp hjd hi4m hne (by rw [ha1]; exact o4) (by rw [← hC]; exact gr)
          obtain ⟨c1, c2, c3, c4⟩ := z3 _ rfl
          rw [ha1] at c1 c3 c4
          simp -dsimp -implicitDefEqProofs [s19, s20, s2, s4, s21, hlt, withO_of z2, hw]
          exact next_ hlt ⟨id2, ⟨c1, c2, z1⟩, ⟨by rw [hnx, addM_other a q p heq]; exact c3, by rw [hnx, addM_other a q p heq]; exact c4⟩, by simp [s19, s20], by simp [s2], by simp [s4], by simp [hw]⟩
    · have hkl : ls.take k = ls := List.take_of_length_le (by omega)
      rw [hkl] at o4 oj
      obtain ⟨g1, g2, g3⟩ := hgm ls.length (Nat.le_refl _)
      rw [List.take_length] at g1 g2 g3
      have rdM : RdG vl 2 m' (some ⟨jd, 0, none⟩) (mergeL ls) := RdG.of_get (g := vl) (sz := 2) (fun _ => rfl) (mergeL ls) oj hk2 rfl rfl
      have e2 := validBasket_c st (mergeL ls) b (some ⟨jd, 0, none⟩) m' rdM (by omega) (fun p hp => (g3 p hp).1) hb
      simp only [bkC] at e2
      have uz := prefix_get hp tz
      have hsetz := set_self uz
      have hpm := hp1.trans hp
      simp -dsimp -implicitDefEqProofs [s19, s20, s2, s4, s21, hlt, withO_of o4, withO_of uz, hsetz]
      refine callsTo Tryd.cal59 e2 ?_
      simp -dsimp -implicitDefEqProofs [s19, s20, s2, s4, s21, hlt, withO_of o4, withO_of uz, hsetz]
      cases hok2 : okB st (mergeL ls) b
      · simp -dsimp -implicitDefEqProofs [s19, s20, s2, s4, s21, hlt, withO_of o4, withO_of uz, hsetz]
        refine ⟨_, _, GC.refl _ _ _, hpm, ?_⟩
        exact .inr (.inl ⟨hok, hok2, rfl⟩)
      · obtain ⟨m8, hm8⟩ : ∃ m8 : Mem, m8 = m'.set (m.length + 1) ⟨[.int .i64 st, .slice (some ⟨jd, 0, none⟩) (mergeL ls).length (mergeL ls).length, .string b], 29, 3, 1⟩ := ⟨_, rfl⟩
        have y8 : m8[m.length + 1]? = some ⟨[.int .i64 st, .slice (some ⟨jd, 0, none⟩) (mergeL ls).length (mergeL ls).length, .string b], 29, 3, 1⟩ := by rw [hm8]; exact get_set uz _
        simp -dsimp -implicitDefEqProofs [s19, s20, s2, s4, s21, hlt, withO_of o4, withO_of uz, hsetz, hm8.symm, withO_of y8]
        refine ⟨_, _, GC.refl _ _ _, by rw [hm8]; exact pre_set hpm (by omega) _, ?_⟩
        exact .inr (.inr ⟨jd, hok, hok2, by simp only [bkC], by omega, kd, by rw [hm8, List.getElem?_set_ne (by omega)]; exact oj, hk1, hk2⟩)
end Go.Proofs.YtmbijgnmbapchaaDoor
