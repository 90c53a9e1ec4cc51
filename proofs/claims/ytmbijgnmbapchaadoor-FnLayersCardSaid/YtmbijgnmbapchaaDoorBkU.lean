/-
  Baskets, part 21: merged layers. Conditions: none.
-/
import Derived.Test.YtmbijgnmbapchaaDoorBkR
import Derived.Test.YtmbijgnmbapchaaDoorBkT
set_option linter.unusedSimpArgs false
set_option linter.unusedVariables false
set_option linter.unusedSectionVars false
namespace Go.Proofs.YtmbijgnmbapchaaDoor
open Go.Abs Go.RowKit

/-- One more layer behind merged ones. -/
def addM (acc : List LyT) (p : LyT) : List LyT :=
  match acc.getLast? with
  | none => acc ++ [p]
  | some q => if q.1 = p.1 then acc.dropLast ++ [(q.1, q.2 + p.2)] else acc ++ [p]
def mergeL (ls : List LyT) : List LyT := ls.foldl addM []
theorem addM_nil (p : LyT) : addM [] p = [p] := rfl
theorem addM_same (acc : List LyT) (q p : LyT) (h : q.1 = p.1) : addM (acc ++ [q]) p = acc ++ [(q.1, q.2 + p.2)] := by simp [addM, h]
theorem addM_other (acc : List LyT) (q p : LyT) (h : ¬ q.1 = p.1) : addM (acc ++ [q]) p = acc ++ [q] ++ [p] := by simp [addM, h]
theorem mergeL_succ {ls : List LyT} {k : Nat} (h : k < ls.length) : mergeL (ls.take (k + 1)) = addM (mergeL (ls.take k)) ls[k] := by
  unfold mergeL
  rw [List.take_add_one, List.getElem?_eq_getElem h, Option.toList_some, List.foldl_append]
  rfl
theorem snoc_ways {α : Type} (l : List α) : l = [] ∨ ∃ l' x, l = l' ++ [x] := by
  rcases List.eq_nil_or_concat l with h | ⟨l', x, h⟩
  · exact .inl h
  · exact .inr ⟨l', x, by simpa using h⟩
theorem lenF (a : List LyT) : (a.map vl).flatten.length = a.length * 2 := flatten_length (sz := 2) (rows := a.map vl) (by intro r hr; obtain ⟨x, _, rfl⟩ := List.mem_map.1 hr; rfl) |>.trans (by simp)
theorem setLast (a : List LyT) (q : LyT) (y : Int) : ((a ++ [q]).map vl).flatten.set (a.length * 2 + 1) (.int .i64 y) = ((a ++ [(q.1, y)]).map vl).flatten := by
  rw [List.map_append, List.flatten_append, List.map_append, List.flatten_append, List.set_append_right _ _ (by rw [lenF]; omega), lenF]
  have : a.length * 2 + 1 - a.length * 2 = 1 := by omega
  rw [this]
  rfl
theorem addM_sum (acc : List LyT) (p : LyT) : sumR (addM acc p) = sumR acc + p.2 := by
  rcases snoc_ways acc with rfl | ⟨a, q, rfl⟩
  · simp [addM_nil, sumR]
  · by_cases h : q.1 = p.1
    · rw [addM_same a q p h]; simp [sumR]; omega
    · rw [addM_other a q p h, sumR_snoc]
theorem addM_length (acc : List LyT) (p : LyT) : (addM acc p).length ≤ acc.length + 1 := by
  rcases snoc_ways acc with rfl | ⟨a, q, rfl⟩
  · simp [addM_nil]
  · by_cases h : q.1 = p.1
    · rw [addM_same a q p h]; simp
    · rw [addM_other a q p h]; simp
theorem addM_mem {acc : List LyT} {p x : LyT} {P : ByteArray → Prop} (hp : P p.1) (ha : ∀ y ∈ acc, P y.1) (hx : x ∈ addM acc p) : P x.1 := by
  rcases snoc_ways acc with rfl | ⟨a, q, rfl⟩
  · simp [addM_nil] at hx; subst hx; exact hp
  · by_cases h : q.1 = p.1
    · rw [addM_same a q p h] at hx
      rcases List.mem_append.1 hx with hx | hx
      · exact ha _ (by simp [hx])
      · simp at hx; subst hx; exact ha q (by simp)
    · rw [addM_other a q p h] at hx
      rcases List.mem_append.1 hx with hx | hx
      · exact ha _ hx
      · simp at hx; subst hx; exact hp
theorem addM_pos {acc : List LyT} {p x : LyT} (hp : 1 ≤ p.2) (ha : ∀ y ∈ acc, 1 ≤ y.2) (hx : x ∈ addM acc p) : 1 ≤ x.2 := by
  rcases snoc_ways acc with rfl | ⟨a, q, rfl⟩
  · simp [addM_nil] at hx; subst hx; exact hp
  · by_cases h : q.1 = p.1
    · rw [addM_same a q p h] at hx
      rcases List.mem_append.1 hx with hx | hx
      · exact ha _ (by simp [hx])
      · simp at hx; subst hx; have := ha q (by simp); simp; omega
    · rw [addM_other a q p h] at hx
      rcases List.mem_append.1 hx with hx | hx
      · exact ha _ hx
      · simp at hx; subst hx; exact hp
theorem merge_all {ls : List LyT} {P : ByteArray → Prop} (h : ∀ p ∈ ls, P p.1 ∧ 1 ≤ p.2) : ∀ k, k ≤ ls.length → sumR (mergeL (ls.take k)) = sumR (ls.take k) ∧ (mergeL (ls.take k)).length ≤ k ∧ ∀ x ∈ mergeL (ls.take k), P x.1 ∧ 1 ≤ x.2
  | 0, _ => by simp [mergeL, sumR]
  | k + 1, hk => by
    have hlt : k < ls.length := hk
    obtain ⟨i1, i2, i3⟩ := merge_all h k (by omega)
    have hp := h _ (List.getElem_mem hlt)
    rw [mergeL_succ hlt, addM_sum, sumR_succ hlt, i1]
    exact ⟨rfl, Nat.le_trans (addM_length _ _) (by omega), fun x hx => ⟨addM_mem hp.1 (fun y hy => (i3 y hy).1) hx, addM_pos hp.2 (fun y hy => (i3 y hy).2) hx⟩⟩
theorem sumR_mem : ∀ {ls : List LyT}, (∀ x ∈ ls, 1 ≤ x.2) → ∀ x ∈ ls, x.2 ≤ sumR ls
  | [], _, _, hx => by simp at hx
  | p :: ls, h, x, hx => by
    have hpos : ∀ {ls : List LyT}, (∀ x ∈ ls, 1 ≤ x.2) → 0 ≤ sumR ls := by
      intro ls h
      induction ls with
      | nil => simp [sumR]
      | cons p ls ih =>
        have h1 := h p (by simp)
        have h2 := ih fun q hq => h q (by simp [hq])
        simp [sumR] at h2 ⊢; omega
    have e : sumR (p :: ls) = p.2 + sumR ls := by simp [sumR]
    have h0 := hpos (ls := ls) fun q hq => h q (by simp [hq])
    have hp := h p (by simp)
    rcases List.mem_cons.1 hx with rfl | hx
    · omega
    · have := sumR_mem (ls := ls) (fun q hq => h q (by simp [hq])) x hx; omega
theorem grow_bk (m1 m' m6 lit : Mem) (st : Int) (acc : List LyT) (b : ByteArray) (p : LyT) (jd i4 id2 : Nat) (hp : m1 <+: m') (hjd : m1.length ≤ jd) (hi : m1.length ≤ i4) (hne : jd ≠ i4)
    (h4 : m'[i4]? = some ⟨[.int .i64 st, .slice (some ⟨jd, 0, none⟩) acc.length acc.length, .string b], 29, 3, 1⟩) (gr : Abs.Grown (m' ++ lit) jd ⟨(acc.map vl).flatten ++ vl p, 56, 2, 2⟩ m6 id2) :
    ¬ id2 = i4 ∧ m6[i4]? = some ⟨[.int .i64 st, .slice (some ⟨jd, 0, none⟩) acc.length acc.length, .string b], 29, 3, 1⟩ ∧ ∀ m7, m7 = m6.set i4 ⟨[.int .i64 st, .slice (some ⟨id2, 0, none⟩) (acc.length + 1) (acc.length + 1), .string b], 29, 3, 1⟩ →
      m1 <+: m7 ∧ m1.length ≤ id2 ∧ m7[i4]? = some ⟨[.int .i64 st, .slice (some ⟨id2, 0, none⟩) (acc ++ [p]).length (acc ++ [p]).length, .string b], 29, 3, 1⟩ ∧ LyObj m7 id2 (acc ++ [p]) := by
  have hat := gr.at_
  simp at hat
  have h4l := lt_of_get h4
  have hpl := hp.length_le
  have g4 := gr.old _ _ (Ne.symm hne) (get_old (l := lit) h4)
  have hne2 : ¬ id2 = i4 := by omega
  refine ⟨hne2, g4, fun m7 h7 => ?_⟩
  subst h7
  refine ⟨pre_set (gr.pre m1 (pre_app hp _) hjd) hi _, by omega, by simpa using get_set g4 _, 2, ?_, by decide, by decide⟩
  rw [List.getElem?_set_ne (Ne.symm hne2), gr.new]; simp
abbrev zeroBk : Value := .agg #[.int .i64 0, .slice none 0 0, .string ⟨#[]⟩]
def MergeQ (st : Int) (ls : List LyT) (b : ByteArray) (m : Mem) (v : Value) (m' : Mem) : Prop :=
  m <+: m' ∧ ((okB st ls b = false ∧ v = .tuple #[zeroBk, .int .i64 1]) ∨ (okB st ls b = true ∧ okB st (mergeL ls) b = false ∧ v = .tuple #[zeroBk, .int .i64 5]) ∨
    ∃ j, okB st ls b = true ∧ okB st (mergeL ls) b = true ∧ v = .tuple #[.agg (bkC st (some ⟨j, 0, none⟩) (mergeL ls).length b).toArray, .int .i64 0] ∧ m.length ≤ j ∧ LyObj m' j (mergeL ls))
set_option maxRecDepth 20000 in
theorem specMerge_c (st : Int) (ls : List LyT) (b : ByteArray) (A : Option Addr) (m : Mem) (hr : RdG vl 2 m A ls) (hn : ls.length ≤ 1048576) (hs : ∀ p ∈ ls, p.1.size ≤ maxLen) (hb : b.size ≤ maxLen) :
    ∃ v m', ACalls Tryd.prog 28 [.agg (bkC st A ls.length b).toArray] m v m' ∧ MergeQ st ls b m v m' := by
  obtain ⟨m1, hm1⟩ : ∃ m1 : Mem, m1 = m ++ [⟨bkC st A ls.length b, 29, 3, 1⟩, ⟨[.int .i64 0, .slice none 0 0, .string ⟨#[]⟩], 29, 3, 1⟩] := ⟨_, rfl⟩
  have hm1' := hm1.symm
  have hp1 : m <+: m1 := by rw [hm1]; exact ⟨_, rfl⟩
  have t1 : m1[m.length]? = some ⟨bkC st A ls.length b, 29, 3, 1⟩ := by rw [hm1]; simp
  have tz : m1[m.length + 1]? = some ⟨[.int .i64 0, .slice none 0 0, .string ⟨#[]⟩], 29, 3, 1⟩ := by rw [hm1]; simp
  have hl1 : m1.length = m.length + 2 := by rw [hm1]; simp
  have hr1 : RdG vl 2 m1 A ls := hr.pre hp1
  have e1 := l17Ok_c st ls b A m.length _ m1 t1 (by simp) rfl hr1 hn hs hb
  have t1' := t1
  simp only [bkC] at hm1' t1'
  have hset := set_self tz
  obtain ⟨i4, hi4⟩ : ∃ i4, i4 = m1.length + 1 := ⟨_, rfl⟩
  obtain ⟨m2, hm2⟩ : ∃ m2 : Mem, m2 = m1 ++ [⟨[], 56, 2, 1⟩, ⟨[.int .i64 st, .slice (some ⟨m1.length, 0, none⟩) 0 0, .string b], 29, 3, 1⟩] := ⟨_, rfl⟩
  have hm2' := hm2.symm
  have hp2 : m1 <+: m2 := by rw [hm2]; exact ⟨_, rfl⟩
  have q1 : m2[m1.length]? = some ⟨[], 56, 2, 1⟩ := by rw [hm2]; simp
  have q4 : m2[i4]? = some ⟨[.int .i64 st, .slice (some ⟨m1.length, 0, none⟩) 0 0, .string b], 29, 3, 1⟩ := by rw [hm2, hi4]; simp
  refine ecalls_of_vc Tryd.func28 rfl Tryd.fol (by kernel_rfl) ?_
  simp only [Tryd.f28, bkC]
  simp -dsimp -implicitDefEqProofs [hm1', withO_of t1', withO_of tz, hset, fun l => withO_of (get_old (l := l) t1'), hm2']
  refine callsTo Tryd.cal56 e1 ?_
  simp -dsimp -implicitDefEqProofs [hm1', withO_of t1', withO_of tz, hset, fun l => withO_of (get_old (l := l) t1'), hm2']
  cases hok : okB st ls b
  · simp -dsimp -implicitDefEqProofs [hm1', withO_of t1', withO_of tz, hset, fun l => withO_of (get_old (l := l) t1'), hm2']
    exact ⟨_, _, GC.refl _ _ _, hp1, .inl ⟨hok, rfl⟩⟩
  · have hg := (okB_good hok).1
    have hg40 := hg.1
    have hgm := merge_all (P := fun s => s.size ≤ maxLen) (ls := ls) fun p hp => ⟨hs p hp, (hg.2 p hp).2.1⟩
    simp -dsimp -implicitDefEqProofs [hm1', withO_of t1', withO_of tz, hset, fun l => withO_of (get_old (l := l) t1'), hm2']
    refine loopN ls.length (fun k σ m' => ∃ jd, (m1 <+: m' ∧ m1.length ≤ jd ∧ jd ≠ i4) ∧ (m'[i4]? = some ⟨[.int .i64 st, .slice (some ⟨jd, 0, none⟩) (mergeL (ls.take k)).length (mergeL (ls.take k)).length, .string b], 29, 3, 1⟩ ∧ LyObj m' jd (mergeL (ls.take k))) ∧
        σ 1 = some (.pointer (some ⟨m.length, 0, none⟩)) ∧ σ 2 = some (.pointer (some ⟨m.length + 1, 0, none⟩)) ∧ σ 4 = some (.pointer (some ⟨i4, 0, none⟩)) ∧ σ 5 = some (.int .i64 k))
      ⟨m1.length, ⟨hp2, Nat.le_refl _, by omega⟩, ⟨q4, ⟨1, q1, by decide, by decide⟩⟩, by simp, by simp, by simp [hi4], by simp⟩ ?_
    rintro k σ m' hk' ⟨jd, ⟨hp, hjd, hne⟩, ⟨o4, kd, oj, hk1, hk2⟩, s1, s2, s4, s5⟩
    have u1 := prefix_get hp t1'
    have hi4m : m1.length ≤ i4 := by omega
    by_cases hlt : k < ls.length
    · obtain ⟨lid, loff, lo, rfl, hlm, hlk, hlsz, hll, hlrow, hlc0, hlc1⟩ := RL.at_ (hr1.pre hp) hlt
      obtain ⟨p, hpd⟩ : ∃ p, p = ls[k] := ⟨_, rfl⟩
      obtain ⟨acc, hacc⟩ : ∃ acc, acc = mergeL (ls.take k) := ⟨_, rfl⟩
      obtain ⟨g1, g2, g3⟩ := hgm k (by omega)
      obtain ⟨g1', g2', g3'⟩ := hgm (k + 1) (by omega)
      have hsm1 := (hg.take k).sum
      have hsm2 := (hg.take (k + 1)).sum
      have hnx := mergeL_succ hlt
      rw [← hpd, ← hacc] at hnx
      rw [← hpd] at hlrow hlc0 hlc1
      rw [← hacc] at o4 oj g1 g2 g3
      have hw : IntKind.i64.wrap ((k : Int) + 1) = k + 1 := wrapI (by omega) (by omega)
      have hmem : ∀ x ∈ addM acc p, x.2 ≤ 4000 := fun x hx => by
        have := sumR_mem (fun y hy => (g3' y hy).2) x (hnx ▸ hx)
        omega
      rcases snoc_ways acc with hA | ⟨a, q, hA⟩
      · subst hA
        simp -dsimp -implicitDefEqProofs [s1, s2, s4, s5, hlt, withO_of u1, withO_of o4, withO_of hlm, hlk, hlsz, hll, hlrow, vl, madeL, hw]
        refine appTo_grow (n := 0) (c := 1) (e := 56) (sz := 2) (by_ := 24) (z := .agg #[.string ⟨#[]⟩, .int .i64 0]) (by kernel_rfl) (by kernel_rfl) ⟨by decide, rfl⟩ (get_old oj) ⟨hk1, hk2⟩ ⟨rfl, rfl⟩ (by simp) (by simp at g2; omega) (Src.obj (o := ⟨[.string p.1, .int .i64 p.2], 56, 2, 1⟩) (by simp) (by simp) rfl rfl) ?_
        intro m6 id2 gr
        obtain ⟨z1, z2, z3⟩ := grow_bk m1 m' m6 _ st [] b p jd i4 id2 hp hjd hi4m hne o4 (by simpa [vl] using gr)
        obtain ⟨c1, c2, c3, c4⟩ := z3 _ rfl
        refine need_intro (.inr (by kernel_rfl)) ?_
        simp -dsimp -implicitDefEqProofs [s1, s2, s4, s5, hlt, withO_of z2, hw]
        refine need_intro (.inr (by kernel_rfl)) ?_
        exact next_ hlt ⟨id2, ⟨c1, c2, z1⟩, ⟨by rw [hnx, addM_nil]; exact c3, by rw [hnx, addM_nil]; exact c4⟩, by simp [s1], by simp [s2], by simp [s4], by simp [hw]⟩
      · subst hA
        have ha1 : (a ++ [q]).length = a.length + 1 := by simp
        obtain ⟨C, hC⟩ : ∃ C, C = ((a ++ [q]).map vl).flatten := ⟨_, rfl⟩
        rw [← hC] at oj
        have hCl : C.length = (a.length + 1) * 2 := by rw [hC, lenF, ha1]
        have rdA : RdG vl 2 m' (some ⟨jd, 0, none⟩) (a ++ [q]) := RdG.of_get (g := vl) (sz := 2) (fun _ => rfl) (a ++ [q]) oj hk2 rfl hC
        obtain ⟨aid, aoff, ao, hae, ham, hak, hasz, hal, harow, hac0, hac1⟩ := RL.at_ rdA (i := a.length) (by simp)
        simp only [Option.some.injEq, Addr.mk.injEq] at hae
        obtain ⟨rfl, rfl, _⟩ := hae
        have hao : ao = ⟨C, 56, 2, kd⟩ := by
          have := oj.symm.trans ham
          injection this with this
          exact this.symm
        subst hao
        simp only at hak hasz hal harow hac0 hac1
        have hq : (a ++ [q])[a.length]'(by simp) = q := by simp
        have gl : (a.length : Int) < (a.length : Int) + 1 := by omega
        rw [hq] at harow hac0 hac1
        rw [ha1] at o4
        simp only [Nat.zero_add] at hal harow hac0 hac1
        have hwl : IntKind.i64.wrap (a.length : Int) = (a.length : Int) := wrapI (by omega) (by simp at g2; omega)
        by_cases heq : q.1 = p.1
        · simp -dsimp -implicitDefEqProofs [s1, s2, s4, s5, hlt, withO_of u1, withO_of o4, withO_of hlm, hlk, hlsz, withC_of hlc0, withC_of hlc1, withO_of ham, hak, hasz, withC_of hac0, withC_of hac1, hw, hwl, heq, gl, hk1]
          refine need_intro (by omega) (need_intro (.inr (by kernel_rfl)) ?_)
          have hsum2 : IntKind.i64.wrap (q.2 + p.2) = q.2 + p.2 := by
            have h1 := hmem (q.1, q.2 + p.2) (by rw [addM_same a q p heq]; simp)
            have h2 := (g3 q (by simp)).2
            have h3 := (hg.2 p (by rw [hpd]; exact List.getElem_mem hlt)).2.1
            simp only at h1
            exact wrapI (by omega) (by omega)
          refine next_ hlt ⟨jd, ⟨pre_set hp hjd _, hjd, hne⟩, ⟨?_, kd, ?_, hk1, hk2⟩, by simp [s1], by simp [s2], by simp [s4], by simp [hw]⟩
          · rw [List.getElem?_set_ne hne, hnx, addM_same a q p heq, List.length_append, List.length_singleton]; exact o4
          · rw [hnx, addM_same a q p heq, get_set oj, hC, hsum2, setLast]
        · have heqb : (q.1.toList == p.1.toList) = false := by rw [bytes_beq]; simpa using heq
          simp -dsimp -implicitDefEqProofs [heqb, s1, s2, s4, s5, hlt, withO_of u1, withO_of o4, withO_of hlm, hlk, hlsz, withC_of hlc0, withC_of hlc1, hll, hlrow, vl, madeL, withO_of ham, hak, hasz, withC_of hac0, withC_of hac1, hw, hwl, heq, gl]
          refine appTo_grow (n := a.length + 1) (c := 1) (e := 56) (sz := 2) (by_ := 24) (z := .agg #[.string ⟨#[]⟩, .int .i64 0]) (by kernel_rfl) (by kernel_rfl) ⟨by decide, rfl⟩ (get_old oj) ⟨hk1, hk2⟩ ⟨rfl, rfl⟩ hCl.symm (by have := g2; rw [ha1] at this; omega) (Src.obj (o := ⟨[.string p.1, .int .i64 p.2], 56, 2, 1⟩) (by simp) (by simp) rfl rfl) ?_
          intro m6 id2 gr
          obtain ⟨z1, z2, z3⟩ := grow_bk m1 m' m6 _ st (a ++ [q]) b p jd i4 id2 hp hjd hi4m hne (by rw [ha1]; exact o4) (by rw [← hC]; exact gr)
          obtain ⟨c1, c2, c3, c4⟩ := z3 _ rfl
          rw [ha1] at c1 c3 c4
          refine need_intro (.inr (by kernel_rfl)) ?_
          simp -dsimp -implicitDefEqProofs [s1, s2, s4, s5, hlt, withO_of z2, hw]
          refine need_intro (.inr (by kernel_rfl)) ?_
          exact next_ hlt ⟨id2, ⟨c1, c2, z1⟩, ⟨by rw [hnx, addM_other a q p heq]; exact c3, by rw [hnx, addM_other a q p heq]; exact c4⟩, by simp [s1], by simp [s2], by simp [s4], by simp [hw]⟩
    · have hkl : ls.take k = ls := List.take_of_length_le (by omega)
      rw [hkl] at o4 oj
      obtain ⟨g1, g2, g3⟩ := hgm ls.length (Nat.le_refl _)
      rw [List.take_length] at g1 g2 g3
      have rdM : RdG vl 2 m' (some ⟨jd, 0, none⟩) (mergeL ls) := RdG.of_get (g := vl) (sz := 2) (fun _ => rfl) (mergeL ls) oj hk2 rfl rfl
      have e2 := l17Ok_c st (mergeL ls) b (some ⟨jd, 0, none⟩) i4 _ m' o4 (by simp) rfl rdM (by omega) (fun p hp => (g3 p hp).1) hb
      have uz := prefix_get hp tz
      have hsetz := set_self uz
      have hpm := hp1.trans hp
      simp -dsimp -implicitDefEqProofs [s1, s2, s4, s5, hlt, withO_of u1, withO_of o4, withO_of uz, hsetz]
      refine callsTo Tryd.cal56 e2 ?_
      simp -dsimp -implicitDefEqProofs [s1, s2, s4, s5, hlt, withO_of u1, withO_of o4, withO_of uz, hsetz]
      cases hok2 : okB st (mergeL ls) b
      · simp -dsimp -implicitDefEqProofs [s1, s2, s4, s5, hlt, withO_of u1, withO_of o4, withO_of uz, hsetz]
        refine ⟨_, _, GC.refl _ _ _, hpm, ?_⟩
        exact .inr (.inl ⟨hok, hok2, rfl⟩)
      · obtain ⟨m8, hm8⟩ : ∃ m8 : Mem, m8 = m'.set (m.length + 1) ⟨[.int .i64 st, .slice (some ⟨jd, 0, none⟩) (mergeL ls).length (mergeL ls).length, .string b], 29, 3, 1⟩ := ⟨_, rfl⟩
        have y8 : m8[m.length + 1]? = some ⟨[.int .i64 st, .slice (some ⟨jd, 0, none⟩) (mergeL ls).length (mergeL ls).length, .string b], 29, 3, 1⟩ := by rw [hm8]; exact get_set uz _
        simp -dsimp -implicitDefEqProofs [s1, s2, s4, s5, hlt, withO_of u1, withO_of o4, withO_of uz, hsetz, hm8.symm, withO_of y8]
        refine ⟨_, _, GC.refl _ _ _, by rw [hm8]; exact pre_set hpm (by omega) _, ?_⟩
        exact .inr (.inr ⟨jd, hok, hok2, by simp only [bkC], by omega, kd, by rw [hm8, List.getElem?_set_ne (by omega)]; exact oj, hk1, hk2⟩)
end Go.Proofs.YtmbijgnmbapchaaDoor
