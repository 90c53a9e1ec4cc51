/-
  Baskets, part 25: texts cut at a byte. Conditions: none.
-/
import Derived.Test.YtmbijgnmbapchaaGreatDoorBkB
import Derived.Test.YtmbijgnmbapchaaGreatDoorAbsSpl
import Derived.Test.YtmbijgnmbapchaaGreatDoorLawSplit
import Derived.Shelf.Strings.Split
set_option linter.unusedSimpArgs false
set_option linter.unusedVariables false
set_option linter.unusedSectionVars false
namespace Go.Proofs.YtmbijgnmbapchaaGreatDoor
open Go.Abs Go.RowKit Go.Law

theorem pieces_lit (xs : List ByteArray) : (xs.map Value.string).all litB = true := by
  rw [List.all_eq_true]
  intro x hx
  obtain ⟨y, _, rfl⟩ := List.mem_map.1 hx
  rfl
theorem pieces_len (c : UInt8) (s : ByteArray) : (piecesB c s).length = Go.Lib.countB s ⟨#[c]⟩ + 1 := by
  have : Go.Lib.countB s ⟨#[c]⟩ = s.data.toList.count c := Go.Lib.count_one c _
  rw [this]
  simp [piecesB, pieces_count]
theorem split_c (s : ByteArray) (c : UInt8) (hs : s.size ≤ 1048576) (m : Mem) :
    ACalls Tryz.prog 21 [.string s, .string ⟨#[c]⟩] m (.slice (some ⟨m.length, 0, none⟩) (piecesB c s).length (piecesB c s).length) (m ++ [⟨(piecesB c s).map Value.string, 9, 1, 1⟩]) := by
  have hle : (piecesB c s).length ≤ 1048577 := by
    have := Go.Lib.countB_le ⟨#[c]⟩ (Nat.le_refl 1) s.size s (Nat.le_refl _)
    rw [pieces_len]; omega
  refine acalls_alloc rfl (pieces_lit _) (by simp) (by unfold maxLen; omega) fun W0 w ht hb => ?_
  obtain ⟨z, hz⟩ := numAt_below ht.2 hb
  refine (Any.strings_Split { Tryz.laysM146 with } Tryz.laysM146.i9 s ⟨#[c]⟩ z w (by omega) hz (Nat.le_refl 1)).mono fun e w' ⟨h1, h2⟩ => ?_
  rw [splitB_pieces] at h2
  rw [← pieces_len] at h1
  exact ⟨h1, h2⟩
end Go.Proofs.YtmbijgnmbapchaaGreatDoor
namespace Go.Proofs.YtmbijgnmbapchaaGreatDoor
open Go.Abs Go.RowKit Go.Law

/-- Texts in an object of their own. -/
def StrObj (m : Mem) (j : Nat) (xs : List ByteArray) : Prop := ∃ kd, m[j]? = some ⟨xs.map Value.string, 9, 1, kd⟩ ∧ 1 ≤ kd ∧ kd ≤ 2
def wordsOf (xs : List ByteArray) : List ByteArray := xs.filter fun p => decide (¬ p.size = 0)
theorem wordsOf_succ {xs : List ByteArray} {k : Nat} (h : k < xs.length) : wordsOf (xs.take (k + 1)) = wordsOf (xs.take k) ++ (if xs[k].size = 0 then [] else [xs[k]]) := by
  unfold wordsOf
  rw [List.take_add_one, List.getElem?_eq_getElem h, Option.toList_some, List.filter_append]
  congr 1
  by_cases h0 : xs[k].size = 0 <;> simp only [h0, List.filter_cons, List.filter_nil, not_true_eq_false, not_false_eq_true, decide_true, decide_false, if_true, if_false, Bool.false_eq_true]
def WordsQ (xs : List ByteArray) (m : Mem) (v : Value) (m' : Mem) : Prop :=
  ∃ j, v = .slice (some ⟨j, 0, none⟩) xs.length xs.length ∧ m <+: m' ∧ m.length ≤ j ∧ StrObj m' j xs
theorem implWords_c (s : ByteArray) (hs : s.size ≤ 1048576) (m : Mem) : ∃ v m', ACalls Tryz.prog 22 [.string s] m v m' ∧ WordsQ (wordsOf (piecesB 32 s)) m v m' := by
  obtain ⟨m1, hm1⟩ : ∃ m1 : Mem, m1 = m ++ [⟨[], 9, 1, 1⟩] := ⟨_, rfl⟩
  have hm1' := hm1.symm
  have hp1 : m <+: m1 := by rw [hm1]; exact ⟨_, rfl⟩
  have t1 : m1[m.length]? = some ⟨[], 9, 1, 1⟩ := by rw [hm1]; simp
  have hl1 : m1.length = m.length + 1 := by rw [hm1]; simp
  obtain ⟨xs, hxs⟩ : ∃ xs, xs = piecesB 32 s := ⟨_, rfl⟩
  have hc := split_c s 32 hs m1
  rw [← hxs] at hc ⊢
  obtain ⟨m2, hm2⟩ : ∃ m2 : Mem, m2 = m1 ++ [⟨xs.map Value.string, 9, 1, 1⟩] := ⟨_, rfl⟩
  rw [← hm2] at hc
  have hp2 : m1 <+: m2 := by rw [hm2]; exact ⟨_, rfl⟩
  have t2 : m2[m1.length]? = some ⟨xs.map Value.string, 9, 1, 1⟩ := by rw [hm2]; simp
  have hxl : xs.length ≤ 1048577 := by
    rw [hxs, pieces_len]
    have := Go.Lib.countB_le ⟨#[32]⟩ (by decide) s.size s (Nat.le_refl _)
    omega
  refine ecalls_of_vc Tryz.func22 rfl Tryz.fol (by kernel_rfl) ?_
  simp only [Tryz.f22]
  simp -dsimp -implicitDefEqProofs [hm1']
  refine callsTo Tryz.cal21 hc ?_
  simp -dsimp -implicitDefEqProofs [hm1']
  refine loopN xs.length (fun k σ m' => ∃ jd, (m <+: m' ∧ m.length ≤ jd ∧ jd ≠ m1.length) ∧ (m'[m1.length]? = some ⟨xs.map Value.string, 9, 1, 1⟩ ∧ StrObj m' jd (wordsOf (xs.take k))) ∧
      σ 3 = some (.slice (some ⟨jd, 0, none⟩) (wordsOf (xs.take k)).length (wordsOf (xs.take k)).length) ∧ σ 8 = some (.slice (some ⟨m1.length, 0, none⟩) xs.length xs.length) ∧ σ 9 = some (.int .i64 xs.length) ∧ σ 10 = some (.int .i64 k))
    ⟨m.length, ⟨hp1.trans hp2, Nat.le_refl _, by omega⟩, ⟨t2, 1, by simpa [wordsOf] using prefix_get hp2 t1, by decide, by decide⟩, by simp [wordsOf], by simp, by simp, by simp⟩ ?_
  rintro k σ m' hk ⟨jd, ⟨hp, hjd, hne⟩, ⟨o8, kd, oj, hk1, hk2⟩, s3, s8, s9, s10⟩
  by_cases hlt : k < xs.length
  · have hgk : (xs.map Value.string)[k]? = some (.string xs[k]) := by rw [List.getElem?_map, List.getElem?_eq_getElem hlt]; rfl
    have hw : IntKind.i64.wrap ((k : Int) + 1) = k + 1 := wrapI (by omega) (by omega)
    have hnx := wordsOf_succ hlt
    have hacc : (wordsOf (xs.take k)).length ≤ k := Nat.le_trans (List.length_filter_le _ _) (by simp; omega)
    have hbE := emptyE xs[k]
    by_cases h0 : xs[k].size = 0
    · simp -dsimp -implicitDefEqProofs [s3, s8, s9, s10, hlt, withO_of o8, withC_of hgk, hw, hbE, h0]
      rw [if_pos h0, List.append_nil] at hnx
      exact next_ hlt ⟨jd, ⟨hp, hjd, hne⟩, ⟨o8, kd, by rw [hnx]; exact oj, hk1, hk2⟩, by rw [hnx]; simp [s3], by simp [s8], by simp [s9], by simp [hw]⟩
    · simp -dsimp -implicitDefEqProofs [s3, s8, s9, s10, hlt, withO_of o8, withC_of hgk, hw, hbE, h0]
      rw [if_neg h0] at hnx
      have hol := lt_of_get o8
      refine appTo_grow (n := (wordsOf (xs.take k)).length) (c := 1) (e := 9) (sz := 1) (by_ := 16) (z := .string ⟨#[]⟩) (by kernel_rfl) (by kernel_rfl) ⟨by decide, rfl⟩ (get_old oj) ⟨hk1, hk2⟩ ⟨rfl, rfl⟩ (by simp) (by omega) (Src.obj (o := ⟨[.string xs[k]], 9, 1, 1⟩) (by simp) (by simp) rfl rfl) ?_
      intro m6 id2 gr
      have hat := gr.at_
      simp at hat
      have g8 := gr.old _ _ (Ne.symm hne) (get_old (l := [⟨[.string xs[k]], 9, 1, 1⟩]) o8)
      have hpl := hp.length_le
      simp -dsimp -implicitDefEqProofs [s3, s8, s9, s10, hlt, hw]
      exact next_ hlt ⟨id2, ⟨gr.pre m (pre_app hp _) hjd, by omega, by omega⟩, ⟨g8, 2, by rw [hnx, gr.new]; simp, by decide, by decide⟩, by rw [hnx]; simp, by simp [s8], by simp [s9], by simp [hw]⟩
  · have hkl : xs.take k = xs := List.take_of_length_le (by omega)
    rw [hkl] at oj s3
    simp -dsimp -implicitDefEqProofs [s3, s8, s9, s10, hlt]
    exact ⟨_, _, GC.refl _ _ _, jd, rfl, hp, hjd, kd, oj, hk1, hk2⟩
end Go.Proofs.YtmbijgnmbapchaaGreatDoor
namespace Go.Proofs.YtmbijgnmbapchaaGreatDoor
open Go.Abs Go.RowKit Go.Law

theorem extract_list (s : ByteArray) (a b : Nat) : s.extract a b = ⟨((s.data.toList.take b).drop a).toArray⟩ := by
  have h : (s.extract a b).data.toList = (s.data.toList.take b).drop a := by
    rw [Go.Lib.extract_data]; simp [List.drop_take]
  have h2 : (s.extract a b).data = ((s.data.toList.take b).drop a).toArray := by rw [← h]
  exact congrArg ByteArray.mk h2
theorem specSplit_c (s : ByteArray) (c : UInt8) (hs : s.size ≤ 1048576) (m : Mem) : ∃ v m', ACalls Tryz.prog 24 [.string s, .int .u8 c.toNat] m v m' ∧ WordsQ (piecesB c s) m v m' := by
  obtain ⟨m1, hm1⟩ : ∃ m1 : Mem, m1 = m ++ [⟨[], 9, 1, 1⟩] := ⟨_, rfl⟩
  have hm1' := hm1.symm
  have hp1 : m <+: m1 := by rw [hm1]; exact ⟨_, rfl⟩
  have t1 : m1[m.length]? = some ⟨[], 9, 1, 1⟩ := by rw [hm1]; simp
  have hsl : s.data.toList.length = s.size := by rw [Array.length_toList]; rfl
  refine ecalls_of_vc Tryz.func24 rfl Tryz.fol (by kernel_rfl) ?_
  simp only [Tryz.f24]
  simp -dsimp -implicitDefEqProofs [hm1']
  refine loopN s.size (fun k σ m' => ∃ (done : List (List UInt8)) (st jd : Nat), (st ≤ k ∧ piecesL c (s.data.toList.take k) = done ++ [(s.data.toList.take k).drop st] ∧ done.length ≤ k) ∧ (m <+: m' ∧ m.length ≤ jd) ∧ StrObj m' jd (done.map fun l => ⟨l.toArray⟩) ∧
      σ 0 = some (.string s) ∧ σ 1 = some (.int .u8 c.toNat) ∧ σ 5 = some (.slice (some ⟨jd, 0, none⟩) done.length done.length) ∧ σ 6 = some (.int .i64 st) ∧ σ 7 = some (.int .i64 k))
    ⟨[], 0, m.length, ⟨Nat.le_refl _, by simp [piecesL], by simp⟩, ⟨hp1, Nat.le_refl _⟩, ⟨1, by simpa using t1, by decide, by decide⟩, by simp, by simp, by simp, by simp, by simp⟩ ?_
  rintro k σ m' hk ⟨done, st, jd, ⟨hst, hpc, hdl⟩, ⟨hp, hjd⟩, ⟨kd, oj, hk1, hk2⟩, s0, s1, s5, s6, s7⟩
  by_cases hlt : k < s.size
  · have hw : IntKind.i64.wrap ((k : Int) + 1) = k + 1 := wrapI (by omega) (by omega)
    simp -dsimp -implicitDefEqProofs [s0, s1, s5, s6, s7, hlt, hw]
    have hkl : k < s.data.toList.length := by omega
    have hb : s.data[k] = s.data.toList[k] := by simp
    have htk : s.data.toList.take (k + 1) = s.data.toList.take k ++ [s.data[k]] := by rw [List.take_add_one, List.getElem?_eq_getElem hkl, hb]; rfl
    have hmo := pieces_more c done _ _ s.data[k] hpc
    rw [← htk] at hmo
    refine sp2 (fun g => ?_) (fun g => ?_)
    · have hbc : s.data[k] = c := by
        have : (s.data[k].toNat : Int) = c.toNat := by simpa using g
        exact UInt8.toNat_inj.1 (by omega)
      rw [if_pos hbc] at hmo
      refine need_intro (by omega) (need_intro hst ?_)
      refine appTo_grow (n := done.length) (c := 1) (e := 9) (sz := 1) (by_ := 16) (z := .string ⟨#[]⟩) (by kernel_rfl) (by kernel_rfl) ⟨by decide, rfl⟩ (get_old oj) ⟨hk1, hk2⟩ ⟨rfl, rfl⟩ (by simp) (by omega) (Src.obj (o := ⟨[.string (s.extract st k)], 9, 1, 1⟩) (by simp) (by simp) rfl rfl) ?_
      intro m6 id2 gr
      have hat := gr.at_
      simp at hat
      have hpl := hp.length_le
      have g6 := gr.pre m (pre_app hp _) hjd
      simp -dsimp -implicitDefEqProofs [s0, s1, s5, s6, s7, hlt, hw]
      refine next_ hlt ⟨done ++ [(s.data.toList.take k).drop st], k + 1, id2, ⟨Nat.le_refl _, ?_, by simp; omega⟩, ⟨g6, by omega⟩, ⟨2, ?_, by decide, by decide⟩, by simp [s0], by simp [s1], by simp, by simp [hw], by simp [hw]⟩
      · rw [hmo]; simp
      · rw [gr.new]; simp [extract_list]
    · have hbc : ¬ s.data[k] = c := by
        intro e
        rw [e] at g; simp at g
      rw [if_neg hbc] at hmo
      exact next_ hlt ⟨done, st, jd, ⟨by omega, by rw [hmo, htk, List.drop_append_of_le_length (by simp; omega)], by omega⟩, ⟨hp, hjd⟩, ⟨kd, oj, hk1, hk2⟩, by simp [s0], by simp [s1], by simp [s5], by simp [s6], by simp [hw]⟩
  · simp -dsimp -implicitDefEqProofs [s0, s1, s5, s6, s7, hlt]
    have hfull : s.data.toList.take k = s.data.toList := List.take_of_length_le (by omega)
    rw [hfull] at hpc
    have hpB : piecesB c s = (done.map fun l => (⟨l.toArray⟩ : ByteArray)) ++ [s.extract st s.size] := by
      unfold piecesB
      rw [hpc, extract_list, List.take_of_length_le (by omega)]
      simp
    refine need_intro (by omega) ?_
    refine appTo_grow (n := done.length) (c := 1) (e := 9) (sz := 1) (by_ := 16) (z := .string ⟨#[]⟩) (by kernel_rfl) (by kernel_rfl) ⟨by decide, rfl⟩ (get_old oj) ⟨hk1, hk2⟩ ⟨rfl, rfl⟩ (by simp) (by omega) (Src.obj (o := ⟨[.string (s.extract st s.size)], 9, 1, 1⟩) (by simp) (by simp) rfl rfl) ?_
    intro m6 id2 gr
    have hat := gr.at_
    simp at hat
    have hpl := hp.length_le
    have g6 := gr.pre m (pre_app hp _) hjd
    simp -dsimp -implicitDefEqProofs [s0, s1, s5, s6, s7, hlt]
    exact ⟨_, _, GC.refl _ _ _, id2, by rw [hpB]; simp, g6, by omega, 2, by rw [hpB, gr.new]; simp, by decide, by decide⟩
end Go.Proofs.YtmbijgnmbapchaaGreatDoor
namespace Go.Proofs.YtmbijgnmbapchaaGreatDoor
open Go.Abs Go.RowKit Go.Law

theorem specWords_c (s : ByteArray) (hs : s.size ≤ 1048576) (m : Mem) : ∃ v m', ACalls Tryz.prog 45 [.string s] m v m' ∧ WordsQ (wordsOf (piecesB 32 s)) m v m' := by
  obtain ⟨v1, m1, hc, i8, rfl, hp1, hi8, kd8, t8, hk81, hk82⟩ := specSplit_c s 32 hs m
  obtain ⟨xs, hxs⟩ : ∃ xs, xs = piecesB 32 s := ⟨_, rfl⟩
  rw [← hxs] at hc t8 ⊢
  have hi8l := lt_of_get t8
  obtain ⟨m2, hm2⟩ : ∃ m2 : Mem, m2 = m1 ++ [⟨[], 9, 1, 1⟩] := ⟨_, rfl⟩
  have hm2' := hm2.symm
  have hp2 : m1 <+: m2 := by rw [hm2]; exact ⟨_, rfl⟩
  have t1 : m2[m1.length]? = some ⟨[], 9, 1, 1⟩ := by rw [hm2]; simp
  have t2 := prefix_get hp2 t8
  have hml := hp1.length_le
  have hxl : xs.length ≤ 1048577 := by
    rw [hxs, pieces_len]
    have := Go.Lib.countB_le ⟨#[32]⟩ (by decide) s.size s (Nat.le_refl _)
    omega
  refine ecalls_of_vc Tryz.func45 rfl Tryz.fol (by kernel_rfl) ?_
  simp only [Tryz.f45]
  simp -dsimp -implicitDefEqProofs [hm2']
  refine callsTo Tryz.cal24 hc ?_
  simp -dsimp -implicitDefEqProofs [hm2']
  refine loopN xs.length (fun k σ m' => ∃ jd, (m <+: m' ∧ m.length ≤ jd ∧ jd ≠ i8) ∧ (m'[i8]? = some ⟨xs.map Value.string, 9, 1, kd8⟩ ∧ StrObj m' jd (wordsOf (xs.take k))) ∧
      σ 4 = some (.slice (some ⟨jd, 0, none⟩) (wordsOf (xs.take k)).length (wordsOf (xs.take k)).length) ∧ σ 3 = some (.slice (some ⟨i8, 0, none⟩) xs.length xs.length) ∧ σ 5 = some (.int .i64 k))
    ⟨m1.length, ⟨hp1.trans hp2, hml, by omega⟩, ⟨t2, 1, by simpa [wordsOf] using t1, by decide, by decide⟩, by simp [wordsOf], by simp, by simp⟩ ?_
  rintro k σ m' hk ⟨jd, ⟨hp, hjd, hne⟩, ⟨o8, kd, oj, hk1, hk2⟩, s4, s3, s5⟩
  by_cases hlt : k < xs.length
  · have hgk : (xs.map Value.string)[k]? = some (.string xs[k]) := by rw [List.getElem?_map, List.getElem?_eq_getElem hlt]; rfl
    have hw : IntKind.i64.wrap ((k : Int) + 1) = k + 1 := wrapI (by omega) (by omega)
    have hnx := wordsOf_succ hlt
    have hacc : (wordsOf (xs.take k)).length ≤ k := Nat.le_trans (List.length_filter_le _ _) (by simp; omega)
    have hbE := emptyE xs[k]
    by_cases h0 : xs[k].size = 0
    · simp -dsimp -implicitDefEqProofs [s4, s3, s5, hlt, withO_of o8, fun l => withO_of (get_old (l := l) o8), hk82, withC_of hgk, hw, hbE, h0]
      rw [if_pos h0, List.append_nil] at hnx
      exact next_ hlt ⟨jd, ⟨hp, hjd, hne⟩, ⟨o8, kd, by rw [hnx]; exact oj, hk1, hk2⟩, by rw [hnx]; simp [s4], by simp [s3], by simp [hw]⟩
    · simp -dsimp -implicitDefEqProofs [s4, s3, s5, hlt, withO_of o8, fun l => withO_of (get_old (l := l) o8), hk82, withC_of hgk, hw, hbE, h0]
      rw [if_neg h0] at hnx
      have hol := lt_of_get o8
      refine appTo_grow (n := (wordsOf (xs.take k)).length) (c := 1) (e := 9) (sz := 1) (by_ := 16) (z := .string ⟨#[]⟩) (by kernel_rfl) (by kernel_rfl) ⟨by decide, rfl⟩ (get_old oj) ⟨hk1, hk2⟩ ⟨rfl, rfl⟩ (by simp) (by omega) (Src.obj (o := ⟨[.string xs[k]], 9, 1, 1⟩) (by simp) (by simp) rfl rfl) ?_
      intro m6 id2 gr
      have hat := gr.at_
      simp at hat
      have g8 := gr.old _ _ (Ne.symm hne) (get_old (l := [⟨[.string xs[k]], 9, 1, 1⟩]) o8)
      have hpl := hp.length_le
      simp -dsimp -implicitDefEqProofs [s4, s3, s5, hlt, hw]
      exact next_ hlt ⟨id2, ⟨gr.pre m (pre_app hp _) hjd, by omega, by omega⟩, ⟨g8, 2, by rw [hnx, gr.new]; simp, by decide, by decide⟩, by rw [hnx]; simp, by simp [s3], by simp [hw]⟩
  · have hkl : xs.take k = xs := List.take_of_length_le (by omega)
    rw [hkl] at oj s4
    simp -dsimp -implicitDefEqProofs [s4, s3, s5, hlt]
    exact ⟨_, _, GC.refl _ _ _, jd, rfl, hp, hjd, kd, oj, hk1, hk2⟩
end Go.Proofs.YtmbijgnmbapchaaGreatDoor
