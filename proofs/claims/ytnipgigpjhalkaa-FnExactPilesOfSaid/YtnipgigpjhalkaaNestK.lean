/-
  Pots, part 11: the reference's order of pots. Conditions: none.
-/
import Derived.Test.YtnipgigpjhalkaaNestJ
set_option linter.unusedSimpArgs false
set_option linter.unusedVariables false
set_option linter.unusedSectionVars false
namespace Go.Proofs.Ytnipgigpjhalkaa
open Go.Abs Go.RowKit Go.Law

theorem ownP_c (xs : List Int) (b : Option Addr) (m : Mem) (hs : RdI m b xs) (hn : xs.length ≤ 1048576) :
    ACalls Try.prog 79 [.slice b xs.length xs.length] m (.slice (some ⟨m.length, 0, none⟩) xs.length xs.length) (m ++ [⟨xs.map (Value.int .i64), 2, 1, 2⟩]) := by
  refine acalls_of_vc Try.func79 rfl Try.fol (by kernel_rfl) ?_
  simp only [Try.f79]
  simp -dsimp -implicitDefEqProofs
  refine appTo_grow (e := 2) (sz := 1) (by_ := 8) (z := .int .i64 0) (by kernel_rfl) (by kernel_rfl) ⟨by decide, rfl⟩ (o := ⟨[], 2, 1, 1⟩) (by simp) (by simp) ⟨rfl, rfl⟩ rfl (by omega) (Src.rdI (hs.ext _)) ?_
  intro m2 id2 hg
  simp -dsimp -implicitDefEqProofs
  have h1 := hg.new
  have h2 : m <+: m2 := hg.pre m ⟨_, rfl⟩ (Nat.le_refl _)
  have := GC.keepSP (m := m) (m' := m) (m1 := m2) (id := id2) (off := 0) (n := xs.length) (o2 := ⟨xs.map (Value.int .i64), 2, 1, 2⟩) (Fits.refl m) h2 h1 (by rw [hg.at_]; simp) rfl rfl (.inl rfl) (by simp) (by simp [litB])
  simpa using this
def OrdPost (xs : List I3) (m : Mem) (v : Value) (m' : Mem) : Prop := ∃ id, v = .slice (some ⟨id, 0, none⟩) xs.length xs.length ∧ m <+: m' ∧ m.length ≤ id ∧ RdI m' (some ⟨id, 0, none⟩) (orderP xs xs.length)
theorem l19Order_c (xs : List I3) (a : Option Addr) (m : Mem) (hr : RdG v3 3 m a xs) (hn : xs.length ≤ 1048576) :
    ∃ v m', ACalls Try.prog 71 [.slice a xs.length xs.length] m v m' ∧ OrdPost xs m v m' := by
  refine ecalls_of_vc Try.func71 rfl Try.fol (by kernel_rfl) ?_
  simp only [Try.f71]
  simp -dsimp -implicitDefEqProofs
  refine loopN xs.length (fun k σ m' => ∃ (id : Nat) (o : AObj), (m <+: m' ∧ m.length ≤ id) ∧ (m'[id]? = some o ∧ 1 ≤ o.kind ∧ o.kind ≤ 2 ∧ o.sz = 1 ∧ o.elem = 2 ∧ o.cells = iv (orderP xs k)) ∧
      (σ 0 = some (.slice a xs.length xs.length)) ∧ σ 3 = some (.slice (some ⟨id, 0, none⟩) k k) ∧ σ 4 = some (.int .i64 k))
    ⟨m.length, ⟨[], 2, 1, 1⟩, ⟨⟨_, rfl⟩, Nat.le_refl _⟩, ⟨by simp, by simp, by simp, rfl, rfl, rfl⟩, by simp, by simp, by simp⟩ ?_
  rintro k σ m' hk ⟨id, o, ⟨hp, hid⟩, ⟨ho, ho1, ho2, ho3, ho4, ho5⟩, s0, s7, s8⟩
  have hLl := orderP_length xs k
  have hrA := hr.pre hp
  by_cases hlt : k < xs.length
  · obtain ⟨L, hL⟩ : ∃ L, L = orderP xs k := ⟨_, rfl⟩
    rw [← hL] at hLl ho5
    have hlen5 : o.cells.length = k := by rw [ho5, iv_length, hLl]
    have ho1' : 1 ≤ o.kind ∧ o.kind ≤ 2 := ⟨ho1, ho2⟩
    simp -dsimp -implicitDefEqProofs [s0, s7, s8, hlt]
    refine loopN k (fun c σ m2 => m2 = m' ∧ (σ 0 = some (.slice a xs.length xs.length)) ∧ σ 3 = some (.slice (some ⟨id, 0, none⟩) k k) ∧ σ 4 = some (.int .i64 k) ∧ σ 5 = some (.int .i64 ((k - c : Nat) : Int)) ∧ keepN (potP xs k) L (k - c) = keepN (potP xs k) L L.length) ⟨rfl, by simp [s0], by simp [s7], by simp [s8], by simp, by rw [hLl]; rfl⟩ ?_
    clear s0 s7 s8
    rintro c σ m2 hc ⟨hmm, s0, s7, s8, s9, hkeep⟩
    have hmm := hmm.symm
    subst hmm
    obtain ⟨j, hj⟩ : ∃ j, j = k - c := ⟨_, rfl⟩
    rw [← hj] at s9 hkeep
    have hLr : RdI m' (some ⟨id, 0, none⟩) L := RdI.of_get ho ho2 ho3 ho5
    cases j with
    | zero =>
      have hJk : 0 ≤ k := by omega
      have hown := ownP_c (L.take 0) (some ⟨id, 0, none⟩) m' (hLr.take 0) (by simp)
      rw [List.length_take, hLl, Nat.min_eq_left hJk] at hown
      simp -dsimp -implicitDefEqProofs [s0, s7, s8, s9, hlt, withO_of ho, ho2, ho3, hlen5]
      refine callsTo Try.cal79 hown ?_
      simp -dsimp -implicitDefEqProofs [s0, s7, s8, s9]
      refine appTo_grow (e := 2) (sz := 1) (by_ := 8) (z := .int .i64 0) (by kernel_rfl) (by kernel_rfl) ⟨by decide, rfl⟩ (o := ⟨(L.take 0).map (Value.int .i64), 2, 1, 2⟩) (by simp) (by simp) ⟨rfl, rfl⟩ (by simp) (by omega) (Src.obj (o := ⟨[.int .i64 k], 2, 1, 1⟩) (by simp) (by simp) rfl rfl) ?_
      intro m4 id4 hg4
      have hp4 : m' <+: m4 := hg4.pre m' ⟨_, rfl⟩ (Nat.le_refl _)
      have ho4' := prefix_get hp4 ho
      simp -dsimp -implicitDefEqProofs [s0, s7, s8, s9, withO_of ho4', ho2, ho3, hlen5]
      have hLr4 : RdI m4 (some ⟨id, 0, none⟩) L := RdI.of_get ho4' ho2 ho3 ho5
      have hwk : IntKind.i64.wrap ((k : Int) + 1) = k + 1 := wrapI (by omega) (by omega)
      have hid4 : m.length ≤ id4 := by rw [hg4.at_]; simp; have := hp.length_le; omega
      have hnew : orderP xs (k + 1) = L.take 0 ++ (k : Int) :: L.drop 0 := by rw [orderP_succ, ← hL, insT, ← hkeep, keepN]
      refine appTo_grow (e := 2) (sz := 1) (by_ := 8) (z := .int .i64 0) (by kernel_rfl) (by kernel_rfl) ⟨by decide, rfl⟩ (o := ⟨(L.take 0).map (Value.int .i64) ++ [.int .i64 k], 2, 1, 2⟩) hg4.new (by simp) ⟨rfl, rfl⟩ (by simp) (by omega) (by rw [← hLl]; exact Src.rdI hLr4) ?_
      intro m5 id5 hg5
      simp -dsimp -implicitDefEqProofs [s0, s7, s8, s9, withO_of ho4', ho2, ho3, hlen5, hwk]
      exact next_ hlt ⟨id5, _, ⟨hg5.pre m (hp.trans hp4) hid4, by rw [hg5.at_]; have := hp.length_le; have := hp4.length_le; omega⟩, ⟨hg5.new, by simp, by simp, rfl, rfl, by rw [hnew]; simp [iv]⟩, by simp [s0], by simp; omega, by simp [hwk]⟩
    | succ j =>
      have hj1 : j < L.length := by omega
      have hjk : j < k := by omega
      obtain ⟨i, hi, hil⟩ := orderP_mem xs k L[j] (by rw [← hL]; exact List.getElem_mem hj1)
      have hik : i < xs.length := by omega
      obtain ⟨jid, joff, jo, hje, hjm, hjk1, hjs, hjl, hjrow, hjc0, hjc1, hjc2⟩ := R3.at_ hrA hlt
      obtain ⟨jid2, joff2, jo2, hje2, hjm2, hjk2, hxs2, hjl2, hjrow2, hjd0, hjd1, hjd2⟩ := R3.at_ hrA hik
      rw [hje] at hje2 s0
      injection hje2 with hje2
      injection hje2 with e1 e2
      subst e1 e2
      rw [hjm] at hjm2
      injection hjm2 with hjm2
      subst hjm2
      have w1 : IntKind.i64.wrap ((j : Int) + 1 - 1) = j := by rw [show ((j : Int) + 1 - 1) = j by omega]; exact wrapI (by omega) (by omega)
      have w2 : IntKind.i64.wrap (j : Int) = j := wrapI (by omega) (by omega)
      have b4 : ((0 : Int) < (j : Int) + 1) := by omega
      have hc1 : o.cells[j]? = some (.int .i64 i) := by rw [ho5, ← hi]; exact iv_get (List.getElem?_eq_getElem hj1)
      have hJk : (j + 1) ≤ k := by omega
      have hown := ownP_c (L.take (j + 1)) (some ⟨id, 0, none⟩) m' (hLr.take (j + 1)) (by simp; omega)
      rw [List.length_take, hLl, Nat.min_eq_left hJk] at hown
      simp -dsimp -implicitDefEqProofs [s0, s7, s8, s9, hlt, withO_of ho, ho2, ho3, hlen5, w1, w2, b4, hjk, withC_of hc1, hik, withO_of hjm, hjk1, hjs, withC_of hjc0, withC_of hjd0]
      have hpj : potP xs k L[j] = decide (xs[i].1 < xs[k].1) := by rw [hi]; simp [potP, potAt_eq hik, potAt_eq hlt]
      have hgd : L.getD j 0 = L[j] := by simp [List.getD_eq_getElem?_getD, hj1]
      refine sp2 (fun g1 => ?_) (fun g1 => ?_)
      · have hkp : keepN (potP xs k) L (j + 1) = keepN (potP xs k) L j := by rw [keepN, hgd, hpj, if_pos g1]
        have hjc : k - (c + 1) = j := by omega
        exact next_ (by omega) ⟨rfl, by simp [s0, hje], by simp [s7], by simp [s8], by rw [hjc]; simp [w1], by rw [hjc, ← hkp]; exact hkeep⟩
      have hkp : keepN (potP xs k) L (j + 1) = j + 1 := by rw [keepN, hgd, hpj, if_neg (by simp [g1])]
      refine need_intro (by omega) (need_intro (by omega) ?_)
      refine callsTo Try.cal79 hown ?_
      simp -dsimp -implicitDefEqProofs [s0, s7, s8, s9]
      refine appTo_grow (e := 2) (sz := 1) (by_ := 8) (z := .int .i64 0) (by kernel_rfl) (by kernel_rfl) ⟨by decide, rfl⟩ (o := ⟨(L.take (j + 1)).map (Value.int .i64), 2, 1, 2⟩) (by simp) (by simp) ⟨rfl, rfl⟩ (by simp; omega) (by omega) (Src.obj (o := ⟨[.int .i64 k], 2, 1, 1⟩) (by simp) (by simp) rfl rfl) ?_
      intro m4 id4 hg4
      have hp4 : m' <+: m4 := hg4.pre m' ⟨_, rfl⟩ (Nat.le_refl _)
      have ho4' := prefix_get hp4 ho
      simp -dsimp -implicitDefEqProofs [s0, s7, s8, s9, withO_of ho4', ho2, ho3, hlen5]
      have hLr4 : RdI m4 (some ⟨id, 0, none⟩) L := RdI.of_get ho4' ho2 ho3 ho5
      have hwk : IntKind.i64.wrap ((k : Int) + 1) = k + 1 := wrapI (by omega) (by omega)
      have hid4 : m.length ≤ id4 := by rw [hg4.at_]; simp; have := hp.length_le; omega
      have hnew : orderP xs (k + 1) = L.take (j + 1) ++ (k : Int) :: L.drop (j + 1) := by rw [orderP_succ, ← hL, insT, ← hkeep, hkp]
      refine need_intro (by omega) (need_intro (by omega) ⟨fun hj2 => ?_, fun hj2 => ?_⟩)
      · refine appTo_grow (e := 2) (sz := 1) (by_ := 8) (z := .int .i64 0) (by kernel_rfl) (by kernel_rfl) ⟨by decide, rfl⟩ (o := ⟨(L.take (j + 1)).map (Value.int .i64) ++ [.int .i64 k], 2, 1, 2⟩) hg4.new (by simp) ⟨rfl, rfl⟩ (by simp; omega) (by omega) (by rw [show k - (j + 1) = (L.drop (j + 1)).length by rw [List.length_drop, hLl]]; have := hLr4.drop (k := j + 1) (by omega); rw [Nat.zero_add] at this; exact Src.rdI this) ?_
        intro m5 id5 hg5
        simp -dsimp -implicitDefEqProofs [s0, s7, s8, s9, withO_of ho4', ho2, ho3, hlen5, hwk]
        exact next_ hlt ⟨id5, _, ⟨hg5.pre m (hp.trans hp4) hid4, by rw [hg5.at_]; have := hp.length_le; have := hp4.length_le; omega⟩, ⟨hg5.new, by simp, by simp, rfl, rfl, by rw [hnew]; simp [iv]⟩, by simp [s0, hje], by simp; omega, by simp [hwk]⟩
      · have hdn : L.drop (j + 1) = [] := List.drop_eq_nil_of_le (by omega)
        rw [hdn] at hnew
        refine appTo_grow (e := 2) (sz := 1) (by_ := 8) (z := .int .i64 0) (by kernel_rfl) (by kernel_rfl) ⟨by decide, rfl⟩ (o := ⟨(L.take (j + 1)).map (Value.int .i64) ++ [.int .i64 k], 2, 1, 2⟩) hg4.new (by simp) ⟨rfl, rfl⟩ (by simp; omega) (by omega) (Src.rdI (xs := []) (RdI.nil _ _)) ?_
        intro m5 id5 hg5
        simp -dsimp -implicitDefEqProofs [s0, s7, s8, s9, withO_of ho4', ho2, ho3, hlen5, hwk, hwk]
        exact next_ hlt ⟨id5, _, ⟨hg5.pre m (hp.trans hp4) hid4, by rw [hg5.at_]; have := hp.length_le; have := hp4.length_le; omega⟩, ⟨hg5.new, by simp, by simp, rfl, rfl, by rw [hnew]; simp [iv]⟩, by simp [s0, hje], by simp; omega, by simp [hwk]⟩
  · obtain rfl : k = xs.length := by omega
    simp -dsimp -implicitDefEqProofs [s0, s7, s8, hlt]
    exact ⟨_, _, GC.refl _ _ _, id, rfl, hp, hid, RdI.of_get ho ho2 ho3 ho5⟩
end Go.Proofs.Ytnipgigpjhalkaa
