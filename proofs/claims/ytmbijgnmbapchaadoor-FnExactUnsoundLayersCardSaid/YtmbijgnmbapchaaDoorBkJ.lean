/-
  Baskets, part 10: loose stakes, sound weaves. Conditions: none.
-/
import Derived.Test.YtmbijgnmbapchaaDoorBkI
set_option linter.unusedSimpArgs false
set_option linter.unusedVariables false
set_option linter.unusedSectionVars false
namespace Go.Proofs.YtmbijgnmbapchaaDoor
open Go.Abs Go.RowKit Go.Law

theorem l06At_c (s : ByteArray) (st r k : Nat) (h : s.size ≤ 1000 ∧ 1 ≤ s.size) (h' : st ≤ 1000 ∧ r ≤ 1000 ∧ k ≤ 1000) (m : Mem) :
    ACalls Tryd.prog 155 [.string s, .int .i64 st, .int .i64 r, .int .i64 k] m (.int .u8 (cyc s.data.toList (k + r * st)).toNat) m := by
  have hn0 : ¬ s.size = 0 := by omega
  obtain ⟨q, hq⟩ : ∃ q, q = r * st := ⟨_, rfl⟩
  have hq1 : q ≤ 1000000 := by rw [hq]; exact Nat.mul_le_mul h'.2.1 h'.1
  have hwq : IntKind.i64.wrap ((r : Int) * (st : Int)) = (q : Int) := by rw [← Int.natCast_mul, ← hq, wrapI (by omega) (by omega)]
  have hwa : IntKind.i64.wrap ((q : Int) + (k : Int)) = (q : Int) + (k : Int) := wrapI (by omega) (by omega)
  obtain ⟨b1, e1⟩ := cycB h.2 (k + q)
  obtain ⟨k1, hk1⟩ : ∃ k1, k1 = (k + q) % s.size := ⟨_, rfl⟩
  have t1 : ((q : Int) + (k : Int)).tmod (s.size : Int) = (k1 : Int) := by rw [hk1, Nat.add_comm]; exact tmodN (q + k) _
  simp only [← hk1] at b1 e1
  rw [← hq]
  refine acalls_of_vc Tryd.func155 rfl Tryd.fol (by kernel_rfl) ?_
  simp only [Tryd.f155]
  simp -dsimp -implicitDefEqProofs [hwq, hwa, t1, hn0, b1, e1]
  exact GC.refl _ _ _
theorem againN_le {n st : Nat} (h : n ≤ 1000) : againN n st ≤ 1000 := Nat.le_trans (Nat.div_le_self _ _) h
theorem againN_pos {n st : Nat} (h : 1 ≤ n) : 1 ≤ againN n st := Nat.div_pos (Nat.gcd_le_left _ h) (Nat.gcd_pos_of_pos_left _ h)
theorem l06Stack_c (s : ByteArray) (st k : Nat) (h : s.size ≤ 1000 ∧ 1 ≤ s.size) (h' : st ≤ 1000 ∧ k ≤ 1000) (m : Mem) :
    ACalls Tryd.prog 136 [.string s, .int .i64 st, .int .i64 k] m (.string ⟨(stepL s.data.toList k st (againN s.size st)).toArray⟩) m := by
  obtain ⟨c, hc⟩ : ∃ c, c = againN s.size st := ⟨_, rfl⟩
  have hc1 : c ≤ 1000 := by rw [hc]; exact againN_le h.1
  have hag := fun m => l06Again_c s st h h'.1 m
  simp only [← hc] at hag
  rw [← hc]
  refine acalls_of_vc Tryd.func136 rfl Tryd.fol (by kernel_rfl) ?_
  simp only [Tryd.f136]
  simp -dsimp -implicitDefEqProofs
  refine loopN c (fun r σ m' => (m <+: m' ∧ ∃ id kd, m.length ≤ id ∧ (kd = 1 ∨ kd = 2) ∧ m'[id]? = some ⟨(numsB (stepL s.data.toList k st r)).map (Value.int .u8), 5, 1, kd⟩ ∧ σ 7 = some (.slice (some ⟨id, 0, none⟩) r r)) ∧ σ 0 = some (.string s) ∧ σ 1 = some (.int .i64 st) ∧ σ 2 = some (.int .i64 k) ∧ σ 8 = some (.int .i64 r))
    ⟨⟨pre_app (pre_refl m) _, m.length, 1, Nat.le_refl _, .inl rfl, by simp [numsB, stepL], by simp⟩, by simp, by simp, by simp, by simp⟩ ?_
  rintro r σ m' hr ⟨⟨hp, id, kd, hid, hkd, ho, s7⟩, s0, s1, s2, s8⟩
  have hl : (numsB (stepL s.data.toList k st r)).length = r := by simp [numsB, stepL_length]
  by_cases hlt : r < c
  · have hltI : (r : Int) < (c : Int) := by omega
    have hw : IntKind.i64.wrap ((r : Int) + 1) = (r : Int) + 1 := wrapI (by omega) (by omega)
    obtain ⟨x, hx⟩ : ∃ x, x = cyc s.data.toList (k + r * st) := ⟨_, rfl⟩
    have hat := fun m => l06At_c s st r k h ⟨h'.1, by omega, h'.2⟩ m
    simp only [← hx] at hat
    simp -dsimp -implicitDefEqProofs [s0, s1, s2, s7, s8, hlt, hltI, hw]
    refine callsTo Tryd.cal154 (hag _) ?_
    simp -dsimp -implicitDefEqProofs [s0, s1, s2, s7, s8, hlt, hltI, hw]
    refine callsTo Tryd.cal155 (hat _) ?_
    simp -dsimp -implicitDefEqProofs [s0, s1, s2, s7, s8, hlt, hltI, hw]
    refine appTo_grow (n := r) (c := 1) (e := 5) (sz := 1) (by_ := 1) (z := .int .u8 0) (by kernel_rfl) (by kernel_rfl) ⟨by decide, rfl⟩ (get_old ho) (by simp; omega) ⟨rfl, rfl⟩ (by simp [hl]) (by omega) (Src.obj (o := ⟨[.int .u8 x.toNat], 5, 1, 1⟩) (by simp) (by simp) rfl rfl) ?_
    intro m2 id2 gr
    simp -dsimp -implicitDefEqProofs [s0, s1, s2, s7, s8, hlt, hltI, hw]
    have hnext : (numsB (stepL s.data.toList k st (r + 1))).map (Value.int .u8) = (numsB (stepL s.data.toList k st r)).map (Value.int .u8) ++ [.int .u8 x.toNat] := by
      rw [stepL_succ, ← hx]; simp [numsB]
    have hml := hp.length_le
    exact next_ hlt ⟨⟨gr.pre _ (pre_app hp _) hid, id2, 2, by have := gr.at_; simp at this; omega, .inr rfl, by rw [hnext]; simpa using gr.new, by simp⟩, by simp [s0], by simp [s1], by simp [s2], by simp [hw]⟩
  · obtain rfl : r = c := by omega
    have hkd2 : kd ≤ 2 := by omega
    simp -dsimp -implicitDefEqProofs [s0, s1, s2, s7, s8, withO_of ho, hkd2, hl]
    refine callsTo Tryd.cal154 (hag _) ?_
    simp -dsimp -implicitDefEqProofs [s0, s1, s2, s7, s8, withO_of ho, hkd2, hl]
    refine strT (numsB (stepL s.data.toList k st r)) (by rw [List.take_of_length_le (by simp; omega)]) ?_
    simp -dsimp -implicitDefEqProofs [s0, s1, s2, s7, s8, withO_of ho, hkd2, hl]
    exact GC.dropP hp (by rw [strOfNums_bytes]) rfl
/-- The loose stakes among the first k. -/
def looseTo (l : List UInt8) (st k : Nat) : List Int := ((List.range k).filter fun (i : Nat) => !bothL (stepL l i st (againN l.length st))).map fun (i : Nat) => (i : Int)
theorem looseTo_succ (l : List UInt8) (st k : Nat) : looseTo l st (k + 1) = looseTo l st k ++ (if bothL (stepL l k st (againN l.length st)) then [] else [(k : Int)]) := by
  unfold looseTo
  rw [List.range_succ, List.filter_append, List.map_append]
  congr 1
  cases h : bothL (stepL l k st (againN l.length st)) <;> simp [h]
theorem looseTo_length (l : List UInt8) (st k : Nat) : (looseTo l st k).length ≤ k := by
  unfold looseTo
  rw [List.length_map]
  exact Nat.le_trans (List.length_filter_le _ _) (by simp)
theorem stack_run {s : ByteArray} (hs : strokeB s = true) (st k : Nat) : (runS (stepL s.data.toList k st (againN s.size st)) = 0) = (bothL (stepL s.data.toList k st (againN s.size st)) = false) := by
  simp only [strokeB, wordB, Bool.and_eq_true, decide_eq_true_eq] at hs
  obtain ⟨⟨h1, h2⟩, h3⟩ := hs
  have hpos : 0 < s.data.toList.length := by rw [bytes_size]; exact h1
  have hlen : 0 < (stepL s.data.toList k st (againN s.size st)).length := by rw [stepL_length]; exact againN_pos h1
  refine propext ⟨fun h => ?_, fun h => run_same hlen ?_ h⟩
  · cases hb : bothL (stepL s.data.toList k st (againN s.size st)) with
    | false => rfl
    | true => have := (run_both hb).2; omega
  · rw [List.all_eq_true]
    intro x hx
    obtain ⟨i, _, rfl⟩ := List.mem_map.1 hx
    exact List.all_eq_true.1 h3 _ (cyc_mem hpos _)
theorem stroke_size {s : ByteArray} (hs : strokeB s = true) : s.size ≤ 12 ∧ 1 ≤ s.size := by
  simp only [strokeB, wordB, Bool.and_eq_true, decide_eq_true_eq] at hs
  exact ⟨hs.1.2, hs.1.1⟩
end Go.Proofs.YtmbijgnmbapchaaDoor
