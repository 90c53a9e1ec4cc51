/-
  Pots, part 18: drawn piles. Conditions: none.
-/
import Derived.Test.YtnipgigpjhalkaaNestQ
import Derived.Test.YtnipgigpjhalkaaNestB
import Derived.Test.YtnipgigpjhalkaaBaseSS
set_option linter.unusedSimpArgs false
set_option linter.unusedVariables false
set_option linter.unusedSectionVars false
namespace Go.Proofs.Ytnipgigpjhalkaa
open Go.Abs Go.RowKit Go.Law

/-- A pile that may have been spoiled. -/
def Bad (is id : Nat) (a : Option Addr) (code : List Int) (k : Int) (n : Nat) (m : Mem) (v : Value) (m' : Mem) : Prop :=
  ∃ l ad, v = .slice ad l.length l.length ∧ l.length ≤ n + 1 ∧ RestS [is, id] m m' ∧ SrcA is a code k m' ∧ RdI m' ad l ∧ ∀ x, ad = some x → x.block = id ∨ m.length ≤ x.block
theorem l19Bad_c (is : Nat) (a : Option Addr) (code : List Int) (k : Int) (hk : k < 800000000) (id : Nat) (pile : List Int) (hn : pile.length ≤ 1048576) (n : Int) (m : Mem) (h : SrcA is a code k m) (hlo : is < id) (hP : IntsAt m id pile) :
    ∃ v m', ACalls Try.prog 76 [.pointer (some ⟨is, 0, none⟩), .slice (some ⟨id, 0, none⟩) pile.length pile.length, .int .i64 n] m v m' ∧ Bad is id a code (k + 4) pile.length m v m' := by
  have his : is < m.length := lt_of_get h.obj.choose_spec.choose_spec.1
  obtain ⟨v1, m1, hc1, x1, rfl, hx1, hb1, hs1, hl1⟩ := pick_c is a code k 6 (by omega) m h
  simp at hx1
  have hne : id ≠ is := by omega
  have hP1 : IntsAt m1 id pile := by obtain ⟨o, o1, o2⟩ := hP; exact ⟨o, hb1.get _ _ hne o1, o2⟩
  have hr1 : RestS [is, id] m m1 := restOf hb1 (by simp)
  refine ecalls_of_vc Try.func76 rfl Try.fol (by kernel_rfl) ?_
  simp only [Try.f76]
  simp -dsimp -implicitDefEqProofs
  refine callsTo Try.cal77 hc1 ?_
  simp -dsimp -implicitDefEqProofs
  refine sp2 (fun g => ?_) (fun g => sp2 (fun g' => ?_) (fun g' => ?_))
  · obtain ⟨v2, m2, hc2, x2, rfl, hb2, hs2, hl2⟩ := amongLit_c is a code (k + 2) (by omega) [-1, 0, IntKind.i64.wrap (n - 1), n] 4 rfl m1 hs1 (by decide)
    obtain ⟨o, ho, ho1, ho2, ho3, ho4, ho5⟩ : IntsAt m2 id pile := by obtain ⟨o, o1, o2⟩ := hP1; exact ⟨o, hb2.get _ _ hne o1, o2⟩
    refine callsTo Try.cal91 hc2 ?_
    simp -dsimp -implicitDefEqProofs
    refine appTo_grow (e := 2) (sz := 1) (by_ := 8) (z := .int .i64 0) (by kernel_rfl) (by kernel_rfl) ⟨by decide, rfl⟩ (o := o) (get_old ho) ⟨ho1, ho2⟩ ⟨ho3, ho4⟩ (by rw [ho5]; simp) (by omega) (Src.obj (o := ⟨[.int .i64 x2], 2, 1, 1⟩) (by simp) (by simp) rfl rfl) ?_
    intro m3 id3 hg
    have hb3 : But id (m2 ++ [⟨[.int .i64 x2], 2, 1, 1⟩]) m3 := ⟨by have := hg.len; omega, fun i o' h1 h2 => hg.old i o' h1 h2⟩
    have hr2 : RestS [is, id] m1 m3 := ((restOf hb2 (by simp)).trans (RestS.app _ _ _)).trans (restOf hb3 (by simp))
    have hIA : IntsAt m3 id3 (pile ++ [x2]) := ⟨_, hg.new, by simp, by simp, rfl, rfl, by simp [ho5]⟩
    have hlen := hg.at_
    simp -dsimp -implicitDefEqProofs
    refine ⟨_, _, GC.refl _ _ _, pile ++ [x2], some ⟨id3, 0, none⟩, by simp, by simp, hr1.trans hr2, ((hs2.app _).keep hb3 (by omega) (fun h0 x hx => by have := h.off h0 x hx; omega)).mono (by omega), hIA.rd, fun x hx => .inr ?_⟩
    injection hx with hx
    subst hx
    have := hb1.len; have := hb2.len
    simp at hlen ⊢; omega
  · refine ⟨_, _, GC.refl _ _ _, [], some ⟨m1.length, 0, none⟩, by simp, by simp, hr1.trans (RestS.app _ _ _), (hs1.app _).mono (by omega), RdI.of_get (o := ⟨[], 2, 1, 1⟩) (by simp) (by simp) rfl rfl, fun x hx => .inr ?_⟩
    injection hx with hx
    subst hx
    have := hb1.len
    simpa using this
  · refine ⟨_, _, GC.refl _ _ _, pile, some ⟨id, 0, none⟩, rfl, by omega, hr1, hs1.mono (by omega), hP1.rd, fun x hx => .inl ?_⟩
    injection hx with hx
    subst hx
    rfl
/-- Pots and a pile. -/
def DPile (m : Mem) (v : Value) (m' : Mem) : Prop :=
  ∃ (xs : List I3) (id : Nat) (pile : List Int) (b : Option Addr), v = .tuple #[.slice (some ⟨id, 0, none⟩) xs.length xs.length, .slice b pile.length pile.length] ∧ xs.length ≤ 13 ∧ pile.length ≤ 1000 ∧ m <+: m' ∧ RdG v3 3 m' (some ⟨id, 0, none⟩) xs ∧ RdI m' b pile
theorem len_le_sum : ∀ {l : List (List Int)} {p : List Int}, p ∈ l → p.length ≤ sumLen l
  | a :: l, p, h => by
    rcases List.mem_cons.1 h with rfl | h
    · simp [sumLen]
    · have := len_le_sum h
      simp only [sumLen, List.map_cons, List.sum_cons] at this ⊢
      omega
theorem pileO_len (xs : List I3) {p : List Int} (hp : p ∈ pilesO xs) (hx : xs.length ≤ 13) : p.length ≤ 13 := by
  have h := pilesO_sum xs
  have := len_le_sum hp
  omega
theorem drawHigh_c (a : Option Addr) (code : List Int) (m : Mem) (h : RdB m a code) (hl : code.length ≤ 1048576) :
    ∃ v m', ACalls Try.prog 47 [.slice a code.length code.length] m v m' ∧ DPile m v m' := by
  obtain ⟨v1, m1, hc1, xs, id, hx, rfl, hb1, hs1, hid, hP1⟩ := l19Draw_c m.length a code 0 (by omega) _ (srcNew h hl)
  simp at hid
  obtain ⟨v2, m2, hc2, A, ids, rfl, hp2, hU⟩ := specPilesU_c xs (some ⟨id, 0, none⟩) m1 hP1.rd (by omega)
  have hp1 : m <+: m1 := hb1.pre ⟨_, rfl⟩ (Nat.le_refl _)
  have hl1 := hb1.len
  simp at hl1
  have hP2 := hP1.pre hp2
  refine ecalls_of_vc Try.func47 rfl Try.fol (by kernel_rfl) ?_
  simp only [Try.f47]
  simp -dsimp -implicitDefEqProofs
  refine callsTo Try.cal74 (l00From_c a code m) ?_
  simp -dsimp -implicitDefEqProofs
  refine callsTo Try.cal75 hc1 ?_
  simp -dsimp -implicitDefEqProofs
  refine callsTo Try.cal42 hc2 ?_
  simp -dsimp -implicitDefEqProofs
  have hs2 : SrcA m.length a code 200 m2 := by obtain ⟨l, rfl⟩ := hp2; exact (hs1.app l).mono (by omega)
  have hbad : ∃ v m', GC m (m2 ++ [⟨[.int .i64 0], 2, 1, 1⟩]) (.tuple #[.slice (some ⟨id, 0, none⟩) xs.length xs.length, .slice (some ⟨m2.length, 0, none⟩) 1 1]) m' v ∧ DPile m v m' :=
    ⟨_, _, GC.refl _ _ _, xs, id, [0], some ⟨m2.length, 0, none⟩, rfl, by omega, by simp, pre_app (hp1.trans hp2) _, (hP2.pre ⟨_, rfl⟩).rd, RdI.of_get (o := ⟨[.int .i64 0], 2, 1, 1⟩) (by simp) (by simp) rfl rfl⟩
  refine sp2 (fun g => hbad) (fun g => sp2 (fun g' => hbad) (fun g' => ?_))
  simp at g'
  have hpos : 0 < (pilesO xs).length := List.length_pos_iff.2 g'
  obtain ⟨v3', m3, hc3, x3, rfl, hx3, hb3, hs3, hl3⟩ := pick_c m.length a code 200 (pilesO xs).length (by omega) m2 hs2
  obtain ⟨w, hw⟩ : ∃ w : Nat, x3 = w := ⟨x3.toNat, by omega⟩
  have hwl : w < (pilesO xs).length := by split at hx3 <;> omega
  subst hw
  have hU3 := hU.rest (restOf (S := [m.length]) hb3 (by simp)) (fun i h1 _ => by simp; omega)
  have hwi : w < ids.length := by rw [hU.len]; exact hwl
  obtain ⟨ip, o, rfl, ho, q1, q2, q3, q4, q5⟩ := hU3.row w hwi hwl
  have hlo := hU3.lo _ (List.getElem_mem hwi)
  have hpl := pileO_len xs (List.getElem_mem hwl) hx
  obtain ⟨v4, m4, hc4, l, ad, rfl, hll, hr4, hs4, hL4, _⟩ := l19Bad_c m.length a code 202 (by omega) ids[w] (pilesO xs)[w] (by omega) xs.length m3 hs3 (by omega) (hU3.each w hwi hwl)
  refine callsTo Try.cal77 hc3 ?_
  simp -dsimp -implicitDefEqProofs
  simp -dsimp -implicitDefEqProofs [withO_of ho, q1, q2, withC_of q5, hwl]
  refine callsTo Try.cal76 hc4 ?_
  simp -dsimp -implicitDefEqProofs
  have hP3 : PotsAt m3 id xs := by obtain ⟨o, o1, o2⟩ := hP2; exact ⟨o, hb3.get _ _ (by omega) o1, o2⟩
  have hidl := hP1.lt
  have hP4 : PotsAt m4 id xs := by obtain ⟨o, o1, o2⟩ := hP3; exact ⟨o, hr4.get _ _ (by simp; omega) o1, o2⟩
  have hp3 : m <+: m3 := hb3.pre (hp1.trans hp2) (Nat.le_refl _)
  exact ⟨_, _, GC.refl _ _ _, xs, id, l, ad, rfl, by omega, by omega, hr4.base hp3 (by simp; omega), hP4.rd, hL4⟩
end Go.Proofs.Ytnipgigpjhalkaa
namespace Go.Proofs.Ytnipgigpjhalkaa
open Go.Abs Go.RowKit Go.Law

def DTwo (m : Mem) (v : Value) (m' : Mem) : Prop := ∃ p q : I3, v = .tuple #[.agg (v3 p).toArray, .agg (v3 q).toArray] ∧ m <+: m'
theorem l19Both_c (a : Option Addr) (code : List Int) (m : Mem) (h : RdB m a code) (hl : code.length ≤ 1048576) :
    ∃ v m', ACalls Try.prog 80 [.slice a code.length code.length] m v m' ∧ DTwo m v m' := by
  obtain ⟨mA, hmA⟩ : ∃ mA : Mem, mA = m ++ [⟨[.int .i64 0, .int .i64 0, .int .i64 0], 26, 3, 1⟩, ⟨[.int .i64 0, .int .i64 0, .int .i64 0], 26, 3, 1⟩] := ⟨_, rfl⟩
  have hA : RdB mA a code := by rw [hmA]; exact ⟨RdG.ext h.1 _, h.2⟩
  have hlA : mA.length = m.length + 2 := by rw [hmA]; simp
  have hs0 := srcNew hA hl
  obtain ⟨mB, hmB⟩ : ∃ mB : Mem, mB = mA ++ [⟨[.slice a code.length code.length, .int .i64 0, .int .u64 0], 96, 3, 1⟩] := ⟨_, rfl⟩
  rw [← hmB] at hs0
  obtain ⟨v1, m1, hc1, p, rfl, hb1, hs1⟩ := l19New_c mA.length a code 0 (by omega) mB hs0
  obtain ⟨mC, hmC⟩ : ∃ mC : Mem, mC = m1 ++ [⟨[.int .i64 p.1, .int .i64 p.2.1, .int .i64 p.2.2], 26, 3, 1⟩] := ⟨_, rfl⟩
  have hlB : mB.length = m.length + 3 := by rw [hmB]; simp; omega
  have hl1 := hb1.len
  have hbC : But mA.length mB mC := by rw [hmC]; exact hb1.trans (But.app _ _ _)
  have hsC : SrcA mA.length a code 6 mC := by rw [hmC]; exact (hs1.app _).mono (by omega)
  have tC : mC[m1.length]? = some ⟨(([p] : List I3).map v3).flatten, 26, 3, 1⟩ := by rw [hmC]; simp [v3]
  obtain ⟨v2, m2, hc2, b2, rfl, hb2, hs2, hl2⟩ := one_c mA.length a code 6 8 (by omega) mC hsC
  have hlC : mC.length = m1.length + 1 := by rw [hmC]; simp
  have t2 := hb2.get _ _ (show m1.length ≠ mA.length by omega) tC
  have hp0 : m <+: mB := by rw [hmB, hmA]; exact ⟨_, by rw [List.append_assoc]⟩
  have w0 : mB[m.length]? = some ⟨[.int .i64 0, .int .i64 0, .int .i64 0], 26, 3, 1⟩ := by rw [hmB, hmA]; simp
  have w1 : mB[m.length + 1]? = some ⟨[.int .i64 0, .int .i64 0, .int .i64 0], 26, 3, 1⟩ := by rw [hmB, hmA]; simp
  have hbB2 : RestS [mA.length, m1.length] mB m2 := restOf (hbC.trans hb2) (by simp)
  have a11 : m.length + 1 + 1 = m.length + 2 := rfl
  refine ecalls_of_vcF [5] Try.func80 rfl Try.fol (by kernel_rfl) ?_
  simp only [Try.f80]
  simp -dsimp -implicitDefEqProofs [hmA.symm, hmB.symm, v3, hmC.symm]
  have hF := l00From_c a code mA
  rw [← hmB] at hF
  simp only [v3] at hc1
  refine callsTo Try.cal74 hF ?_
  simp -dsimp -implicitDefEqProofs [hmA.symm, hmB.symm, v3, hmC.symm]
  refine callsTo Try.cal89 hc1 ?_
  simp -dsimp -implicitDefEqProofs [hmA.symm, hmB.symm, v3, hmC.symm]
  refine callsTo Try.cal78 hc2 ?_
  simp -dsimp -implicitDefEqProofs [hmA.symm, hmB.symm, v3, hmC.symm]
  refine sp2 (fun g => ?_) (fun g => ?_)
  · obtain ⟨v3', m3, hc3, rfl, hr3, hs3, ys, hys, t3⟩ := l19Spoil_c mA.length a code 8 (by omega) m1.length p [] 26 1 (by omega) m2 (hs2.mono (by omega)) (by omega) (by omega) t2
    refine callsTo Try.cal90 hc3 ?_
    simp -dsimp -implicitDefEqProofs [hmA.symm, hmB.symm, v3, hmC.symm]
    match ys, hys, t3 with
    | [q], _, t3 =>
      have hbB3 := hbB2.trans hr3
      obtain ⟨m6, hm6⟩ : ∃ m6, m6 = m3 := ⟨_, rfl⟩
      rw [← hm6]
      rw [← hm6] at hbB3 hs3 t3
      clear hm6
      simp [v3] at t3
      obtain ⟨v7, m7, hc7, r, rfl, hb7, hs7⟩ := l19New_c mA.length a code 12 (by omega) m6 hs3
      have t7 := hb7.get _ _ (show m1.length ≠ mA.length by omega) t3
      have hkeep : m7[m1.length]? = m6[m1.length]? := by rw [t7, t3]
      have hr7 := hbB3.trans (restOf hb7 (by simp))
      have e0 := hr7.get _ _ (show m.length ∉ [mA.length, m1.length] by simp; omega) w0
      have e1 := hr7.get _ _ (show m.length + 1 ∉ [mA.length, m1.length] by simp; omega) w1
      simp only [v3] at hc7
      obtain ⟨m8, hm8⟩ : ∃ m8, m8 = m7.set m.length ⟨[.int .i64 q.1, .int .i64 q.2.1, .int .i64 q.2.2], 26, 3, 1⟩ := ⟨_, rfl⟩
      have f0 : m8[m.length]? = some ⟨[.int .i64 q.1, .int .i64 q.2.1, .int .i64 q.2.2], 26, 3, 1⟩ := by rw [hm8]; exact get_set e0 _
      have f1 : m8[m.length + 1]? = some ⟨[.int .i64 0, .int .i64 0, .int .i64 0], 26, 3, 1⟩ := by rw [hm8, List.getElem?_set_ne (by omega)]; exact e1
      obtain ⟨m9, hm9⟩ : ∃ m9, m9 = m8.set (m.length + 1) ⟨[.int .i64 r.1, .int .i64 r.2.1, .int .i64 r.2.2], 26, 3, 1⟩ := ⟨_, rfl⟩
      have g0 : m9[m.length]? = some ⟨[.int .i64 q.1, .int .i64 q.2.1, .int .i64 q.2.2], 26, 3, 1⟩ := by rw [hm9, List.getElem?_set_ne (by omega)]; exact f0
      have g1 : m9[m.length + 1]? = some ⟨[.int .i64 r.1, .int .i64 r.2.1, .int .i64 r.2.2], 26, 3, 1⟩ := by rw [hm9]; exact get_set f1 _
      have hr9 : RestS [mA.length, m1.length, m.length, m.length + 1] mB m9 := by
        have r1 : RestS [mA.length, m1.length, m.length, m.length + 1] mB m7 := ⟨hr7.len, fun i o h1 h2 => hr7.get i o (by simp at h1 ⊢; omega) h2⟩
        have r2 : RestS [mA.length, m1.length, m.length, m.length + 1] m7 m8 := by rw [hm8]; exact RestS.set _ (by simp) _
        have r3 : RestS [mA.length, m1.length, m.length, m.length + 1] m8 m9 := by rw [hm9]; exact RestS.set _ (by simp) _
        exact (r1.trans r2).trans r3
      refine regF [[], [], [0], [], []] 0 (by kernel_rfl) (by kernel_rfl) ?_
      simp -dsimp -implicitDefEqProofs [v3, withO_of t3, hkeep, withO_of e0, withO_of e1, hm8.symm, hm9.symm, withO_of f1, withO_of g0, withO_of g1]
      refine callsTo Try.cal89 hc7 ?_
      simp -dsimp -implicitDefEqProofs [v3, withO_of t3, hkeep, withO_of e0, withO_of e1, hm8.symm, hm9.symm, withO_of f1, withO_of g0, withO_of g1]
      exact ⟨_, _, GC.refl _ _ _, q, r, by simp [v3], hr9.base hp0 (by simp; omega)⟩
  · have hbB3 := hbB2
    obtain ⟨q, hq⟩ : ∃ q, q = p := ⟨_, rfl⟩
    obtain ⟨m6, hm6⟩ : ∃ m6, m6 = m2 := ⟨_, rfl⟩
    rw [← hm6]
    have hs3 : SrcA mA.length a code (8 + 4) m6 := by rw [hm6]; exact hs2.mono (by omega)
    have t3 : m6[m1.length]? = some ⟨[.int .i64 q.1, .int .i64 q.2.1, .int .i64 q.2.2], 26, 3, 1⟩ := by rw [hm6, hq]; exact t2
    rw [← hm6] at hbB3
    clear hm6
    obtain ⟨v7, m7, hc7, r, rfl, hb7, hs7⟩ := l19New_c mA.length a code 12 (by omega) m6 hs3
    have t7 := hb7.get _ _ (show m1.length ≠ mA.length by omega) t3
    have hkeep : m7[m1.length]? = m6[m1.length]? := by rw [t7, t3]
    have hr7 := hbB3.trans (restOf hb7 (by simp))
    have e0 := hr7.get _ _ (show m.length ∉ [mA.length, m1.length] by simp; omega) w0
    have e1 := hr7.get _ _ (show m.length + 1 ∉ [mA.length, m1.length] by simp; omega) w1
    simp only [v3] at hc7
    obtain ⟨m8, hm8⟩ : ∃ m8, m8 = m7.set m.length ⟨[.int .i64 q.1, .int .i64 q.2.1, .int .i64 q.2.2], 26, 3, 1⟩ := ⟨_, rfl⟩
    have f0 : m8[m.length]? = some ⟨[.int .i64 q.1, .int .i64 q.2.1, .int .i64 q.2.2], 26, 3, 1⟩ := by rw [hm8]; exact get_set e0 _
    have f1 : m8[m.length + 1]? = some ⟨[.int .i64 0, .int .i64 0, .int .i64 0], 26, 3, 1⟩ := by rw [hm8, List.getElem?_set_ne (by omega)]; exact e1
    obtain ⟨m9, hm9⟩ : ∃ m9, m9 = m8.set (m.length + 1) ⟨[.int .i64 r.1, .int .i64 r.2.1, .int .i64 r.2.2], 26, 3, 1⟩ := ⟨_, rfl⟩
    have g0 : m9[m.length]? = some ⟨[.int .i64 q.1, .int .i64 q.2.1, .int .i64 q.2.2], 26, 3, 1⟩ := by rw [hm9, List.getElem?_set_ne (by omega)]; exact f0
    have g1 : m9[m.length + 1]? = some ⟨[.int .i64 r.1, .int .i64 r.2.1, .int .i64 r.2.2], 26, 3, 1⟩ := by rw [hm9]; exact get_set f1 _
    have hr9 : RestS [mA.length, m1.length, m.length, m.length + 1] mB m9 := by
      have r1 : RestS [mA.length, m1.length, m.length, m.length + 1] mB m7 := ⟨hr7.len, fun i o h1 h2 => hr7.get i o (by simp at h1 ⊢; omega) h2⟩
      have r2 : RestS [mA.length, m1.length, m.length, m.length + 1] m7 m8 := by rw [hm8]; exact RestS.set _ (by simp) _
      have r3 : RestS [mA.length, m1.length, m.length, m.length + 1] m8 m9 := by rw [hm9]; exact RestS.set _ (by simp) _
      exact (r1.trans r2).trans r3
    refine regF [[], [], [0], [], []] 0 (by kernel_rfl) (by kernel_rfl) ?_
    simp -dsimp -implicitDefEqProofs [v3, withO_of t3, hkeep, withO_of e0, withO_of e1, hm8.symm, hm9.symm, withO_of f1, withO_of g0, withO_of g1]
    refine callsTo Try.cal89 hc7 ?_
    simp -dsimp -implicitDefEqProofs [v3, withO_of t3, hkeep, withO_of e0, withO_of e1, hm8.symm, hm9.symm, withO_of f1, withO_of g0, withO_of g1]
    exact ⟨_, _, GC.refl _ _ _, q, r, by simp [v3], hr9.base hp0 (by simp; omega)⟩
end Go.Proofs.Ytnipgigpjhalkaa
namespace Go.Proofs.Ytnipgigpjhalkaa
open Go.Abs Go.RowKit Go.Law

theorem drawFits_c (a : Option Addr) (code : List Int) (m : Mem) (h : RdB m a code) (hl : code.length ≤ 1048576) :
    ∃ v m', ACalls Try.prog 50 [.slice a code.length code.length] m v m' ∧ DTwo m v m' := by
  obtain ⟨mA, hmA⟩ : ∃ mA : Mem, mA = m ++ [⟨[.int .i64 0, .int .i64 0, .int .i64 0], 26, 3, 1⟩, ⟨[.int .i64 0, .int .i64 0, .int .i64 0], 26, 3, 1⟩] := ⟨_, rfl⟩
  have hA : RdB mA a code := by rw [hmA]; exact ⟨RdG.ext h.1 _, h.2⟩
  have hpA : m <+: mA := by rw [hmA]; exact ⟨_, rfl⟩
  have w0 : mA[m.length]? = some ⟨[.int .i64 0, .int .i64 0, .int .i64 0], 26, 3, 1⟩ := by rw [hmA]; simp
  have w1 : mA[m.length + 1]? = some ⟨[.int .i64 0, .int .i64 0, .int .i64 0], 26, 3, 1⟩ := by rw [hmA]; simp
  obtain ⟨v1, m1, hc1, q, r, rfl, hp1⟩ := l19Both_c a code mA hA hl
  have e0 := prefix_get hp1 w0
  have e1 := prefix_get hp1 w1
  obtain ⟨m8, hm8⟩ : ∃ m8, m8 = m1.set m.length ⟨[.int .i64 q.1, .int .i64 q.2.1, .int .i64 q.2.2], 26, 3, 1⟩ := ⟨_, rfl⟩
  have f0 : m8[m.length]? = some ⟨[.int .i64 q.1, .int .i64 q.2.1, .int .i64 q.2.2], 26, 3, 1⟩ := by rw [hm8]; exact get_set e0 _
  have f1 : m8[m.length + 1]? = some ⟨[.int .i64 0, .int .i64 0, .int .i64 0], 26, 3, 1⟩ := by rw [hm8, List.getElem?_set_ne (by omega)]; exact e1
  obtain ⟨m9, hm9⟩ : ∃ m9, m9 = m8.set (m.length + 1) ⟨[.int .i64 r.1, .int .i64 r.2.1, .int .i64 r.2.2], 26, 3, 1⟩ := ⟨_, rfl⟩
  have g0 : m9[m.length]? = some ⟨[.int .i64 q.1, .int .i64 q.2.1, .int .i64 q.2.2], 26, 3, 1⟩ := by rw [hm9, List.getElem?_set_ne (by omega)]; exact f0
  have g1 : m9[m.length + 1]? = some ⟨[.int .i64 r.1, .int .i64 r.2.1, .int .i64 r.2.2], 26, 3, 1⟩ := by rw [hm9]; exact get_set f1 _
  have hr9 : RestS [m.length, m.length + 1] m1 m9 := by
    have r2 : RestS [m.length, m.length + 1] m1 m8 := by rw [hm8]; exact RestS.set _ (by simp) _
    have r3 : RestS [m.length, m.length + 1] m8 m9 := by rw [hm9]; exact RestS.set _ (by simp) _
    exact r2.trans r3
  simp only [v3] at hc1
  refine ecalls_of_vc Try.func50 rfl Try.fol (by kernel_rfl) ?_
  simp only [Try.f50]
  simp -dsimp -implicitDefEqProofs [hmA.symm, v3, withO_of e0, withO_of e1, hm8.symm, hm9.symm, withO_of f1, withO_of g0, withO_of g1]
  refine callsTo Try.cal80 hc1 ?_
  simp -dsimp -implicitDefEqProofs [hmA.symm, v3, withO_of e0, withO_of e1, hm8.symm, hm9.symm, withO_of f1, withO_of g0, withO_of g1]
  exact ⟨_, _, GC.refl _ _ _, q, r, by simp [v3], hr9.base (hpA.trans hp1) (by simp)⟩
theorem drawDeep_c (a : Option Addr) (code : List Int) (m : Mem) (h : RdB m a code) (hl : code.length ≤ 1048576) :
    ∃ v m', ACalls Try.prog 49 [.slice a code.length code.length] m v m' ∧ DTwo m v m' := by
  obtain ⟨mA, hmA⟩ : ∃ mA : Mem, mA = m ++ [⟨[.int .i64 0, .int .i64 0, .int .i64 0], 26, 3, 1⟩, ⟨[.int .i64 0, .int .i64 0, .int .i64 0], 26, 3, 1⟩] := ⟨_, rfl⟩
  have hA : RdB mA a code := by rw [hmA]; exact ⟨RdG.ext h.1 _, h.2⟩
  have hpA : m <+: mA := by rw [hmA]; exact ⟨_, rfl⟩
  have hlA : mA.length = m.length + 2 := by rw [hmA]; simp
  have w0 : mA[m.length]? = some ⟨[.int .i64 0, .int .i64 0, .int .i64 0], 26, 3, 1⟩ := by rw [hmA]; simp
  have w1 : mA[m.length + 1]? = some ⟨[.int .i64 0, .int .i64 0, .int .i64 0], 26, 3, 1⟩ := by rw [hmA]; simp
  have hs0 := srcNew hA hl
  obtain ⟨mB, hmB⟩ : ∃ mB : Mem, mB = mA ++ [⟨[.slice a code.length code.length, .int .i64 0, .int .u64 0], 96, 3, 1⟩] := ⟨_, rfl⟩
  rw [← hmB] at hs0
  have hpB : mA <+: mB := by rw [hmB]; exact ⟨_, rfl⟩
  have hlB : mB.length = m.length + 3 := by rw [hmB]; simp; omega
  have hB : RdB mB a code := by rw [hmB]; exact ⟨RdG.ext hA.1 _, hA.2⟩
  obtain ⟨v1, m1, hc1, q, r, rfl, hp1⟩ := l19Both_c a code mB hB hl
  simp only [v3] at hc1
  have hF := l00From_c a code mA
  rw [← hmB] at hF
  obtain ⟨mC, hmC⟩ : ∃ mC : Mem, mC = m1 ++ [⟨[.int .i64 q.1, .int .i64 q.2.1, .int .i64 q.2.2], 26, 3, 1⟩, ⟨[.int .i64 r.1, .int .i64 r.2.1, .int .i64 r.2.2], 26, 3, 1⟩] := ⟨_, rfl⟩
  have hlC : mC.length = m1.length + 2 := by rw [hmC]; simp
  have hpC : m1 <+: mC := by rw [hmC]; exact ⟨_, rfl⟩
  have hl1 := hp1.length_le
  have hpBC := hp1.trans hpC
  have hsC : SrcA mA.length a code 0 mC := by obtain ⟨l, hl⟩ := hpBC; rw [← hl]; exact hs0.app l
  have tq : mC[m1.length]? = some ⟨[.int .i64 q.1, .int .i64 q.2.1, .int .i64 q.2.2], 26, 3, 1⟩ := by rw [hmC]; simp
  have tr : mC[m1.length + 1]? = some ⟨[.int .i64 r.1, .int .i64 r.2.1, .int .i64 r.2.2], 26, 3, 1⟩ := by rw [hmC]; simp
  have hpq : IsP mC m1.length 0 q := ⟨_, tq, by simp, rfl, rfl, rfl⟩
  have k0 := prefix_get (hpB.trans hpBC) w0
  have k1 := prefix_get (hpB.trans hpBC) w1
  have hp0 : m <+: mC := hpA.trans (hpB.trans hpBC)
  refine ecalls_of_vcF [4, 5] Try.func49 rfl Try.fol (by kernel_rfl) ?_
  simp only [Try.f49]
  simp -dsimp -implicitDefEqProofs [hmA.symm, v3, hmC.symm]
  refine callsTo Try.cal74 hF ?_
  simp -dsimp -implicitDefEqProofs [hmA.symm, v3, hmC.symm]
  refine callsTo Try.cal80 hc1 ?_
  simp -dsimp -implicitDefEqProofs [hmA.symm, v3, hmC.symm]
  refine callsTo Try.cal81 (l19One_c _ _ _ _ hpq) ?_
  simp -dsimp -implicitDefEqProofs [hmA.symm, v3, hmC.symm]
  refine sp2 (fun g => ?_) (fun g => ?_)
  · obtain ⟨v2, m2, hc2, b2, rfl, hb2, hs2, hl2⟩ := one_c mA.length a code 0 2 (by omega) mC hsC
    have tq2 := hb2.get _ _ (show m1.length ≠ mA.length by omega) tq
    have tr2 := hb2.get _ _ (show m1.length + 1 ≠ mA.length by omega) tr
    have hr2 : RestS [mA.length, m1.length + 1] mC m2 := restOf hb2 (by simp)
    refine callsTo Try.cal78 hc2 ?_
    simp -dsimp -implicitDefEqProofs [hmA.symm, v3, hmC.symm]
    refine sp2 (fun g' => ?_) (fun g' => ?_)
    · obtain ⟨v3', m3, hc3, x3, rfl, hx3, hb3, hs3, hl3⟩ := pick_c mA.length a code 2 9 (by omega) m2 hs2
      have tq3 := hb3.get _ _ (show m1.length ≠ mA.length by omega) tq2
      have tr3 := hb3.get _ _ (show m1.length + 1 ≠ mA.length by omega) tr2
      have hkeep : m3[m1.length]? = m2[m1.length]? := by rw [tq3, tq2]
      obtain ⟨y, hy⟩ : ∃ y : I3, y = (IntKind.i64.wrap (q.1 + 3), IntKind.i64.wrap (q.2.1 + 2), IntKind.i64.wrap (IntKind.i64.wrap (q.2.2 - 4) + x3)) := ⟨_, rfl⟩
      obtain ⟨m6, hm6⟩ : ∃ m6, m6 = m3.set (m1.length + 1) ⟨[.int .i64 (IntKind.i64.wrap (q.1 + 3)), .int .i64 (IntKind.i64.wrap (q.2.1 + 2)), .int .i64 (IntKind.i64.wrap (IntKind.i64.wrap (q.2.2 - 4) + x3))], 26, 3, 1⟩ := ⟨_, rfl⟩
      have t5 : m6[m1.length]? = some ⟨[.int .i64 q.1, .int .i64 q.2.1, .int .i64 q.2.2], 26, 3, 1⟩ := by rw [hm6, List.getElem?_set_ne (by omega)]; exact tq3
      have t6 : m6[m1.length + 1]? = some ⟨[.int .i64 y.1, .int .i64 y.2.1, .int .i64 y.2.2], 26, 3, 1⟩ := by rw [hm6, hy]; exact get_set tr3 _
      have hr6 : RestS [mA.length, m1.length + 1] mC m6 := (hr2.trans (restOf hb3 (by simp))).trans (by rw [hm6]; exact RestS.set _ (by simp) _)
      have hm6' := hm6.symm
      have hq8 : q.1 = q.1 := rfl
      have e0 := hr6.get _ _ (show m.length ∉ [mA.length, m1.length + 1] by simp; omega) k0
      have e1 := hr6.get _ _ (show m.length + 1 ∉ [mA.length, m1.length + 1] by simp; omega) k1
      obtain ⟨m8, hm8⟩ : ∃ m8, m8 = m6.set m.length ⟨[.int .i64 q.1, .int .i64 q.2.1, .int .i64 q.2.2], 26, 3, 1⟩ := ⟨_, rfl⟩
      have f0 : m8[m.length]? = some ⟨[.int .i64 q.1, .int .i64 q.2.1, .int .i64 q.2.2], 26, 3, 1⟩ := by rw [hm8]; exact get_set e0 _
      have f1 : m8[m.length + 1]? = some ⟨[.int .i64 0, .int .i64 0, .int .i64 0], 26, 3, 1⟩ := by rw [hm8, List.getElem?_set_ne (by omega)]; exact e1
      obtain ⟨m9, hm9⟩ : ∃ m9, m9 = m8.set (m.length + 1) ⟨[.int .i64 y.1, .int .i64 y.2.1, .int .i64 y.2.2], 26, 3, 1⟩ := ⟨_, rfl⟩
      have g0 : m9[m.length]? = some ⟨[.int .i64 q.1, .int .i64 q.2.1, .int .i64 q.2.2], 26, 3, 1⟩ := by rw [hm9, List.getElem?_set_ne (by omega)]; exact f0
      have g1 : m9[m.length + 1]? = some ⟨[.int .i64 y.1, .int .i64 y.2.1, .int .i64 y.2.2], 26, 3, 1⟩ := by rw [hm9]; exact get_set f1 _
      have hr9 : RestS [mA.length, m1.length + 1, m.length, m.length + 1] mC m9 := by
        have r1 : RestS [mA.length, m1.length + 1, m.length, m.length + 1] mC m6 := ⟨hr6.len, fun i o h1 h2 => hr6.get i o (by simp at h1 ⊢; omega) h2⟩
        have r2 : RestS [mA.length, m1.length + 1, m.length, m.length + 1] m6 m8 := by rw [hm8]; exact RestS.set _ (by simp) _
        have r3 : RestS [mA.length, m1.length + 1, m.length, m.length + 1] m8 m9 := by rw [hm9]; exact RestS.set _ (by simp) _
        exact (r1.trans r2).trans r3
      have n1 : ¬ m1.length + 1 = m.length := by omega
      have n2 : ¬ m.length = m1.length + 1 := by omega
      refine regF [[], [], [], [], [], [], [], [], [], [], [1, 4, 7], [], [], []] 0 (by kernel_rfl) (by kernel_rfl) ?_
      simp -dsimp -implicitDefEqProofs [v3, withO_of tq2, hkeep, withO_of tr3, hm6']
      refine callsTo Try.cal77 hc3 ?_
      simp -dsimp -implicitDefEqProofs [v3, withO_of tq2, hkeep, withO_of tr3, hm6']
      refine regF [[], [], [1], []] 0 (by kernel_rfl) (by kernel_rfl) ?_
      simp -dsimp -implicitDefEqProofs [v3, withO_of t5, withO_of t6, withO_of e0, withO_of e1, hm8.symm, hm9.symm, withO_of f1, withO_of g0, withO_of g1, n1, n2]
      exact ⟨_, _, GC.refl _ _ _, q, y, by simp [v3], hr9.base hp0 (by simp; omega)⟩
    · obtain ⟨y, hy⟩ : ∃ y : I3, y = r := ⟨_, rfl⟩
      obtain ⟨m6, hm6⟩ : ∃ m6, m6 = m2 := ⟨_, rfl⟩
      rw [← hm6]
      have t5 := tq2
      have t6 := tr2
      have hr6 := hr2
      rw [← hm6] at t5 t6 hr6
      rw [← hy] at t6
      clear hm6
      have e0 := hr6.get _ _ (show m.length ∉ [mA.length, m1.length + 1] by simp; omega) k0
      have e1 := hr6.get _ _ (show m.length + 1 ∉ [mA.length, m1.length + 1] by simp; omega) k1
      obtain ⟨m8, hm8⟩ : ∃ m8, m8 = m6.set m.length ⟨[.int .i64 q.1, .int .i64 q.2.1, .int .i64 q.2.2], 26, 3, 1⟩ := ⟨_, rfl⟩
      have f0 : m8[m.length]? = some ⟨[.int .i64 q.1, .int .i64 q.2.1, .int .i64 q.2.2], 26, 3, 1⟩ := by rw [hm8]; exact get_set e0 _
      have f1 : m8[m.length + 1]? = some ⟨[.int .i64 0, .int .i64 0, .int .i64 0], 26, 3, 1⟩ := by rw [hm8, List.getElem?_set_ne (by omega)]; exact e1
      obtain ⟨m9, hm9⟩ : ∃ m9, m9 = m8.set (m.length + 1) ⟨[.int .i64 y.1, .int .i64 y.2.1, .int .i64 y.2.2], 26, 3, 1⟩ := ⟨_, rfl⟩
      have g0 : m9[m.length]? = some ⟨[.int .i64 q.1, .int .i64 q.2.1, .int .i64 q.2.2], 26, 3, 1⟩ := by rw [hm9, List.getElem?_set_ne (by omega)]; exact f0
      have g1 : m9[m.length + 1]? = some ⟨[.int .i64 y.1, .int .i64 y.2.1, .int .i64 y.2.2], 26, 3, 1⟩ := by rw [hm9]; exact get_set f1 _
      have hr9 : RestS [mA.length, m1.length + 1, m.length, m.length + 1] mC m9 := by
        have r1 : RestS [mA.length, m1.length + 1, m.length, m.length + 1] mC m6 := ⟨hr6.len, fun i o h1 h2 => hr6.get i o (by simp at h1 ⊢; omega) h2⟩
        have r2 : RestS [mA.length, m1.length + 1, m.length, m.length + 1] m6 m8 := by rw [hm8]; exact RestS.set _ (by simp) _
        have r3 : RestS [mA.length, m1.length + 1, m.length, m.length + 1] m8 m9 := by rw [hm9]; exact RestS.set _ (by simp) _
        exact (r1.trans r2).trans r3
      have n1 : ¬ m1.length + 1 = m.length := by omega
      have n2 : ¬ m.length = m1.length + 1 := by omega
      refine regF [[], [], [1], []] 0 (by kernel_rfl) (by kernel_rfl) ?_
      simp -dsimp -implicitDefEqProofs [v3, withO_of t5, withO_of t6, withO_of e0, withO_of e1, hm8.symm, hm9.symm, withO_of f1, withO_of g0, withO_of g1, n1, n2]
      exact ⟨_, _, GC.refl _ _ _, q, y, by simp [v3], hr9.base hp0 (by simp; omega)⟩
  · obtain ⟨y, hy⟩ : ∃ y : I3, y = r := ⟨_, rfl⟩
    obtain ⟨m6, hm6⟩ : ∃ m6, m6 = mC := ⟨_, rfl⟩
    rw [← hm6]
    have t5 := tq
    have t6 := tr
    have hr6 : RestS [mA.length, m1.length + 1] mC m6 := by rw [hm6]; exact RestS.refl _ _
    rw [← hm6] at t5 t6
    rw [← hy] at t6
    clear hm6
    have e0 := hr6.get _ _ (show m.length ∉ [mA.length, m1.length + 1] by simp; omega) k0
    have e1 := hr6.get _ _ (show m.length + 1 ∉ [mA.length, m1.length + 1] by simp; omega) k1
    obtain ⟨m8, hm8⟩ : ∃ m8, m8 = m6.set m.length ⟨[.int .i64 q.1, .int .i64 q.2.1, .int .i64 q.2.2], 26, 3, 1⟩ := ⟨_, rfl⟩
    have f0 : m8[m.length]? = some ⟨[.int .i64 q.1, .int .i64 q.2.1, .int .i64 q.2.2], 26, 3, 1⟩ := by rw [hm8]; exact get_set e0 _
    have f1 : m8[m.length + 1]? = some ⟨[.int .i64 0, .int .i64 0, .int .i64 0], 26, 3, 1⟩ := by rw [hm8, List.getElem?_set_ne (by omega)]; exact e1
    obtain ⟨m9, hm9⟩ : ∃ m9, m9 = m8.set (m.length + 1) ⟨[.int .i64 y.1, .int .i64 y.2.1, .int .i64 y.2.2], 26, 3, 1⟩ := ⟨_, rfl⟩
    have g0 : m9[m.length]? = some ⟨[.int .i64 q.1, .int .i64 q.2.1, .int .i64 q.2.2], 26, 3, 1⟩ := by rw [hm9, List.getElem?_set_ne (by omega)]; exact f0
    have g1 : m9[m.length + 1]? = some ⟨[.int .i64 y.1, .int .i64 y.2.1, .int .i64 y.2.2], 26, 3, 1⟩ := by rw [hm9]; exact get_set f1 _
    have hr9 : RestS [mA.length, m1.length + 1, m.length, m.length + 1] mC m9 := by
      have r1 : RestS [mA.length, m1.length + 1, m.length, m.length + 1] mC m6 := ⟨hr6.len, fun i o h1 h2 => hr6.get i o (by simp at h1 ⊢; omega) h2⟩
      have r2 : RestS [mA.length, m1.length + 1, m.length, m.length + 1] m6 m8 := by rw [hm8]; exact RestS.set _ (by simp) _
      have r3 : RestS [mA.length, m1.length + 1, m.length, m.length + 1] m8 m9 := by rw [hm9]; exact RestS.set _ (by simp) _
      exact (r1.trans r2).trans r3
    have n1 : ¬ m1.length + 1 = m.length := by omega
    have n2 : ¬ m.length = m1.length + 1 := by omega
    refine regF [[], [], [1], []] 0 (by kernel_rfl) (by kernel_rfl) ?_
    simp -dsimp -implicitDefEqProofs [v3, withO_of t5, withO_of t6, withO_of e0, withO_of e1, hm8.symm, hm9.symm, withO_of f1, withO_of g0, withO_of g1, n1, n2]
    exact ⟨_, _, GC.refl _ _ _, q, y, by simp [v3], hr9.base hp0 (by simp; omega)⟩
end Go.Proofs.Ytnipgigpjhalkaa
namespace Go.Proofs.Ytnipgigpjhalkaa
open Go.Abs Go.RowKit Go.Law

theorem rdRest {S : List Nat} {m m' : Mem} {ad : Option Addr} {l : List Int} (hr : RestS S m m') (h : RdI m ad l) (hx : ∀ x, ad = some x → 0 < l.length → x.block ∉ S) : RdI m' ad l := by
  obtain ⟨h1, h2, h3⟩ := h
  refine ⟨h1, h2, fun hn => ?_⟩
  obtain ⟨id, off, o, rfl, hm, g⟩ := h3 hn
  exact ⟨id, off, o, rfl, hr.get id o (hx _ rfl hn) hm, g⟩
theorem rdLt {m : Mem} {ad : Option Addr} {l : List Int} (h : RdI m ad l) : ∀ x, ad = some x → 0 < l.length → x.block < m.length := fun x hx hn => by
  obtain ⟨id, off, o, rfl, hm, _⟩ := h.at_ hn
  injection hx with hx
  subst hx
  exact lt_of_get hm
/-- Piles that may share what they hold. -/
structure PF (lo : Nat) (m : Mem) (ip : Nat) (o : AObj) (zs : List (List Int)) : Prop where
  o_at : m[ip]? = some o
  k1 : 1 ≤ o.kind
  k2 : o.kind ≤ 2
  sz : o.sz = 1
  el : o.elem = 38
  clen : o.cells.length = zs.length
  lo_ : lo ≤ ip
  row : ∀ j (h : j < zs.length), ∃ ad, o.cells[j]? = some (.slice ad zs[j].length zs[j].length) ∧ RdI m ad zs[j] ∧ zs[j].length ≤ 1000 ∧ ∀ x, ad = some x → 0 < zs[j].length → lo ≤ x.block ∧ x.block ≠ ip
theorem PF.rd {lo : Nat} {m : Mem} {ip : Nat} {o : AObj} {zs : List (List Int)} (h : PF lo m ip o zs) : RdSS m (some ⟨ip, 0, none⟩) zs := fun j hj => by
  obtain ⟨ad, h1, h2, _, _⟩ := h.row j hj
  exact ⟨ip, 0, o, ad, rfl, h.o_at, h.k2, h.sz, by rw [Nat.zero_add]; exact h1, h2⟩
theorem PF.le {lo : Nat} {m : Mem} {ip : Nat} {o : AObj} {zs : List (List Int)} (h : PF lo m ip o zs) : ∀ p ∈ zs, p.length ≤ 1000 := fun p hp => by
  obtain ⟨j, hj, rfl⟩ := List.getElem_of_mem hp
  exact (h.row j hj).choose_spec.2.2.1
theorem PF.rest {lo : Nat} {S : List Nat} {m m' : Mem} {ip : Nat} {o : AObj} {zs : List (List Int)} (h : PF lo m ip o zs) (hr : RestS S m m') (hs : ∀ i ∈ S, i < lo) : PF lo m' ip o zs := by
  have hlo := h.lo_
  refine ⟨hr.get _ _ (fun hi => by have := hs _ hi; omega) h.o_at, h.k1, h.k2, h.sz, h.el, h.clen, h.lo_, fun j hj => ?_⟩
  obtain ⟨ad, h1, h2, h3, h4⟩ := h.row j hj
  exact ⟨ad, h1, rdRest hr h2 (fun x hx hn hi => by have := hs _ hi; have := (h4 x hx hn).1; omega), h3, h4⟩
theorem PF.pre {lo : Nat} {m m' : Mem} {ip : Nat} {o : AObj} {zs : List (List Int)} (h : PF lo m ip o zs) (hp : m <+: m') : PF lo m' ip o zs := h.rest (S := []) (RestS.of_pre hp) (by simp)
theorem PF.of {lo : Nat} {m : Mem} {ip : Nat} {o : AObj} {ids : List Nat} {zs : List (List Int)} (h : PAt lo m ip o ids zs) (hz : ∀ p ∈ zs, p.length ≤ 1000) : PF lo m ip o zs :=
  ⟨h.o_at, h.k1, h.k2, h.sz, h.el, by rw [h.cells, slicesV_length h.len], h.lo_, fun j hj => by
    have hj2 : j < ids.length := by rw [h.len]; exact hj
    refine ⟨some ⟨ids[j], 0, none⟩, by rw [h.cells]; exact slicesV_get hj2 hj, (h.each j hj2 hj).rd, hz _ (List.getElem_mem hj), fun x hx _ => ?_⟩
    injection hx with hx
    subst hx
    exact h.los _ (List.getElem_mem hj2)⟩
/-- A pile more. -/
theorem PF.push {lo : Nat} {m m2 : Mem} {ip ip2 e : Nat} {o : AObj} {zs : List (List Int)} {p : List Int} (h : PF lo m ip o zs) (hp : IntsAt m e p) (hpl : p.length ≤ 1000) (he : lo ≤ e) (hne : e ≠ ip)
    (hg : Grown m ip ⟨o.cells ++ [.slice (some ⟨e, 0, none⟩) p.length p.length], 38, 1, 2⟩ m2 ip2) : PF lo m2 ip2 ⟨o.cells ++ [.slice (some ⟨e, 0, none⟩) p.length p.length], 38, 1, 2⟩ (zs ++ [p]) := by
  have hipl := lt_of_get h.o_at
  have hlo := h.lo_
  have hel := hp.lt
  have hr : RestS [ip] m m2 := ⟨by rw [hg.len]; omega, fun i o' h1 h2 => hg.old i o' (by simpa using h1) h2⟩
  have hcl := h.clen
  refine ⟨hg.new, by simp, by simp, rfl, rfl, by simp [hcl], by rw [hg.at_]; omega, fun j hj => ?_⟩
  by_cases hjz : j < zs.length
  · obtain ⟨ad, h1, h2, h3, h4⟩ := h.row j hjz
    have e1 : (zs ++ [p])[j] = zs[j] := List.getElem_append_left hjz
    rw [e1]
    refine ⟨ad, by rw [List.getElem?_append_left (by omega)]; exact h1, rdRest hr h2 (fun x hx hn hi => ?_), h3, fun x hx hn => ⟨(h4 x hx hn).1, ?_⟩⟩
    · simp at hi; exact (h4 x hx hn).2 hi
    · have := rdLt h2 x hx hn
      rw [hg.at_]; omega
  · have hje : j = zs.length := by simp at hj; omega
    subst hje
    have e1 : (zs ++ [p])[zs.length] = p := by simp
    rw [e1]
    have hp2 : IntsAt m2 e p := by obtain ⟨oe, o1, o2⟩ := hp; exact ⟨oe, hg.old _ _ hne o1, o2⟩
    refine ⟨some ⟨e, 0, none⟩, by simp [← hcl], hp2.rd, hpl, fun x hx _ => ?_⟩
    injection hx with hx
    subst hx
    exact ⟨he, by rw [hg.at_]; simp; omega⟩
/-- The first pile exchanged. -/
theorem PF.set0 {lo : Nat} {m m' : Mem} {ip : Nat} {o : AObj} {zs : List (List Int)} (h : PF lo m ip o zs) (hz : 0 < zs.length) {l : List Int} {ad : Option Addr} {is i0 : Nat} {m3 : Mem}
    (hm : RestS [is, i0] m m3) (his : is < lo) (hi0 : i0 ≠ ip) (hsep : ∀ j (hj : j < zs.length), 0 < j → ∀ x, (o.cells[j]? = some (.slice (some x) zs[j].length zs[j].length)) → x.block ≠ i0)
    (hrd : RdI m3 ad l) (hl : l.length ≤ 1000) (hx : ∀ x, ad = some x → lo ≤ x.block ∧ x.block ≠ ip) (he : m' = m3.set ip ⟨o.cells.set 0 (.slice ad l.length l.length), o.elem, 1, o.kind⟩) :
    PF lo m' ip ⟨o.cells.set 0 (.slice ad l.length l.length), o.elem, 1, o.kind⟩ (zs.set 0 l) := by
  have hlo := h.lo_
  have h3 := hm.get _ _ (show ip ∉ [is, i0] by simp; omega) h.o_at
  have hcl := h.clen
  have hr : RestS [ip] m3 m' := by rw [he]; exact RestS.set _ (by simp) _
  refine ⟨by rw [he]; exact get_set h3 _, h.k1, h.k2, rfl, h.el, by simp [hcl], h.lo_, fun j hj => ?_⟩
  cases j with
  | zero =>
    have e1 : (zs.set 0 l)[0] = l := by simp
    rw [e1]
    exact ⟨ad, by simp [show 0 < o.cells.length by omega], rdRest hr hrd (fun x hx' _ hi => by simp at hi; exact (hx x hx').2 hi), hl, fun x hx' _ => hx x hx'⟩
  | succ j =>
    have hj2 : j + 1 < zs.length := by simpa using hj
    have e1 : (zs.set 0 l)[j + 1] = zs[j + 1] := by simp
    rw [e1]
    obtain ⟨ad2, q1, q2, q3, q4⟩ := h.row (j + 1) hj2
    refine ⟨ad2, by rw [List.getElem?_set_ne (by omega)]; exact q1, ?_, q3, q4⟩
    have hm3 : RdI m3 ad2 zs[j + 1] := by
      obtain ⟨h1, h2, h4⟩ := q2
      refine ⟨h1, h2, fun hn => ?_⟩
      obtain ⟨id, off, ob, rfl, hmm, g⟩ := h4 hn
      have n1 := hsep (j + 1) hj2 (by omega) _ q1
      have n2 := (q4 _ rfl hn).1
      simp only at n1 n2
      exact ⟨id, off, ob, rfl, hm.get id ob (by simp; omega) hmm, g⟩
    exact rdRest hr hm3 (fun x hx' hn hi => by simp at hi; exact (q4 x hx' hn).2 hi)
/-- A copy of one's own. -/
theorem own_c (xs : List Int) (a : Option Addr) (m : Mem) (hr : RdI m a xs) (hn : xs.length ≤ 1048576) :
    ∃ v m', ACalls Try.prog 79 [.slice a xs.length xs.length] m v m' ∧ ∃ id, v = .slice (some ⟨id, 0, none⟩) xs.length xs.length ∧ m <+: m' ∧ m.length ≤ id ∧ IntsAt m' id xs := by
  refine ecalls_of_vc Try.func79 rfl Try.fol (by kernel_rfl) ?_
  simp only [Try.f79]
  simp -dsimp -implicitDefEqProofs
  refine appTo_grow (e := 2) (sz := 1) (by_ := 8) (z := .int .i64 0) (by kernel_rfl) (by kernel_rfl) ⟨by decide, rfl⟩ (o := ⟨[], 2, 1, 1⟩) (by simp) (by simp) ⟨rfl, rfl⟩ rfl (by omega) (Src.rdI (hr.ext _)) ?_
  intro m2 id2 hg
  simp -dsimp -implicitDefEqProofs
  exact ⟨_, _, GC.refl _ _ _, id2, rfl, hg.pre m ⟨_, rfl⟩ (Nat.le_refl _), by rw [hg.at_]; simp, ⟨_, hg.new, by simp, by simp, rfl, rfl, by simp⟩⟩
end Go.Proofs.Ytnipgigpjhalkaa
namespace Go.Proofs.Ytnipgigpjhalkaa
open Go.Abs Go.RowKit Go.Law

/-- Pots and piles. -/
def DPiles (m : Mem) (v : Value) (m' : Mem) : Prop :=
  ∃ (xs : List I3) (id : Nat) (zs : List (List Int)) (b : Option Addr), v = .tuple #[.slice (some ⟨id, 0, none⟩) xs.length xs.length, .slice b zs.length zs.length] ∧ xs.length ≤ 13 ∧ zs.length ≤ 1000 ∧ (∀ p ∈ zs, p.length ≤ 1000) ∧ m <+: m' ∧ RdG v3 3 m' (some ⟨id, 0, none⟩) xs ∧ RdSS m' b zs
set_option maxRecDepth 20000 in
set_option maxHeartbeats 1600000 in
theorem drawFloor_c (a : Option Addr) (code : List Int) (m : Mem) (h : RdB m a code) (hl : code.length ≤ 1048576) :
    ∃ v m', ACalls Try.prog 48 [.slice a code.length code.length] m v m' ∧ DPiles m v m' := by
  obtain ⟨v1, m1, hc1, xs, id, hx, rfl, hb1, hs1, hid, hP1⟩ := l19Draw_c m.length a code 0 (by omega) _ (srcNew h hl)
  simp at hid
  obtain ⟨v2, m2, hc2, hpost⟩ := specPiles_c xs (some ⟨id, 0, none⟩) m1 hP1.rd (by omega)
  have hp1 : m <+: m1 := hb1.pre ⟨_, rfl⟩ (Nat.le_refl _)
  have hl1 := hb1.len
  simp at hl1
  have hidl := hP1.lt
  rcases hpost with ⟨hf, rfl, hp2⟩ | ⟨ht, ip, o, ids, rfl, hp2, hA⟩
  · refine ecalls_of_vc Try.func48 rfl Try.fol (by kernel_rfl) ?_
    simp only [Try.f48]
    simp -dsimp -implicitDefEqProofs
    refine callsTo Try.cal74 (l00From_c a code m) ?_
    simp -dsimp -implicitDefEqProofs
    refine callsTo Try.cal75 hc1 ?_
    simp -dsimp -implicitDefEqProofs
    refine callsTo Try.cal42 hc2 ?_
    simp -dsimp -implicitDefEqProofs
    exact ⟨_, _, GC.refl _ _ _, xs, id, [], some ⟨m2.length, 0, none⟩, rfl, by omega, by simp, by simp, pre_app (hp1.trans hp2) _, (hP1.pre (pre_app hp2 _)).rd, fun j hj => by simp at hj⟩
  have hs2 : SrcA m.length a code 200 m2 := by obtain ⟨l, rfl⟩ := hp2; exact (hs1.app l).mono (by omega)
  have hO : pilesO xs = pilesP xs := by simp [pilesO, ht]
  obtain ⟨zs, hzs⟩ : ∃ zs, zs = pilesP xs := ⟨_, rfl⟩
  have hzl : zs.length ≤ 13 := by rw [hzs]; have := pilesTo_le xs xs.length (Nat.le_refl _); show (pilesTo xs xs.length).length ≤ 13; omega
  have hz1 : ∀ p ∈ zs, p.length ≤ 13 := fun p hp => pileO_len xs (by rw [hO, ← hzs]; exact hp) hx
  rw [← hzs] at hc2 hA
  have hPA := PF.of hA (fun p hp => by have := hz1 p hp; omega)
  have hP2 := hP1.pre hp2
  have hp26 := hp2
  have hlo := hPA.lo_
  have hml2 := hp2.length_le
  refine ecalls_of_vc Try.func48 rfl Try.fol (by kernel_rfl) ?_
  simp only [Try.f48]
  simp -dsimp -implicitDefEqProofs
  refine callsTo Try.cal74 (l00From_c a code m) ?_
  simp -dsimp -implicitDefEqProofs
  refine callsTo Try.cal75 hc1 ?_
  simp -dsimp -implicitDefEqProofs
  refine callsTo Try.cal42 hc2 ?_
  simp -dsimp -implicitDefEqProofs
  by_cases hz : 0 < zs.length
  · obtain ⟨v3', m3, hc3, b3, rfl, hb3, hs3, hl3⟩ := one_c m.length a code 200 3 (by omega) m2 hs2
    have hP3 := hPA.rest (restOf (S := [m.length]) hb3 (by simp)) (by simp; omega)
    have hx3 : PotsAt m3 id xs := by obtain ⟨oo, o1, o2⟩ := hP2; exact ⟨oo, hb3.get _ _ (by omega) o1, o2⟩
    have hp3 : m <+: m3 := hb3.pre (hp1.trans hp2) (Nat.le_refl _)
    simp -dsimp -implicitDefEqProofs [hz]
    refine callsTo Try.cal78 hc3 ?_
    simp -dsimp -implicitDefEqProofs [hz]
    refine sp2 (fun gB => ?_) (fun gB => ?_)
    · have hz2 : 0 < ids.length := by rw [hA.len]; exact hz
      have hloi := hA.los _ (List.getElem_mem hz2)
      have hI0 : IntsAt m3 ids[0] zs[0] := by obtain ⟨oo, o1, o2⟩ := hA.each 0 hz2 hz; exact ⟨oo, hb3.get _ _ (by omega) o1, o2⟩
      have hz13 := hz1 _ (List.getElem_mem hz)
      obtain ⟨v4, m4, hc4, l, ad, rfl, hll, hr4, hs4, hL4, had⟩ := l19Bad_c m.length a code 202 (by omega) ids[0] zs[0] (by omega) xs.length m3 hs3 (by omega) hI0
      have hq0 : o.cells[0]? = some (.slice (some ⟨ids[0], 0, none⟩) zs[0].length zs[0].length) := by rw [hA.cells]; exact slicesV_get hz2 hz
      have h4o := hr4.get _ _ (show ip ∉ [m.length, ids[0]] by simp; omega) hP3.o_at
      have hocl : 0 < o.cells.length := by rw [hPA.clen]; exact hz
      obtain ⟨mX, hmX⟩ : ∃ mX, mX = m4.set ip ⟨o.cells.set 0 (.slice ad l.length l.length), o.elem, 1, o.kind⟩ := ⟨_, rfl⟩
      have hmX' := hmX.symm
      have hipl3 := lt_of_get hP3.o_at
      have hl34 := hr4.len
      have hPX0 := hP3.set0 (m' := mX) hz (l := l) (ad := ad) (i0 := ids[0]) (m3 := m4) (is := m.length) hr4 (by omega) hloi.2 (fun j hj hj0 x hx' => by
          have hj2 : j < ids.length := by rw [hA.len]; exact hj
          rw [hA.cells, slicesV_get hj2 hj] at hx'
          injection hx' with hx'
          injection hx' with hx'
          injection hx' with hx'
          subst hx'
          exact nodup_get hA.nd hj2 hz2 (by omega)) hL4 (by omega) (fun x hx' => by rcases had x hx' with e | e <;> omega) hmX
      have hk2 := hP3.k2
      have h4f := withO_of h4o
      simp -dsimp -implicitDefEqProofs [hz, withO_of hP3.o_at, hk2, hP3.sz, withC_of hq0, withO_of h4o, hP3.k1]
      refine callsTo Try.cal76 hc4 ?_
      simp -dsimp -implicitDefEqProofs [hz, withO_of hP3.o_at, hk2, hP3.sz, withC_of hq0, withO_of h4o, hP3.k1]
      refine need_intro (by omega) ?_
      rw [hmX']
      obtain ⟨zsX, hzsX⟩ : ∃ zsX, zsX = zs.set 0 l := ⟨_, rfl⟩
      rw [← hzsX] at hPX0
      have hlX : zsX.length = zs.length := by rw [hzsX]; simp
      have hsX : SrcA m.length a code 206 mX := by rw [hmX]; exact (hs4.keep (But.set (is := ip) m4 _) (by omega) (fun h0 z hz' => by have := hs4.off h0 z hz'; omega)).mono (by omega)
      have hp4 : m <+: m4 := hr4.base hp3 (by simp; omega)
      have hpX : m <+: mX := by rw [hmX]; exact pre_set hp4 (by omega) _
      have hxX : PotsAt mX id xs := by obtain ⟨oo, o1, o2⟩ := hx3; exact ⟨oo, by rw [hmX, List.getElem?_set_ne (by omega)]; exact hr4.get _ _ (by simp; omega) o1, o2⟩
      have hPX := hPX0
      obtain ⟨v5, m5, hc5, b5, rfl, hb5, hs5, hl5⟩ := one_c m.length a code 300 16 (by omega) mX (hsX.mono (by omega))
      have hP5 := hPX.rest (restOf (S := [m.length]) hb5 (by simp)) (by simp; omega)
      have hp5 : m <+: m5 := hb5.pre hpX (Nat.le_refl _)
      have hx5 : PotsAt m5 id xs := by obtain ⟨oo, o1, o2⟩ := hxX; exact ⟨oo, hb5.get _ _ (by omega) o1, o2⟩
      have hl5' := hb5.len
      refine callsTo Try.cal78 hc5 ?_
      simp -dsimp -implicitDefEqProofs [hz]
      refine sp2 (fun gT => ?_) (fun gT => ?_)
      · have hzp := hz
        obtain ⟨v6, m6, hc6, x6, rfl, hx6, hb6, hs6, hl6⟩ := pick_c m.length a code 302 2 (by omega) m5 hs5
        have hP6 := hP5.rest (restOf (S := [m.length]) hb6 (by simp)) (by simp; omega)
        have hx6' : 0 ≤ x6 ∧ x6 ≤ 1 := by split at hx6 <;> omega
        have hw6 : IntKind.i64.wrap (12 + x6) = 12 + x6 := wrapI (by omega) (by omega)
        obtain ⟨n, hnn⟩ : ∃ n : Nat, (n : Int) = 12 + x6 := ⟨(12 + x6).toNat, by omega⟩
        have hp6 : m <+: m6 := hb6.pre hp5 (Nat.le_refl _)
        have hx6P : PotsAt m6 id xs := by obtain ⟨oo, o1, o2⟩ := hx5; exact ⟨oo, hb6.get _ _ (by omega) o1, o2⟩
        have hml6 := hb6.len
        refine callsTo Try.cal77 hc6 ?_
        simp -dsimp -implicitDefEqProofs [hz, hzp, hw6]
        rw [hw6, ← hnn]
        refine loopN (n - zs.length) (fun k σ m' => ∃ ip o zs', ((zs'.length = zs.length + k ∧ 0 < zs'.length) ∧ (m <+: m' ∧ PotsAt m' id xs) ∧ PF m1.length m' ip o zs') ∧ σ 5 = some (.slice (some ⟨id, 0, none⟩) xs.length xs.length) ∧ σ 6 = some (.slice (some ⟨ip, 0, none⟩) zs'.length zs'.length) ∧ σ 8 = some (.int .i64 n))
          ⟨ip, _, zsX, ⟨⟨hlX, by omega⟩, ⟨hp6, hx6P⟩, hP6⟩, by simp, by simp [hlX], by simp⟩ ?_
        rintro k σ m' hk ⟨ip', o', zs', ⟨⟨hlz, hpos⟩, ⟨hpm, hxm⟩, hP'⟩, s5, s6, s8⟩
        by_cases hlt : k < n - zs.length
        · have hln : zs'.length < n := by omega
          obtain ⟨ad, q1, q2, q3, q4⟩ := hP'.row 0 hpos
          obtain ⟨v7, m7, hc7, e, rfl, hp7, he7, hI7⟩ := own_c zs'[0] ad m' q2 (by omega)
          have hP7 := hP'.pre hp7
          have hipl := lt_of_get hP'.o_at
          have hml := hpm.length_le
          simp -dsimp -implicitDefEqProofs [s5, s6, s8, hln, hpos, withO_of hP'.o_at, hP'.k2, hP'.sz, withC_of q1]
          refine callsTo Try.cal79 hc7 ?_
          simp -dsimp -implicitDefEqProofs [s5, s6, s8, hln, hpos, withO_of hP'.o_at, hP'.k2, hP'.sz, withC_of q1]
          refine appTo_grow (e := 38) (sz := 1) (by_ := 24) (z := .slice none 0 0) (by kernel_rfl) (by kernel_rfl) ⟨by decide, rfl⟩ (o := o') (get_old hP7.o_at) ⟨hP7.k1, hP7.k2⟩ ⟨hP7.sz, hP7.el⟩ (by rw [hP7.clen]; simp) (by omega) (Src.obj (o := ⟨[.slice (some ⟨e, 0, none⟩) zs'[0].length zs'[0].length], 38, 1, 1⟩) (by simp) (by simp) rfl rfl) ?_
          intro m8 id8 hg
          have hlo := hP7.lo_
          have hP8 := (hP7.pre (pre_app (pre_refl _) _)).push (hI7.pre (pre_app (pre_refl _) _)) q3 (by omega) (by omega) hg
          have hp8 : m <+: m8 := hg.pre m (pre_app (hpm.trans hp7) _) (by omega)
          have hx8 : PotsAt m8 id xs := by obtain ⟨oo, o1, o2⟩ := hxm; exact ⟨oo, hg.old _ _ (by omega) (get_old (prefix_get hp7 o1)), o2⟩
          simp -dsimp -implicitDefEqProofs [s5, s6, s8, hln, hpos, withO_of hP'.o_at, hP'.k2, hP'.sz, withC_of q1]
          exact next_ hlt ⟨id8, _, zs' ++ [zs'[0]], ⟨⟨by simp; omega, by simp⟩, ⟨hp8, hx8⟩, hP8⟩, by simp [s5], by simp, by simp [s8]⟩
        · have hln : ¬ zs'.length < n := by omega
          simp -dsimp -implicitDefEqProofs [s5, s6, s8, hln]
          exact ⟨_, _, GC.refl _ _ _, xs, id, zs', some ⟨ip', 0, none⟩, rfl, by omega, by omega, hP'.le, hpm, hxm.rd, hP'.rd⟩
      · exact ⟨_, _, GC.refl _ _ _, xs, id, zsX, some ⟨ip, 0, none⟩, by simp [hlX], by omega, by omega, hP5.le, hp5, hx5.rd, hP5.rd⟩
    · obtain ⟨zsX, hzsX⟩ : ∃ zsX, zsX = zs := ⟨_, rfl⟩
      have hlX : zsX.length = zs.length := by rw [hzsX]
      have hPX := hP3
      rw [← hzsX] at hPX
      have hsX := hs3
      have hpX := hp3
      have hxX := hx3
      obtain ⟨mX, hmX⟩ : ∃ mX, mX = m3 := ⟨_, rfl⟩
      rw [← hmX] at hPX hsX hpX hxX
      rw [← hmX]
      obtain ⟨v5, m5, hc5, b5, rfl, hb5, hs5, hl5⟩ := one_c m.length a code 300 16 (by omega) mX (hsX.mono (by omega))
      have hP5 := hPX.rest (restOf (S := [m.length]) hb5 (by simp)) (by simp; omega)
      have hp5 : m <+: m5 := hb5.pre hpX (Nat.le_refl _)
      have hx5 : PotsAt m5 id xs := by obtain ⟨oo, o1, o2⟩ := hxX; exact ⟨oo, hb5.get _ _ (by omega) o1, o2⟩
      have hl5' := hb5.len
      refine callsTo Try.cal78 hc5 ?_
      simp -dsimp -implicitDefEqProofs [hz]
      refine sp2 (fun gT => ?_) (fun gT => ?_)
      · have hzp := hz
        obtain ⟨v6, m6, hc6, x6, rfl, hx6, hb6, hs6, hl6⟩ := pick_c m.length a code 302 2 (by omega) m5 hs5
        have hP6 := hP5.rest (restOf (S := [m.length]) hb6 (by simp)) (by simp; omega)
        have hx6' : 0 ≤ x6 ∧ x6 ≤ 1 := by split at hx6 <;> omega
        have hw6 : IntKind.i64.wrap (12 + x6) = 12 + x6 := wrapI (by omega) (by omega)
        obtain ⟨n, hnn⟩ : ∃ n : Nat, (n : Int) = 12 + x6 := ⟨(12 + x6).toNat, by omega⟩
        have hp6 : m <+: m6 := hb6.pre hp5 (Nat.le_refl _)
        have hx6P : PotsAt m6 id xs := by obtain ⟨oo, o1, o2⟩ := hx5; exact ⟨oo, hb6.get _ _ (by omega) o1, o2⟩
        have hml6 := hb6.len
        refine callsTo Try.cal77 hc6 ?_
        simp -dsimp -implicitDefEqProofs [hz, hzp, hw6]
        rw [hw6, ← hnn]
        refine loopN (n - zs.length) (fun k σ m' => ∃ ip o zs', ((zs'.length = zs.length + k ∧ 0 < zs'.length) ∧ (m <+: m' ∧ PotsAt m' id xs) ∧ PF m1.length m' ip o zs') ∧ σ 5 = some (.slice (some ⟨id, 0, none⟩) xs.length xs.length) ∧ σ 6 = some (.slice (some ⟨ip, 0, none⟩) zs'.length zs'.length) ∧ σ 8 = some (.int .i64 n))
          ⟨ip, _, zsX, ⟨⟨hlX, by omega⟩, ⟨hp6, hx6P⟩, hP6⟩, by simp, by simp [hlX], by simp⟩ ?_
        rintro k σ m' hk ⟨ip', o', zs', ⟨⟨hlz, hpos⟩, ⟨hpm, hxm⟩, hP'⟩, s5, s6, s8⟩
        by_cases hlt : k < n - zs.length
        · have hln : zs'.length < n := by omega
          obtain ⟨ad, q1, q2, q3, q4⟩ := hP'.row 0 hpos
          obtain ⟨v7, m7, hc7, e, rfl, hp7, he7, hI7⟩ := own_c zs'[0] ad m' q2 (by omega)
          have hP7 := hP'.pre hp7
          have hipl := lt_of_get hP'.o_at
          have hml := hpm.length_le
          simp -dsimp -implicitDefEqProofs [s5, s6, s8, hln, hpos, withO_of hP'.o_at, hP'.k2, hP'.sz, withC_of q1]
          refine callsTo Try.cal79 hc7 ?_
          simp -dsimp -implicitDefEqProofs [s5, s6, s8, hln, hpos, withO_of hP'.o_at, hP'.k2, hP'.sz, withC_of q1]
          refine appTo_grow (e := 38) (sz := 1) (by_ := 24) (z := .slice none 0 0) (by kernel_rfl) (by kernel_rfl) ⟨by decide, rfl⟩ (o := o') (get_old hP7.o_at) ⟨hP7.k1, hP7.k2⟩ ⟨hP7.sz, hP7.el⟩ (by rw [hP7.clen]; simp) (by omega) (Src.obj (o := ⟨[.slice (some ⟨e, 0, none⟩) zs'[0].length zs'[0].length], 38, 1, 1⟩) (by simp) (by simp) rfl rfl) ?_
          intro m8 id8 hg
          have hlo := hP7.lo_
          have hP8 := (hP7.pre (pre_app (pre_refl _) _)).push (hI7.pre (pre_app (pre_refl _) _)) q3 (by omega) (by omega) hg
          have hp8 : m <+: m8 := hg.pre m (pre_app (hpm.trans hp7) _) (by omega)
          have hx8 : PotsAt m8 id xs := by obtain ⟨oo, o1, o2⟩ := hxm; exact ⟨oo, hg.old _ _ (by omega) (get_old (prefix_get hp7 o1)), o2⟩
          simp -dsimp -implicitDefEqProofs [s5, s6, s8, hln, hpos, withO_of hP'.o_at, hP'.k2, hP'.sz, withC_of q1]
          exact next_ hlt ⟨id8, _, zs' ++ [zs'[0]], ⟨⟨by simp; omega, by simp⟩, ⟨hp8, hx8⟩, hP8⟩, by simp [s5], by simp, by simp [s8]⟩
        · have hln : ¬ zs'.length < n := by omega
          simp -dsimp -implicitDefEqProofs [s5, s6, s8, hln]
          exact ⟨_, _, GC.refl _ _ _, xs, id, zs', some ⟨ip', 0, none⟩, rfl, by omega, by omega, hP'.le, hpm, hxm.rd, hP'.rd⟩
      · exact ⟨_, _, GC.refl _ _ _, xs, id, zsX, some ⟨ip, 0, none⟩, by simp [hlX], by omega, by omega, hP5.le, hp5, hx5.rd, hP5.rd⟩
  · obtain ⟨zsX, hzsX⟩ : ∃ zsX, zsX = zs := ⟨_, rfl⟩
    have hlX : zsX.length = zs.length := by rw [hzsX]
    have hPX := hPA
    rw [← hzsX] at hPX
    have hsX := hs2
    have hpX := hp1.trans hp2
    have hxX := hP2
    obtain ⟨mX, hmX⟩ : ∃ mX, mX = m2 := ⟨_, rfl⟩
    rw [← hmX] at hPX hsX hpX hxX
    rw [← hmX]
    simp -dsimp -implicitDefEqProofs [hz]
    obtain ⟨v5, m5, hc5, b5, rfl, hb5, hs5, hl5⟩ := one_c m.length a code 300 16 (by omega) mX (hsX.mono (by omega))
    have hP5 := hPX.rest (restOf (S := [m.length]) hb5 (by simp)) (by simp; omega)
    have hp5 : m <+: m5 := hb5.pre hpX (Nat.le_refl _)
    have hx5 : PotsAt m5 id xs := by obtain ⟨oo, o1, o2⟩ := hxX; exact ⟨oo, hb5.get _ _ (by omega) o1, o2⟩
    have hl5' := hb5.len
    refine callsTo Try.cal78 hc5 ?_
    simp -dsimp -implicitDefEqProofs [hz]
    refine sp2 (fun gT => ?_) (fun gT => ?_)
    · exact ⟨_, _, GC.refl _ _ _, xs, id, zsX, some ⟨ip, 0, none⟩, by simp [hlX], by omega, by omega, hP5.le, hp5, hx5.rd, hP5.rd⟩
    · exact ⟨_, _, GC.refl _ _ _, xs, id, zsX, some ⟨ip, 0, none⟩, by simp [hlX], by omega, by omega, hP5.le, hp5, hx5.rd, hP5.rd⟩
end Go.Proofs.Ytnipgigpjhalkaa
namespace Go.Proofs.Ytnipgigpjhalkaa
open Go.Abs Go.RowKit

/-- The first code of a pile that is not 0, among the first k. -/
def codeTo (xs : List I3) (pss : List (List Int)) : Nat → Int
  | 0 => 0
  | k + 1 => if codeTo xs pss k = 0 then pileI xs (pss.getD k []) else codeTo xs pss k
def floorTo (xs : List I3) (pss : List (List Int)) : Nat → Int
  | 0 => 0
  | k + 1 => IntKind.i64.wrap (floorTo xs pss k + IntKind.i64.wrap ((potAt xs (ixAt (pss.getD k []) 0)).1 * (potAt xs (ixAt (pss.getD k []) 0)).1))
def floorC (xs : List I3) (pss : List (List Int)) : Int := if potsB xs then (if 12 < pss.length then 2 else codeTo xs pss pss.length) else 1
def floorV (xs : List I3) (pss : List (List Int)) : Value := .tuple #[.int .i64 (if floorC xs pss = 0 then floorTo xs pss pss.length else 0), .int .i64 (floorC xs pss)]
theorem getSS {xss : List (List Int)} {k : Nat} (h : k < xss.length) : xss.getD k [] = xss[k] := by simp [List.getD_eq_getElem?_getD, List.getElem?_eq_getElem h]
theorem codeTo_stay {xs : List I3} {pss : List (List Int)} {k : Nat} (h : codeTo xs pss k ≠ 0) : ∀ n, k ≤ n → codeTo xs pss n = codeTo xs pss k := by
  intro n hn
  induction n with
  | zero => have : k = 0 := by omega
            rw [this]
  | succ n ih =>
    by_cases hkn : k ≤ n
    · simp only [codeTo]; rw [if_neg (by rw [ih hkn]; exact h), ih hkn]
    · have : k = n + 1 := by omega
      rw [this]
theorem pile_pos {xs : List I3} {pile : List Int} (h : pileI xs pile = 0) : 0 < pile.length := by
  unfold pileI at h
  split at h
  · split at h
    · omega
    · omega
  · omega
theorem pileC_pots {xs : List I3} {pile : List Int} (h : potsB xs = true) : pileC xs pile = pileI xs pile := by simp [pileC, h]

theorem specFloor_c (xs : List I3) (pss : List (List Int)) (a b : Option Addr) (m : Mem) (hr : RdG v3 3 m a xs) (hs : RdSS m b pss) (hn : xs.length ≤ 1048576) (hn' : pss.length ≤ 1048576) (hl : ∀ p ∈ pss, p.length ≤ 1048576) :
    ACalls Try.prog 38 [.slice a xs.length xs.length, .slice b pss.length pss.length] m (floorV xs pss) m := by
  refine acalls_of_vc Try.func38 rfl Try.fol (by kernel_rfl) ?_
  simp only [Try.f38]
  simp -dsimp -implicitDefEqProofs
  refine callsTo Try.cal59 (l19Ok_c xs a _ hr hn) ?_
  simp -dsimp -implicitDefEqProofs
  refine ⟨fun g => GC.eq (by simp at g; simp [floorV, floorC, g]), fun g0 => ?_⟩
  simp at g0
  refine ⟨fun g => GC.eq (by simp at g; simp [floorV, floorC, g0]; omega), fun g1 => ?_⟩
  have g1' : ¬ 12 < pss.length := by simp at g1; omega
  refine loopN pss.length (fun k σ m' => m' = m ∧ (σ 0 = some (.slice a xs.length xs.length) ∧ σ 1 = some (.slice b pss.length pss.length) ∧ σ 6 = some (.int .i64 (floorTo xs pss k)) ∧ σ 7 = some (.int .i64 k)) ∧ codeTo xs pss k = 0) ⟨rfl, by simp [floorTo], rfl⟩ ?_
  rintro k σ m' hk ⟨rfl, ⟨s0, s1, s6, s7⟩, hok⟩
  by_cases hlt : k < pss.length
  · obtain ⟨id, off, o, ad, rfl, hm, hkd, hsz, hc, hrd⟩ := hs k hlt
    have hw : IntKind.i64.wrap ((k : Int) + 1) = k + 1 := wrapI (by omega) (by omega)
    have hck : codeTo xs pss (k + 1) = pileI xs pss[k] := by simp only [codeTo, hok, if_true, getSS hlt]
    by_cases hz : pileI xs pss[k] = 0
    · have hpos := pile_pos hz
      obtain ⟨i1, l1⟩ := rng_ix (pileI_zero hz) (i := 0) hpos
      obtain ⟨idp, offp, op, rfl, hmp, hkdp, hszp, hcp⟩ := RdI.at_ hrd (i := 0) hpos
      rw [i1] at hcp
      obtain ⟨ida, offa, oa, rfl, hma, hkda, hsza, _, _, hc0, _⟩ := R3.at_ hr l1
      have hft : floorTo xs pss (k + 1) = IntKind.i64.wrap (floorTo xs pss k + IntKind.i64.wrap (xs[ixAt pss[k] 0].1 * xs[ixAt pss[k] 0].1)) := by rw [floorTo, getSS hlt, potAt_eq l1]
      have hcp' : op.cells[offp]? = some (.int .i64 (ixAt pss[k] 0)) := by simpa using hcp
      have hpc := (pileC_pots g0) ▸ l19Pile_c xs pss[k] _ _ m' hr hrd hn (hl _ (List.getElem_mem hlt))
      rw [hz] at hpc
      simp -dsimp -implicitDefEqProofs [s0, s1, s6, s7, hlt, withO_of hm, hkd, hsz, withC_of hc, hw, hpos, withO_of hmp, hkdp, hszp, withC_of hcp', l1, withO_of hma, hkda, hsza, withC_of hc0]
      refine callsTo Try.cal64 hpc ?_
      simp -dsimp -implicitDefEqProofs [s0, s1, s6, s7, hlt, withO_of hm, hkd, hsz, withC_of hc, hw, hpos, withO_of hmp, hkdp, hszp, withC_of hcp', l1, withO_of hma, hkda, hsza, withC_of hc0]
      exact next_ hlt ⟨rfl, by simp [s0, s1, hw, hft], by rw [hck]; exact hz⟩
    · have hcn : codeTo xs pss pss.length = pileI xs pss[k] := by rw [codeTo_stay (k := k + 1) (by rw [hck]; exact hz) _ (by omega), hck]
      have hpc := (pileC_pots g0) ▸ l19Pile_c xs pss[k] _ _ m' hr hrd hn (hl _ (List.getElem_mem hlt))
      simp -dsimp -implicitDefEqProofs [s0, s1, s6, s7, hlt, withO_of hm, hkd, hsz, withC_of hc, hw, hz]
      refine callsTo Try.cal64 hpc ?_
      simp -dsimp -implicitDefEqProofs [s0, s1, s6, s7, hlt, withO_of hm, hkd, hsz, withC_of hc, hw, hz]
      exact ⟨fun _ => GC.eq (by simp [floorV, floorC, g0, g1', hcn, hz]), fun h => absurd h (by simp [hz])⟩
  · simp -dsimp -implicitDefEqProofs [s0, s1, s6, s7, hlt]
    obtain rfl : k = pss.length := by omega
    exact GC.eq (by simp [floorV, floorC, g0, g1', hok])
theorem implFloor_c (xs : List I3) (pss : List (List Int)) (a b : Option Addr) (m : Mem) (hr : RdG v3 3 m a xs) (hs : RdSS m b pss) (hn : xs.length ≤ 1048576) (hn' : pss.length ≤ 1048576) (hl : ∀ p ∈ pss, p.length ≤ 1048576) :
    ACalls Try.prog 40 [.slice a xs.length xs.length, .slice b pss.length pss.length] m (floorV xs pss) m := by
  refine acalls_of_vc Try.func40 rfl Try.fol (by kernel_rfl) ?_
  simp only [Try.f40]
  simp -dsimp -implicitDefEqProofs
  refine callsTo Try.cal22 (validPots_c xs a _ hr hn) ?_
  simp -dsimp -implicitDefEqProofs
  refine ⟨fun g => GC.eq (by simp at g; simp [floorV, floorC, g]), fun g0 => ?_⟩
  simp at g0
  refine ⟨fun g => GC.eq (by simp at g; simp [floorV, floorC, g0]; omega), fun g1 => ?_⟩
  have g1' : ¬ 12 < pss.length := by simp at g1; omega
  refine loopN pss.length (fun k σ m' => m' = m ∧ (σ 0 = some (.slice a xs.length xs.length) ∧ σ 16 = some (.slice b pss.length pss.length) ∧ σ 17 = some (.int .i64 pss.length) ∧ σ 6 = some (.int .i64 (floorTo xs pss k)) ∧ σ 18 = some (.int .i64 k)) ∧ codeTo xs pss k = 0) ⟨rfl, by simp [floorTo], rfl⟩ ?_
  rintro k σ m' hk ⟨rfl, ⟨s0, s16, s17, s6, s18⟩, hok⟩
  by_cases hlt : k < pss.length
  · obtain ⟨id, off, o, ad, rfl, hm, hkd, hsz, hc, hrd⟩ := hs k hlt
    have hw : IntKind.i64.wrap ((k : Int) + 1) = k + 1 := wrapI (by omega) (by omega)
    have hck : codeTo xs pss (k + 1) = pileI xs pss[k] := by simp only [codeTo, hok, if_true, getSS hlt]
    by_cases hz : pileI xs pss[k] = 0
    · have hpos := pile_pos hz
      obtain ⟨i1, l1⟩ := rng_ix (pileI_zero hz) (i := 0) hpos
      obtain ⟨idp, offp, op, rfl, hmp, hkdp, hszp, hcp⟩ := RdI.at_ hrd (i := 0) hpos
      rw [i1] at hcp
      obtain ⟨ida, offa, oa, rfl, hma, hkda, hsza, _, _, hc0, _⟩ := R3.at_ hr l1
      have hft : floorTo xs pss (k + 1) = IntKind.i64.wrap (floorTo xs pss k + IntKind.i64.wrap (xs[ixAt pss[k] 0].1 * xs[ixAt pss[k] 0].1)) := by rw [floorTo, getSS hlt, potAt_eq l1]
      have hcp' : op.cells[offp]? = some (.int .i64 (ixAt pss[k] 0)) := by simpa using hcp
      have hpc := pileCode_c xs pss[k] _ _ m' hr hrd hn (hl _ (List.getElem_mem hlt))
      rw [hz] at hpc
      simp -dsimp -implicitDefEqProofs [s0, s16, s17, s6, s18, hlt, withO_of hm, hkd, hsz, withC_of hc, hw, hpos, withO_of hmp, hkdp, hszp, withC_of hcp', l1, withO_of hma, hkda, hsza, withC_of hc0]
      refine callsTo Try.cal66 hpc ?_
      simp -dsimp -implicitDefEqProofs [s0, s16, s17, s6, s18, hlt, withO_of hm, hkd, hsz, withC_of hc, hw, hpos, withO_of hmp, hkdp, hszp, withC_of hcp', l1, withO_of hma, hkda, hsza, withC_of hc0]
      exact next_ hlt ⟨rfl, by simp [s0, s16, s17, hw, hft], by rw [hck]; exact hz⟩
    · have hcn : codeTo xs pss pss.length = pileI xs pss[k] := by rw [codeTo_stay (k := k + 1) (by rw [hck]; exact hz) _ (by omega), hck]
      have hpc := pileCode_c xs pss[k] _ _ m' hr hrd hn (hl _ (List.getElem_mem hlt))
      simp -dsimp -implicitDefEqProofs [s0, s16, s17, s6, s18, hlt, withO_of hm, hkd, hsz, withC_of hc, hw, hz]
      refine callsTo Try.cal66 hpc ?_
      simp -dsimp -implicitDefEqProofs [s0, s16, s17, s6, s18, hlt, withO_of hm, hkd, hsz, withC_of hc, hw, hz]
      exact ⟨fun _ => GC.eq (by simp [floorV, floorC, g0, g1', hcn, hz]), fun h => absurd h (by simp [hz])⟩
  · simp -dsimp -implicitDefEqProofs [s0, s16, s17, s6, s18, hlt]
    obtain rfl : k = pss.length := by omega
    exact GC.eq (by simp [floorV, floorC, g0, g1', hok])
end Go.Proofs.Ytnipgigpjhalkaa
namespace Go.Proofs.Ytnipgigpjhalkaa
open Go.Abs Go.RowKit Go.Law

theorem codeTo_zero {xs : List I3} {pss : List (List Int)} : ∀ n, codeTo xs pss n = 0 → ∀ k, k < n → pileI xs (pss.getD k []) = 0
  | 0, _, k, hk => by omega
  | n + 1, h, k, hk => by
    simp only [codeTo] at h
    split at h
    · rename_i h0
      by_cases e : k = n
      · subst e; exact h
      · exact codeTo_zero n h0 k (by omega)
    · rename_i h0; exact absurd h h0
theorem floorC_zero {xs : List I3} {pss : List (List Int)} (h : floorC xs pss = 0) : potsB xs = true ∧ codeTo xs pss pss.length = 0 := by
  unfold floorC at h
  split at h
  · rename_i h0
    split at h
    · omega
    · exact ⟨h0, h⟩
  · omega
/-- The height of the pile's i-th. -/
def hiAt (xs : List I3) (pile : List Int) (i : Nat) : Int := (potAt xs (ixAt pile i)).2.2
theorem highTo_ge (xs : List I3) (pile : List Int) : ∀ k i, i < k → hiAt xs pile i ≤ highTo xs pile k
  | 0, i, h => by omega
  | k + 1, i, h => by
    simp only [highTo]
    by_cases e : i = k
    · subst e; unfold hiAt; omega
    · have := highTo_ge xs pile k i (by omega)
      omega
theorem highTo_is (xs : List I3) (pile : List Int) : ∀ k, highTo xs pile k = 0 ∨ ∃ i, i < k ∧ hiAt xs pile i = highTo xs pile k
  | 0 => .inl rfl
  | k + 1 => by
    simp only [highTo]
    by_cases e : highTo xs pile k ≤ (potAt xs (ixAt pile k)).2.2
    · exact .inr ⟨k, by omega, by unfold hiAt; omega⟩
    · rcases highTo_is xs pile k with h | ⟨i, hi, h⟩
      · exact .inl (by omega)
      · exact .inr ⟨i, by omega, by omega⟩
def foundTo (xs : List I3) (pile : List Int) (t : Int) : Nat → Bool
  | 0 => false
  | k + 1 => foundTo xs pile t k || (hiAt xs pile k == t)
theorem foundTo_of (xs : List I3) (pile : List Int) (t : Int) : ∀ k i, i < k → hiAt xs pile i = t → foundTo xs pile t k = true
  | 0, i, h, _ => by omega
  | k + 1, i, h, e => by
    simp only [foundTo]
    by_cases hk : i = k
    · subst hk; simp [e]
    · rw [foundTo_of xs pile t k i (by omega) e]; simp
theorem found_all {xs : List I3} {pile : List Int} (h : pileC xs pile = 0) : foundTo xs pile (highTo xs pile pile.length) pile.length = true := by
  have hI := pileC_zero h
  have hpos := pile_pos hI
  have hp : potsB xs = true := by
    unfold pileC at h
    split at h
    · assumption
    · omega
  obtain ⟨_, l1⟩ := rng_ix (pileI_zero hI) hpos
  have h5 : 5 ≤ hiAt xs pile 0 := by
    simp only [potsB, Bool.and_eq_true] at hp
    have := List.all_eq_true.1 hp.1 _ (List.getElem_mem l1)
    simp only [potB, inB, Bool.and_eq_true, decide_eq_true_eq] at this
    unfold hiAt
    rw [potAt_eq l1]
    omega
  have h0 := highTo_ge xs pile pile.length 0 hpos
  rcases highTo_is xs pile pile.length with e | ⟨i, hi, e⟩
  · omega
  · exact foundTo_of _ _ _ _ i hi e
end Go.Proofs.Ytnipgigpjhalkaa
