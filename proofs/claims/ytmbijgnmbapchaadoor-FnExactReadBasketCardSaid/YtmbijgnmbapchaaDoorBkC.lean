/-
  Baskets, part 3: a basket that is put together: stakes, layers, border. Conditions: none.
-/
import Derived.Test.YtmbijgnmbapchaaDoorBkB
import Derived.Test.YtmbijgnmbapchaaDoorRest
set_option linter.unusedSimpArgs false
set_option linter.unusedVariables false
set_option linter.unusedSectionVars false
namespace Go.Proofs.YtmbijgnmbapchaaDoor
open Go.Abs Go.RowKit

/-- The kinds of reports. -/
def stakesK (st n : Int) : Int := if !inB n 3 60 then 3 else if st ≠ 0 then 6 else 0
def layerK (st : Int) (nl : Nat) (b : ByteArray) (p : LyT) : Int := if !strokeB p.1 then 4 else if !inB p.2 1 100 then 3 else if st = 0 ∨ b.size ≠ 0 then 5 else if 40 ≤ nl then 7 else 0
def borderK (st : Int) (b w : ByteArray) : Int := if !bendsB w then 4 else if st = 0 then 5 else if b.size ≠ 0 then 6 else if !inB st (w.size + 2) 40 then 3 else 0

/-- A basket of one's own, its layers in an object of their own (j; where there is none: the basket's). -/
def LyAt (m : Mem) (A : Option Addr) (id j : Nat) (ls : List LyT) : Prop :=
  (A = none ∧ ls = [] ∧ j = id) ∨ (A = some ⟨j, 0, none⟩ ∧ j ≠ id ∧ ∃ kd, m[j]? = some ⟨(ls.map vl).flatten, 56, 2, kd⟩ ∧ 1 ≤ kd ∧ kd ≤ 2)
def BkAt (m : Mem) (id j : Nat) (st : Int) (ls : List LyT) (b : ByteArray) : Prop :=
  ∃ A, m[id]? = some ⟨bkC st A ls.length b, 29, 3, 1⟩ ∧ LyAt m A id j ls
theorem LyAt.keep {m m' : Mem} {A : Option Addr} {id j : Nat} {ls : List LyT} (h : LyAt m A id j ls) (hk : ∀ o, m[j]? = some o → m'[j]? = some o) : LyAt m' A id j ls := by
  rcases h with h | ⟨h1, h2, kd, h3, h4⟩
  · exact .inl h
  · exact .inr ⟨h1, h2, kd, hk _ h3, h4⟩
theorem BkAt.lt {m : Mem} {id j : Nat} {st : Int} {ls : List LyT} {b : ByteArray} (h : BkAt m id j st ls b) : id < m.length ∧ j < m.length := by
  obtain ⟨A, h1, h2 | ⟨_, _, kd, h3, _⟩⟩ := h
  · exact ⟨lt_of_get h1, by rw [h2.2.2]; exact lt_of_get h1⟩
  · exact ⟨lt_of_get h1, lt_of_get h3⟩
theorem BkAt.rest {S : List Nat} {m m' : Mem} {id j : Nat} {st : Int} {ls : List LyT} {b : ByteArray} (h : BkAt m id j st ls b) (hr : RestS S m m') (h1 : id ∉ S) (h2 : j ∉ S) : BkAt m' id j st ls b := by
  obtain ⟨A, g1, g2⟩ := h
  exact ⟨A, hr.get _ _ h1 g1, g2.keep fun o ho => hr.get _ _ h2 ho⟩
theorem LyAt.set {m : Mem} {A : Option Addr} {id j : Nat} {ls : List LyT} (h : LyAt m A id j ls) (o : AObj) : LyAt (m.set id o) A id j ls := by
  rcases h with h | ⟨h1, h2, kd, h3, h4⟩
  · exact .inl h
  · exact .inr ⟨h1, h2, kd, by rw [List.getElem?_set_ne (Ne.symm h2)]; exact h3, h4⟩
/-- What turning a basket leaves. -/
def BkTurn (id j : Nat) (st : Int) (ls : List LyT) (b : ByteArray) (k : Int) (m : Mem) (v : Value) (m' : Mem) : Prop :=
  v = .int .i64 k ∧ RestS [id, j] m m' ∧ ∃ j', (j' = j ∨ m.length ≤ j') ∧ BkAt m' id j' st ls b
theorem rest_set {id j : Nat} (m : Mem) (o : AObj) : RestS [id, j] m (m.set id o) := RestS.set m (by simp) o

theorem madeL : madeCells #[.string ⟨#[]⟩, .int .i64 0] 2 = #[.string ⟨#[]⟩, .int .i64 0] := by
  have := made_rows #[.string ⟨#[]⟩, .int .i64 0] 1 (by simp)
  exact Array.toList_inj.1 (by simpa using this)
theorem l17Stakes_c (id j : Nat) (st n : Int) (ls : List LyT) (b : ByteArray) (m : Mem) (h : BkAt m id j st ls b) (hst : 0 ≤ st) :
    ∃ v m', ACalls Tryd.prog 102 [.pointer (some ⟨id, 0, none⟩), .int .i64 n] m v m' ∧ BkTurn id j (if stakesK st n = 0 then n else st) ls b (stakesK st n) m v m' := by
  have h0 := h
  obtain ⟨A, hm, hA⟩ := h
  simp only [bkC] at hm
  refine ecalls_of_vc Tryd.func102 rfl Tryd.fol (by kernel_rfl) ?_
  simp only [Tryd.f102]
  simp -dsimp -implicitDefEqProofs [withO_of hm]
  refine callsTo Tryd.cal128 (bkStakesS_c n _) ?_
  simp -dsimp -implicitDefEqProofs [withO_of hm]
  cases hb : inB n 3 60
  · simp -dsimp -implicitDefEqProofs [withO_of hm]
    have e : stakesK st n = 3 := by simp [stakesK, hb]
    exact ⟨_, _, GC.refl _ _ _, by rw [e], RestS.refl _ _, j, .inl rfl, by rw [e]; exact h0⟩
  · by_cases hs : st = 0
    · subst hs
      have e : stakesK 0 n = 0 := by simp [stakesK, hb]
      simp -dsimp -implicitDefEqProofs [withO_of hm]
      exact ⟨_, _, GC.refl _ _ _, by rw [e], rest_set _ _, j, .inl rfl, by rw [e]; exact ⟨A, get_set hm _, hA.set _⟩⟩
    · have e : stakesK st n = 6 := by simp [stakesK, hb, hs]
      have hs' : (st != 0) = true := by simp; omega
      simp -dsimp -implicitDefEqProofs [withO_of hm, hs']
      exact ⟨_, _, GC.refl _ _ _, by rw [e], RestS.refl _ _, j, .inl rfl, by rw [e]; exact h0⟩
theorem setStakes_c (id j : Nat) (st n : Int) (ls : List LyT) (b : ByteArray) (m : Mem) (h : BkAt m id j st ls b) (hst : 0 ≤ st) :
    ∃ v m', ACalls Tryd.prog 107 [.pointer (some ⟨id, 0, none⟩), .int .i64 n] m v m' ∧ BkTurn id j (if stakesK st n = 0 then n else st) ls b (stakesK st n) m v m' := by
  have h0 := h
  obtain ⟨A, hm, hA⟩ := h
  simp only [bkC] at hm
  refine ecalls_of_vc Tryd.func107 rfl Tryd.fol (by kernel_rfl) ?_
  simp only [Tryd.f107]
  simp -dsimp -implicitDefEqProofs [withO_of hm]
  refine callsTo Tryd.cal87 (bkStakesI_c n _) ?_
  simp -dsimp -implicitDefEqProofs [withO_of hm]
  cases hb : inB n 3 60
  · simp -dsimp -implicitDefEqProofs [withO_of hm]
    have e : stakesK st n = 3 := by simp [stakesK, hb]
    exact ⟨_, _, GC.refl _ _ _, by rw [e], RestS.refl _ _, j, .inl rfl, by rw [e]; exact h0⟩
  · by_cases hs : st = 0
    · subst hs
      have e : stakesK 0 n = 0 := by simp [stakesK, hb]
      simp -dsimp -implicitDefEqProofs [withO_of hm]
      exact ⟨_, _, GC.refl _ _ _, by rw [e], rest_set _ _, j, .inl rfl, by rw [e]; exact ⟨A, get_set hm _, hA.set _⟩⟩
    · have e : stakesK st n = 6 := by simp [stakesK, hb, hs]
      have hs' : decide (0 < st) = true := by simp; omega
      simp -dsimp -implicitDefEqProofs [withO_of hm, hs']
      exact ⟨_, _, GC.refl _ _ _, by rw [e], RestS.refl _ _, j, .inl rfl, by rw [e]; exact h0⟩
set_option maxRecDepth 20000 in
theorem l17Layer_c (id j : Nat) (st : Int) (p : LyT) (ls : List LyT) (b : ByteArray) (m : Mem) (h : BkAt m id j st ls b) (hp : p.1.size ≤ maxLen) (hl : ls.length ≤ 40) :
    ∃ v m', ACalls Tryd.prog 103 [.pointer (some ⟨id, 0, none⟩), .agg (vl p).toArray] m v m' ∧ BkTurn id j st (if layerK st ls.length b p = 0 then ls ++ [p] else ls) b (layerK st ls.length b p) m v m' := by
  have h0 := h
  obtain ⟨A, hm, hA⟩ := h
  simp only [bkC] at hm
  have hbx : ∀ l : Mem, BkAt (m ++ l) id j st ls b := fun l => h0.rest (S := []) (RestS.app _ _ _) (by simp) (by simp)
  refine ecalls_of_vc Tryd.func103 rfl Tryd.fol (by kernel_rfl) ?_
  simp only [Tryd.f103]
  simp -dsimp -implicitDefEqProofs [fun l => withO_of (get_old (l := l) hm), vl, madeL]
  refine callsTo Tryd.cal129 (l06Ok_c p.1 hp _) ?_
  simp -dsimp -implicitDefEqProofs [fun l => withO_of (get_old (l := l) hm), vl, madeL]
  cases g1 : strokeB p.1
  · simp -dsimp -implicitDefEqProofs [fun l => withO_of (get_old (l := l) hm), vl, madeL]
    have e : layerK st ls.length b p = 4 := by simp [layerK, g1]
    exact ⟨_, _, GC.refl _ _ _, by rw [e], RestS.app _ _ _, j, .inl rfl, by rw [e]; exact hbx _⟩
  simp -dsimp -implicitDefEqProofs [fun l => withO_of (get_old (l := l) hm), vl, madeL]
  refine callsTo Tryd.cal62 (l00In_c p.2 1 100 _) ?_
  simp -dsimp -implicitDefEqProofs [fun l => withO_of (get_old (l := l) hm), vl, madeL]
  cases g2 : inB p.2 1 100
  · simp -dsimp -implicitDefEqProofs [fun l => withO_of (get_old (l := l) hm), vl, madeL]
    have e : layerK st ls.length b p = 3 := by simp [layerK, g1, g2]
    exact ⟨_, _, GC.refl _ _ _, by rw [e], RestS.app _ _ _, j, .inl rfl, by rw [e]; exact hbx _⟩
  by_cases hs : st = 0
  · subst hs
    simp -dsimp -implicitDefEqProofs [fun l => withO_of (get_old (l := l) hm), vl, madeL]
    have e : layerK 0 ls.length b p = 5 := by simp [layerK, g1, g2]
    exact ⟨_, _, GC.refl _ _ _, by rw [e], RestS.app _ _ _, j, .inl rfl, by rw [e]; exact hbx _⟩
  have hs' : (st == 0) = false := beq_eq_false_iff_ne.2 hs
  have hbE := emptyE b
  by_cases hb : b.size = 0
  · by_cases hfull : ls.length = 40
    · have hfT : decide ((40 : Int) ≤ (ls.length : Int)) = true := by simp [hfull]
      simp -dsimp -implicitDefEqProofs [fun l => withO_of (get_old (l := l) hm), vl, madeL, hs', hbE, hb, hfT]
      have e : layerK st ls.length b p = 7 := by simp [layerK, g1, g2, hs, hb, hfull]
      exact ⟨_, _, GC.refl _ _ _, by rw [e], RestS.app _ _ _, j, .inl rfl, by rw [e]; exact hbx _⟩
    · have e : layerK st ls.length b p = 0 := by simp [layerK, g1, g2, hs, hb, show ¬ 40 ≤ ls.length by omega]
      have hf' : decide ((40 : Int) ≤ (ls.length : Int)) = false := by simp; omega
      have hnew : (ls ++ [p]).length = ls.length + 1 := by simp
      simp -dsimp -implicitDefEqProofs [fun l => withO_of (get_old (l := l) hm), vl, madeL, hs', hbE, hb, hf']
      rcases hA with ⟨rfl, rfl, rfl⟩ | ⟨rfl, hne, kd, ho, hk1, hk2⟩
      · refine appTo_nil (n := 0) (c := 1) (e := 56) (sz := 2) (by_ := 24) (z := .agg #[.string ⟨#[]⟩, .int .i64 0]) (by kernel_rfl) (by kernel_rfl) ⟨by decide, rfl⟩ (by decide) (by decide) (Src.obj (o := ⟨[.string p.1, .int .i64 p.2], 56, 2, 1⟩) (by simp) (by simp) rfl rfl) ?_
        refine need_intro (.inr (by kernel_rfl)) ?_
        simp -dsimp -implicitDefEqProofs [fun l => withO_of (get_old (l := l) hm), vl, madeL, hs', hbE, hb, hf']
        refine need_intro (.inr (by kernel_rfl)) ?_
        have hlt := lt_of_get hm
        have e : layerK st 0 b p = 0 := e
        refine ⟨_, _, GC.refl _ _ _, by rw [e], (RestS.app _ _ _).trans (rest_set _ _), m.length + 2, .inr (by omega), ?_⟩
        rw [e, if_pos rfl]
        exact ⟨_, get_set (get_old hm) _, .inr ⟨rfl, by omega, 2, by rw [List.getElem?_set_ne (by omega)]; simp [vl], by decide, by decide⟩⟩
      · refine appTo_grow (n := ls.length) (c := 1) (e := 56) (sz := 2) (by_ := 24) (z := .agg #[.string ⟨#[]⟩, .int .i64 0]) (by kernel_rfl) (by kernel_rfl) ⟨by decide, rfl⟩ (get_old ho) ⟨hk1, hk2⟩ ⟨rfl, rfl⟩ (by simp [flatten_length (sz := 2) (rows := ls.map vl) (by intro r hr; obtain ⟨x, _, rfl⟩ := List.mem_map.1 hr; rfl)]) (by omega) (Src.obj (o := ⟨[.string p.1, .int .i64 p.2], 56, 2, 1⟩) (by simp) (by simp) rfl rfl) ?_
        intro m2 id2 gr
        refine need_intro (.inr (by kernel_rfl)) ?_
        have hm2 := gr.old _ _ (Ne.symm hne) (get_old hm)
        simp -dsimp -implicitDefEqProofs [fun l => withO_of (get_old (l := l) hm), vl, madeL, hs', hbE, hb, hf', withO_of hm2]
        refine need_intro (.inr (by kernel_rfl)) ?_
        have hlt := lt_of_get hm
        have hat := gr.at_
        simp at hat
        refine ⟨_, _, GC.refl _ _ _, by rw [e], ((RestS.app _ _ _).trans ⟨by have := gr.len; omega, fun i o h1 h2 => gr.old i o (fun x => h1 (by simp [x])) h2⟩).trans (rest_set _ _), id2, .inr (by omega), ?_⟩
        rw [e, if_pos rfl]
        exact ⟨some ⟨id2, 0, none⟩, by rw [hnew]; exact get_set hm2 _, .inr ⟨rfl, by omega, 2, by rw [List.getElem?_set_ne (by omega), gr.new]; simp [vl], by decide, by decide⟩⟩
  · have hb' : (b.size == 0) = false := beq_eq_false_iff_ne.2 hb
    simp -dsimp -implicitDefEqProofs [fun l => withO_of (get_old (l := l) hm), vl, madeL, hs', hbE, hb]
    have e : layerK st ls.length b p = 5 := by simp [layerK, g1, g2, hb]
    exact ⟨_, _, GC.refl _ _ _, by rw [e], RestS.app _ _ _, j, .inl rfl, by rw [e]; exact hbx _⟩
set_option maxRecDepth 20000 in
theorem addLayer_c (id j : Nat) (st : Int) (p : LyT) (ls : List LyT) (b : ByteArray) (m : Mem) (h : BkAt m id j st ls b) (hp : p.1.size ≤ maxLen) (hl : ls.length ≤ 40) :
    ∃ v m', ACalls Tryd.prog 108 [.pointer (some ⟨id, 0, none⟩), .agg (vl p).toArray] m v m' ∧ BkTurn id j st (if layerK st ls.length b p = 0 then ls ++ [p] else ls) b (layerK st ls.length b p) m v m' := by
  have h0 := h
  obtain ⟨A, hm, hA⟩ := h
  simp only [bkC] at hm
  have hbx : ∀ l : Mem, BkAt (m ++ l) id j st ls b := fun l => h0.rest (S := []) (RestS.app _ _ _) (by simp) (by simp)
  refine ecalls_of_vc Tryd.func108 rfl Tryd.fol (by kernel_rfl) ?_
  simp only [Tryd.f108]
  simp -dsimp -implicitDefEqProofs [fun l => withO_of (get_old (l := l) hm), vl, madeL]
  refine callsTo Tryd.cal82 (validStroke_c p.1 hp _) ?_
  simp -dsimp -implicitDefEqProofs [fun l => withO_of (get_old (l := l) hm), vl, madeL]
  cases g1 : strokeB p.1
  · simp -dsimp -implicitDefEqProofs [fun l => withO_of (get_old (l := l) hm), vl, madeL]
    have e : layerK st ls.length b p = 4 := by simp [layerK, g1]
    exact ⟨_, _, GC.refl _ _ _, by rw [e], RestS.app _ _ _, j, .inl rfl, by rw [e]; exact hbx _⟩
  simp -dsimp -implicitDefEqProofs [fun l => withO_of (get_old (l := l) hm), vl, madeL]
  refine callsTo Tryd.cal88 (within_c p.2 1 100 _) ?_
  simp -dsimp -implicitDefEqProofs [fun l => withO_of (get_old (l := l) hm), vl, madeL]
  cases g2 : inB p.2 1 100
  · simp -dsimp -implicitDefEqProofs [fun l => withO_of (get_old (l := l) hm), vl, madeL]
    have e : layerK st ls.length b p = 3 := by simp [layerK, g1, g2]
    exact ⟨_, _, GC.refl _ _ _, by rw [e], RestS.app _ _ _, j, .inl rfl, by rw [e]; exact hbx _⟩
  by_cases hs : st = 0
  · subst hs
    simp -dsimp -implicitDefEqProofs [fun l => withO_of (get_old (l := l) hm), vl, madeL]
    have e : layerK 0 ls.length b p = 5 := by simp [layerK, g1, g2]
    exact ⟨_, _, GC.refl _ _ _, by rw [e], RestS.app _ _ _, j, .inl rfl, by rw [e]; exact hbx _⟩
  have hs' : (st == 0) = false := beq_eq_false_iff_ne.2 hs
  have hbE := emptyE b
  by_cases hb : b.size = 0
  · by_cases hfull : ls.length = 40
    · have hfT : ((ls.length : Int) == 40) = true := by simp [hfull]
      simp -dsimp -implicitDefEqProofs [fun l => withO_of (get_old (l := l) hm), vl, madeL, hs', hbE, hb, hfT]
      have e : layerK st ls.length b p = 7 := by simp [layerK, g1, g2, hs, hb, hfull]
      exact ⟨_, _, GC.refl _ _ _, by rw [e], RestS.app _ _ _, j, .inl rfl, by rw [e]; exact hbx _⟩
    · have e : layerK st ls.length b p = 0 := by simp [layerK, g1, g2, hs, hb, show ¬ 40 ≤ ls.length by omega]
      have hf' : ((ls.length : Int) == 40) = false := by simp; omega
      have hnew : (ls ++ [p]).length = ls.length + 1 := by simp
      simp -dsimp -implicitDefEqProofs [fun l => withO_of (get_old (l := l) hm), vl, madeL, hs', hbE, hb, hf']
      rcases hA with ⟨rfl, rfl, rfl⟩ | ⟨rfl, hne, kd, ho, hk1, hk2⟩
      · refine appTo_nil (n := 0) (c := 1) (e := 56) (sz := 2) (by_ := 24) (z := .agg #[.string ⟨#[]⟩, .int .i64 0]) (by kernel_rfl) (by kernel_rfl) ⟨by decide, rfl⟩ (by decide) (by decide) (Src.obj (o := ⟨[.string p.1, .int .i64 p.2], 56, 2, 1⟩) (by simp) (by simp) rfl rfl) ?_
        refine need_intro (.inr (by kernel_rfl)) ?_
        simp -dsimp -implicitDefEqProofs [fun l => withO_of (get_old (l := l) hm), vl, madeL, hs', hbE, hb, hf']
        refine need_intro (.inr (by kernel_rfl)) ?_
        have hlt := lt_of_get hm
        have e : layerK st 0 b p = 0 := e
        refine ⟨_, _, GC.refl _ _ _, by rw [e], (RestS.app _ _ _).trans (rest_set _ _), m.length + 2, .inr (by omega), ?_⟩
        rw [e, if_pos rfl]
        exact ⟨_, get_set (get_old hm) _, .inr ⟨rfl, by omega, 2, by rw [List.getElem?_set_ne (by omega)]; simp [vl], by decide, by decide⟩⟩
      · refine appTo_grow (n := ls.length) (c := 1) (e := 56) (sz := 2) (by_ := 24) (z := .agg #[.string ⟨#[]⟩, .int .i64 0]) (by kernel_rfl) (by kernel_rfl) ⟨by decide, rfl⟩ (get_old ho) ⟨hk1, hk2⟩ ⟨rfl, rfl⟩ (by simp [flatten_length (sz := 2) (rows := ls.map vl) (by intro r hr; obtain ⟨x, _, rfl⟩ := List.mem_map.1 hr; rfl)]) (by omega) (Src.obj (o := ⟨[.string p.1, .int .i64 p.2], 56, 2, 1⟩) (by simp) (by simp) rfl rfl) ?_
        intro m2 id2 gr
        refine need_intro (.inr (by kernel_rfl)) ?_
        have hm2 := gr.old _ _ (Ne.symm hne) (get_old hm)
        simp -dsimp -implicitDefEqProofs [fun l => withO_of (get_old (l := l) hm), vl, madeL, hs', hbE, hb, hf', withO_of hm2]
        refine need_intro (.inr (by kernel_rfl)) ?_
        have hlt := lt_of_get hm
        have hat := gr.at_
        simp at hat
        refine ⟨_, _, GC.refl _ _ _, by rw [e], ((RestS.app _ _ _).trans ⟨by have := gr.len; omega, fun i o h1 h2 => gr.old i o (fun x => h1 (by simp [x])) h2⟩).trans (rest_set _ _), id2, .inr (by omega), ?_⟩
        rw [e, if_pos rfl]
        exact ⟨some ⟨id2, 0, none⟩, by rw [hnew]; exact get_set hm2 _, .inr ⟨rfl, by omega, 2, by rw [List.getElem?_set_ne (by omega), gr.new]; simp [vl], by decide, by decide⟩⟩
  · have hb' : (b.size == 0) = false := beq_eq_false_iff_ne.2 hb
    simp -dsimp -implicitDefEqProofs [fun l => withO_of (get_old (l := l) hm), vl, madeL, hs', hbE, hb]
    have e : layerK st ls.length b p = 5 := by simp [layerK, g1, g2, hb]
    exact ⟨_, _, GC.refl _ _ _, by rw [e], RestS.app _ _ _, j, .inl rfl, by rw [e]; exact hbx _⟩
theorem l17Border_c (id j : Nat) (st : Int) (w : ByteArray) (ls : List LyT) (b : ByteArray) (m : Mem) (h : BkAt m id j st ls b) (hw : w.size ≤ maxLen) (hst : st = 0 ∨ 3 ≤ st ∧ st ≤ 60) :
    ∃ v m', ACalls Tryd.prog 104 [.pointer (some ⟨id, 0, none⟩), .string w] m v m' ∧ BkTurn id j st ls (if borderK st b w = 0 then w else b) (borderK st b w) m v m' := by
  have h0 := h
  obtain ⟨A, hm, hA⟩ := h
  simp only [bkC] at hm
  refine ecalls_of_vc Tryd.func104 rfl Tryd.fol (by kernel_rfl) ?_
  simp only [Tryd.f104]
  simp -dsimp -implicitDefEqProofs [withO_of hm]
  refine callsTo Tryd.cal130 (l11Ok_c w hw _) ?_
  simp -dsimp -implicitDefEqProofs [withO_of hm]
  cases g1 : bendsB w
  · simp -dsimp -implicitDefEqProofs [withO_of hm]
    have e : borderK st b w = 4 := by simp [borderK, g1]
    exact ⟨_, _, GC.refl _ _ _, by rw [e], RestS.refl _ _, j, .inl rfl, by rw [e]; exact h0⟩
  simp -dsimp -implicitDefEqProofs [withO_of hm]
  by_cases hs : st = 0
  · subst hs
    simp -dsimp -implicitDefEqProofs [withO_of hm]
    have e : borderK 0 b w = 5 := by simp [borderK, g1]
    exact ⟨_, _, GC.refl _ _ _, by rw [e], RestS.refl _ _, j, .inl rfl, by rw [e]; exact h0⟩
  have hs' : (st == 0) = false := beq_eq_false_iff_ne.2 hs
  have hbE := emptyE b
  have h8 : w.size ≤ 8 := by simp [bendsB, wordB] at g1; omega
  by_cases hb : b.size = 0
  · simp -dsimp -implicitDefEqProofs [withO_of hm, hs', hbE, hb]
    refine callsTo Tryd.cal131 (l11Stakes_c w st (by omega) _) ?_
    simp -dsimp -implicitDefEqProofs [withO_of hm, hs', hbE, hb]
    cases g2 : inB st (w.size + 2) 40
    · simp -dsimp -implicitDefEqProofs [withO_of hm, hs', hbE, hb]
      have e : borderK st b w = 3 := by simp [borderK, g1, hs, hb, g2]
      exact ⟨_, _, GC.refl _ _ _, by rw [e], RestS.refl _ _, j, .inl rfl, by rw [e]; exact h0⟩
    · simp -dsimp -implicitDefEqProofs [withO_of hm, hs', hbE, hb]
      have e : borderK st b w = 0 := by simp [borderK, g1, hs, hb, g2]
      exact ⟨_, _, GC.refl _ _ _, by rw [e], rest_set _ _, j, .inl rfl, by rw [e]; exact ⟨A, get_set hm _, hA.set _⟩⟩
  · simp -dsimp -implicitDefEqProofs [withO_of hm, hs', hbE, hb]
    have e : borderK st b w = 6 := by simp [borderK, g1, hs, hb]
    exact ⟨_, _, GC.refl _ _ _, by rw [e], RestS.refl _ _, j, .inl rfl, by rw [e]; exact h0⟩
theorem setBorder_c (id j : Nat) (st : Int) (w : ByteArray) (ls : List LyT) (b : ByteArray) (m : Mem) (h : BkAt m id j st ls b) (hw : w.size ≤ maxLen) (hst : st = 0 ∨ 3 ≤ st ∧ st ≤ 60) :
    ∃ v m', ACalls Tryd.prog 109 [.pointer (some ⟨id, 0, none⟩), .string w] m v m' ∧ BkTurn id j st ls (if borderK st b w = 0 then w else b) (borderK st b w) m v m' := by
  have h0 := h
  obtain ⟨A, hm, hA⟩ := h
  simp only [bkC] at hm
  refine ecalls_of_vc Tryd.func109 rfl Tryd.fol (by kernel_rfl) ?_
  simp only [Tryd.f109]
  simp -dsimp -implicitDefEqProofs [withO_of hm]
  refine callsTo Tryd.cal132 (validBends_c w hw _) ?_
  simp -dsimp -implicitDefEqProofs [withO_of hm]
  cases g1 : bendsB w
  · simp -dsimp -implicitDefEqProofs [withO_of hm]
    have e : borderK st b w = 4 := by simp [borderK, g1]
    exact ⟨_, _, GC.refl _ _ _, by rw [e], RestS.refl _ _, j, .inl rfl, by rw [e]; exact h0⟩
  simp -dsimp -implicitDefEqProofs [withO_of hm]
  by_cases hs : st = 0
  · subst hs
    simp -dsimp -implicitDefEqProofs [withO_of hm]
    have e : borderK 0 b w = 5 := by simp [borderK, g1]
    exact ⟨_, _, GC.refl _ _ _, by rw [e], RestS.refl _ _, j, .inl rfl, by rw [e]; exact h0⟩
  have hs' : (st == 0) = false := beq_eq_false_iff_ne.2 hs
  have hbE := emptyE b
  have h8 : w.size ≤ 8 := by simp [bendsB, wordB] at g1; omega
  by_cases hb : b.size = 0
  · simp -dsimp -implicitDefEqProofs [withO_of hm, hs', hbE, hb]
    refine callsTo Tryd.cal133 (bendCode_c w st hw (by omega) _) ?_
    simp -dsimp -implicitDefEqProofs [withO_of hm, hs', hbE, hb]
    rw [g1]
    cases g2 : inB st (w.size + 2) 40
    · simp -dsimp -implicitDefEqProofs [withO_of hm, hs', hbE, hb]
      have e : borderK st b w = 3 := by simp [borderK, g1, hs, hb, g2]
      exact ⟨_, _, GC.refl _ _ _, by rw [e], RestS.refl _ _, j, .inl rfl, by rw [e]; exact h0⟩
    · simp -dsimp -implicitDefEqProofs [withO_of hm, hs', hbE, hb]
      have e : borderK st b w = 0 := by simp [borderK, g1, hs, hb, g2]
      exact ⟨_, _, GC.refl _ _ _, by rw [e], rest_set _ _, j, .inl rfl, by rw [e]; exact ⟨A, get_set hm _, hA.set _⟩⟩
  · simp -dsimp -implicitDefEqProofs [withO_of hm, hs', hbE, hb]
    have e : borderK st b w = 6 := by simp [borderK, g1, hs, hb]
    exact ⟨_, _, GC.refl _ _ _, by rw [e], RestS.refl _ _, j, .inl rfl, by rw [e]; exact h0⟩
end Go.Proofs.YtmbijgnmbapchaaDoor
