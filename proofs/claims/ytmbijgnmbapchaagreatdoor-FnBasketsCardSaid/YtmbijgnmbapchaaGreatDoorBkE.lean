/-
  Baskets, part 3: a basket that is put together: stakes, layers, border. Conditions: none.
-/
import Derived.Test.YtmbijgnmbapchaaGreatDoorBkB
import Derived.Test.YtmbijgnmbapchaaGreatDoorRest
set_option linter.unusedSimpArgs false
set_option linter.unusedVariables false
set_option linter.unusedSectionVars false
namespace Go.Proofs.YtmbijgnmbapchaaGreatDoor
open Go.Abs Go.RowKit

/-- The kinds of reports. -/
def stakesK (st n : Int) : Int := if !inB n 3 60 then 3 else if st ≠ 0 then 6 else 0
def layerK (st : Int) (nl : Nat) (b : ByteArray) (p : LyT) : Int := if !strokeB p.1 then 4 else if !inB p.2 1 100 then 3 else if st = 0 ∨ b.size ≠ 0 then 5 else if 40 ≤ nl then 7 else 0
def borderK (st : Int) (b w : ByteArray) : Int := if !bendsB w then 4 else if st = 0 then 5 else if b.size ≠ 0 then 6 else if !inB st (w.size + 2) 40 then 3 else 0

/-- A basket of one's own, its layers in an object of their own (j; where there is none: the basket's). -/
def LyAt (m : Mem) (A : Option Addr) (id j : Nat) (ls : List LyT) : Prop :=
  (A = none ∧ ls = [] ∧ j = id) ∨ (A = some ⟨j, 0, none⟩ ∧ j ≠ id ∧ ∃ kd, m[j]? = some ⟨(ls.map vl).flatten, 54, 2, kd⟩ ∧ 1 ≤ kd ∧ kd ≤ 2)
def BkAt (m : Mem) (id j : Nat) (st : Int) (ls : List LyT) (b : ByteArray) : Prop :=
  ∃ A, m[id]? = some ⟨bkC st A ls.length b, 27, 3, 1⟩ ∧ LyAt m A id j ls
theorem LyAt.keep {m m' : Mem} {A : Option Addr} {id j : Nat} {ls : List LyT} (h : LyAt m A id j ls) (hk : ∀ o, m[j]? = some o → m'[j]? = some o) : LyAt m' A id j ls := by
  rcases h with h | ⟨h1, h2, kd, h3, h4⟩
  · exact .inl h
  · exact .inr ⟨h1, h2, kd, hk _ h3, h4⟩
theorem BkAt.lt {m : Mem} {id j : Nat} {st : Int} {ls : List LyT} {b : ByteArray} (h : BkAt m id j st ls b) : id < m.length ∧ j < m.length := by
  obtain ⟨A, h1, h2 | ⟨_, _, kd, h3, _⟩⟩ := h
  · exact ⟨lt_of_get h1, by rw [h2.2.2]; exact lt_of_get h1⟩
  · exact ⟨lt_of_get h1, lt_of_get h3⟩
theorem BkAt.rest {S : List Nat} {m m' : Mem} {id j : Nat} {st : Int} {ls : List LyT} {b : ByteArray} (h : BkAt m id j st ls b) (hr : RestS S m m') (h1 : id ∉ S) (h2 : j ∉ S) : BkAt m' id j st ls b := by
  obtain ⟨A, g1, g2⟩ := h
  exact ⟨A, hr.get _ _ h1 g1, g2.keep fun o ho => hr.get _ _ h2 ho⟩
theorem LyAt.set {m : Mem} {A : Option Addr} {id j : Nat} {ls : List LyT} (h : LyAt m A id j ls) (o : AObj) : LyAt (m.set id o) A id j ls := by
  rcases h with h | ⟨h1, h2, kd, h3, h4⟩
  · exact .inl h
  · exact .inr ⟨h1, h2, kd, by rw [List.getElem?_set_ne (Ne.symm h2)]; exact h3, h4⟩
/-- What turning a basket leaves. -/
def BkTurn (id j : Nat) (st : Int) (ls : List LyT) (b : ByteArray) (k : Int) (m : Mem) (v : Value) (m' : Mem) : Prop :=
  v = .int .i64 k ∧ RestS [id, j] m m' ∧ ∃ j', (j' = j ∨ m.length ≤ j') ∧ BkAt m' id j' st ls b
theorem rest_set {id j : Nat} (m : Mem) (o : AObj) : RestS [id, j] m (m.set id o) := RestS.set m (by simp) o

theorem madeL : madeCells #[.string ⟨#[]⟩, .int .i64 0] 2 = #[.string ⟨#[]⟩, .int .i64 0] := by
  have := made_rows #[.string ⟨#[]⟩, .int .i64 0] 1 (by simp)
  exact Array.toList_inj.1 (by simpa using this)
theorem l17Stakes_c (id j : Nat) (st n : Int) (ls : List LyT) (b : ByteArray) (m : Mem) (h : BkAt m id j st ls b) (hst : 0 ≤ st) :
    ∃ v m', ACalls Tryz.prog 48 [.pointer (some ⟨id, 0, none⟩), .int .i64 n] m v m' ∧ BkTurn id j (if stakesK st n = 0 then n else st) ls b (stakesK st n) m v m' := by
  have h0 := h
  obtain ⟨A, hm, hA⟩ := h
  simp only [bkC] at hm
  refine ecalls_of_vc Tryz.func48 rfl Tryz.fol (by kernel_rfl) ?_
  simp only [Tryz.f48]
  simp -dsimp -implicitDefEqProofs [withO_of hm]
  refine callsTo Tryz.cal65 (bkStakesS_c n _) ?_
  simp -dsimp -implicitDefEqProofs [withO_of hm]
  cases hb : inB n 3 60
  · simp -dsimp -implicitDefEqProofs [withO_of hm]
    have e : stakesK st n = 3 := by simp [stakesK, hb]
    exact ⟨_, _, GC.refl _ _ _, by rw [e], RestS.refl _ _, j, .inl rfl, by rw [e]; exact h0⟩
  · by_cases hs : st = 0
    · subst hs
      have e : stakesK 0 n = 0 := by simp [stakesK, hb]
      simp -dsimp -implicitDefEqProofs [withO_of hm]
      exact ⟨_, _, GC.refl _ _ _, by rw [e], rest_set _ _, j, .inl rfl, by rw [e]; exact ⟨A, get_set hm _, hA.set _⟩⟩
    · have e : stakesK st n = 6 := by simp [stakesK, hb, hs]
      have hs' : (st != 0) = true := by simp; omega
      simp -dsimp -implicitDefEqProofs [withO_of hm, hs']
      exact ⟨_, _, GC.refl _ _ _, by rw [e], RestS.refl _ _, j, .inl rfl, by rw [e]; exact h0⟩
theorem setStakes_c (id j : Nat) (st n : Int) (ls : List LyT) (b : ByteArray) (m : Mem) (h : BkAt m id j st ls b) (hst : 0 ≤ st) :
    ∃ v m', ACalls Tryz.prog 38 [.pointer (some ⟨id, 0, none⟩), .int .i64 n] m v m' ∧ BkTurn id j (if stakesK st n = 0 then n else st) ls b (stakesK st n) m v m' := by
  have h0 := h
  obtain ⟨A, hm, hA⟩ := h
  simp only [bkC] at hm
  refine ecalls_of_vc Tryz.func38 rfl Tryz.fol (by kernel_rfl) ?_
  simp only [Tryz.f38]
  simp -dsimp -implicitDefEqProofs [withO_of hm]
  refine callsTo Tryz.cal54 (bkStakesI_c n _) ?_
  simp -dsimp -implicitDefEqProofs [withO_of hm]
  cases hb : inB n 3 60
  · simp -dsimp -implicitDefEqProofs [withO_of hm]
    have e : stakesK st n = 3 := by simp [stakesK, hb]
    exact ⟨_, _, GC.refl _ _ _, by rw [e], RestS.refl _ _, j, .inl rfl, by rw [e]; exact h0⟩
  · by_cases hs : st = 0
    · subst hs
      have e : stakesK 0 n = 0 := by simp [stakesK, hb]
      simp -dsimp -implicitDefEqProofs [withO_of hm]
      exact ⟨_, _, GC.refl _ _ _, by rw [e], rest_set _ _, j, .inl rfl, by rw [e]; exact ⟨A, get_set hm _, hA.set _⟩⟩
    · have e : stakesK st n = 6 := by simp [stakesK, hb, hs]
      have hs' : decide (0 < st) = true := by simp; omega
      simp -dsimp -implicitDefEqProofs [withO_of hm, hs']
      exact ⟨_, _, GC.refl _ _ _, by rw [e], RestS.refl _ _, j, .inl rfl, by rw [e]; exact h0⟩
set_option maxRecDepth 20000 in
theorem l17Layer_c (id j : Nat) (st : Int) (p : LyT) (ls : List LyT) (b : ByteArray) (m : Mem) (h : BkAt m id j st ls b) (hp : p.1.size ≤ maxLen) (hl : ls.length ≤ 40) :
    ∃ v m', ACalls Tryz.prog 49 [.pointer (some ⟨id, 0, none⟩), .agg (vl p).toArray] m v m' ∧ BkTurn id j st (if layerK st ls.length b p = 0 then ls ++ [p] else ls) b (layerK st ls.length b p) m v m' := by
  have h0 := h
  obtain ⟨A, hm, hA⟩ := h
  simp only [bkC] at hm
  have hbx : ∀ l : Mem, BkAt (m ++ l) id j st ls b := fun l => h0.rest (S := []) (RestS.app _ _ _) (by simp) (by simp)
  refine ecalls_of_vc Tryz.func49 rfl Tryz.fol (by kernel_rfl) ?_
  simp only [Tryz.f49]
  simp -dsimp -implicitDefEqProofs [fun l => withO_of (get_old (l := l) hm), vl, madeL]
  refine callsTo Tryz.cal66 (l06Ok_c p.1 hp _) ?_
  simp -dsimp -implicitDefEqProofs [fun l => withO_of (get_old (l := l) hm), vl, madeL]
  cases g1 : strokeB p.1
  · simp -dsimp -implicitDefEqProofs [fun l => withO_of (get_old (l := l) hm), vl, madeL]
    have e : layerK st ls.length b p = 4 := by simp [layerK, g1]
    exact ⟨_, _, GC.refl _ _ _, by rw [e], RestS.app _ _ _, j, .inl rfl, by rw [e]; exact hbx _⟩
  simp -dsimp -implicitDefEqProofs [fun l => withO_of (get_old (l := l) hm), vl, madeL]
  refine callsTo Tryz.cal36 (l00In_c p.2 1 100 _) ?_
  simp -dsimp -implicitDefEqProofs [fun l => withO_of (get_old (l := l) hm), vl, madeL]
  cases g2 : inB p.2 1 100
  · simp -dsimp -implicitDefEqProofs [fun l => withO_of (get_old (l := l) hm), vl, madeL]
    have e : layerK st ls.length b p = 3 := by simp [layerK, g1, g2]
    exact ⟨_, _, GC.refl _ _ _, by rw [e], RestS.app _ _ _, j, .inl rfl, by rw [e]; exact hbx _⟩
  by_cases hs : st = 0
  · subst hs
    simp -dsimp -implicitDefEqProofs [fun l => withO_of (get_old (l := l) hm), vl, madeL]
    have e : layerK 0 ls.length b p = 5 := by simp [layerK, g1, g2]
    exact ⟨_, _, GC.refl _ _ _, by rw [e], RestS.app _ _ _, j, .inl rfl, by rw [e]; exact hbx _⟩
  have hs' : (st == 0) = false := beq_eq_false_iff_ne.2 hs
  have hbE := emptyE b
  by_cases hb : b.size = 0
  · by_cases hfull : ls.length = 40
    · have hfT : decide ((40 : Int) ≤ (ls.length : Int)) = true := by simp [hfull]
      simp -dsimp -implicitDefEqProofs [fun l => withO_of (get_old (l := l) hm), vl, madeL, hs', hbE, hb, hfT]
      have e : layerK st ls.length b p = 7 := by simp [layerK, g1, g2, hs, hb, hfull]
      exact ⟨_, _, GC.refl _ _ _, by rw [e], RestS.app _ _ _, j, .inl rfl, by rw [e]; exact hbx _⟩
    · have e : layerK st ls.length b p = 0 := by simp [layerK, g1, g2, hs, hb, show ¬ 40 ≤ ls.length by omega]
      have hf' : decide ((40 : Int) ≤ (ls.length : Int)) = false := by simp; omega
      have hnew : (ls ++ [p]).length = ls.length + 1 := by simp
      simp -dsimp -implicitDefEqProofs [fun l => withO_of (get_old (l := l) hm), vl, madeL, hs', hbE, hb, hf']
      rcases hA with ⟨rfl, rfl, rfl⟩ | ⟨rfl, hne, kd, ho, hk1, hk2⟩
      · refine appTo_nil (n := 0) (c := 1) (e := 54) (sz := 2) (by_ := 24) (z := .agg #[.string ⟨#[]⟩, .int .i64 0]) (by kernel_rfl) (by kernel_rfl) ⟨by decide, rfl⟩ (by decide) (by decide) (Src.obj (o := ⟨[.string p.1, .int .i64 p.2], 54, 2, 1⟩) (by simp) (by simp) rfl rfl) ?_
        refine need_intro (.inr (by kernel_rfl)) ?_
        simp -dsimp -implicitDefEqProofs [fun l => withO_of (get_old (l := l) hm), vl, madeL, hs', hbE, hb, hf']
        refine need_intro (.inr (by kernel_rfl)) ?_
        have hlt := lt_of_get hm
        have e : layerK st 0 b p = 0 := e
        refine ⟨_, _, GC.refl _ _ _, by rw [e], (RestS.app _ _ _).trans (rest_set _ _), m.length + 2, .inr (by omega), ?_⟩
        rw [e, if_pos rfl]
        exact ⟨_, get_set (get_old hm) _, .inr ⟨rfl, by omega, 2, by rw [List.getElem?_set_ne (by omega)]; simp [vl], by decide, by decide⟩⟩
      · refine appTo_grow (n := ls.length) (c := 1) (e := 54) (sz := 2) (by_ := 24) (z := .agg #[.string ⟨#[]⟩, .int .i64 0]) (by kernel_rfl) (by kernel_rfl) ⟨by decide, rfl⟩ (get_old ho) ⟨hk1, hk2⟩ ⟨rfl, rfl⟩ (by simp [flatten_length (sz := 2) (rows := ls.map vl) (by intro r hr; obtain ⟨x, _, rfl⟩ := List.mem_map.1 hr; rfl)]) (by omega) (Src.obj (o := ⟨[.string p.1, .int .i64 p.2], 54, 2, 1⟩) (by simp) (by simp) rfl rfl) ?_
        intro m2 id2 gr
        refine need_intro (.inr (by kernel_rfl)) ?_
        have hm2 := gr.old _ _ (Ne.symm hne) (get_old hm)
        simp -dsimp -implicitDefEqProofs [fun l => withO_of (get_old (l := l) hm), vl, madeL, hs', hbE, hb, hf', withO_of hm2]
        refine need_intro (.inr (by kernel_rfl)) ?_
        have hlt := lt_of_get hm
        have hat := gr.at_
        simp at hat
        refine ⟨_, _, GC.refl _ _ _, by rw [e], ((RestS.app _ _ _).trans ⟨by have := gr.len; omega, fun i o h1 h2 => gr.old i o (fun x => h1 (by simp [x])) h2⟩).trans (rest_set _ _), id2, .inr (by omega), ?_⟩
        rw [e, if_pos rfl]
        exact ⟨some ⟨id2, 0, none⟩, by rw [hnew]; exact get_set hm2 _, .inr ⟨rfl, by omega, 2, by rw [List.getElem?_set_ne (by omega), gr.new]; simp [vl], by decide, by decide⟩⟩
  · have hb' : (b.size == 0) = false := beq_eq_false_iff_ne.2 hb
    simp -dsimp -implicitDefEqProofs [fun l => withO_of (get_old (l := l) hm), vl, madeL, hs', hbE, hb]
    have e : layerK st ls.length b p = 5 := by simp [layerK, g1, g2, hb]
    exact ⟨_, _, GC.refl _ _ _, by rw [e], RestS.app _ _ _, j, .inl rfl, by rw [e]; exact hbx _⟩
set_option maxRecDepth 20000 in
theorem addLayer_c (id j : Nat) (st : Int) (p : LyT) (ls : List LyT) (b : ByteArray) (m : Mem) (h : BkAt m id j st ls b) (hp : p.1.size ≤ maxLen) (hl : ls.length ≤ 40) :
    ∃ v m', ACalls Tryz.prog 39 [.pointer (some ⟨id, 0, none⟩), .agg (vl p).toArray] m v m' ∧ BkTurn id j st (if layerK st ls.length b p = 0 then ls ++ [p] else ls) b (layerK st ls.length b p) m v m' := by
  have h0 := h
  obtain ⟨A, hm, hA⟩ := h
  simp only [bkC] at hm
  have hbx : ∀ l : Mem, BkAt (m ++ l) id j st ls b := fun l => h0.rest (S := []) (RestS.app _ _ _) (by simp) (by simp)
  refine ecalls_of_vc Tryz.func39 rfl Tryz.fol (by kernel_rfl) ?_
  simp only [Tryz.f39]
  simp -dsimp -implicitDefEqProofs [fun l => withO_of (get_old (l := l) hm), vl, madeL]
  refine callsTo Tryz.cal55 (validStroke_c p.1 hp _) ?_
  simp -dsimp -implicitDefEqProofs [fun l => withO_of (get_old (l := l) hm), vl, madeL]
  cases g1 : strokeB p.1
  · simp -dsimp -implicitDefEqProofs [fun l => withO_of (get_old (l := l) hm), vl, madeL]
    have e : layerK st ls.length b p = 4 := by simp [layerK, g1]
    exact ⟨_, _, GC.refl _ _ _, by rw [e], RestS.app _ _ _, j, .inl rfl, by rw [e]; exact hbx _⟩
  simp -dsimp -implicitDefEqProofs [fun l => withO_of (get_old (l := l) hm), vl, madeL]
  refine callsTo Tryz.cal35 (within_c p.2 1 100 _) ?_
  simp -dsimp -implicitDefEqProofs [fun l => withO_of (get_old (l := l) hm), vl, madeL]
  cases g2 : inB p.2 1 100
  · simp -dsimp -implicitDefEqProofs [fun l => withO_of (get_old (l := l) hm), vl, madeL]
    have e : layerK st ls.length b p = 3 := by simp [layerK, g1, g2]
    exact ⟨_, _, GC.refl _ _ _, by rw [e], RestS.app _ _ _, j, .inl rfl, by rw [e]; exact hbx _⟩
  by_cases hs : st = 0
  · subst hs
    simp -dsimp -implicitDefEqProofs [fun l => withO_of (get_old (l := l) hm), vl, madeL]
    have e : layerK 0 ls.length b p = 5 := by simp [layerK, g1, g2]
    exact ⟨_, _, GC.refl _ _ _, by rw [e], RestS.app _ _ _, j, .inl rfl, by rw [e]; exact hbx _⟩
  have hs' : (st == 0) = false := beq_eq_false_iff_ne.2 hs
  have hbE := emptyE b
  by_cases hb : b.size = 0
  · by_cases hfull : ls.length = 40
    · have hfT : ((ls.length : Int) == 40) = true := by simp [hfull]
      simp -dsimp -implicitDefEqProofs [fun l => withO_of (get_old (l := l) hm), vl, madeL, hs', hbE, hb, hfT]
      have e : layerK st ls.length b p = 7 := by simp [layerK, g1, g2, hs, hb, hfull]
      exact ⟨_, _, GC.refl _ _ _, by rw [e], RestS.app _ _ _, j, .inl rfl, by rw [e]; exact hbx _⟩
    · have e : layerK st ls.length b p = 0 := by simp [layerK, g1, g2, hs, hb, show ¬ 40 ≤ ls.length by omega]
      have hf' : ((ls.length : Int) == 40) = false := by simp; omega
      have hnew : (ls ++ [p]).length = ls.length + 1 := by simp
      simp -dsimp -implicitDefEqProofs [fun l => withO_of (get_old (l := l) hm), vl, madeL, hs', hbE, hb, hf']
      rcases hA with ⟨rfl, rfl, rfl⟩ | ⟨rfl, hne, kd, ho, hk1, hk2⟩
      · refine appTo_nil (n := 0) (c := 1) (e := 54) (sz := 2) (by_ := 24) (z := .agg #[.string ⟨#[]⟩, .int .i64 0]) (by kernel_rfl) (by kernel_rfl) ⟨by decide, rfl⟩ (by decide) (by decide) (Src.obj (o := ⟨[.string p.1, .int .i64 p.2], 54, 2, 1⟩) (by simp) (by simp) rfl rfl) ?_
        refine need_intro (.inr (by kernel_rfl)) ?_
        simp -dsimp -implicitDefEqProofs [fun l => withO_of (get_old (l := l) hm), vl, madeL, hs', hbE, hb, hf']
        refine need_intro (.inr (by kernel_rfl)) ?_
        have hlt := lt_of_get hm
        have e : layerK st 0 b p = 0 := e
        refine ⟨_, _, GC.refl _ _ _, by rw [e], (RestS.app _ _ _).trans (rest_set _ _), m.length + 2, .inr (by omega), ?_⟩
        rw [e, if_pos rfl]
        exact ⟨_, get_set (get_old hm) _, .inr ⟨rfl, by omega, 2, by rw [List.getElem?_set_ne (by omega)]; simp [vl], by decide, by decide⟩⟩
      · refine appTo_grow (n := ls.length) (c := 1) (e := 54) (sz := 2) (by_ := 24) (z := .agg #[.string ⟨#[]⟩, .int .i64 0]) (by kernel_rfl) (by kernel_rfl) ⟨by decide, rfl⟩ (get_old ho) ⟨hk1, hk2⟩ ⟨rfl, rfl⟩ (by simp [flatten_length (sz := 2) (rows := ls.map vl) (by intro r hr; obtain ⟨x, _, rfl⟩ := List.mem_map.1 hr; rfl)]) (by omega) (Src.obj (o := ⟨[.string p.1, .int .i64 p.2], 54, 2, 1⟩) (by simp) (by simp) rfl rfl) ?_
        intro m2 id2 gr
        refine need_intro (.inr (by kernel_rfl)) ?_
        have hm2 := gr.old _ _ (Ne.symm hne) (get_old hm)
        simp -dsimp -implicitDefEqProofs [fun l => withO_of (get_old (l := l) hm), vl, madeL, hs', hbE, hb, hf', withO_of hm2]
        refine need_intro (.inr (by kernel_rfl)) ?_
        have hlt := lt_of_get hm
        have hat := gr.at_
        simp at hat
        refine ⟨_, _, GC.refl _ _ _, by rw [e], ((RestS.app _ _ _).trans ⟨by have := gr.len; omega, fun i o h1 h2 => gr.old i o (fun x => h1 (by simp [x])) h2⟩).trans (rest_set _ _), id2, .inr (by omega), ?_⟩
        rw [e, if_pos rfl]
        exact ⟨some ⟨id2, 0, none⟩, by rw [hnew]; exact get_set hm2 _, .inr ⟨rfl, by omega, 2, by rw [List.getElem?_set_ne (by omega), gr.new]; simp [vl], by decide, by decide⟩⟩
  · have hb' : (b.size == 0) = false := beq_eq_false_iff_ne.2 hb
    simp -dsimp -implicitDefEqProofs [fun l => withO_of (get_old (l := l) hm), vl, madeL, hs', hbE, hb]
    have e : layerK st ls.length b p = 5 := by simp [layerK, g1, g2, hb]
    exact ⟨_, _, GC.refl _ _ _, by rw [e], RestS.app _ _ _, j, .inl rfl, by rw [e]; exact hbx _⟩
theorem l17Border_c (id j : Nat) (st : Int) (w : ByteArray) (ls : List LyT) (b : ByteArray) (m : Mem) (h : BkAt m id j st ls b) (hw : w.size ≤ maxLen) (hst : st = 0 ∨ 3 ≤ st ∧ st ≤ 60) :
    ∃ v m', ACalls Tryz.prog 46 [.pointer (some ⟨id, 0, none⟩), .string w] m v m' ∧ BkTurn id j st ls (if borderK st b w = 0 then w else b) (borderK st b w) m v m' := by
  have h0 := h
  obtain ⟨A, hm, hA⟩ := h
  simp only [bkC] at hm
  refine ecalls_of_vc Tryz.func46 rfl Tryz.fol (by kernel_rfl) ?_
  simp only [Tryz.f46]
  simp -dsimp -implicitDefEqProofs [withO_of hm]
  refine callsTo Tryz.cal62 (l11Ok_c w hw _) ?_
  simp -dsimp -implicitDefEqProofs [withO_of hm]
  cases g1 : bendsB w
  · simp -dsimp -implicitDefEqProofs [withO_of hm]
    have e : borderK st b w = 4 := by simp [borderK, g1]
    exact ⟨_, _, GC.refl _ _ _, by rw [e], RestS.refl _ _, j, .inl rfl, by rw [e]; exact h0⟩
  simp -dsimp -implicitDefEqProofs [withO_of hm]
  by_cases hs : st = 0
  · subst hs
    simp -dsimp -implicitDefEqProofs [withO_of hm]
    have e : borderK 0 b w = 5 := by simp [borderK, g1]
    exact ⟨_, _, GC.refl _ _ _, by rw [e], RestS.refl _ _, j, .inl rfl, by rw [e]; exact h0⟩
  have hs' : (st == 0) = false := beq_eq_false_iff_ne.2 hs
  have hbE := emptyE b
  have h8 : w.size ≤ 8 := by simp [bendsB, wordB] at g1; omega
  by_cases hb : b.size = 0
  · simp -dsimp -implicitDefEqProofs [withO_of hm, hs', hbE, hb]
    refine callsTo Tryz.cal63 (l11Stakes_c w st (by omega) _) ?_
    simp -dsimp -implicitDefEqProofs [withO_of hm, hs', hbE, hb]
    cases g2 : inB st (w.size + 2) 40
    · simp -dsimp -implicitDefEqProofs [withO_of hm, hs', hbE, hb]
      have e : borderK st b w = 3 := by simp [borderK, g1, hs, hb, g2]
      exact ⟨_, _, GC.refl _ _ _, by rw [e], RestS.refl _ _, j, .inl rfl, by rw [e]; exact h0⟩
    · simp -dsimp -implicitDefEqProofs [withO_of hm, hs', hbE, hb]
      have e : borderK st b w = 0 := by simp [borderK, g1, hs, hb, g2]
      exact ⟨_, _, GC.refl _ _ _, by rw [e], rest_set _ _, j, .inl rfl, by rw [e]; exact ⟨A, get_set hm _, hA.set _⟩⟩
  · simp -dsimp -implicitDefEqProofs [withO_of hm, hs', hbE, hb]
    have e : borderK st b w = 6 := by simp [borderK, g1, hs, hb]
    exact ⟨_, _, GC.refl _ _ _, by rw [e], RestS.refl _ _, j, .inl rfl, by rw [e]; exact h0⟩
theorem setBorder_c (id j : Nat) (st : Int) (w : ByteArray) (ls : List LyT) (b : ByteArray) (m : Mem) (h : BkAt m id j st ls b) (hw : w.size ≤ maxLen) (hst : st = 0 ∨ 3 ≤ st ∧ st ≤ 60) :
    ∃ v m', ACalls Tryz.prog 40 [.pointer (some ⟨id, 0, none⟩), .string w] m v m' ∧ BkTurn id j st ls (if borderK st b w = 0 then w else b) (borderK st b w) m v m' := by
  have h0 := h
  obtain ⟨A, hm, hA⟩ := h
  simp only [bkC] at hm
  refine ecalls_of_vc Tryz.func40 rfl Tryz.fol (by kernel_rfl) ?_
  simp only [Tryz.f40]
  simp -dsimp -implicitDefEqProofs [withO_of hm]
  refine callsTo Tryz.cal56 (validBends_c w hw _) ?_
  simp -dsimp -implicitDefEqProofs [withO_of hm]
  cases g1 : bendsB w
  · simp -dsimp -implicitDefEqProofs [withO_of hm]
    have e : borderK st b w = 4 := by simp [borderK, g1]
    exact ⟨_, _, GC.refl _ _ _, by rw [e], RestS.refl _ _, j, .inl rfl, by rw [e]; exact h0⟩
  simp -dsimp -implicitDefEqProofs [withO_of hm]
  by_cases hs : st = 0
  · subst hs
    simp -dsimp -implicitDefEqProofs [withO_of hm]
    have e : borderK 0 b w = 5 := by simp [borderK, g1]
    exact ⟨_, _, GC.refl _ _ _, by rw [e], RestS.refl _ _, j, .inl rfl, by rw [e]; exact h0⟩
  have hs' : (st == 0) = false := beq_eq_false_iff_ne.2 hs
  have hbE := emptyE b
  have h8 : w.size ≤ 8 := by simp [bendsB, wordB] at g1; omega
  by_cases hb : b.size = 0
  · simp -dsimp -implicitDefEqProofs [withO_of hm, hs', hbE, hb]
    refine callsTo Tryz.cal57 (bendCode_c w st hw (by omega) _) ?_
    simp -dsimp -implicitDefEqProofs [withO_of hm, hs', hbE, hb]
    rw [g1]
    cases g2 : inB st (w.size + 2) 40
    · simp -dsimp -implicitDefEqProofs [withO_of hm, hs', hbE, hb]
      have e : borderK st b w = 3 := by simp [borderK, g1, hs, hb, g2]
      exact ⟨_, _, GC.refl _ _ _, by rw [e], RestS.refl _ _, j, .inl rfl, by rw [e]; exact h0⟩
    · simp -dsimp -implicitDefEqProofs [withO_of hm, hs', hbE, hb]
      have e : borderK st b w = 0 := by simp [borderK, g1, hs, hb, g2]
      exact ⟨_, _, GC.refl _ _ _, by rw [e], rest_set _ _, j, .inl rfl, by rw [e]; exact ⟨A, get_set hm _, hA.set _⟩⟩
  · simp -dsimp -implicitDefEqProofs [withO_of hm, hs', hbE, hb]
    have e : borderK st b w = 6 := by simp [borderK, g1, hs, hb]
    exact ⟨_, _, GC.refl _ _ _, by rw [e], RestS.refl _ _, j, .inl rfl, by rw [e]; exact h0⟩
end Go.Proofs.YtmbijgnmbapchaaGreatDoor
namespace Go.Proofs.YtmbijgnmbapchaaGreatDoor
open Go.Abs Go.RowKit

abbrev B0 : ByteArray := ⟨#[]⟩
/-- The first k layers can be woven, one after the other. -/
def laysTo (st : Int) (ls : List LyT) (k : Nat) : Bool := (List.range k).all fun i => decide (layerK st i B0 (ls.getD i (B0, 0)) = 0)
def okB (st : Int) (ls : List LyT) (b : ByteArray) : Bool :=
  if st = 0 then decide (ls = []) && decide (b.size = 0) else inB st 3 60 && laysTo st ls ls.length && (decide (b.size = 0) || decide (borderK st B0 b = 0))
theorem getL {ls : List LyT} {k : Nat} (h : k < ls.length) : ls.getD k (B0, 0) = ls[k] := by simp [List.getD_eq_getElem?_getD, List.getElem?_eq_getElem h]
theorem layerK_zero {st : Int} {i : Nat} {p : LyT} (h : layerK st i B0 p = 0) : st ≠ 0 ∧ i < 40 := by
  unfold layerK at h
  repeat' split at h
  all_goals first | (exfalso; omega) | skip
  rename_i h1 h2 h3 h4
  exact ⟨fun e => h3 (.inl e), by omega⟩
theorem bkZero (m l : Mem) (i : Nat) (hi : (m ++ l)[i]? = some ⟨[.int .i64 0, .slice none 0 0, .string ⟨#[]⟩], 27, 3, 1⟩) : BkAt (m ++ l) i i 0 [] B0 := ⟨none, hi, .inl ⟨rfl, rfl, rfl⟩⟩
theorem restPre {m0 m m' : Mem} {id j : Nat} (h : RestS [id, j] m m') (hp : m0 <+: m) (h1 : m0.length ≤ id) (h2 : m0.length ≤ j) : m0 <+: m' :=
  h.base hp (by intro i hi; rcases List.mem_cons.1 hi with rfl | hi; · exact h1
                rcases List.mem_cons.1 hi with rfl | hi; · exact h2
                cases hi)
theorem l17Ok_c (st : Int) (ls : List LyT) (b : ByteArray) (A : Option Addr) (xi : Nat) (o : AObj) (m : Mem) (hx : m[xi]? = some o) (hk : o.kind ≤ 2) (hc : o.cells = bkC st A ls.length b) (hr : RdG vl 2 m A ls) (hn : ls.length ≤ 1048576) (hs : ∀ p ∈ ls, p.1.size ≤ maxLen) (hb : b.size ≤ maxLen) :
    ACalls Tryz.prog 32 [.pointer (some ⟨xi, 0, none⟩)] m (.bool (okB st ls b)) m := by
  obtain ⟨cells, ty, sz, kd⟩ := o
  simp only at hk hc
  subst hc
  simp only [bkC] at hx
  have hbE := emptyE b
  by_cases h0 : st = 0
  · subst h0
    by_cases hl : ls = []
    · subst hl
      refine acalls_of_vc Tryz.func32 rfl Tryz.fol (by kernel_rfl) ?_
      simp only [Tryz.f32]
      simp -dsimp -implicitDefEqProofs [fun l => withO_of (get_old (l := l) hx), hk, hbE]
      exact GC.dropEq (by simp [okB]) rfl
    · have hl' : ((ls.length : Int) == 0) = false := by
        refine beq_eq_false_iff_ne.2 fun e => hl (List.length_eq_zero_iff.1 (by omega))
      refine acalls_of_vc Tryz.func32 rfl Tryz.fol (by kernel_rfl) ?_
      simp only [Tryz.f32]
      simp -dsimp -implicitDefEqProofs [fun l => withO_of (get_old (l := l) hx), hk, hl']
      exact GC.dropEq (by simp [okB, hl]) rfl
  have h0' : (st == 0) = false := beq_eq_false_iff_ne.2 h0
  obtain ⟨m1, hm1⟩ : ∃ m1 : Mem, m1 = m ++ [⟨[.int .i64 0, .slice none 0 0, .string ⟨#[]⟩], 27, 3, 1⟩] := ⟨_, rfl⟩
  have hp1 : m <+: m1 := by rw [hm1]; exact ⟨_, rfl⟩
  have hB1 : BkAt m1 m.length m.length 0 [] B0 := by rw [hm1]; exact bkZero _ _ _ (by simp)
  obtain ⟨v2, m2, hc2, rfl, hr2, j2, hj2, hB2⟩ := l17Stakes_c m.length m.length 0 st [] B0 m1 hB1 (by omega)
  have t1 : m1[m.length]? = some ⟨[.int .i64 0, .slice none 0 0, .string ⟨#[]⟩], 27, 3, 1⟩ := by rw [hm1]; simp
  have hset := set_self t1
  have hx1 := prefix_get hp1 hx
  have hl1 : m1.length = m.length + 1 := by rw [hm1]; simp
  refine acalls_of_vc Tryz.func32 rfl Tryz.fol (by kernel_rfl) ?_
  simp only [Tryz.f32]
  simp -dsimp -implicitDefEqProofs [withO_of hx1, hk, h0', hm1.symm, withO_of t1, hset]
  refine callsTo Tryz.cal48 hc2 ?_
  simp -dsimp -implicitDefEqProofs [withO_of hx1, hk, h0', hm1.symm, withO_of t1, hset]
  have hp2 : m <+: m2 := restPre hr2 hp1 (Nat.le_refl _) (Nat.le_refl _)
  cases hin : inB st 3 60
  · have e : stakesK 0 st = 3 := by simp [stakesK, hin]
    simp -dsimp -implicitDefEqProofs [withO_of hx1, hk, h0', hm1.symm, withO_of t1, hset, e]
    exact GC.dropP hp2 (by simp [okB, h0, hin]) rfl
  have e : stakesK 0 st = 0 := by simp [stakesK, hin]
  rw [if_pos e] at hB2
  have hst : 3 ≤ st ∧ st ≤ 60 := by simpa [inB] using hin
  simp -dsimp -implicitDefEqProofs [withO_of hx1, hk, h0', hm1.symm, withO_of t1, hset, e]
  refine loopN ls.length (fun k σ m' => m <+: m' ∧ (∃ j, m.length ≤ j ∧ BkAt m' m.length j st (ls.take k) B0) ∧ laysTo st ls k = true ∧ σ 0 = some (.pointer (some ⟨xi, 0, none⟩)) ∧ σ 3 = some (.pointer (some ⟨m.length, 0, none⟩)) ∧ σ 4 = some (.int .i64 k))
    ⟨hp2, ⟨j2, by omega, by simpa using hB2⟩, rfl, by simp, by simp, by simp⟩ ?_
  rintro k σ m' hk' ⟨hp, ⟨j, hj, hB⟩, hok, s0, s3, s4⟩
  have hxm := prefix_get hp hx
  by_cases hlt : k < ls.length
  · have hw : IntKind.i64.wrap ((k : Int) + 1) = k + 1 := wrapI (by omega) (by omega)
    obtain ⟨id, off, ob, rfl, hmo, hkd, hsz, hlen, hrow, _⟩ := RL.at_ (hr.pre hp) hlt
    have hk40 : (ls.take k).length ≤ 40 := by
      have hle : ∀ i, i ≤ ls.length → laysTo st ls i = true → i ≤ 40 := fun i hi h => by
        cases i with
        | zero => omega
        | succ i =>
          have := allTo_get h (show i < i + 1 by omega)
          have := (layerK_zero (of_decide_eq_true this)).2
          omega
      have := hle k hk' hok
      simp; omega
    have hkk : (ls.take k).length = k := by simp; omega
    obtain ⟨v3, m3, hc3, rfl, hr3, j3, hj3, hB3⟩ := l17Layer_c m.length j st ls[k] (ls.take k) B0 m' hB (hs _ (List.getElem_mem hlt)) hk40
    rw [hkk] at hc3 hB3
    have hp3 : m <+: m3 := restPre hr3 hp (Nat.le_refl _) hj
    have hml := hp.length_le
    simp -dsimp -implicitDefEqProofs [s0, s3, s4, hlt, withO_of hxm, hk, withO_of hmo, hkd, hsz, hlen, hrow, hw]
    refine callsTo Tryz.cal49 hc3 ?_
    simp -dsimp -implicitDefEqProofs [s0, s3, s4, hlt, withO_of hxm, hk, withO_of hmo, hkd, hsz, hlen, hrow, hw]
    by_cases hz : layerK st k B0 ls[k] = 0
    · rw [if_pos hz] at hB3
      have hz' : (layerK st k B0 ls[k] != 0) = false := by simp [hz]
      simp -dsimp -implicitDefEqProofs [s0, s3, s4, hlt, withO_of hxm, hk, withO_of hmo, hkd, hsz, hlen, hrow, hw, hz']
      exact next_ hlt ⟨hp3, ⟨j3, by omega, by rw [List.take_add_one, List.getElem?_eq_getElem hlt]; exact hB3⟩, allTo_succ hok (by rw [getL hlt]; simpa using hz), by simp [s0], by simp [s3], by simp [hw]⟩
    · have hz' : (layerK st k B0 ls[k] != 0) = true := by simpa using hz
      simp -dsimp -implicitDefEqProofs [s0, s3, s4, hlt, withO_of hxm, hk, withO_of hmo, hkd, hsz, hlen, hrow, hw, hz']
      exact GC.dropP hp3 (by
        have : laysTo st ls ls.length = false := allTo_false hlt (by rw [getL hlt]; simpa using hz)
        simp [okB, h0, hin, this]) rfl
  · obtain rfl : k = ls.length := by omega
    rw [List.take_of_length_le (Nat.le_refl _)] at hB
    obtain ⟨v3, m3, hc3, rfl, hr3, j3, hj3, hB3⟩ := l17Border_c m.length j st b ls B0 m' hB hb (.inr hst)
    have hp3 : m <+: m3 := restPre hr3 hp (Nat.le_refl _) hj
    by_cases hbz : b.size = 0
    · simp -dsimp -implicitDefEqProofs [s0, s3, s4, withO_of hxm, hk, hbE, hbz]
      exact GC.dropP hp (by simp [okB, h0, hin, hok, hbz]) rfl
    · simp -dsimp -implicitDefEqProofs [s0, s3, s4, withO_of hxm, hk, hbE, hbz]
      refine callsTo Tryz.cal46 hc3 ?_
      simp -dsimp -implicitDefEqProofs [s0, s3, s4, withO_of hxm, hk, hbE, hbz]
      exact GC.dropP hp3 (by
        simp [okB, h0, hin, hok, hbz]
        rfl) rfl
end Go.Proofs.YtmbijgnmbapchaaGreatDoor
namespace Go.Proofs.YtmbijgnmbapchaaGreatDoor
open Go.Abs Go.RowKit

theorem laysTo_le {st : Int} {ls : List LyT} {k : Nat} (h : laysTo st ls k = true) : k ≤ 40 := by
  cases k with
  | zero => omega
  | succ i =>
    have := allTo_get h (show i < i + 1 by omega)
    have := (layerK_zero (of_decide_eq_true this)).2
    omega
theorem okB_lays {st : Int} {ls : List LyT} {b : ByteArray} (h : st = 0 ∨ inB st 3 60 = true) : okB st ls b = (laysTo st ls ls.length && (decide (b.size = 0) || decide (borderK st B0 b = 0))) := by
  rcases h with rfl | h
  · unfold okB
    rw [if_pos rfl]
    by_cases hl : ls = []
    · subst hl
      have : borderK 0 B0 b ≠ 0 := by unfold borderK; split <;> simp
      simp [laysTo, this]
    · have : laysTo 0 ls ls.length = false := by
        have hpos : 0 < ls.length := List.length_pos_iff.2 hl
        refine allTo_false hpos ?_
        simp only [decide_eq_false_iff_not]
        intro e
        exact (layerK_zero e).1 rfl
      simp [hl, this]
  · have h0 : st ≠ 0 := by rintro rfl; simp [inB] at h
    simp [okB, h0, h]
theorem validBasket_c (st : Int) (ls : List LyT) (b : ByteArray) (A : Option Addr) (m : Mem) (hr : RdG vl 2 m A ls) (hn : ls.length ≤ 1048576) (hs : ∀ p ∈ ls, p.1.size ≤ maxLen) (hb : b.size ≤ maxLen) :
    ACalls Tryz.prog 17 [.agg (bkC st A ls.length b).toArray] m (.bool (okB st ls b)) m := by
  have hbE := emptyE b
  obtain ⟨m1, hm1⟩ : ∃ m1 : Mem, m1 = m ++ [⟨[.int .i64 st, .slice A ls.length ls.length, .string b], 27, 3, 1⟩, ⟨[.int .i64 0, .slice none 0 0, .string ⟨#[]⟩], 27, 3, 1⟩] := ⟨_, rfl⟩
  have hp1 : m <+: m1 := by rw [hm1]; exact ⟨_, rfl⟩
  have hx : m1[m.length]? = some ⟨[.int .i64 st, .slice A ls.length ls.length, .string b], 27, 3, 1⟩ := by rw [hm1]; simp
  have t1 : m1[m.length + 1]? = some ⟨[.int .i64 0, .slice none 0 0, .string ⟨#[]⟩], 27, 3, 1⟩ := by rw [hm1]; simp
  have hB1 : BkAt m1 (m.length + 1) (m.length + 1) 0 [] B0 := ⟨none, t1, .inl ⟨rfl, rfl, rfl⟩⟩
  have hset := set_self t1
  have hl1 : m1.length = m.length + 2 := by rw [hm1]; simp
  obtain ⟨mB, hmB⟩ : ∃ mB, mB = m ++ [(⟨[.int .i64 st, .slice A ls.length ls.length, .string b], 27, 3, 1⟩ : AObj)] := ⟨_, rfl⟩
  have hmBl : mB.length = m.length + 1 := by rw [hmB]; simp
  have hpB : m <+: mB := by rw [hmB]; exact ⟨_, rfl⟩
  have hpB1 : mB <+: m1 := by rw [hmB, hm1]; exact ⟨[⟨[.int .i64 0, .slice none 0 0, .string ⟨#[]⟩], 27, 3, 1⟩], by simp⟩
  have hxB : mB[m.length]? = some ⟨[.int .i64 st, .slice A ls.length ls.length, .string b], 27, 3, 1⟩ := by rw [hmB]; simp
  by_cases h0 : st = 0
  · subst h0
    have hokB := okB_lays (st := 0) (ls := ls) (b := b) (.inl rfl)
    have hst : (0 : Int) = 0 ∨ 3 ≤ (0 : Int) ∧ (0 : Int) ≤ 60 := .inl rfl
    refine acalls_of_vc Tryz.func17 rfl Tryz.fol (by kernel_rfl) ?_
    simp only [Tryz.f17, bkC]
    simp -dsimp -implicitDefEqProofs [hm1.symm, withO_of hx, withO_of t1, hset]
    refine loopN ls.length (fun k σ m' => mB <+: m' ∧ (∃ j, mB.length ≤ j ∧ BkAt m' (m.length + 1) j 0 (ls.take k) B0) ∧ laysTo 0 ls k = true ∧ σ 1 = some (.pointer (some ⟨m.length, 0, none⟩)) ∧ σ 3 = some (.pointer (some ⟨m.length + 1, 0, none⟩)) ∧ σ 17 = some (.slice A ls.length ls.length) ∧ σ 18 = some (.int .i64 ls.length) ∧ σ 19 = some (.int .i64 k))
      ⟨hpB1, ⟨m.length + 1, by omega, by simpa using hB1⟩, rfl, by simp, by simp, by simp, by simp, by simp⟩ ?_
    rintro k σ m' hk' ⟨hp, ⟨j, hj, hB⟩, hok, s1, s3, s17, s18, s19⟩
    have hxm := prefix_get hp hxB
    have hml := hp.length_le
    by_cases hlt : k < ls.length
    · have hw : IntKind.i64.wrap ((k : Int) + 1) = k + 1 := wrapI (by omega) (by omega)
      obtain ⟨id, off, ob, rfl, hmo, hkd, hsz, hlen, hrow, _⟩ := RL.at_ (hr.pre (hpB.trans hp)) hlt
      have hk40 := laysTo_le hok
      have hkk : (ls.take k).length = k := by simp; omega
      obtain ⟨m3, hm3⟩ : ∃ m3, m3 = m' ++ [(⟨[.string ls[k].1, .int .i64 ls[k].2], 54, 2, 1⟩ : AObj)] := ⟨_, rfl⟩
      have hp3 : m' <+: m3 := by rw [hm3]; exact ⟨_, rfl⟩
      have t3 : m3[m'.length]? = some ⟨[.string ls[k].1, .int .i64 ls[k].2], 54, 2, 1⟩ := by rw [hm3]; simp
      have hB3 : BkAt m3 (m.length + 1) j 0 (ls.take k) B0 := hB.rest (RestS.of_pre (S := []) hp3) (by simp) (by simp)
      obtain ⟨v4, m4, hc4, rfl, hr4, j4, hj4, hB4⟩ := addLayer_c (m.length + 1) j 0 ls[k] (ls.take k) B0 m3 hB3 (hs _ (List.getElem_mem hlt)) (by omega)
      rw [hkk] at hc4 hB4
      have hp4 : mB <+: m4 := restPre hr4 (hp.trans hp3) (by omega) hj
      have hl3 := hp3.length_le
      simp -dsimp -implicitDefEqProofs [s1, s3, s17, s18, s19, hlt, withO_of hmo, hkd, hsz, hlen, hrow, hw, vl, hm3.symm, withO_of t3]
      refine callsTo Tryz.cal39 hc4 ?_
      simp -dsimp -implicitDefEqProofs [s1, s3, s17, s18, s19, hlt, withO_of hmo, hkd, hsz, hlen, hrow, hw, vl, hm3.symm, withO_of t3]
      by_cases hz : layerK 0 k B0 ls[k] = 0
      · rw [if_pos hz] at hB4
        have hz' : (layerK 0 k B0 ls[k] != 0) = false := by simp [hz]
        simp -dsimp -implicitDefEqProofs [s1, s3, s17, s18, s19, hlt, withO_of hmo, hkd, hsz, hlen, hrow, hw, vl, hm3.symm, withO_of t3, hz']
        exact next_ hlt ⟨hp4, ⟨j4, by omega, by rw [List.take_add_one, List.getElem?_eq_getElem hlt]; exact hB4⟩, allTo_succ hok (by rw [getL hlt]; simpa using hz), by simp [s1], by simp [s3], by simp [s17], by simp [s18], by simp [hw]⟩
      · have hz' : (layerK 0 k B0 ls[k] != 0) = true := by simpa using hz
        simp -dsimp -implicitDefEqProofs [s1, s3, s17, s18, s19, hlt, withO_of hmo, hkd, hsz, hlen, hrow, hw, vl, hm3.symm, withO_of t3, hz']
        exact GC.dropP (hpB.trans hp4) (by
          have : laysTo 0 ls ls.length = false := allTo_false hlt (by rw [getL hlt]; simpa using hz)
          simp [hokB, this]) rfl
    · obtain rfl : k = ls.length := by omega
      rw [List.take_of_length_le (Nat.le_refl _)] at hB
      by_cases hbz : b.size = 0
      · simp -dsimp -implicitDefEqProofs [s1, s3, s17, s18, s19, withO_of hxm, hbE, hbz]
        exact GC.dropP (hpB.trans hp) (by simp [hokB, hok, hbz]) rfl
      · obtain ⟨v3, m3, hc3, rfl, hr3, j3, hj3, hB3⟩ := setBorder_c (m.length + 1) j 0 b ls B0 m' hB hb hst
        have hp3 : mB <+: m3 := restPre hr3 hp (by omega) hj
        simp -dsimp -implicitDefEqProofs [s1, s3, s17, s18, s19, withO_of hxm, hbE, hbz]
        refine callsTo Tryz.cal40 hc3 ?_
        simp -dsimp -implicitDefEqProofs [s1, s3, s17, s18, s19, withO_of hxm, hbE, hbz]
        exact GC.dropP (hpB.trans hp3) (by
          simp [hokB, hok, hbz]
          rfl) rfl
  · have h0' : (st != 0) = true := by simpa using h0
    obtain ⟨v2, m2, hc2, rfl, hr2, j2, hj2, hB2⟩ := setStakes_c (m.length + 1) (m.length + 1) 0 st [] B0 m1 hB1 (by omega)
    have hp2 : mB <+: m2 := restPre hr2 hpB1 (by omega) (by omega)
    refine acalls_of_vc Tryz.func17 rfl Tryz.fol (by kernel_rfl) ?_
    simp only [Tryz.f17, bkC]
    simp -dsimp -implicitDefEqProofs [hm1.symm, withO_of hx, withO_of t1, hset, h0']
    refine callsTo Tryz.cal38 hc2 ?_
    simp -dsimp -implicitDefEqProofs [hm1.symm, withO_of hx, withO_of t1, hset, h0']
    cases hin : inB st 3 60
    · have e : stakesK 0 st = 3 := by simp [stakesK, hin]
      simp -dsimp -implicitDefEqProofs [hm1.symm, withO_of hx, withO_of t1, hset, h0', e]
      exact GC.dropP (hpB.trans hp2) (by simp [okB, h0, hin]) rfl
    have e : stakesK 0 st = 0 := by simp [stakesK, hin]
    rw [if_pos e] at hB2
    have hokB := okB_lays (st := st) (ls := ls) (b := b) (.inr hin)
    have hst : st = 0 ∨ 3 ≤ st ∧ st ≤ 60 := .inr (by simpa [inB] using hin)
    have hx2 := prefix_get hp2 hxB
    simp -dsimp -implicitDefEqProofs [withO_of hx2, e]
    refine loopN ls.length (fun k σ m' => mB <+: m' ∧ (∃ j, mB.length ≤ j ∧ BkAt m' (m.length + 1) j st (ls.take k) B0) ∧ laysTo st ls k = true ∧ σ 1 = some (.pointer (some ⟨m.length, 0, none⟩)) ∧ σ 3 = some (.pointer (some ⟨m.length + 1, 0, none⟩)) ∧ σ 17 = some (.slice A ls.length ls.length) ∧ σ 18 = some (.int .i64 ls.length) ∧ σ 19 = some (.int .i64 k))
      ⟨hp2, ⟨j2, by omega, by simpa using hB2⟩, rfl, by simp, by simp, by simp, by simp, by simp⟩ ?_
    rintro k σ m' hk' ⟨hp, ⟨j, hj, hB⟩, hok, s1, s3, s17, s18, s19⟩
    have hxm := prefix_get hp hxB
    have hml := hp.length_le
    by_cases hlt : k < ls.length
    · have hw : IntKind.i64.wrap ((k : Int) + 1) = k + 1 := wrapI (by omega) (by omega)
      obtain ⟨id, off, ob, rfl, hmo, hkd, hsz, hlen, hrow, _⟩ := RL.at_ (hr.pre (hpB.trans hp)) hlt
      have hk40 := laysTo_le hok
      have hkk : (ls.take k).length = k := by simp; omega
      obtain ⟨m3, hm3⟩ : ∃ m3, m3 = m' ++ [(⟨[.string ls[k].1, .int .i64 ls[k].2], 54, 2, 1⟩ : AObj)] := ⟨_, rfl⟩
      have hp3 : m' <+: m3 := by rw [hm3]; exact ⟨_, rfl⟩
      have t3 : m3[m'.length]? = some ⟨[.string ls[k].1, .int .i64 ls[k].2], 54, 2, 1⟩ := by rw [hm3]; simp
      have hB3 : BkAt m3 (m.length + 1) j st (ls.take k) B0 := hB.rest (RestS.of_pre (S := []) hp3) (by simp) (by simp)
      obtain ⟨v4, m4, hc4, rfl, hr4, j4, hj4, hB4⟩ := addLayer_c (m.length + 1) j st ls[k] (ls.take k) B0 m3 hB3 (hs _ (List.getElem_mem hlt)) (by omega)
      rw [hkk] at hc4 hB4
      have hp4 : mB <+: m4 := restPre hr4 (hp.trans hp3) (by omega) hj
      have hl3 := hp3.length_le
      simp -dsimp -implicitDefEqProofs [s1, s3, s17, s18, s19, hlt, withO_of hmo, hkd, hsz, hlen, hrow, hw, vl, hm3.symm, withO_of t3]
      refine callsTo Tryz.cal39 hc4 ?_
      simp -dsimp -implicitDefEqProofs [s1, s3, s17, s18, s19, hlt, withO_of hmo, hkd, hsz, hlen, hrow, hw, vl, hm3.symm, withO_of t3]
      by_cases hz : layerK st k B0 ls[k] = 0
      · rw [if_pos hz] at hB4
        have hz' : (layerK st k B0 ls[k] != 0) = false := by simp [hz]
        simp -dsimp -implicitDefEqProofs [s1, s3, s17, s18, s19, hlt, withO_of hmo, hkd, hsz, hlen, hrow, hw, vl, hm3.symm, withO_of t3, hz']
        exact next_ hlt ⟨hp4, ⟨j4, by omega, by rw [List.take_add_one, List.getElem?_eq_getElem hlt]; exact hB4⟩, allTo_succ hok (by rw [getL hlt]; simpa using hz), by simp [s1], by simp [s3], by simp [s17], by simp [s18], by simp [hw]⟩
      · have hz' : (layerK st k B0 ls[k] != 0) = true := by simpa using hz
        simp -dsimp -implicitDefEqProofs [s1, s3, s17, s18, s19, hlt, withO_of hmo, hkd, hsz, hlen, hrow, hw, vl, hm3.symm, withO_of t3, hz']
        exact GC.dropP (hpB.trans hp4) (by
          have : laysTo st ls ls.length = false := allTo_false hlt (by rw [getL hlt]; simpa using hz)
          simp [hokB, this]) rfl
    · obtain rfl : k = ls.length := by omega
      rw [List.take_of_length_le (Nat.le_refl _)] at hB
      by_cases hbz : b.size = 0
      · simp -dsimp -implicitDefEqProofs [s1, s3, s17, s18, s19, withO_of hxm, hbE, hbz]
        exact GC.dropP (hpB.trans hp) (by simp [hokB, hok, hbz]) rfl
      · obtain ⟨v3, m3, hc3, rfl, hr3, j3, hj3, hB3⟩ := setBorder_c (m.length + 1) j st b ls B0 m' hB hb hst
        have hp3 : mB <+: m3 := restPre hr3 hp (by omega) hj
        simp -dsimp -implicitDefEqProofs [s1, s3, s17, s18, s19, withO_of hxm, hbE, hbz]
        refine callsTo Tryz.cal40 hc3 ?_
        simp -dsimp -implicitDefEqProofs [s1, s3, s17, s18, s19, withO_of hxm, hbE, hbz]
        exact GC.dropP (hpB.trans hp3) (by
          simp [hokB, hok, hbz]
          rfl) rfl
end Go.Proofs.YtmbijgnmbapchaaGreatDoor
