/-
  Pots, part 13: the reference's piles. Conditions: none.
-/
import Derived.Test.YtnipgigpjhalkaaNestL
set_option linter.unusedSimpArgs false
set_option linter.unusedVariables false
set_option linter.unusedSectionVars false
namespace Go.Proofs.Ytnipgigpjhalkaa
open Go.Abs Go.RowKit Go.Law

theorem pileIx_at {xs : List I3} {x : Int} {ps : List (List Int)} {k : Nat} (hk : k < ps.length) (h : ∀ j, j < k → (hj : j < ps.length) → fitsPile xs x ps[j] = false) (hf : fitsPile xs x ps[k] = true) : pileIx xs x ps = k := by
  unfold pileIx
  rw [List.findIdx_eq hk]
  exact ⟨hf, fun j hj => h j hj (by omega)⟩
theorem pileIx_none {xs : List I3} {x : Int} {ps : List (List Int)} (h : ∀ j, (hj : j < ps.length) → fitsPile xs x ps[j] = false) : pileIx xs x ps = ps.length := by
  unfold pileIx
  rw [List.findIdx_eq_length]
  intro p hp
  obtain ⟨j, hj, rfl⟩ := List.getElem_of_mem hp
  exact h j hj
theorem placeP_at {xs : List I3} {x : Int} {ps : List (List Int)} {k : Nat} (hk : k < ps.length) (h : pileIx xs x ps = k) : placeP xs ps x = ps.set k (ps[k] ++ [x]) := by
  unfold placeP
  rw [h, if_pos hk]
  simp [List.getD_eq_getElem?_getD, hk]
theorem placeP_new {xs : List I3} {x : Int} {ps : List (List Int)} (h : pileIx xs x ps = ps.length) : placeP xs ps x = (ps ++ [[]]).set ps.length ([] ++ [x]) := by
  unfold placeP
  rw [h, if_neg (by omega)]
  simp
def pilesO (xs : List I3) : List (List Int) := if potsB xs then pilesP xs else []
def pilesA (xs : List I3) (i : Nat) : Option Addr := if potsB xs then some ⟨i, 0, none⟩ else none
def PilesPost (xs : List I3) (m : Mem) (v : Value) (m' : Mem) : Prop :=
  (potsB xs = false ∧ v = .tuple #[.slice none 0 0, .int .i64 1] ∧ m <+: m') ∨ (potsB xs = true ∧ ∃ ip o ids, v = .tuple #[.slice (some ⟨ip, 0, none⟩) (pilesP xs).length (pilesP xs).length, .int .i64 0] ∧ m <+: m' ∧ PAt m.length m' ip o ids (pilesP xs))
theorem pilesTo_le (xs : List I3) : ∀ k, k ≤ xs.length → (pilesTo xs k).length ≤ k
  | 0, _ => by simp [pilesTo]
  | k + 1, h => by
    have := pilesTo_le xs k (by omega)
    rw [pilesTo_succ xs (by omega)]
    unfold placeP
    split <;> simp <;> omega
theorem pileLen_le {xs : List I3} {k : Nat} (hk : k ≤ xs.length) : ∀ p ∈ pilesTo xs k, p.length ≤ k := fun p hp => by
  have h := (pilesTo_ok xs k hk).2.length_eq
  have h1 : p.length ≤ (pilesTo xs k).flatten.length := List.Sublist.length_le (List.sublist_flatten_of_mem hp)
  rw [h, List.length_take] at h1
  omega
theorem specPiles_c (xs : List I3) (a : Option Addr) (m : Mem) (hr : RdG v3 3 m a xs) (hn : xs.length ≤ 1048576) :
    ∃ v m', ACalls Try.prog 42 [.slice a xs.length xs.length] m v m' ∧ PilesPost xs m v m' := by
  refine ecalls_of_vcF [13] Try.func42 rfl Try.fol (by kernel_rfl) ?_
  simp only [Try.f42]
  simp -dsimp -implicitDefEqProofs
  refine callsTo Try.cal59 (l19Ok_c xs a _ hr hn) ?_
  simp -dsimp -implicitDefEqProofs
  refine sp2 (fun g => ?_) (fun g => ?_)
  · simp at g
    exact ⟨_, _, GC.refl _ _ _, .inl ⟨g, rfl, pre_refl m⟩⟩
  simp at g
  obtain ⟨m0, hm0⟩ : ∃ m0, m0 = m ++ [(⟨[], 38, 1, 1⟩ : AObj)] := ⟨_, rfl⟩
  rw [← hm0]
  have hp0 : m <+: m0 := by rw [hm0]; exact ⟨_, rfl⟩
  have c0 : m0[m.length]? = some ⟨[], 38, 1, 1⟩ := by rw [hm0]; simp
  refine callsToE Try.cal71 (l19Order_c xs a m0 (hr.pre hp0) hn) ?_
  rintro _ m1 ⟨io, rfl, hp1, hio, hO⟩
  obtain ⟨ood, hoo⟩ : ∃ u, u = orderP xs xs.length := ⟨_, rfl⟩
  have hol := orderP_length xs xs.length
  have hm0l : m0.length = m.length + 1 := by rw [hm0]; simp
  simp -dsimp -implicitDefEqProofs
  refine loopN xs.length (fun i σ m' => ∃ ip o ids, (m <+: m' ∧ RdI m' (some ⟨io, 0, none⟩) (orderP xs xs.length) ∧ PAt m.length m' ip o ids (pilesTo xs i) ∧ (∀ j ∈ ip :: ids, j ≠ io)) ∧ σ 0 = some (.slice a xs.length xs.length) ∧ σ 4 = some (.slice (some ⟨ip, 0, none⟩) (pilesTo xs i).length (pilesTo xs i).length) ∧ σ 5 = some (.slice (some ⟨io, 0, none⟩) xs.length xs.length) ∧ σ 6 = some (.int .i64 i))
    ⟨m.length, _, [], ⟨hp0.trans hp1, hO, ⟨prefix_get hp1 c0, by simp, by simp, rfl, rfl, rfl, by simp, Nat.le_refl _, by simp, rfl, by simp⟩, by simp; omega⟩, by simp, by simp [pilesTo], by simp, by simp⟩ ?_
  rintro i σ m' hi ⟨ip, o, ids, ⟨hp, hO', hP, hni⟩, s0, s4, s5, s6⟩
  by_cases hlt : i < xs.length
  · have hwi : IntKind.i64.wrap ((i : Int) + 1) = i + 1 := wrapI (by omega) (by omega)
    obtain ⟨oid, ooff, oob, hoe, hom, hok, hos, hoc⟩ := hO'.at_ (show i < (orderP xs xs.length).length by omega)
    injection hoe with hoe
    injection hoe with hoe1 hoe2
    subst hoe1; subst hoe2
    obtain ⟨x, hx, hxl⟩ := orderP_mem xs xs.length _ (List.getElem_mem (show i < (orderP xs xs.length).length by omega))
    rw [hx] at hoc
    have hple := pilesTo_le xs i (by omega)
    have hr' := hr.pre hp
    have hpl := pileLen_le (show i ≤ xs.length by omega)
    obtain ⟨hpok, _⟩ := pilesTo_ok xs i (by omega)
    have hsucc := pilesTo_succ xs hlt
    rw [hx] at hsucc
    obtain ⟨ps, hps⟩ : ∃ ps, ps = pilesTo xs i := ⟨_, rfl⟩
    rw [← hps] at hP s4 hple hpl hpok hsucc
    obtain ⟨pid, poff, po, hpe, hpm, hpk, hpsz, hpll, hprow, _⟩ := R3.at_ hr' hxl
    simp only [Nat.zero_add] at hoc
    simp -dsimp -implicitDefEqProofs [s0, s4, s5, s6, hlt]
    refine loopN ps.length (fun k σ m2 => (m2 = m' ∧ ∀ j, j < k → (hj : j < ps.length) → fitsPile xs x ps[j] = false) ∧ (σ 0 = some (.slice a xs.length xs.length) ∧ σ 4 = some (.slice (some ⟨ip, 0, none⟩) ps.length ps.length) ∧ σ 5 = some (.slice (some ⟨io, 0, none⟩) xs.length xs.length) ∧ σ 6 = some (.int .i64 i)) ∧ σ 7 = some (.int .i64 k))
      ⟨⟨rfl, fun j hj => by omega⟩, by simp [s0, s4, s5, s6], by simp⟩ ?_
    clear s0 s4 s5 s6
    rintro k σ m2 hk ⟨⟨hmm, hno⟩, ⟨s0, s4, s5, s6⟩, s7⟩
    have hmm := hmm.symm
    subst hmm
    by_cases hlk : k < ps.length
    · have hwk : IntKind.i64.wrap ((k : Int) + 1) = k + 1 := wrapI (by omega) (by omega)
      have hkid : k < ids.length := by rw [hP.len]; exact hlk
      have hpc : o.cells[k]? = some (.slice (some ⟨ids[k], 0, none⟩) ps[k].length ps[k].length) := by rw [hP.cells]; exact slicesV_get hkid hlk
      obtain ⟨qo, hqo, hqo1, hqo2, hqo3, hqo4, hqo5⟩ := hP.each k hkid hlk
      have hne := hpok.ne _ (List.getElem_mem hlk)
      have hlp : 0 < ps[k].length := List.length_pos_iff.2 hne
      have hlast : ps[k].length - 1 < ps[k].length := by omega
      have hix := hpok.ix _ (List.getElem_mem hlk) _ (List.getElem_mem hlast)
      obtain ⟨y, hy⟩ : ∃ y : Nat, ps[k][ps[k].length - 1] = (y : Int) := ⟨(ps[k][ps[k].length - 1]).toNat, by omega⟩
      rw [hy] at hix
      have hyl : y < xs.length := by omega
      have hqc : qo.cells[ps[k].length - 1]? = some (.int .i64 (y : Int)) := by rw [hqo5]; simp [hlast, hy]
      have hwl : IntKind.i64.wrap ((ps[k].length : Int) - 1) = ((ps[k].length - 1 : Nat) : Int) := by have := hpl _ (List.getElem_mem hlk); rw [wrapI (by omega) (by omega)]; omega
      have hpx := IsP.row (hpe ▸ hr') hxl
      have hpy := IsP.row (hpe ▸ hr') hyl
      have hfit := l19Fits_c xs[x] xs[y] m' _ _ _ _ hpx hpy
      have hfp : fitB xs[x] xs[y] = fitsPile xs x ps[k] := by unfold fitsPile; rw [getI hlast, hy]; simp only [Int.toNat_natCast, fitF, potAt_eq hxl, potAt_eq hyl]
      rw [hfp] at hfit
      simp -dsimp -implicitDefEqProofs [s0, s4, s5, s6, s7, hlt, hlk, withO_of hP.o_at, hP.k2, hP.sz, withC_of hpc, withO_of hom, hok, hos, withC_of hoc, hxl, withO_of hqo, hqo2, hqo3, withC_of hqc, hyl, hwl, hlast, hpe, withO_of hpm, hpk, hpsz, hwk]
      refine callsTo Try.cal55 hfit ?_
      cases hf : fitsPile xs x ps[k] with
      | false =>
        simp -dsimp -implicitDefEqProofs [s0, s4, s5, s6, s7, hlt, hlk, withO_of hP.o_at, hP.k2, hP.sz, withC_of hpc, withO_of hom, hok, hos, withC_of hoc, hxl, withO_of hqo, hqo2, hqo3, withC_of hqc, hyl, hwl, hlast, hpe, withO_of hpm, hpk, hpsz, hwk]
        exact next_ hlk ⟨⟨rfl, fun j hj hj2 => by
          by_cases e : j = k
          · subst e; exact hf
          · exact hno j (by omega) hj2⟩, by simp [s0, s4, s5, s6], by simp [hwk]⟩
      | true =>
        have hix2 := pileIx_at hlk hno hf
        have hpl2 := placeP_at hlk hix2
        have hkne : ((k : Int) == (ps.length : Int)) = false := by rw [beq_eq_false_iff_ne]; omega
        simp -dsimp -implicitDefEqProofs [s0, s4, s5, s6, s7, hlt, hlk, withO_of hP.o_at, hP.k2, hP.sz, withC_of hpc, withO_of hom, hok, hos, withC_of hoc, hxl, withO_of hqo, hqo2, hqo3, withC_of hqc, hyl, hwl, hlast, hpe, withO_of hpm, hpk, hpsz, hwk, hkne]
        refine regF [[], [], [], [], [], [], [], [], [], [], [4, 5], [], [], []] 1 (by kernel_rfl) (by kernel_rfl) ?_
        have hipl := lt_of_get hP.o_at
        have hkl := lt_of_get hqo
        have hol2 := lt_of_get hom
        have z1 : ¬ m'.length = ip := by omega
        have z2 : ¬ m'.length = ids[k] := by omega
        have z3 : ¬ m'.length = io := by omega
        have z4 : ¬ ids[k] = ip := (hP.los _ (List.getElem_mem hkid)).2
        have z5 : ¬ ids[k] = io := hni _ (by simp)
        simp -dsimp -implicitDefEqProofs [s0, s4, s5, s6, s7, hlt, hlk, withO_of hP.o_at, hP.k2, hP.sz, withC_of hpc, withO_of hom, hok, hos, withC_of hoc, hxl, withO_of hqo, hqo2, hqo3, withC_of hqc, hyl, hwl, hlast, hpe, withO_of hpm, hpk, hpsz, hwk, hkne, fun l => withO_of (get_old (l := l) hP.o_at), fun l => withO_of (get_old (l := l) hom), fun l => withO_of (get_old (l := l) hqo), z1, z2, z3, z4, z5]
        refine .inl (appTo_grow (e := 2) (sz := 1) (by_ := 8) (z := .int .i64 0) (by kernel_rfl) (by kernel_rfl) ⟨by decide, rfl⟩ (o := qo) (get_old hqo) ⟨hqo1, hqo2⟩ ⟨hqo3, hqo4⟩ (by rw [hqo5]; simp) (by have := hpl _ (List.getElem_mem hlk); omega) (Src.obj (o := ⟨[.int .i64 (x : Int)], 2, 1, 1⟩) (by simp) (by simp) rfl rfl) ?_)
        intro m4 q hg4
        rw [hqo5] at hg4
        have hPush := (hP.pre (m' := m' ++ [(⟨[.int .i64 (x : Int)], 2, 1, 1⟩ : AObj)]) ⟨_, rfl⟩).push hkid hlk x hg4
        have ho4 := hg4.old _ _ (Ne.symm z4) (get_old hP.o_at)
        have hz1 : ¬ q = ip := by rw [hg4.at_]; simp; omega
        simp -dsimp -implicitDefEqProofs [s0, s4, s5, s6, s7, hlt, hlk, withO_of hP.o_at, hP.k2, hP.sz, withC_of hpc, withO_of hom, hok, hos, withC_of hoc, hxl, withO_of hqo, hqo2, hqo3, withC_of hqc, hyl, hwl, hlast, hpe, withO_of hpm, hpk, hpsz, hwk, hkne, fun l => withO_of (get_old (l := l) hP.o_at), fun l => withO_of (get_old (l := l) hom), fun l => withO_of (get_old (l := l) hqo), z1, z2, z3, z4, z5, withO_of ho4, hz1]
        refine need_intro hP.k1 (need_intro (by rw [hP.cells, slicesV_length hP.len]; omega) ?_)
        have hRR : RestS [ids[k], ip] m' (m4.set ip ⟨o.cells.set k (.slice (some ⟨q, 0, none⟩) (ps[k].length + 1) (ps[k].length + 1)), o.elem, o.sz, o.kind⟩) := ⟨by have := hg4.len; simp at this ⊢; omega, fun j o' h1 h2 => by
          simp at h1
          rw [List.getElem?_set_ne (Ne.symm h1.2)]; exact hg4.old _ _ h1.1 (get_old h2)⟩
        have hlos := (hP.los _ (List.getElem_mem hkid)).1
        have hbase := hRR.base hp (by intro j hj; simp at hj; rcases hj with rfl | rfl; exact hlos; exact hP.lo_)
        have hO5 := hRR.rdI (by intro z hz; injection hz with hz; subst hz; simp; exact ⟨Ne.symm z5, Ne.symm (hni ip (by simp))⟩) hO'
        rw [hP.sz] at hPush hRR hbase hO5
        exact next_ hlt ⟨ip, _, ids.set k q, ⟨hbase, hO5, by rw [hsucc, hpl2]; exact hPush, fun j hj => by
          rcases List.mem_cons.1 hj with rfl | hj
          · exact hni _ (by simp)
          · rcases List.mem_or_eq_of_mem_set hj with hj | rfl
            · exact hni _ (by simp [hj])
            · rw [hg4.at_]; simp; omega⟩, by simp [s0], by rw [hsucc, hpl2]; simp [s4], by simp [s5], by simp [hwi]⟩
    obtain rfl : k = ps.length := by omega
    have hix2 := pileIx_none (xs := xs) (x := x) (ps := ps) (fun j hj => hno j (by omega) hj)
    have hplN := placeP_new hix2
    simp -dsimp -implicitDefEqProofs [s0, s4, s5, s6, s7]
    have hlo := hP.lo_
    have hidl : ∀ j ∈ ids, j < m'.length := fun j hj => by
      obtain ⟨c, hc, rfl⟩ := List.getElem_of_mem hj
      exact (hP.each c hc (by rw [← hP.len]; exact hc)).lt
    have hml := hp.length_le
    have hipl := lt_of_get hP.o_at
    refine appTo_grow (e := 38) (sz := 1) (by_ := 24) (z := .slice none 0 0) (by kernel_rfl) (by kernel_rfl) ⟨by decide, rfl⟩ (o := o) (get_old hP.o_at) ⟨hP.k1, hP.k2⟩ ⟨hP.sz, hP.el⟩ (by rw [hP.cells, slicesV_length hP.len]; simp) (by omega) (Src.obj (o := ⟨[.slice (some ⟨m'.length, 0, none⟩) 0 0], 38, 1, 1⟩) (by simp) (by simp) rfl rfl) ?_
    intro m3 ip3 hg3
    have hQ := (hP.pre ⟨_, rfl⟩).new (e := m'.length) ⟨⟨[], 2, 1, 1⟩, by simp, by simp, by simp, rfl, rfl, rfl⟩ (by omega) (fun j hj => by have := hidl j hj; omega) (by omega) hg3
    have hp3 : m <+: m3 := hg3.pre m (pre_app hp _) hlo
    have hO3 := hg3.old _ _ (Ne.symm (hni ip (by simp))) (get_old hom)
    simp -dsimp -implicitDefEqProofs [s0, s4, s5, s6, s7]
    refine regF [[], [], [], [], [], [], [], [], [], [], [4, 5], [], [], []] 1 (by kernel_rfl) (by kernel_rfl) ?_
    have hocl : o.cells.length = ps.length := by rw [hP.cells]; exact slicesV_length hP.len
    obtain ⟨oN, hoN⟩ : ∃ u, u = (⟨o.cells ++ [.slice (some ⟨m'.length, 0, none⟩) 0 0], 38, 1, 2⟩ : AObj) := ⟨_, rfl⟩
    have hpc3 : oN.cells[ps.length]? = some (.slice (some ⟨m'.length, 0, none⟩) 0 0) := by rw [hoN]; simp [← hocl]
    have hoNl : oN.cells.length = ps.length + 1 := by rw [hoN]; simp [hocl]
    rw [← hoN] at hQ
    have hkid : ps.length < (ids ++ [m'.length]).length := by simp [hP.len]
    have hlk3 : ps.length < (ps ++ [[]]).length := by simp
    have hid3 : (ids ++ [m'.length])[ps.length] = m'.length := by simp [← hP.len]
    have hps3 : (ps ++ [[]])[ps.length] = ([] : List Int) := by simp
    obtain ⟨qo, hqo, hqo1, hqo2, hqo3, hqo4, hqo5⟩ := hQ.each ps.length hkid hlk3
    rw [hid3] at hqo
    rw [hps3] at hqo5
    have hml3 : m3.length = m'.length + 3 := by have := hg3.len; simp at this; omega
    have hip3 : ip3 = m'.length + 2 := by rw [hg3.at_]; simp
    have hiol := lt_of_get hom
    have z1 : ¬ m3.length = ip3 := by omega
    have z2 : ¬ m3.length = m'.length := by omega
    have z3 : ¬ m3.length = io := by omega
    have z4 : ¬ m'.length = ip3 := by omega
    have z5 : ¬ m'.length = io := by omega
    simp -dsimp -implicitDefEqProofs [s0, s4, s5, s6, s7, hlt, withO_of hQ.o_at, hQ.k2, hQ.sz, withC_of hpc3, withO_of hO3, hok, hos, withC_of hoc, withO_of hqo, hqo2, hqo3, fun l => withO_of (get_old (l := l) hQ.o_at), fun l => withO_of (get_old (l := l) hO3), fun l => withO_of (get_old (l := l) hqo), z1, z2, z3, z4, z5]
    refine need_intro (by omega) (.inl ?_)
    refine (appTo_grow (e := 2) (sz := 1) (by_ := 8) (z := .int .i64 0) (by kernel_rfl) (by kernel_rfl) ⟨by decide, rfl⟩ (o := qo) (get_old hqo) ⟨hqo1, hqo2⟩ ⟨hqo3, hqo4⟩ (by rw [hqo5]; simp) (by omega) (Src.obj (o := ⟨[.int .i64 (x : Int)], 2, 1, 1⟩) (by simp) (by simp) rfl rfl) ?_)
    intro m4 q hg4
    rw [hqo5] at hg4
    have hPush := (hQ.pre (m' := m3 ++ [(⟨[.int .i64 (x : Int)], 2, 1, 1⟩ : AObj)]) ⟨_, rfl⟩).push hkid hlk3 x (by rw [hid3, hps3]; exact hg4)
    have ho4 := hg4.old _ _ (Ne.symm z4) (get_old hQ.o_at)
    have hz1 : ¬ q = ip3 := by rw [hg4.at_]; simp; omega
    simp -dsimp -implicitDefEqProofs [s0, s4, s5, s6, s7, hlt, withO_of hQ.o_at, hQ.k2, hQ.sz, withC_of hpc3, withO_of hO3, hok, hos, withC_of hoc, withO_of hqo, hqo2, hqo3, fun l => withO_of (get_old (l := l) hQ.o_at), fun l => withO_of (get_old (l := l) hO3), fun l => withO_of (get_old (l := l) hqo), z1, z2, z3, z4, z5, withO_of ho4, hz1]
    refine need_intro (by omega) (need_intro (by rw [hoN]; simp) (need_intro (by omega) ?_))
    have hRR : RestS [m'.length, ip3] m3 (m4.set ip3 ⟨oN.cells.set ps.length (.slice (some ⟨q, 0, none⟩) 1 1), oN.elem, 1, oN.kind⟩) := ⟨by have := hg4.len; simp at this ⊢; omega, fun j o' h1 h2 => by
      simp at h1
      rw [List.getElem?_set_ne (Ne.symm h1.2)]; exact hg4.old _ _ h1.1 (get_old h2)⟩
    have hbase := hRR.base hp3 (by intro j hj; simp at hj; omega)
    have hO33 : RdI m3 (some ⟨io, 0, none⟩) (orderP xs xs.length) := by
      obtain ⟨h1, h2, h3⟩ := hO'
      refine ⟨h1, h2, fun hn0 => ?_⟩
      obtain ⟨id', off', o', he', hm', g'⟩ := h3 hn0
      injection he' with he'
      injection he' with he1 he2
      subst he1; subst he2
      exact ⟨io, 0, o', rfl, hg3.old _ _ (Ne.symm (hni ip (by simp))) (get_old hm'), g'⟩
    have hO5 := hRR.rdI (by intro z hz; injection hz with hz; subst hz; simp; omega) hO33
    simp only [hps3, hQ.sz, List.length_nil, Nat.zero_add, List.nil_append] at hPush
    exact next_ hlt ⟨ip3, _, (ids ++ [m'.length]).set ps.length q, ⟨hbase, hO5, by rw [hsucc, hplN]; exact hPush, fun j hj => by
      rcases List.mem_cons.1 hj with rfl | hj
      · omega
      · rcases List.mem_or_eq_of_mem_set hj with hj | rfl
        · rcases List.mem_append.1 hj with hj | hj
          · exact hni _ (by simp [hj])
          · simp at hj; omega
        · rw [hg4.at_]; simp; omega⟩, by simp [s0], by rw [hsucc, hplN]; simp, by simp [s5], by simp [hwi]⟩
  · obtain rfl : i = xs.length := by omega
    simp -dsimp -implicitDefEqProofs [s0, s4, s5, s6]
    exact ⟨_, _, GC.refl _ _ _, .inr ⟨g, ip, o, ids, rfl, hp, hP⟩⟩
end Go.Proofs.Ytnipgigpjhalkaa
