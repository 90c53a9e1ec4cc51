/-
  Pots, part 15: told piles are memory of their own. Conditions: none.
-/
import Derived.Test.YtnipgigpjhalkaaNestN
import Derived.Test.YtnipgigpjhalkaaBaseSS
set_option linter.unusedSimpArgs false
set_option linter.unusedVariables false
set_option linter.unusedSectionVars false
namespace Go.Proofs.Ytnipgigpjhalkaa
open Go.Abs Go.RowKit Go.Law

/-- Piles that are told, or none. -/
structure PU (m0 m : Mem) (A : Option Addr) (ids : List Nat) (zs : List (List Int)) : Prop where
  len : ids.length = zs.length
  nd : ids.Nodup
  lo : ∀ i ∈ ids, m0.length ≤ i
  row : ∀ j (h : j < ids.length) (h' : j < zs.length), ∃ ip o, A = some ⟨ip, 0, none⟩ ∧ m[ip]? = some o ∧ o.kind ≤ 2 ∧ o.sz = 1 ∧ m0.length ≤ ip ∧ ip ∉ ids ∧ o.cells[j]? = some (.slice (some ⟨ids[j], 0, none⟩) zs[j].length zs[j].length)
  each : ∀ j (h : j < ids.length) (h' : j < zs.length), IntsAt m ids[j] zs[j]
theorem PU.rest {m0 m m' : Mem} {A : Option Addr} {ids : List Nat} {zs : List (List Int)} {S : List Nat} (h : PU m0 m A ids zs) (hr : RestS S m m') (hs : ∀ i, m0.length ≤ i → i < m.length → i ∉ S) : PU m0 m' A ids zs :=
  ⟨h.len, h.nd, h.lo, fun j h1 h2 => by
    obtain ⟨ip, o, e, ho, q1, q2, q3, q4, q5⟩ := h.row j h1 h2
    exact ⟨ip, o, e, hr.get _ _ (hs _ q3 (lt_of_get ho)) ho, q1, q2, q3, q4, q5⟩, fun j h1 h2 => by
    obtain ⟨o, ho, q⟩ := h.each j h1 h2
    exact ⟨o, hr.get _ _ (hs _ (h.lo _ (List.getElem_mem h1)) (lt_of_get ho)) ho, q⟩⟩
theorem PU.pre {m0 m m' : Mem} {A : Option Addr} {ids : List Nat} {zs : List (List Int)} (h : PU m0 m A ids zs) (hp : m <+: m') : PU m0 m' A ids zs := h.rest (S := []) (RestS.of_pre hp) (by simp)
theorem PU.rd {m0 m : Mem} {A : Option Addr} {ids : List Nat} {zs : List (List Int)} (h : PU m0 m A ids zs) : RdSS m A zs := fun j hj => by
  have hj2 : j < ids.length := by rw [h.len]; exact hj
  obtain ⟨ip, o, e, ho, q1, q2, q3, q4, q5⟩ := h.row j hj2 hj
  exact ⟨ip, 0, o, _, e, ho, q1, q2, by rw [Nat.zero_add]; exact q5, (h.each j hj2 hj).rd⟩
def PilesU (xs : List I3) (m : Mem) (v : Value) (m' : Mem) : Prop :=
  ∃ A ids, v = .tuple #[.slice A (pilesO xs).length (pilesO xs).length, .int .i64 (potsC xs)] ∧ m <+: m' ∧ PU m m' A ids (pilesO xs)
theorem PilesPost.u {xs : List I3} {m m' : Mem} {v : Value} (h : PilesPost xs m v m') : PilesU xs m v m' := by
  rcases h with ⟨hf, rfl, hp⟩ | ⟨ht, ip, o, ids, rfl, hp, hP⟩
  · refine ⟨none, [], by simp [pilesO, potsC, hf], hp, ⟨by simp [pilesO, hf], by simp, by simp, fun j h => by simp at h, fun j h => by simp at h⟩⟩
  · have e : pilesO xs = pilesP xs := by simp [pilesO, ht]
    rw [← e] at hP ⊢
    refine ⟨some ⟨ip, 0, none⟩, ids, by simp [potsC, ht], hp, ⟨hP.len, hP.nd, fun i hi => (hP.los i hi).1, fun j h1 h2 => ⟨ip, o, rfl, hP.o_at, hP.k2, hP.sz, hP.lo_, fun hm => (hP.los _ hm).2 rfl, by rw [hP.cells]; exact slicesV_get h1 h2⟩, hP.each⟩⟩
theorem specPilesU_c (xs : List I3) (a : Option Addr) (m : Mem) (hr : RdG v3 3 m a xs) (hn : xs.length ≤ 1048576) : ∃ v m', ACalls Try.prog 42 [.slice a xs.length xs.length] m v m' ∧ PilesU xs m v m' :=
  let ⟨v, m', h1, h2⟩ := specPiles_c xs a m hr hn
  ⟨v, m', h1, h2.u⟩
theorem implPilesU_c (xs : List I3) (a : Option Addr) (m : Mem) (hr : RdG v3 3 m a xs) (hn : xs.length ≤ 1048576) : ∃ v m', ACalls Try.prog 43 [.slice a xs.length xs.length] m v m' ∧ PilesU xs m v m' :=
  let ⟨v, m', h1, h2⟩ := implPiles_c xs a m hr hn
  ⟨v, m', h1, h2.u⟩
theorem pilesO_le (xs : List I3) (hn : xs.length ≤ 1048576) : (pilesO xs).length ≤ 1048576 ∧ ∀ p ∈ pilesO xs, p.length ≤ 1048576 := by
  unfold pilesO
  split
  · have h1 := pilesTo_le xs xs.length (Nat.le_refl _)
    refine ⟨by show (pilesTo xs xs.length).length ≤ _; omega, fun p hp => ?_⟩
    have := pileLen_le (Nat.le_refl xs.length) p hp
    omega
  · simp
theorem pilesO_sum (xs : List I3) : sumLen (pilesO xs) ≤ xs.length := by
  unfold pilesO
  split
  · have h := (pilesTo_ok xs xs.length (Nat.le_refl _)).2.length_eq
    rw [List.length_take, orderP_length, Nat.min_self] at h
    unfold sumLen
    rw [← List.length_flatten]
    show (pilesTo xs xs.length).flatten.length ≤ _
    omega
  · simp [sumLen]

/-- Marked one after the other. -/
structure Marked (m : Mem) (ids : List Nat) (zs : List (List Int)) (b : Int) (k : Nat) : Prop where
  each : ∀ j (h : j < ids.length) (h' : j < zs.length), j < k → RdG (mkRow 1 (b + sumLen (zs.take j))) 1 m (some ⟨ids[j], 0, none⟩) (List.range zs[j].length)
theorem Marked.rest {m m' : Mem} {ids : List Nat} {zs : List (List Int)} {b : Int} {k : Nat} {S : List Nat} (h : Marked m ids zs b k) (hr : RestS S m m') (hs : ∀ i ∈ ids, i ∉ S) : Marked m' ids zs b k :=
  ⟨fun j h1 h2 h3 => hr.rdG (by intro a ha; injection ha with ha; subst ha; exact hs _ (List.getElem_mem h1)) (h.each j h1 h2 h3)⟩
def MarkPost (ids : List Nat) (zs : List (List Int)) (b : Int) (m : Mem) (v : Value) (m' : Mem) : Prop := v = .int .i64 (b + sumLen zs) ∧ RestS ids m m' ∧ m'.length = m.length ∧ Marked m' ids zs b zs.length
theorem markInt64SS_c (m0 m : Mem) (A : Option Addr) (ids : List Nat) (zs : List (List Int)) (b : Int) (hP : PU m0 m A ids zs) (hn : zs.length ≤ 1048576) (hs : sumLen zs ≤ 1048576) (hb : 0 ≤ b ∧ b ≤ 1000000) :
    ∃ v m', ACalls Try.prog 44 [.slice A zs.length zs.length, .int .i64 b] m v m' ∧ MarkPost ids zs b m v m' := by
  refine ecalls_of_vc Try.func44 rfl Try.fol (by kernel_rfl) ?_
  simp only [Try.f44]
  simp -dsimp -implicitDefEqProofs
  refine loopN zs.length (fun k σ m' => (RestS (ids.take k) m m' ∧ m'.length = m.length ∧ Marked m' ids zs b k) ∧ σ 0 = some (.slice A zs.length zs.length) ∧ σ 1 = some (.int .i64 (b + sumLen (zs.take k))) ∧ σ 5 = some (.int .i64 k)) ⟨⟨by simp; exact RestS.refl _ _, rfl, ⟨fun j _ _ h => by omega⟩⟩, by simp, by simp [sumLen], by simp⟩ ?_
  rintro k σ m' hk ⟨⟨hr, hml, hM⟩, s0, s1, s5⟩
  by_cases hlt : k < zs.length
  · have hki : k < ids.length := by rw [hP.len]; exact hlt
    obtain ⟨ip, o, hA, ho, q1, q2, q3, q4, q5⟩ := hP.row k hki hlt
    obtain ⟨z, hz, z1, z2, z3, z4, z5⟩ := hP.each k hki hlt
    have hnotk : ids[k] ∉ ids.take k := by
      intro h
      obtain ⟨j, hj, e⟩ := List.getElem_of_mem h
      rw [List.getElem_take] at e
      simp only [List.length_take] at hj
      exact nodup_get hP.nd (by omega) hki (by omega) e
    have ho' := hr.get _ _ (fun h => q4 (List.mem_of_mem_take h)) ho
    have hz' := hr.get _ _ hnotk hz
    have hss := sumLen_succ hlt
    have htk := sumLen_take zs (k + 1)
    have hzl := sumLen_at hlt
    have hwk : IntKind.i64.wrap ((k : Int) + 1) = k + 1 := wrapI (by omega) (by omega)
    have hmk := markInt64S_c zs[k] (b + sumLen (zs.take k)) ids[k] z m' hz' z5 z3 ⟨z1, z2⟩ (by omega) (by omega)
    simp -dsimp -implicitDefEqProofs [s0, s1, s5, hlt, hA, withO_of ho', q1, q2, withC_of q5, hwk]
    refine callsTo Try.cal28 hmk ?_
    simp -dsimp -implicitDefEqProofs [s0, s1, s5, hlt, hA, withO_of ho', q1, q2, withC_of q5, hwk]
    have hset : RestS (ids.take (k + 1)) m' (m'.set ids[k] ⟨mkCells 1 (b + sumLen (zs.take k)) zs[k].length, z.elem, 1, z.kind⟩) := RestS.set _ (by rw [List.take_add_one, List.getElem?_eq_getElem hki]; exact List.mem_append_right _ (by simp)) _
    refine next_ hlt ⟨⟨(hr.mono (fun i hi => .inl (by rw [List.take_add_one]; exact List.mem_append_left _ hi))).trans hset, by simp [hml], ⟨fun j h1 h2 h3 => ?_⟩⟩, by simp [s0, hA], by simp [hss]; omega, by simp [hwk]⟩
    by_cases e : j = k
    · subst e
      exact RdMk.of_get zs[j].length (get_set hz' _) z2 rfl rfl
    · have hset2 : RestS [ids[k]] m' (m'.set ids[k] ⟨mkCells 1 (b + sumLen (zs.take k)) zs[k].length, z.elem, 1, z.kind⟩) := RestS.set _ (by simp) _
      exact hset2.rdG (by intro a ha; injection ha with ha; subst ha; simp; exact nodup_get hP.nd h1 hki e) (hM.each j h1 h2 (by omega))
  · obtain rfl : k = zs.length := by omega
    rw [List.take_of_length_le (by omega)] at s1
    rw [List.take_of_length_le (by have := hP.len; omega)] at hr
    simp -dsimp -implicitDefEqProofs [s0, s1, s5]
    exact ⟨_, _, GC.refl _ _ _, rfl, hr, hml, hM⟩
theorem heldInt64SS_c (m0 m : Mem) (A : Option Addr) (ids : List Nat) (zs : List (List Int)) (b : Int) (hlen : ids.length = zs.length) (hrow : ∀ j (h : j < ids.length) (h' : j < zs.length), ∃ ip o, A = some ⟨ip, 0, none⟩ ∧ m[ip]? = some o ∧ o.kind ≤ 2 ∧ o.sz = 1 ∧ m0.length ≤ ip ∧ ip ∉ ids ∧ o.cells[j]? = some (.slice (some ⟨ids[j], 0, none⟩) zs[j].length zs[j].length))
    (hM : Marked m ids zs b zs.length) (hn : zs.length ≤ 1048576) (hs : sumLen zs ≤ 1048576) (hb : 0 ≤ b ∧ b ≤ 1000000) :
    ACalls Try.prog 45 [.slice A zs.length zs.length, .int .i64 b] m (.int .i64 (b + sumLen zs)) m := by
  refine acalls_of_vc Try.func45 rfl Try.fol (by kernel_rfl) ?_
  simp only [Try.f45]
  simp -dsimp -implicitDefEqProofs
  refine loopN zs.length (fun k σ m' => m' = m ∧ σ 0 = some (.slice A zs.length zs.length) ∧ σ 1 = some (.int .i64 (b + sumLen (zs.take k))) ∧ σ 5 = some (.int .i64 k)) ⟨rfl, by simp, by simp [sumLen], by simp⟩ ?_
  rintro k σ m' hk ⟨rfl, s0, s1, s5⟩
  by_cases hlt : k < zs.length
  · have hki : k < ids.length := by rw [hlen]; exact hlt
    obtain ⟨ip, o, hA, ho, q1, q2, q3, q4, q5⟩ := hrow k hki hlt
    have hss := sumLen_succ hlt
    have htk := sumLen_take zs (k + 1)
    have hzl := sumLen_at hlt
    have hwk : IntKind.i64.wrap ((k : Int) + 1) = k + 1 := wrapI (by omega) (by omega)
    have hh := heldInt64S_c zs[k].length (b + sumLen (zs.take k)) _ m' (hM.each k hki hlt hlt) (by omega) (by omega)
    have hpos : ¬ (b + (sumLen (zs.take k) : Int) + (zs[k].length : Int) < 0) := by omega
    simp -dsimp -implicitDefEqProofs [s0, s1, s5, hlt, hA, withO_of ho, q1, q2, withC_of q5, hwk, hpos]
    refine callsTo Try.cal29 hh ?_
    simp -dsimp -implicitDefEqProofs [s0, s1, s5, hlt, hA, withO_of ho, q1, q2, withC_of q5, hwk, hpos]
    exact next_ hlt ⟨rfl, by simp [s0, hA], by simp [hss]; omega, by simp [hwk]⟩
  · obtain rfl : k = zs.length := by omega
    rw [List.take_of_length_le (by omega)] at s1
    simp -dsimp -implicitDefEqProofs [s0, s1, s5]
    exact GC.refl _ _ _
end Go.Proofs.Ytnipgigpjhalkaa
