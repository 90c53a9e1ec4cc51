/-
  Pots, part 12: piles in the memory, and the reference's piles. Conditions: none.
-/
import Derived.Test.YtnipgigpjhalkaaNestK
set_option linter.unusedSimpArgs false
set_option linter.unusedVariables false
set_option linter.unusedSectionVars false
namespace Go.Proofs.Ytnipgigpjhalkaa
open Go.Abs Go.RowKit Go.Law

/-- An object of numbers. -/
def IntsAt (m : Mem) (id : Nat) (l : List Int) : Prop := ∃ o : AObj, m[id]? = some o ∧ 1 ≤ o.kind ∧ o.kind ≤ 2 ∧ o.sz = 1 ∧ o.elem = 2 ∧ o.cells = l.map (Value.int .i64)
theorem IntsAt.pre {m m' : Mem} {id : Nat} {l : List Int} (h : IntsAt m id l) (hp : m <+: m') : IntsAt m' id l := by
  obtain ⟨o, h1, h2⟩ := h; exact ⟨o, prefix_get hp h1, h2⟩
theorem IntsAt.rd {m : Mem} {id : Nat} {l : List Int} (h : IntsAt m id l) : RdI m (some ⟨id, 0, none⟩) l := by
  obtain ⟨o, h1, h2, h3, h4, h5, h6⟩ := h; exact RdI.of_get h1 h3 h4 h6
theorem IntsAt.lt {m : Mem} {id : Nat} {l : List Int} (h : IntsAt m id l) : id < m.length := lt_of_get h.choose_spec.1
theorem IntsAt.grown {m m2 : Mem} {id id2 j : Nat} {o : AObj} {l : List Int} (h : IntsAt m j l) (hg : Grown m id o m2 id2) (hne : j ≠ id) : IntsAt m2 j l := by
  obtain ⟨x, h1, h2⟩ := h; exact ⟨x, hg.old _ _ hne h1, h2⟩
theorem IntsAt.set {m : Mem} {id j : Nat} {o : AObj} {l : List Int} (h : IntsAt m j l) (hne : id ≠ j) : IntsAt (m.set id o) j l := by
  obtain ⟨x, h1, h2⟩ := h; exact ⟨x, by rw [List.getElem?_set_ne hne]; exact h1, h2⟩
/-- Slices of piles. -/
def slicesV : List Nat → List (List Int) → List Value
  | id :: ids, p :: ps => .slice (some ⟨id, 0, none⟩) p.length p.length :: slicesV ids ps
  | _, _ => []
theorem slicesV_length : ∀ {ids : List Nat} {ps : List (List Int)}, ids.length = ps.length → (slicesV ids ps).length = ps.length
  | [], [], _ => rfl
  | id :: ids, p :: ps, h => by simp only [slicesV, List.length_cons, slicesV_length (ids := ids) (ps := ps) (by simpa using h)]
  | [], _ :: _, h => by simp at h
  | _ :: _, [], h => by simp at h
theorem slicesV_get : ∀ {ids : List Nat} {ps : List (List Int)} {i : Nat} (h : i < ids.length) (h' : i < ps.length), (slicesV ids ps)[i]? = some (.slice (some ⟨ids[i], 0, none⟩) ps[i].length ps[i].length)
  | id :: ids, p :: ps, 0, _, _ => rfl
  | id :: ids, p :: ps, i + 1, h, h' => by
    simp only [slicesV, List.getElem?_cons_succ, List.getElem_cons_succ]
    exact slicesV_get (by simpa using h) (by simpa using h')
theorem slicesV_set : ∀ {ids : List Nat} {ps : List (List Int)} {i : Nat} (q : Nat) (p : List Int), ids.length = ps.length → (slicesV ids ps).set i (.slice (some ⟨q, 0, none⟩) p.length p.length) = slicesV (ids.set i q) (ps.set i p)
  | [], [], i, q, p, _ => by simp [slicesV]
  | id :: ids, r :: ps, 0, q, p, _ => rfl
  | id :: ids, r :: ps, i + 1, q, p, h => by
    simp only [slicesV, List.set_cons_succ]
    rw [slicesV_set q p (by simpa using h)]
  | [], _ :: _, _, _, _, h => by simp at h
  | _ :: _, [], _, _, _, h => by simp at h
theorem slicesV_snoc : ∀ {ids : List Nat} {ps : List (List Int)} (q : Nat) (p : List Int), ids.length = ps.length → slicesV ids ps ++ [.slice (some ⟨q, 0, none⟩) p.length p.length] = slicesV (ids ++ [q]) (ps ++ [p])
  | [], [], q, p, _ => rfl
  | id :: ids, r :: ps, q, p, h => by
    simp only [slicesV, List.cons_append]
    rw [slicesV_snoc q p (by simpa using h)]
  | [], _ :: _, _, _, h => by simp at h
  | _ :: _, [], _, _, h => by simp at h
/-- Piles, each an object of its own. -/
structure PAt (lo : Nat) (m : Mem) (ip : Nat) (o : AObj) (ids : List Nat) (ps : List (List Int)) : Prop where
  o_at : m[ip]? = some o
  k1 : 1 ≤ o.kind
  k2 : o.kind ≤ 2
  sz : o.sz = 1
  el : o.elem = 38
  len : ids.length = ps.length
  nd : ids.Nodup
  lo_ : lo ≤ ip
  los : ∀ i ∈ ids, lo ≤ i ∧ i ≠ ip
  cells : o.cells = slicesV ids ps
  each : ∀ i (h : i < ids.length) (h' : i < ps.length), IntsAt m ids[i] ps[i]
theorem PAt.pre {lo : Nat} {m m' : Mem} {ip : Nat} {o : AObj} {ids : List Nat} {ps : List (List Int)} (h : PAt lo m ip o ids ps) (hp : m <+: m') : PAt lo m' ip o ids ps :=
  ⟨prefix_get hp h.o_at, h.k1, h.k2, h.sz, h.el, h.len, h.nd, h.lo_, h.los, h.cells, fun i h1 h2 => (h.each i h1 h2).pre hp⟩
theorem nodup_get {l : List Nat} (h : l.Nodup) {i j : Nat} (hi : i < l.length) (hj : j < l.length) (hne : i ≠ j) : l[i] ≠ l[j] := by
  rcases Nat.lt_or_gt_of_ne hne with h1 | h1
  · exact List.pairwise_iff_getElem.1 h i j hi hj h1
  · exact Ne.symm (List.pairwise_iff_getElem.1 h j i hj hi h1)
/-- A pile more, empty. -/
theorem PAt.new {lo : Nat} {m m2 : Mem} {ip ip2 e : Nat} {o : AObj} {ids : List Nat} {ps : List (List Int)} (h : PAt lo m ip o ids ps) (he : IntsAt m e []) (hel : lo ≤ e) (hen : ∀ i ∈ ids, i ≠ e) (hep : e ≠ ip)
    (hg : Grown m ip ⟨o.cells ++ [.slice (some ⟨e, 0, none⟩) 0 0], 38, 1, 2⟩ m2 ip2) : PAt lo m2 ip2 ⟨o.cells ++ [.slice (some ⟨e, 0, none⟩) 0 0], 38, 1, 2⟩ (ids ++ [e]) (ps ++ [[]]) := by
  have hipl := lt_of_get h.o_at
  refine ⟨hg.new, by simp, by simp, rfl, rfl, by simp [h.len], ?_, by rw [hg.at_]; have := h.lo_; omega, fun i hi => ?_, ?_, fun i h1 h2 => ?_⟩
  · refine List.pairwise_append.2 ⟨h.nd, by simp, fun x hx y hy => ?_⟩
    simp at hy; subst hy; exact hen x hx
  · rcases List.mem_append.1 hi with hi | hi
    · obtain ⟨j, hj, rfl⟩ := List.getElem_of_mem hi
      have := (h.each j hj (by rw [← h.len]; exact hj)).lt
      exact ⟨(h.los _ (List.getElem_mem hj)).1, by rw [hg.at_]; omega⟩
    · simp at hi; subst hi; exact ⟨hel, by rw [hg.at_]; have := he.lt; omega⟩
  · rw [h.cells]; exact slicesV_snoc e [] h.len
  · by_cases hlt : i < ids.length
    · have h3 : i < ps.length := by rw [← h.len]; exact hlt
      rw [List.getElem_append_left hlt, List.getElem_append_left h3]
      exact (h.each i hlt h3).grown hg (h.los _ (List.getElem_mem hlt)).2
    · have e1 : i = ids.length := by simp at h1; omega
      subst e1
      have e2 : (ps ++ [[]])[ids.length] = ([] : List Int) := by simp [h.len]
      rw [e2]
      simp only [List.getElem_concat_length]
      exact he.grown hg hep
/-- A pot more in a pile. -/
theorem PAt.push {lo : Nat} {m m2 : Mem} {ip k q : Nat} {o : AObj} {ids : List Nat} {ps : List (List Int)} (h : PAt lo m ip o ids ps) (hk : k < ids.length) (hk' : k < ps.length) (x : Int)
    (hg : Grown m ids[k] ⟨ps[k].map (Value.int .i64) ++ [.int .i64 x], 2, 1, 2⟩ m2 q) :
    PAt lo (m2.set ip ⟨o.cells.set k (.slice (some ⟨q, 0, none⟩) (ps[k].length + 1) (ps[k].length + 1)), o.elem, o.sz, o.kind⟩) ip ⟨o.cells.set k (.slice (some ⟨q, 0, none⟩) (ps[k].length + 1) (ps[k].length + 1)), o.elem, o.sz, o.kind⟩ (ids.set k q) (ps.set k (ps[k] ++ [x])) := by
  have hipl := lt_of_get h.o_at
  have hol := hg.old _ _ (Ne.symm (h.los _ (List.getElem_mem hk)).2) h.o_at
  have hq : ∀ i ∈ ids, i < m.length := fun i hi => by
    obtain ⟨j, hj, rfl⟩ := List.getElem_of_mem hi
    exact (h.each j hj (by rw [← h.len]; exact hj)).lt
  refine ⟨get_set hol _, h.k1, h.k2, h.sz, h.el, by simp [h.len], ?_, h.lo_, fun i hi => ?_, ?_, fun i h1 h2 => ?_⟩
  · have hnd := h.nd
    unfold List.Nodup
    rw [List.pairwise_iff_getElem]
    intro i j hi hj hij
    simp only [List.length_set] at hi hj
    rw [List.getElem_set, List.getElem_set]
    have hi2 := hq _ (List.getElem_mem hi)
    have hj2 := hq _ (List.getElem_mem hj)
    have hat := hg.at_
    split <;> split
    · omega
    · omega
    · omega
    · exact nodup_get h.nd hi hj (by omega)
  · rcases List.mem_or_eq_of_mem_set hi with hi | rfl
    · exact h.los i hi
    · rw [hg.at_]; have := h.lo_; omega
  · have := slicesV_set (ids := ids) (ps := ps) (i := k) q (ps[k] ++ [x]) h.len
    simp only [List.length_append, List.length_singleton] at this
    rw [← this, h.cells]
  · simp only [List.length_set] at h1 h2
    rw [List.getElem_set, List.getElem_set]
    by_cases e : k = i
    · rw [if_pos e, if_pos e]
      refine IntsAt.set ⟨_, hg.new, by simp, by simp, rfl, rfl, by simp⟩ ?_
      rw [hg.at_]; omega
    · rw [if_neg e, if_neg e]
      exact ((h.each i h1 h2).grown hg (nodup_get h.nd h1 hk (Ne.symm e))).set (Ne.symm (h.los _ (List.getElem_mem h1)).2)
theorem PAt.rd {lo : Nat} {m : Mem} {ip : Nat} {o : AObj} {ids : List Nat} {ps : List (List Int)} (h : PAt lo m ip o ids ps) : RdSS m (some ⟨ip, 0, none⟩) ps := fun i hi => by
  have hi2 : i < ids.length := by rw [h.len]; exact hi
  exact ⟨ip, 0, o, _, rfl, h.o_at, h.k2, h.sz, by rw [h.cells, Nat.zero_add]; exact slicesV_get hi2 hi, (h.each i hi2 hi).rd⟩
end Go.Proofs.Ytnipgigpjhalkaa
