/-
  The library's stable sort of few numbers. Conditions: none.
-/
import Derived.Test.YtnipgigpjhalkaaBase
set_option linter.unusedSimpArgs false
set_option linter.unusedVariables false
set_option linter.unusedSectionVars false
namespace Go.Proofs.Ytnipgigpjhalkaa
open Go.Abs Go.RowKit

/-- How many numbers ahead of j stay where they are, when those at the end that p holds of move. -/
def keepN (p : Int → Bool) (L : List Int) : Nat → Nat
  | 0 => 0
  | j + 1 => if p (L.getD j 0) then keepN p L j else j + 1
theorem keepN_le (p : Int → Bool) (L : List Int) : ∀ j, keepN p L j ≤ j
  | 0 => Nat.le_refl _
  | j + 1 => by
    have := keepN_le p L j
    unfold keepN
    split <;> omega
/-- A number set in, ahead of those at the end that p holds of. -/
def insT (p : Int → Bool) (x : Int) (L : List Int) : List Int := L.take (keepN p L L.length) ++ x :: L.drop (keepN p L L.length)
theorem insT_length (p : Int → Bool) (x : Int) (L : List Int) : (insT p x L).length = L.length + 1 := by simp [insT]; have := keepN_le p L L.length; omega
theorem insT_mem {p : Int → Bool} {x y : Int} {L : List Int} : y ∈ insT p x L ↔ y = x ∨ y ∈ L := by
  have e : y ∈ L ↔ y ∈ L.take (keepN p L L.length) ∨ y ∈ L.drop (keepN p L L.length) := by rw [← List.mem_append, List.take_append_drop]
  rw [e]
  simp only [insT, List.mem_append, List.mem_cons]
  constructor
  · rintro (h | h | h)
    · exact .inr (.inl h)
    · exact .inl h
    · exact .inr (.inr h)
  · rintro (h | h | h)
    · exact .inr (.inl h)
    · exact .inl h
    · exact .inr (.inr h)
/-- Set in one by one. -/
def sortT (p : Int → Int → Bool) (xs : List Int) : List Int := xs.foldl (fun L x => insT (p x) x L) []
theorem sortT_snoc (p : Int → Int → Bool) {xs : List Int} {k : Nat} (h : k < xs.length) : sortT p (xs.take (k + 1)) = insT (p xs[k]) xs[k] (sortT p (xs.take k)) := by
  unfold sortT
  rw [List.take_add_one, List.getElem?_eq_getElem h, List.foldl_append]; rfl
theorem sortT_length (p : Int → Int → Bool) (xs : List Int) : ∀ k, k ≤ xs.length → (sortT p (xs.take k)).length = k
  | 0, _ => by simp [sortT]
  | k + 1, h => by rw [sortT_snoc p (by omega), insT_length, sortT_length p xs k (by omega)]
theorem sortT_mem (p : Int → Int → Bool) (xs : List Int) : ∀ k, k ≤ xs.length → ∀ y ∈ sortT p (xs.take k), y ∈ xs
  | 0, _, y, hy => by simp [sortT] at hy
  | k + 1, h, y, hy => by
    rw [sortT_snoc p (by omega), insT_mem] at hy
    rcases hy with rfl | hy
    · exact List.getElem_mem _
    · exact sortT_mem p xs k (by omega) y hy
/-- The number x on its way through the sorted ones, j of them still ahead of it; the rest behind. -/
def wayT (L : List Int) (x : Int) (R : List Int) (j : Nat) : List Int := L.take j ++ x :: (L.drop j ++ R)
section
variable {L R : List Int} {x : Int}
theorem wayT_length {j : Nat} (hj : j ≤ L.length) : (wayT L x R j).length = L.length + 1 + R.length := by simp [wayT]; omega
theorem wayT_full : wayT L x R L.length = L ++ x :: R := by simp [wayT]
theorem wayT_at {j : Nat} (hj : j ≤ L.length) : (wayT L x R j)[j]? = some x := by
  unfold wayT
  rw [List.getElem?_append_right (by simp; omega)]
  simp [Nat.min_eq_left hj]
theorem wayT_pre {j : Nat} (hj : j < L.length) : (wayT L x R (j + 1))[j]? = some L[j] := by
  unfold wayT
  rw [List.getElem?_append_left (by simp; omega), List.getElem?_take, if_pos (by omega), List.getElem?_eq_getElem hj]
theorem swap_app (A C : List Int) (a b : Int) : ((A ++ a :: b :: C).set (A.length + 1) a).set A.length b = A ++ b :: a :: C := by
  rw [List.set_append_right _ _ (by omega), List.set_append_right _ _ (by omega)]; simp
theorem wayT_swap {j : Nat} (hj : j < L.length) : ((wayT L x R (j + 1)).set (j + 1) L[j]).set j x = wayT L x R j := by
  have e1 : wayT L x R (j + 1) = L.take j ++ L[j] :: x :: (L.drop (j + 1) ++ R) := by
    unfold wayT; rw [List.take_add_one, List.getElem?_eq_getElem hj, List.append_assoc]; rfl
  have e0 : wayT L x R j = L.take j ++ x :: L[j] :: (L.drop (j + 1) ++ R) := by
    unfold wayT; rw [List.drop_eq_getElem_cons hj]; rfl
  have hl : (L.take j).length = j := by simp; omega
  have := swap_app (L.take j) (L.drop (j + 1) ++ R) L[j] x
  rw [hl] at this
  rw [e1, e0, this]
/-- Numbers as cells. -/
def iv (xs : List Int) : List Value := xs.map (Value.int .i64)
theorem iv_length (xs : List Int) : (iv xs).length = xs.length := by simp [iv]
theorem iv_get {xs : List Int} {i : Nat} {x : Int} (h : xs[i]? = some x) : (iv xs)[i]? = some (.int .i64 x) := by simp [iv, h]
theorem iv_set (xs : List Int) (i : Nat) (x : Int) : (iv xs).set i (.int .i64 x) = iv (xs.set i x) := by simp [iv]
end
theorem GC.eq2 {m m1 m2 : Mem} {v1 v2 : Value} (h : m1 = m2) (h' : v1 = v2) : GC m m1 v1 m2 v2 := by subst h; subst h'; exact GC.refl _ _ _
theorem insertion_c (gf : FuncId) (caps : List Value) (K : Mem → Prop) (p : Int → Int → Bool) (xs : List Int) (it : Nat) (ty : TypeId) (kd : Nat) (m : Mem) (hcl : callable Try.prog gf = true)
    (hg : ∀ m', K m' → ∀ x ∈ xs, ∀ y ∈ xs, ∃ z, ACalls Try.prog gf ([.int .i64 x, .int .i64 y] ++ caps) m' (.int .i64 z) m' ∧ decide (z < 0) = p x y)
    (hK : ∀ m' o, K m' → K (m'.set it o)) (h : K m) (ho : m[it]? = some ⟨xs.map (Value.int .i64), ty, 1, kd⟩) (hkd : 1 ≤ kd ∧ kd ≤ 2) (hn : xs.length ≤ 1000000) (hn1 : 1 ≤ xs.length) :
    ACalls Try.prog 94 [.slice (some ⟨it, 0, none⟩) xs.length xs.length, .int .i64 0, .int .i64 xs.length, .func (.func gf) #[] caps.toArray] m (.tuple #[]) (m.set it ⟨(sortT p xs).map (Value.int .i64), ty, 1, kd⟩) := by
  have hkd2 := hkd.2
  refine acalls_of_vc Try.func94 rfl Try.fol (by kernel_rfl) ?_
  simp only [Try.f94]
  simp -dsimp -implicitDefEqProofs
  refine loopN (xs.length - 1) (fun k σ m' => m' = m.set it ⟨iv (sortT p (xs.take (k + 1)) ++ xs.drop (k + 1)), ty, 1, kd⟩ ∧ (σ 0 = some (.slice (some ⟨it, 0, none⟩) xs.length xs.length) ∧ σ 1 = some (.int .i64 0) ∧ σ 2 = some (.int .i64 xs.length) ∧ σ 3 = some (.func (.func gf) #[] caps.toArray)) ∧ σ 8 = some (.int .i64 ((k : Int) + 1))) ⟨?_, by simp, by simp; rfl⟩ ?_
  · rw [sortT_snoc p (show 0 < xs.length by omega)]
    have : insT (p xs[0]) xs[0] (sortT p (xs.take 0)) ++ xs.drop (0 + 1) = xs := by
      simp only [List.take_zero, sortT, List.foldl_nil, insT, List.take_nil, List.drop_nil, List.nil_append]
      rw [List.singleton_append]
      exact (List.drop_eq_getElem_cons (show 0 < xs.length by omega)).symm.trans (by simp)
    rw [this]
    exact (set_self ho).symm
  rintro k σ m' hk ⟨rfl, ⟨s0, s1, s2, s3⟩, s8⟩
  by_cases hlt : k < xs.length - 1
  · have hlt' : (k : Int) + 1 < xs.length := by omega
    have hk1 : k + 1 < xs.length := by omega
    obtain ⟨L, hL⟩ : ∃ L, L = sortT p (xs.take (k + 1)) := ⟨_, rfl⟩
    have hLl : L.length = k + 1 := by rw [hL]; exact sortT_length p xs (k + 1) (by omega)
    have hLm : ∀ y ∈ L, y ∈ xs := by rw [hL]; exact sortT_mem p xs (k + 1) (by omega)
    have hnx := sortT_snoc p hk1
    rw [← hL] at hnx ⊢
    rw [List.drop_eq_getElem_cons hk1]
    simp -dsimp -implicitDefEqProofs [s0, s1, s2, s3, s8, hlt']
    refine loopN (k + 1) (fun c σ m2 => m2 = m.set it ⟨iv (wayT L xs[k + 1] (xs.drop (k + 1 + 1)) (k + 1 - c)), ty, 1, kd⟩ ∧ (σ 0 = some (.slice (some ⟨it, 0, none⟩) xs.length xs.length) ∧ σ 1 = some (.int .i64 0) ∧ σ 2 = some (.int .i64 xs.length) ∧ σ 3 = some (.func (.func gf) #[] caps.toArray)) ∧ σ 8 = some (.int .i64 ((k : Int) + 1)) ∧
      σ 9 = some (.int .i64 ((k + 1 - c : Nat) : Int)) ∧ keepN (p xs[k + 1]) L (k + 1 - c) = keepN (p xs[k + 1]) L L.length) ⟨?_, by simp [s0, s1, s2, s3], by simp [s8], by simp, by rw [hLl]; rfl⟩ ?_
    · rw [show k + 1 - 0 = L.length by omega, wayT_full, ← List.drop_eq_getElem_cons hk1]
    clear s0 s1 s2 s3 s8
    rintro c σ m2 hc ⟨rfl, ⟨s0, s1, s2, s3⟩, s8, s9, hkeep⟩
    obtain ⟨j, hj⟩ : ∃ j, j = k + 1 - c := ⟨_, rfl⟩
    rw [← hj] at s9 hkeep ⊢
    have hjl : j ≤ L.length := by omega
    have hgo := get_set ho ⟨iv (wayT L xs[k + 1] (xs.drop (k + 1 + 1)) j), ty, 1, kd⟩
    have hlw : (iv (wayT L xs[k + 1] (xs.drop (k + 1 + 1)) j)).length = xs.length := by rw [iv_length, wayT_length hjl]; simp; omega
    have hend : keepN (p xs[k + 1]) L j = j → iv (wayT L xs[k + 1] (xs.drop (k + 1 + 1)) j) = iv (sortT p (xs.take (k + 1 + 1)) ++ xs.drop (k + 1 + 1)) := fun h => by
      rw [hnx, insT, ← hkeep, h]; simp [wayT]
    cases j with
    | zero =>
      have hwi : IntKind.i64.wrap ((k : Int) + 1 + 1) = ((k + 1 : Nat) : Int) + 1 := by rw [wrapI (by omega) (by omega)]; simp
      simp -dsimp -implicitDefEqProofs [s0, s1, s2, s3, s8, s9, hwi]
      rw [hend rfl]
      exact next_ hlt ⟨rfl, by simp [s0, s1, s2, s3], by simp [hwi]⟩
    | succ j =>
      have hj1 : j < L.length := by omega
      have b1 : ((j : Int) + 1 < xs.length) := by omega
      have b2 : ((0 : Int) ≤ (j : Int) + 1) := by omega
      have b3 : ((j : Int) + 1).toNat = j + 1 := by omega
      have b4 : ((0 : Int) < (j : Int) + 1) := by omega
      have b5 : ((j : Int) < xs.length) := by omega
      have w1 : IntKind.i64.wrap ((j : Int) + 1 - 1) = j := by rw [show ((j : Int) + 1 - 1) = j by omega]; exact wrapI (by omega) (by omega)
      have w2 : IntKind.i64.wrap (j : Int) = j := wrapI (by omega) (by omega)
      have c1 := iv_get (wayT_at (R := xs.drop (k + 1 + 1)) (x := xs[k + 1]) hjl)
      have c2 := iv_get (wayT_pre (R := xs.drop (k + 1 + 1)) (x := xs[k + 1]) hj1)
      obtain ⟨z, hcz, hz⟩ := hg (m.set it ⟨iv (wayT L xs[k + 1] (xs.drop (k + 1 + 1)) (j + 1)), ty, 1, kd⟩) (hK _ _ h) xs[k + 1] (List.getElem_mem _) L[j] (hLm _ (List.getElem_mem _))
      simp -dsimp -implicitDefEqProofs [s0, s1, s2, s3, s8, s9, b1, b2, b3, b4, b5, w1, w2, fun x => withO_of (get_set ho x), hlw, withC_of c1, withC_of c2, hkd2]
      refine callsTo hcl hcz ?_
      simp -dsimp -implicitDefEqProofs [s0, s1, s2, s3, s8, s9, b1, b2, b3, b4, b5, w1, w2, fun x => withO_of (get_set ho x), hlw, withC_of c1, withC_of c2, hkd2]
      refine sp2 (fun g => ?_) (fun g => ?_)
      · have hp : p xs[k + 1] L[j] = true := by rw [← hz]; exact g
        refine need_intro hkd.1 (need_intro (by omega) (need_intro (.inr (by kernel_rfl)) ?_))
        have hkp : keepN (p xs[k + 1]) L (j + 1) = keepN (p xs[k + 1]) L j := by
          rw [keepN, show L.getD j 0 = L[j] by simp [List.getD_eq_getElem?_getD, hj1], if_pos hp]
        refine need_intro hkd.1 (need_intro (by omega) (need_intro (.inr (by kernel_rfl)) ?_))
        rw [iv_set, iv_set, wayT_swap hj1]
        have hjc : k + 1 - (c + 1) = j := by omega
        exact next_ (by omega) ⟨by rw [hjc], by simp [s0, s1, s2, s3], by simp [s8], by rw [hjc]; simp [w1], by rw [hjc, ← hkp]; exact hkeep⟩
      · have hp : p xs[k + 1] L[j] = false := by rw [← hz]; exact g
        have hkp : keepN (p xs[k + 1]) L (j + 1) = j + 1 := by
          rw [keepN, show L.getD j 0 = L[j] by simp [List.getD_eq_getElem?_getD, hj1], if_neg (by simp [hp])]
        have hwi : IntKind.i64.wrap ((k : Int) + 1 + 1) = ((k + 1 : Nat) : Int) + 1 := by rw [wrapI (by omega) (by omega)]; simp
        rw [hend hkp]
        exact next_ hlt ⟨rfl, by simp [s0, s1, s2, s3], by simp [hwi]⟩
  · have hlt' : ¬ (k : Int) + 1 < xs.length := by omega
    simp -dsimp -implicitDefEqProofs [s0, s1, s2, s3, s8, hlt']
    have hkn : k + 1 = xs.length := by omega
    refine GC.eq2 ?_ rfl
    rw [hkn, List.take_length, List.drop_length, List.append_nil]; rfl
theorem insertion0_c (fv : Value) (it : Addr) (m : Mem) :
    ACalls Try.prog 94 [.slice (some it) 0 0, .int .i64 0, .int .i64 0, fv] m (.tuple #[]) m := by
  refine acalls_of_vc Try.func94 rfl Try.fol (by kernel_rfl) ?_
  simp only [Try.f94]
  simp -dsimp -implicitDefEqProofs
  refine loopN 0 (fun k σ m' => m' = m ∧ σ 2 = some (.int .i64 0) ∧ σ 8 = some (.int .i64 1)) ⟨rfl, by simp, by simp; rfl⟩ ?_
  rintro k σ m' hk ⟨rfl, s2, s8⟩
  simp -dsimp -implicitDefEqProofs [s2, s8]
  exact GC.refl _ _ _
section
variable (gf : FuncId) (caps : List Value) (K : Mem → Prop) (p : Int → Int → Bool) (xs : List Int) (it : Nat) (ty : TypeId) (kd : Nat) (m : Mem) (hcl : callable Try.prog gf = true)
    (hg : ∀ m', K m' → ∀ x ∈ xs, ∀ y ∈ xs, ∃ z, ACalls Try.prog gf ([.int .i64 x, .int .i64 y] ++ caps) m' (.int .i64 z) m' ∧ decide (z < 0) = p x y)
    (hK : ∀ m' o, K m' → K (m'.set it o)) (h : K m) (ho : m[it]? = some ⟨xs.map (Value.int .i64), ty, 1, kd⟩) (hkd : 1 ≤ kd ∧ kd ≤ 2) (hn : xs.length ≤ 19)
include hcl hg hK h ho hkd hn
theorem insertionN_c : ACalls Try.prog 94 [.slice (some ⟨it, 0, none⟩) xs.length xs.length, .int .i64 0, .int .i64 xs.length, .func (.func gf) #[] caps.toArray] m (.tuple #[]) (m.set it ⟨(sortT p xs).map (Value.int .i64), ty, 1, kd⟩) := by
  rcases Nat.eq_zero_or_pos xs.length with h0 | h0
  · have hx := List.length_eq_zero_iff.1 h0
    subst hx
    have := insertion0_c (.func (.func gf) #[] caps.toArray) ⟨it, 0, none⟩ m
    rw [show sortT p [] = [] from rfl, set_self ho]
    exact this
  · exact insertion_c gf caps K p xs it ty kd m hcl hg hK h ho hkd (by omega) h0
theorem stable_c : ACalls Try.prog 93 [.slice (some ⟨it, 0, none⟩) xs.length xs.length, .int .i64 xs.length, .func (.func gf) #[] caps.toArray] m (.tuple #[]) (m.set it ⟨(sortT p xs).map (Value.int .i64), ty, 1, kd⟩) := by
  have hins := insertionN_c gf caps K p xs it ty kd m hcl hg hK h ho hkd hn
  have n1 : ¬ (20 : Int) ≤ xs.length := by omega
  have n2 : ¬ (20 : Int) < xs.length := by omega
  have n3 : ¬ 20 ≤ xs.length := by omega
  have n4 : ¬ 20 < xs.length := by omega
  refine acalls_of_vc Try.func93 rfl Try.fol (by kernel_rfl) ?_
  simp only [Try.f93]
  simp -dsimp -implicitDefEqProofs
  refine loopN 0 (fun k σ m' => m' = m ∧ σ 0 = some (.slice (some ⟨it, 0, none⟩) xs.length xs.length) ∧ σ 1 = some (.int .i64 xs.length) ∧ σ 2 = some (.func (.func gf) #[] caps.toArray) ∧ σ 6 = some (.int .i64 20) ∧ σ 7 = some (.int .i64 0) ∧ σ 8 = some (.int .i64 20)) ⟨rfl, by simp, by simp, by simp, by simp, by simp, by simp⟩ ?_
  rintro k σ m' hk ⟨hmm, s0, s1, s2, s6, s7, s8⟩
  have hmm := hmm.symm
  subst hmm
  simp -dsimp -implicitDefEqProofs [s0, s1, s2, s6, s7, s8, n1, n2, n3, n4]
  refine callsTo Try.cal94 hins ?_
  simp -dsimp -implicitDefEqProofs [s0, s1, s2, s6, s7, s8, n1, n2, n3, n4]
  refine loopN 0 (fun k σ m' => m' = m.set it ⟨(sortT p xs).map (Value.int .i64), ty, 1, kd⟩ ∧ σ 1 = some (.int .i64 xs.length) ∧ σ 6 = some (.int .i64 20)) ⟨rfl, by simp [s1], by simp [s6]⟩ ?_
  clear s0 s1 s2 s6 s7 s8
  rintro k σ m' hk ⟨rfl, s1, s6⟩
  simp -dsimp -implicitDefEqProofs [s1, s6, n1, n2, n3, n4]
  exact GC.refl _ _ _
theorem sortStable_c : ACalls Try.prog 87 [.slice (some ⟨it, 0, none⟩) xs.length xs.length, .func (.func gf) #[] caps.toArray] m (.tuple #[]) (m.set it ⟨(sortT p xs).map (Value.int .i64), ty, 1, kd⟩) := by
  refine acalls_of_vc Try.func87 rfl Try.fol (by kernel_rfl) ?_
  simp only [Try.f87]
  simp -dsimp -implicitDefEqProofs
  refine callsTo Try.cal93 (stable_c gf caps K p xs it ty kd m hcl hg hK h ho hkd hn) ?_
  simp -dsimp -implicitDefEqProofs
  exact GC.refl _ _ _
end
theorem tinfC : tinf Try.prog 76 = some (1, 8, some .nilFunc) := by kernel_rfl
theorem aggC : aggB Try.prog 76 = some false := by kernel_rfl
/-- The function that the sort asks asks the one it was given. -/
theorem asked_c (gf : FuncId) (caps : List Value) (bx : Nat) (ty : TypeId) (x y z : Int) (m m' : Mem) (hb : m[bx]? = some ⟨[.func (.func gf) #[] caps.toArray], ty, 1, 1⟩) (hcl : callable Try.prog gf = true) (hc : ACalls Try.prog gf ([.int .i64 x, .int .i64 y] ++ caps) m (.int .i64 z) m) :
    ACalls Try.prog 88 [.int .i64 x, .int .i64 y, .pointer (some ⟨bx, 0, none⟩)] m (.int .i64 z) m := by
  refine acalls_of_vc Try.func88 rfl Try.fol (by kernel_rfl) ?_
  simp only [Try.f88]
  simp -dsimp -implicitDefEqProofs
  simp -dsimp -implicitDefEqProofs [tinfC, aggC, withO_of hb]
  refine callsTo hcl hc ?_
  simp -dsimp -implicitDefEqProofs [tinfC, aggC, withO_of hb]
  exact GC.refl _ _ _
def idxL (n : Nat) : List Int := (List.range n).map fun (i : Nat) => (i : Int)
theorem idxL_length (n : Nat) : (idxL n).length = n := by simp [idxL]
theorem idxL_succ (n : Nat) : idxL (n + 1) = idxL n ++ [(n : Int)] := by simp [idxL, List.range_succ]
theorem idxL_mem {n : Nat} {x : Int} (h : x ∈ idxL n) : ∃ i : Nat, x = i ∧ i < n := by
  simp only [idxL, List.mem_map, List.mem_range] at h
  obtain ⟨i, hi, rfl⟩ := h
  exact ⟨i, rfl, hi⟩
theorem indicesOf_c (gf : FuncId) (caps : List Value) (K : Mem → Prop) (p : Int → Int → Bool) (n : Nat) (m : Mem) (hcl : callable Try.prog gf = true) (hn : n ≤ 19)
    (hg : ∀ m', m <+: m' → ∀ (x y : Nat), x < n → y < n → ∃ z, ACalls Try.prog gf ([.int .i64 (x : Int), .int .i64 (y : Int)] ++ caps) m' (.int .i64 z) m' ∧ decide (z < 0) = p x y) :
    ACalls Try.prog 72 [.int .i64 n, .func (.func gf) #[] caps.toArray] m (.slice (some ⟨m.length, 0, none⟩) n n) (m ++ [⟨(sortT p (idxL n)).map (Value.int .i64), 2, 1, 2⟩]) := by
  refine acalls_of_vc Try.func72 rfl Try.fol (by kernel_rfl) ?_
  simp only [Try.f72]
  simp -dsimp -implicitDefEqProofs [tinfC]
  refine loopN n (fun k σ m' => ∃ (id : Nat) (o : AObj), (m <+: m' ∧ m'[m.length]? = some ⟨[.func (.func gf) #[] caps.toArray], 76, 1, 1⟩ ∧ m.length + 1 ≤ id) ∧ (m'[id]? = some o ∧ 1 ≤ o.kind ∧ o.kind ≤ 2 ∧ o.sz = 1 ∧ o.elem = 2 ∧ o.cells = (idxL k).map (Value.int .i64)) ∧
      σ 3 = some (.pointer (some ⟨m.length, 0, none⟩)) ∧ σ 5 = some (.slice (some ⟨id, 0, none⟩) k k) ∧ σ 8 = some (.int .i64 n) ∧ σ 9 = some (.int .i64 k))
    ⟨m.length + 1, ⟨[], 2, 1, 1⟩, ⟨⟨_, rfl⟩, by simp, Nat.le_refl _⟩, ⟨by simp, by simp, by simp, rfl, rfl, rfl⟩, by simp, by simp, by simp, by simp⟩ ?_
  rintro k σ m' hk ⟨id, o, ⟨hp, hbx, hid⟩, ⟨ho, ho1, ho2, ho3, ho4, ho5⟩, s3, s5, s8, s9⟩
  by_cases hlt : k < n
  · have hw : IntKind.i64.wrap ((k : Int) + 1) = k + 1 := wrapI (by omega) (by omega)
    simp -dsimp -implicitDefEqProofs [s3, s5, s8, s9, hlt, hw]
    refine appTo_grow (e := 2) (sz := 1) (by_ := 8) (z := .int .i64 0) (by kernel_rfl) (by kernel_rfl) ⟨by decide, rfl⟩ (o := o) (get_old ho) ⟨ho1, ho2⟩ ⟨ho3, ho4⟩ (by rw [ho5]; simp [idxL_length]) (by omega) (Src.obj (o := ⟨[.int .i64 k], 2, 1, 1⟩) (by simp) (by simp) rfl rfl) ?_
    intro m4 id4 hg4
    simp -dsimp -implicitDefEqProofs [s3, s5, s8, s9, hlt, hw]
    exact next_ hlt ⟨id4, _, ⟨hg4.pre m (pre_app hp _) (by omega), hg4.old _ _ (by omega) (get_old hbx), by rw [hg4.at_]; simp; have := hp.length_le; have := lt_of_get hbx; omega⟩, ⟨hg4.new, by simp, by simp, rfl, rfl, by simp [ho5, idxL_succ]⟩, by simp [s3], by simp, by simp [s8], by simp [hw]⟩
  · obtain rfl : k = n := by omega
    obtain ⟨cells, el, sz, kd⟩ := o
    simp only at ho1 ho2 ho3 ho4 ho5
    subst ho3 ho4 ho5
    have hst := sortStable_c 88 [.pointer (some ⟨m.length, 0, none⟩)] (fun m' => m <+: m' ∧ m'[m.length]? = some ⟨[.func (.func gf) #[] caps.toArray], 76, 1, 1⟩) p (idxL k) id 2 kd m' Try.cal88
      (fun m' ⟨h1, h2⟩ x hx y hy => by
        obtain ⟨i, rfl, hi⟩ := idxL_mem hx
        obtain ⟨j, rfl, hj⟩ := idxL_mem hy
        obtain ⟨z, hz, hz2⟩ := hg m' h1 i j hi hj
        exact ⟨z, asked_c gf caps _ _ _ _ z m' m' h2 hcl hz, hz2⟩)
      (fun m' o ⟨h1, h2⟩ => ⟨pre_set h1 (by omega) _, by rw [List.getElem?_set_ne (by omega)]; exact h2⟩) ⟨hp, hbx⟩ ho ⟨ho1, ho2⟩ (by rw [idxL_length]; exact hn)
    rw [idxL_length] at hst
    simp -dsimp -implicitDefEqProofs [s3, s5, s8, s9]
    refine callsTo Try.cal87 hst ?_
    simp -dsimp -implicitDefEqProofs [s3, s5, s8, s9]
    exact GC.keepSP (Fits.refl m) (pre_set hp (by omega) _) (get_set ho _) (by omega) rfl rfl (by simp; omega) rfl (ints_lit _)
end Go.Proofs.Ytnipgigpjhalkaa
