/-
  Kinds, part 6: the program's rods that can be taken, one after the other. Conditions: none.
-/
import Derived.Test.YtlhcepcgjnlopaaKinE
import Derived.Test.YtlhcepcgjnlopaaAbsByte
set_option linter.unusedSimpArgs false
set_option linter.unusedVariables false
set_option linter.unusedSectionVars false
namespace Go.Proofs.Ytlhcepcgjnlopaa
open Go.Abs Go.RowKit Go.Law


/-! ### The reference -/
def SearchAt (ks : List I2) (la : Option Addr) (wanted : Int) (few : Bool) (m : Mem) (v : Value) (m' : Mem) : Prop :=
  ∃ iw it, v = .pointer (some ⟨iw, 0, none⟩) ∧ m <+: m' ∧ m.length ≤ iw ∧ WSt m.length ks la wanted few iw it m' (searchT ks wanted few)
theorem l18Walk_c (ks : List I2) (hks : kinB ks = true) (la : Option Addr) (wanted : Int) (few : Bool) (m : Mem) (hr : RdG v2 2 m la ks) (hla : ∀ a, la = some a → a.block < m.length) :
    ∃ v m', ACalls Try.prog 58 [.slice la ks.length ks.length, .int .i64 wanted, .bool few] m v m' ∧ SearchAt ks la wanted few m v m' := by
  refine ecalls_of_vc Try.func58 rfl Try.fol (by kernel_rfl) ?_
  simp only [Try.f58]
  simp -dsimp -implicitDefEqProofs
  have hw : WSt m.length ks la wanted few (m.length + 1) (m.length + 2) (m ++ [⟨[], 2, 1, 1⟩, ⟨wRow la ks.length wanted few false (.slice (some ⟨m.length, 0, none⟩) 0 0) 0 0 0, 63, 8, 1⟩, ⟨[.int .i64 0, .int .i64 0, .int .i64 0, .int .i64 0], 2, 1, 1⟩]) ⟨none, 0⟩ :=
    ⟨63, _, 0, 0, by simp; rfl, rfl, fun _ => by simp, fun xs h => by cases h⟩
  obtain ⟨v, m', hcall, h1, h2, h3⟩ := walk_c m.length ks hks la wanted few (m.length + 1) (m.length + 2) (by omega) (fun a ha => by have := hla a ha; omega) ks.length [] ⟨none, 0⟩ _ (by simp) (by simp) (fun x hx => by simp at hx) (hr.ext _) hw
    ⟨⟨[.int .i64 0, .int .i64 0, .int .i64 0, .int .i64 0], 2, 1, 1⟩, by simp, rfl, rfl, rfl, rfl, rfl⟩ (by simp)
  have e0 : reachT ks [] = 0 := by cases ks <;> rfl
  rw [e0, sumT_nil] at hcall
  refine callsTo Try.cal69 hcall ?_
  simp -dsimp -implicitDefEqProofs
  rw [List.length_nil, List.drop_zero, walkT_all] at h1
  exact ⟨_, _, GC.refl _ _ _, m.length + 1, m.length + 2, rfl, pre_of_get fun i o hi => h2.get i o (by have := lt_of_get hi; omega) (by have := lt_of_get hi; omega) (get_old hi), by omega, h1⟩

/-! ### The odometer -/
theorem GC.eq2 {m m1 m2 : Mem} {v1 v2 : Value} (h : m1 = m2) (h' : v1 = v2) : GC m m1 v1 m2 v2 := by subst h; subst h'; exact GC.refl _ _ _
theorem nextT_hit : ∀ {hs xs : List Int} (i : Nat) (hi : i < xs.length) (hi' : i < hs.length), nextT (hs.drop (i + 1)) (xs.drop (i + 1)) = none → xs[i] < hs[i] →
    nextT hs xs = some (xs.take i ++ (xs[i] + 1) :: zerosT (hs.drop (i + 1)))
  | h :: hs, x :: xs, 0, _, _, hn, hx => by
    simp only [List.drop_succ_cons, List.drop_zero, List.getElem_cons_zero] at hn hx
    simp [nextT, hn, hx]
  | h :: hs, x :: xs, i + 1, hi, hi', hn, hx => by
    simp only [List.drop_succ_cons, List.getElem_cons_succ] at hn hx
    have := nextT_hit (hs := hs) (xs := xs) i (by simpa using hi) (by simpa using hi') hn hx
    simp [nextT, this]
  | [], xs, i, hi, hi', _, _ => by simp at hi'
  | _ :: _, [], i, hi, hi', _, _ => by simp at hi
theorem nextT_miss : ∀ {hs xs : List Int} (i : Nat) (hi : i < xs.length) (hi' : i < hs.length), nextT (hs.drop (i + 1)) (xs.drop (i + 1)) = none → ¬ xs[i] < hs[i] →
    nextT (hs.drop i) (xs.drop i) = none := by
  intro hs xs i hi hi' hn hx
  rw [List.drop_eq_getElem_cons hi, List.drop_eq_getElem_cons hi']
  simp [nextT, hn, hx]
/-- The rods behind an attempt at the next ones. -/
def nextR (hs xs : List Int) : List Int := (nextT hs xs).getD (zerosT hs)
def hv (ks : List I2) : List Int := ks.map (·.2)
theorem hv_length (ks : List I2) : (hv ks).length = ks.length := by simp [hv]
/-- The first i numbers, and zeros behind them. -/
def odo (hs xs : List Int) (i : Nat) : List Value := (xs.take i ++ zerosT (hs.drop i)).map (Value.int .i64)
section
variable {hs xs : List Int} (hl : xs.length = hs.length) {i : Nat}
include hl
theorem odo_length (hi : i ≤ xs.length) : (odo hs xs i).length = xs.length := by simp [odo, zerosT]; omega
theorem odo_get (hi : i < xs.length) : (odo hs xs (i + 1))[i]? = some (.int .i64 xs[i]) := by
  unfold odo
  rw [List.getElem?_map, List.getElem?_append_left (by simp; omega), List.getElem?_take, if_pos (by omega), List.getElem?_eq_getElem hi]; rfl
theorem odo_set (hi : i < xs.length) (y : Int) : (odo hs xs (i + 1)).set i (.int .i64 y) = (xs.take i ++ y :: zerosT (hs.drop (i + 1))).map (Value.int .i64) := by
  unfold odo
  rw [← List.map_set, List.set_append_left _ _ (by simp; omega)]
  congr 1
  rw [List.take_add_one, List.getElem?_eq_getElem hi, List.set_append_right _ _ (by simp; omega)]
  simp [Nat.min_eq_left (Nat.le_of_lt hi)]
theorem odo_zero (hi : i < xs.length) : (odo hs xs (i + 1)).set i (.int .i64 0) = odo hs xs i := by
  rw [odo_set hl hi]
  unfold odo
  rw [List.drop_eq_getElem_cons (show i < hs.length by omega)]
  rfl
theorem odo_all : odo hs xs xs.length = xs.map (Value.int .i64) := by
  unfold odo
  rw [List.take_length, List.drop_eq_nil_of_le (by omega)]; simp [zerosT]
omit hl in
theorem odo_none : odo hs xs 0 = (zerosT hs).map (Value.int .i64) := by simp [odo]
end
theorem nextTaken_c (ks : List I2) (hks : kinB ks = true) (la : Option Addr) (xs : List Int) (it : Nat) (ty : TypeId) (m : Mem) (hl : xs.length = ks.length) (hfew : FewT xs) (hr : RdG v2 2 m la ks) (ho : m[it]? = some ⟨xs.map (Value.int .i64), ty, 1, 1⟩)
    (hla : ∀ a, la = some a → a.block ≠ it) :
    ACalls Try.prog 60 [.slice la ks.length ks.length, .slice (some ⟨it, 0, none⟩) xs.length xs.length] m (.bool (nextT (hv ks) xs).isSome) (m.set it ⟨(nextR (hv ks) xs).map (Value.int .i64), ty, 1, 1⟩) := by
  have hk4 := kinB_len hks
  refine acalls_of_vc Try.func60 rfl Try.fol (by kernel_rfl) ?_
  simp only [Try.f60]
  simp -dsimp -implicitDefEqProofs
  have hl' : xs.length = (hv ks).length := by rw [hv_length, hl]
  refine loopN xs.length (fun k σ m' => m' = m.set it ⟨odo (hv ks) xs (xs.length - k), ty, 1, 1⟩ ∧ nextT ((hv ks).drop (xs.length - k)) (xs.drop (xs.length - k)) = none ∧
      σ 0 = some (.slice la ks.length ks.length) ∧ σ 1 = some (.slice (some ⟨it, 0, none⟩) xs.length xs.length) ∧ σ 5 = some (.int .i64 (xs.length - 1 - k))) ⟨?_, ?_, by simp, by simp, ?_⟩ ?_
  · rw [Nat.sub_zero, odo_all hl']
    exact (set_self ho).symm
  · rw [Nat.sub_zero, List.drop_length, List.drop_eq_nil_of_le (by omega)]; rfl
  · have : IntKind.i64.wrap ((xs.length : Int) - 1) = xs.length - 1 := wrapI (by omega) (by omega)
    simp [this]
  rintro k σ m' hk ⟨rfl, hnone, s0, s1, s5⟩
  by_cases hlt : k < xs.length
  · obtain ⟨i, hi⟩ : ∃ i, xs.length = k + 1 + i := ⟨xs.length - (k + 1), by omega⟩
    have hix : i < xs.length := by omega
    have hik : i < ks.length := by omega
    have e1 : xs.length - k = i + 1 := by omega
    have e2 : ((xs.length : Int) - 1 - k) = (i : Int) := by omega
    have e3 : xs.length - (k + 1) = i := by omega
    have hx := hfew _ (List.getElem_mem hix)
    have hihv : (hv ks)[i]'(by rw [hv_length]; exact hik) = ks[i].2 := by simp [hv]
    rw [e1] at hnone
    rw [e2] at s5
    obtain ⟨id, off, o, rfl, hm, hkd, hsz, hl0, hrow, hc0, hc1⟩ := R2.at_ hr hik
    have hne := hla _ rfl
    simp only at hne
    have hget : ∀ x, (m.set it x)[id]? = some o := fun x => by rw [List.getElem?_set_ne (Ne.symm hne)]; exact hm
    have hw : IntKind.i64.wrap (xs[i] + 1) = xs[i] + 1 := wrapI (by omega) (by omega)
    have hw2 : IntKind.i64.wrap ((i : Int) - 1) = i - 1 := wrapI (by omega) (by omega)
    rw [e1]
    simp -dsimp -implicitDefEqProofs [s0, s1, s5, hix, hik, withO_of (get_set ho _), fun x => withO_of (hget x), hkd, hsz, withC_of (odo_get hl' hix), withC_of hc1, odo_length hl' (show i + 1 ≤ xs.length by omega), hw, hw2, odo_zero hl' hix, List.set_set]
    refine sp2 (fun g => ?_) (fun g => ?_)
    · simp at g
      have hhit := nextT_hit (hs := hv ks) i hix (by omega) hnone (by rw [hihv]; exact g)
      refine need_intro (by omega) (GC.eq2 ?_ (by rw [hhit]; rfl))
      rw [odo_set hl' hix, nextR, hhit]; rfl
    · simp at g
      refine need_intro (by omega) (next_ hlt ⟨by rw [e3], ?_, by simp [s0], by simp [s1], ?_⟩)
      · rw [e3]; exact nextT_miss i hix (by omega) hnone (by rw [hihv]; omega)
      · have : ((xs.length : Int) - 1 - ((k + 1 : Nat) : Int)) = i - 1 := by omega
        simp [hw2]; omega
  · obtain rfl : k = xs.length := by omega
    have hneg : ¬ ((xs.length : Int) ≤ (xs.length : Int) - 1) := by omega
    simp -dsimp -implicitDefEqProofs [s0, s1, s5, hneg]
    rw [Nat.sub_self, List.drop_zero, List.drop_zero] at hnone
    refine GC.eq2 ?_ (by rw [hnone]; rfl)
    first | rw [Nat.sub_self, odo_none, nextR, hnone]; rfl | (rw [odo_none, nextR, hnone]; rfl)
end Go.Proofs.Ytlhcepcgjnlopaa
