/-
  Kinds, part 7: in how many ways rods reach, and the best taken rods. Conditions: none.
-/
import Derived.Test.YtlhcepcgjnlopaaKinF
set_option linter.unusedSimpArgs false
set_option linter.unusedVariables false
set_option linter.unusedSectionVars false
namespace Go.Proofs.Ytlhcepcgjnlopaa
open Go.Abs Go.RowKit Go.Law

theorem reachTo_eq {ks : List I2} (hks : kinB ks = true) {xs : List Int} (hl : xs.length = ks.length) (hf : FewT xs) : ∀ k, k ≤ xs.length → reachTo ks xs k = reachT ks (xs.take k)
  | 0, _ => by cases ks <;> rfl
  | k + 1, hk => by
    have h1 : k < xs.length := by omega
    have h2 : k < ks.length := by omega
    have hkk : ∀ k ∈ ks, 1 ≤ k.1 ∧ k.1 ≤ 200 := fun k hk => by
      obtain ⟨i, hi, rfl⟩ := List.getElem_of_mem hk
      exact ⟨(kinB_at hks hi).1, (kinB_at hks hi).2.1⟩
    have h4 := kinB_len hks
    have hft : ∀ k, FewT (xs.take k) := fun k x hx => hf x (List.mem_of_mem_take hx)
    have e := reachT_snoc ks (xs.take k) xs[k] (by rw [List.length_take]; omega)
    have e3 : (xs.take k).length = k := by rw [List.length_take]; omega
    simp only [e3] at e
    rw [reachTo_succ h1 h2, reachTo_eq hks hl hf k (by omega), List.take_add_one, List.getElem?_eq_getElem h1, Option.toList_some, e]
    have b := hf _ (List.getElem_mem h1)
    have c := hkk _ (List.getElem_mem h2)
    have b1 : 0 ≤ xs[k] * ks[k].1 := Int.mul_nonneg b.1 (by omega)
    have b2 : xs[k] * ks[k].1 ≤ 12 * 200 := Int.mul_le_mul b.2 c.2 (by omega) (by omega)
    have b3 := (hft k).reach hkk
    rw [e3] at b3
    unfold w64
    rw [wrapI (x := xs[k] * ks[k].1) (by omega) (by omega), wrapI (by omega) (by omega)]
theorem reachW_eq {ks : List I2} (hks : kinB ks = true) {xs : List Int} (hl : xs.length = ks.length) (hf : FewT xs) : reachW ks xs = reachT ks xs := by
  unfold reachW
  rw [reachTo_eq hks hl hf _ (Nat.le_refl _), List.take_length]

theorem hv_nonneg {ks : List I2} (hks : kinB ks = true) : ∀ h ∈ hv ks, 0 ≤ h ∧ h ≤ 12 := fun h hh => by
  obtain ⟨k, hk, rfl⟩ := List.mem_map.1 hh
  obtain ⟨i, hi, rfl⟩ := List.getElem_of_mem hk
  exact ⟨(kinB_at hks hi).2.2.1, (kinB_at hks hi).2.2.2⟩
theorem Within.few : ∀ {hs xs : List Int}, Within hs xs → (∀ h ∈ hs, h ≤ 12) → FewT xs
  | [], [], _, _ => fun x hx => by simp at hx
  | h :: hs, x :: xs, hw, hh => fun y hy => by
    rcases List.mem_cons.1 hy with rfl | hy
    · have := hh h (by simp); have := hw.1; omega
    · exact Within.few hw.2 (fun z hz => hh z (by simp [hz])) y hy
  | [], _ :: _, hw, _ => hw.elim
  | _ :: _, [], hw, _ => hw.elim
theorem zeros_few (hs : List Int) : FewT (zerosT hs) := fun x hx => by
  simp only [zerosT, List.mem_map] at hx
  obtain ⟨_, _, rfl⟩ := hx; omega
theorem within_length : ∀ {hs xs : List Int}, Within hs xs → xs.length = hs.length
  | [], [], _ => rfl
  | h :: hs, x :: xs, hw => by simp [within_length hw.2]
  | [], _ :: _, hw => hw.elim
  | _ :: _, [], hw => hw.elim

/-- Where the odometer stands: what has been seen, and what stands on it. -/
structure Odo (ks : List I2) (seen : List (List Int)) (more : Bool) (xs : List Int) : Prop where
  go : more = true → tuples (hv ks) = seen ++ fromT (hv ks) xs
  stop : more = false → tuples (hv ks) = seen
  few : FewT xs
  len : xs.length = ks.length
theorem Odo.zero {ks : List I2} (hks : kinB ks = true) : Odo ks [] true (zerosT (hv ks)) :=
  ⟨fun _ => by rw [fromT_zeros (fun h hh => (hv_nonneg hks h hh).1)]; rfl, fun h => (by cases h), zeros_few _, by rw [zerosT_length, hv_length]⟩
theorem Odo.next {ks : List I2} (hks : kinB ks = true) {seen : List (List Int)} {xs : List Int} (h : Odo ks seen true xs) : Odo ks (seen ++ [xs]) (nextT (hv ks) xs).isSome (nextR (hv ks) xs) := by
  have h1 := h.go rfl
  have hl : xs.length = (hv ks).length := by rw [hv_length, h.len]
  rw [fromT_eq (fun h hh => (hv_nonneg hks h hh).1) hl] at h1
  cases hn : nextT (hv ks) xs with
  | none =>
    rw [hn] at h1
    exact ⟨fun h => by simp at h, fun _ => h1, by rw [nextR, hn]; exact zeros_few _, by rw [nextR, hn]; show (zerosT _).length = _; rw [zerosT_length, hv_length]⟩
  | some ys =>
    rw [hn] at h1
    have hly := nextT_length hl hn
    have hmem : ys ∈ tuples (hv ks) := by
      rw [h1]
      show ys ∈ seen ++ xs :: fromT (hv ks) ys
      rw [fromT_eq (fun h hh => (hv_nonneg hks h hh).1) hly]; simp
    refine ⟨fun _ => by rw [nextR, hn]; simpa using h1, fun h => by simp at h, ?_, by rw [nextR, hn]; show ys.length = _; rw [hly, hv_length]⟩
    rw [nextR, hn]
    exact Within.few ((mem_tuples (fun h hh => (hv_nonneg hks h hh).1)).1 hmem) (fun h hh => (hv_nonneg hks h hh).2)

def waysV (ks : List I2) (n : Int) : Value := .tuple #[.int .i64 (if codeK ks n = 0 then w64 (searchT ks n true).ways else 0), .int .i64 (codeK ks n)]
theorem codeK_zero {ks : List I2} {n : Int} (h : codeK ks n = 0) : kinB ks = true ∧ 0 ≤ n ∧ n ≤ 5000 := by
  unfold codeK at h
  split at h
  · split at h
    · rename_i h1 h2
      simp [inB] at h2
      exact ⟨h1, h2⟩
    · omega
  · omega
theorem specWays_c (ks : List I2) (la : Option Addr) (n : Int) (m : Mem) (hr : RdG v2 2 m la ks) (hn : ks.length ≤ 1048576) (hla : ∀ a, la = some a → a.block < m.length) :
    ACalls Try.prog 33 [.slice la ks.length ks.length, .int .i64 n] m (waysV ks n) m := by
  refine acalls_of_vc Try.func33 rfl Try.fol (by kernel_rfl) ?_
  simp only [Try.f33]
  simp -dsimp -implicitDefEqProofs
  refine callsTo Try.cal57 (l18Code_c ks la n _ hr hn) ?_
  simp -dsimp -implicitDefEqProofs
  refine ⟨fun g => GC.eq (by simp at g; simp [waysV, g]), fun g => ?_⟩
  simp at g
  obtain ⟨hks, _⟩ := codeK_zero g
  obtain ⟨v, m', hcall, iw, it, rfl, hp, hge, ty, b, r1, r2, hm, _⟩ := l18Walk_c ks hks la n true m hr hla
  refine callsTo Try.cal58 hcall ?_
  simp -dsimp -implicitDefEqProofs [withO_of hm, wRow]
  exact GC.dropP hp (by simp [waysV, g]) rfl
/-- The ways among what has been seen. -/
def waysOf (ks : List I2) (n : Int) (seen : List (List Int)) : Int := ((seen.filter fun xs => decide (reachT ks xs = n)).length : Int)
theorem waysOf_snoc (ks : List I2) (n : Int) (seen : List (List Int)) (xs : List Int) : waysOf ks n (seen ++ [xs]) = waysOf ks n seen + if reachT ks xs = n then 1 else 0 := by
  unfold waysOf
  by_cases h : reachT ks xs = n <;> simp [List.filter_append, h]
theorem w64_add (x : Int) : w64 (w64 x + 1) = w64 (x + 1) := by simp [w64, IntKind.wrap_i64]; omega
theorem implWays_c (ks : List I2) (la : Option Addr) (n : Int) (m : Mem) (hr : RdG v2 2 m la ks) (hn : ks.length ≤ 1048576) (hla : ∀ a, la = some a → a.block < m.length) :
    ACalls Try.prog 34 [.slice la ks.length ks.length, .int .i64 n] m (waysV ks n) m := by
  refine acalls_of_vc Try.func34 rfl Try.fol (by kernel_rfl) ?_
  simp only [Try.f34]
  simp -dsimp -implicitDefEqProofs
  refine callsTo Try.cal59 (kindsCode_c ks la n _ hr hn) ?_
  simp -dsimp -implicitDefEqProofs
  refine ⟨fun g => GC.eq (by simp at g; simp [waysV, g]), fun g => ?_⟩
  simp at g
  obtain ⟨hks, _⟩ := codeK_zero g
  have hk4 := kinB_len hks
  refine need_intro (by omega) ?_
  refine loopT (fun c σ m' => ∃ (seen : List (List Int)) (more : Bool) (xs : List Int), c = (tuples (hv ks)).length - seen.length ∧ Odo ks seen more xs ∧ m' = m ++ [⟨xs.map (Value.int .i64), 2, 1, 1⟩] ∧
      σ 0 = some (.slice la ks.length ks.length) ∧ σ 1 = some (.int .i64 n) ∧ σ 7 = some (.int .i64 (w64 (waysOf ks n seen))) ∧ σ 8 = some (.slice (some ⟨m.length, 0, none⟩) ks.length ks.length) ∧ σ 9 = some (.bool more)) _
    ⟨[], true, zerosT (hv ks), rfl, Odo.zero hks, ?_, by simp, by simp, by simp; rfl, by simp, by simp⟩ ?_
  · simp [zerosT, hv, Function.comp_def]
    exact List.map_const'.symm
  rintro _ σ m' ⟨seen, more, xs, rfl, hO, rfl, s0, s1, s7, s8, s9⟩
  cases more with
  | false =>
    simp -dsimp -implicitDefEqProofs [s0, s1, s7, s8, s9]
    exact GC.dropEq (by simp [waysV, g, (searchT_found ks n true).ways, waysOf, ← hO.stop rfl, hv]) rfl
  | true =>
    simp -dsimp -implicitDefEqProofs [s0, s1, s7, s8, s9]
    have hxs : RdI (m ++ [⟨xs.map (Value.int .i64), 2, 1, 1⟩]) (some ⟨m.length, 0, none⟩) xs := RdI.of_get (o := ⟨xs.map (Value.int .i64), 2, 1, 1⟩) (by simp) (by simp) rfl rfl
    have hreach := reachOf_c ks xs la (some ⟨m.length, 0, none⟩) _ (hr.ext _) hxs (by rw [hO.len]; omega) (by rw [hO.len]; exact Nat.le_refl _)
    rw [reachW_eq hks hO.len hO.few, hO.len] at hreach
    have hnext := nextTaken_c ks hks la xs m.length 2 (m ++ [⟨xs.map (Value.int .i64), 2, 1, 1⟩]) hO.len hO.few (hr.ext _) (by simp) (fun a ha => by have := hla a ha; omega)
    rw [hO.len] at hnext
    have hstep := hO.next hks
    have hlt : seen.length < (tuples (hv ks)).length := by
      have := hO.go rfl
      rw [fromT_eq (fun h hh => (hv_nonneg hks h hh).1) (by rw [hv_length, hO.len])] at this
      rw [this]; simp
    refine callsTo Try.cal55 hreach ?_
    simp -dsimp -implicitDefEqProofs [s0, s1, s7, s8, s9]
    refine sp2 (fun g1 => ?_) (fun g1 => ?_)
    all_goals
      refine callsTo Try.cal60 hnext ?_
      simp -dsimp -implicitDefEqProofs [s0, s1, s7, s8, s9]
      refine invT _ ?_ ⟨seen ++ [xs], _, _, rfl, hstep, rfl, by simp [s0], by simp [s1], ?_, by simp [s8], by simp⟩
      · simp; omega
    · simp at g1
      simp [waysOf_snoc, g1]; exact w64_add _
    · simp at g1
      simp [waysOf_snoc, g1, s7]
end Go.Proofs.Ytlhcepcgjnlopaa
