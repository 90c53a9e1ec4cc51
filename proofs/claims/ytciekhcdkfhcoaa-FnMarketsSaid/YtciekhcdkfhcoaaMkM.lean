/-
  Markets, part 13: the best choice of markets, its code. Conditions: none.
-/
import Derived.Test.YtciekhcdkfhcoaaMkL
set_option linter.unusedSimpArgs false
set_option linter.unusedVariables false
set_option linter.unusedSectionVars false
namespace Go.Proofs.Ytciekhcdkfhcoaa
open Go.Abs Go.RowKit

def stepB (xs : List Mk) (ys : List Int) (st : List Int × Int) (s : Nat) : List Int × Int :=
  if st.2 < (goTo xs ys (membersL s xs.length) (membersL s xs.length).length).2 then (membersL s xs.length, (goTo xs ys (membersL s xs.length) (membersL s xs.length).length).2) else
  if (goTo xs ys (membersL s xs.length) (membersL s xs.length).length).2 = st.2 then (if lessB (membersL s xs.length) st.1 then (membersL s xs.length, (goTo xs ys (membersL s xs.length) (membersL s xs.length).length).2) else st) else st
def bestS (xs : List Mk) (ys : List Int) (k : Nat) : List Int × Int := (List.range k).foldl (stepB xs ys) ([], 0)
theorem bestS_zero (xs : List Mk) (ys : List Int) : bestS xs ys 0 = ([], 0) := rfl
theorem bestS_succ (xs : List Mk) (ys : List Int) (k : Nat) : bestS xs ys (k + 1) = stepB xs ys (bestS xs ys k) k := by
  unfold bestS; rw [List.range_succ, List.foldl_append]; rfl
theorem membersL_zero (n : Nat) : membersL 0 n = [] := by simp [membersL]
theorem bestS_one (xs : List Mk) (ys : List Int) : bestS xs ys 1 = ([], 0) := by
  rw [bestS_succ, bestS_zero]
  simp [stepB, membersL_zero, goTo_zero, lessB, lexLt]
theorem bestS_length (xs : List Mk) (ys : List Int) : ∀ k, (bestS xs ys k).1.length ≤ xs.length
  | 0 => by simp [bestS]
  | k + 1 => by
    have := bestS_length xs ys k
    have h2 := membersL_length k xs.length
    rw [bestS_succ]; unfold stepB
    repeat' split
    all_goals first | exact h2 | exact this
def bestM (n : Int) (xs : List Mk) (ys : List Int) : Option (List Int) := if codeM n xs ys = 0 then some (bestS xs ys (2 ^ xs.length)).1 else none
def mostM (n : Int) (xs : List Mk) (ys : List Int) : Int := if codeM n xs ys = 0 then (bestS xs ys (2 ^ xs.length)).2 else 0
theorem bestM_length {n : Int} {xs : List Mk} {ys zs : List Int} (h : bestM n xs ys = some zs) : zs.length ≤ 1048576 := by
  unfold bestM at h
  split at h
  · rename_i h1
    have := mksB_n (codeM_zero h1).1
    injection h with h; subst h; have := bestS_length xs ys (2 ^ xs.length); omega
  · cases h
theorem goOK_members {n : Int} {xs : List Mk} {ys : List Int} (h : codeM n xs ys = 0) (s : Nat) : GoOK xs ys (membersL s xs.length) := by
  obtain ⟨h3, h4⟩ := codeM_zero h
  refine ⟨fun z hz => membersL_mem hz, fun x hx => ?_⟩
  obtain ⟨i, hi, rfl⟩ := List.getElem_of_mem hx
  have := mksB_len h3 hi
  omega
theorem specBestM_c (n : Int) (xs : List Mk) (ys : List Int) (a b : Option Addr) (m : Mem) (hr : RdM m a xs) (hs : RdI m b ys) (hn : xs.length ≤ 1048576) (hn' : ∀ x ∈ xs, x.2.2.1.length ≤ 1048576 ∧ x.2.2.2.length ≤ 1048576) (hn2 : ys.length ≤ 1048576) :
    ACalls Try.prog 39 [.int .i64 n, .slice a xs.length xs.length, .slice b ys.length ys.length] m (.tuple #[optV m.length (bestM n xs ys), .int .i64 (mostM n xs ys), .int .i64 (codeM n xs ys)]) (m ++ optM 2 (bestM n xs ys)) := by
  refine acalls_of_vc Try.func39 rfl Try.fol (by kernel_rfl) ?_
  simp only [Try.f39]
  simp -dsimp -implicitDefEqProofs
  refine callsTo Try.cal58 (l21Code_c n xs ys a b _ hr hs hn hn' hn2) ?_
  simp -dsimp -implicitDefEqProofs
  refine sp2 (fun g => ?_) (fun g => ?_)
  · simp at g
    simp [bestM, mostM, g, optV, optM]
    exact GC.refl _ _ _
  simp at g
  obtain ⟨hmk, hyn⟩ := codeM_zero g
  obtain ⟨_, _, hx10⟩ := mksB_n hmk
  have hpow : 2 ^ xs.length ≤ 2 ^ 10 := Nat.pow_le_pow_right (by omega) hx10
  have hpos : 0 < 2 ^ xs.length := Nat.pow_pos (by omega)
  obtain ⟨N, hN⟩ : ∃ N, N = 2 ^ xs.length := ⟨_, rfl⟩
  have hlu : IntKind.u64.wrap (xs.length : Int) = xs.length := by rw [IntKind.wrap_u64]; omega
  have hmin : min xs.length IntKind.i64.bits = xs.length := Nat.min_eq_left (by rw [show IntKind.i64.bits = 64 from rfl]; omega)
  have hsh : IntKind.i64.wrap ((2 : Int) ^ xs.length) = (N : Int) := by
    rw [show ((2 : Int) ^ xs.length) = ((2 ^ xs.length : Nat) : Int) by simp, ← hN]
    exact wrapI (by omega) (by omega)
  refine loopN (N - 1) (fun k σ m' => ∃ (i : Nat) (o : AObj), (m <+: m' ∧ m.length ≤ i ∧ m'[i]? = some o ∧ 1 ≤ o.kind ∧ o.kind ≤ 2 ∧ o.sz = 1 ∧ o.elem = 2 ∧ o.cells = (bestS xs ys (k + 1)).1.map (Value.int .i64)) ∧ σ 1 = some (.slice a xs.length xs.length) ∧ σ 2 = some (.slice b ys.length ys.length) ∧
      σ 10 = some (.slice (some ⟨i, 0, none⟩) (bestS xs ys (k + 1)).1.length (bestS xs ys (k + 1)).1.length) ∧ σ 11 = some (.int .i64 (bestS xs ys (k + 1)).2) ∧ σ 12 = some (.int .i64 ((k : Int) + 1)))
    ⟨m.length, _, ⟨⟨_, rfl⟩, Nat.le_refl _, by simp; rfl, by simp, by simp, rfl, rfl, by rw [bestS_one]; rfl⟩, by simp, by simp, by simp [bestS_one], by simp [bestS_one], by simp⟩ ?_
  rintro k σ m' hk ⟨i, o, ⟨hp, hi, ho, ho1, ho2, ho3, ho4, ho5⟩, s1, s2, s10, s11, s12⟩
  have hbl := bestS_length xs ys (k + 1)
  by_cases hlt : k < N - 1
  · have hlt' : (k : Int) + 1 < N := by omega
    have hwk : IntKind.i64.wrap ((k : Int) + 1 + 1) = k + 2 := by rw [show ((k : Int) + 1 + 1) = k + 2 by omega]; exact wrapI (by omega) (by omega)
    have hst := bestS_succ xs ys (k + 1)
    obtain ⟨ws, hws⟩ : ∃ ws, ws = membersL (k + 1) xs.length := ⟨_, rfl⟩
    have hwl := membersL_length (k + 1) xs.length
    have hok := goOK_members g (k + 1)
    have hli := l03List_c (k + 1) xs.length (by omega) (by omega) m'
    simp only [stepB] at hst
    rw [← hws] at hli hok hwl hst
    obtain ⟨mA, hmA⟩ : ∃ mA, mA = m' ++ [(⟨ws.map (Value.int .i64), 2, 1, 2⟩ : AObj)] := ⟨_, rfl⟩
    have hpA : m' <+: mA := by rw [hmA]; exact ⟨_, rfl⟩
    have hA : mA[m'.length]? = some ⟨ws.map (Value.int .i64), 2, 1, 2⟩ := by rw [hmA]; simp
    rw [← hmA] at hli
    have hru := l21Run_c xs ys ws a b _ mA hok (hr.pre (hp.trans hpA)) (hs.pre' (hp.trans hpA)) (RdI.of_get hA (by simp) rfl rfl) hn hn2 (by omega)
    obtain ⟨mB, hmB⟩ : ∃ mB, mB = mA ++ [(⟨(goTo xs ys ws ws.length).1.map (Value.int .i64), 2, 1, 2⟩ : AObj)] := ⟨_, rfl⟩
    have hpB : mA <+: mB := by rw [hmB]; exact ⟨_, rfl⟩
    rw [← hmB] at hru
    have hB := prefix_get hpB hA
    have hoB := prefix_get (hpA.trans hpB) ho
    have hle := l03Less_c ws (bestS xs ys (k + 1)).1 _ _ mB (RdI.of_get hB (by simp) rfl rfl) (RdI.of_get (xs := (bestS xs ys (k + 1)).1) hoB ho2 ho3 ho5) (by omega)
    have hiA : m.length ≤ m'.length := hp.length_le
    simp -dsimp -implicitDefEqProofs [s1, s2, s10, s11, s12, hlt', hwk, hlu, hmin, hsh]
    refine callsTo Try.cal65 hli ?_
    simp -dsimp -implicitDefEqProofs [s1, s2, s10, s11, s12, hlt', hwk, hlu, hmin, hsh]
    refine callsTo Try.cal62 hru ?_
    simp -dsimp -implicitDefEqProofs [s1, s2, s10, s11, s12, hlt', hwk, hlu, hmin, hsh]
    refine sp2 (fun g1 => ?_) (fun g1 => sp2 (fun g2 => ?_) (fun g2 => ?_))
    · simp at g1
      rw [if_pos g1] at hst
      exact next_ hlt ⟨m'.length, _, ⟨hp.trans (hpA.trans hpB), hiA, hB, by simp, by simp, rfl, rfl, by rw [hst]⟩, by simp [s1], by simp [s2], by simp [hst], by simp [hst], by simp [hwk]; omega⟩
    · simp at g1 g2
      rw [if_neg (by omega), if_pos g2] at hst
      refine callsTo Try.cal66 hle ?_
      simp -dsimp -implicitDefEqProofs [s1, s2, s10, s11, s12, hlt', hwk, hlu, hmin, hsh]
      refine sp2 (fun g3 => ?_) (fun g3 => ?_)
      · rw [if_pos g3] at hst
        exact next_ hlt ⟨m'.length, _, ⟨hp.trans (hpA.trans hpB), hiA, hB, by simp, by simp, rfl, rfl, by rw [hst]⟩, by simp [s1], by simp [s2], by simp [hst], by simp [hst], by simp [hwk]; omega⟩
      · rw [if_neg (by simp [g3])] at hst
        exact next_ hlt ⟨i, o, ⟨hp.trans (hpA.trans hpB), hi, hoB, ho1, ho2, ho3, ho4, by rw [hst]; exact ho5⟩, by simp [s1], by simp [s2], by simp [s10, hst], by simp [s11, hst], by simp [hwk]; omega⟩
    · simp at g1 g2
      rw [if_neg (by omega), if_neg g2] at hst
      exact next_ hlt ⟨i, o, ⟨hp.trans (hpA.trans hpB), hi, hoB, ho1, ho2, ho3, ho4, by rw [hst]; exact ho5⟩, by simp [s1], by simp [s2], by simp [s10, hst], by simp [s11, hst], by simp [hwk]; omega⟩
  · have hlt' : ¬ ((k : Int) + 1 < N) := by omega
    simp -dsimp -implicitDefEqProofs [s1, s2, s10, s11, s12, hlt', hlu, hmin, hsh]
    have hkN : k + 1 = 2 ^ xs.length := by omega
    simp only [bestM, mostM, g, if_true, optV, optM]
    rw [hkN] at ho5 ⊢
    exact GC.keepTP (Fits.refl m) hp ho hi ho3.symm ho4.symm (by simp; omega) ho5.symm (by rw [ho5]; exact ints_lit _) rfl
theorem implBestM_c (n : Int) (xs : List Mk) (ys : List Int) (a b : Option Addr) (m : Mem) (hr : RdM m a xs) (hs : RdI m b ys) (hn : xs.length ≤ 1048576) (hn' : ∀ x ∈ xs, x.2.2.1.length ≤ 1048576 ∧ x.2.2.2.length ≤ 1048576) (hn2 : ys.length ≤ 1048576) :
    ACalls Try.prog 40 [.int .i64 n, .slice a xs.length xs.length, .slice b ys.length ys.length] m (.tuple #[optV m.length (bestM n xs ys), .int .i64 (mostM n xs ys), .int .i64 (codeM n xs ys)]) (m ++ optM 2 (bestM n xs ys)) := by
  refine acalls_of_vc Try.func40 rfl Try.fol (by kernel_rfl) ?_
  simp only [Try.f40]
  simp -dsimp -implicitDefEqProofs
  refine callsTo Try.cal59 (marketsCode_c n xs ys a b _ hr hs hn hn' hn2) ?_
  simp -dsimp -implicitDefEqProofs
  refine sp2 (fun g => ?_) (fun g => ?_)
  · simp at g
    simp [bestM, mostM, g, optV, optM]
    exact GC.refl _ _ _
  simp at g
  obtain ⟨hmk, hyn⟩ := codeM_zero g
  obtain ⟨_, _, hx10⟩ := mksB_n hmk
  have hpow : 2 ^ xs.length ≤ 2 ^ 10 := Nat.pow_le_pow_right (by omega) hx10
  have hpos : 0 < 2 ^ xs.length := Nat.pow_pos (by omega)
  obtain ⟨N, hN⟩ : ∃ N, N = 2 ^ xs.length := ⟨_, rfl⟩
  have hmin : min xs.length IntKind.i64.bits = xs.length := Nat.min_eq_left (by rw [show IntKind.i64.bits = 64 from rfl]; omega)
  have hsh : IntKind.i64.wrap ((2 : Int) ^ xs.length) = (N : Int) := by
    rw [show ((2 : Int) ^ xs.length) = ((2 ^ xs.length : Nat) : Int) by simp, ← hN]
    exact wrapI (by omega) (by omega)
  have hnn : ¬ ((xs.length : Int) < 0) := by omega
  refine loopN N (fun k σ m' => ∃ (i : Nat) (o : AObj), (m <+: m' ∧ m.length ≤ i ∧ m'[i]? = some o ∧ 1 ≤ o.kind ∧ o.kind ≤ 2 ∧ o.sz = 1 ∧ o.elem = 2 ∧ o.cells = (bestS xs ys k).1.map (Value.int .i64)) ∧ σ 1 = some (.slice a xs.length xs.length) ∧ σ 2 = some (.slice b ys.length ys.length) ∧
      σ 10 = some (.slice (some ⟨i, 0, none⟩) (bestS xs ys k).1.length (bestS xs ys k).1.length) ∧ σ 11 = some (.int .i64 (bestS xs ys k).2) ∧ σ 26 = some (.int .i64 N) ∧ σ 27 = some (.int .i64 k))
    ⟨m.length, _, ⟨⟨_, rfl⟩, Nat.le_refl _, by simp; rfl, by simp, by simp, rfl, rfl, rfl⟩, by simp, by simp, by simp [bestS_zero], by simp [bestS_zero], by simp [hmin, hsh], by simp⟩ ?_
  rintro k σ m' hk ⟨i, o, ⟨hp, hi, ho, ho1, ho2, ho3, ho4, ho5⟩, s1, s2, s10, s11, s26, s27⟩
  have hbl := bestS_length xs ys k
  by_cases hlt : k < N
  · have hwk : IntKind.i64.wrap ((k : Int) + 1) = k + 1 := wrapI (by omega) (by omega)
    have hst := bestS_succ xs ys k
    obtain ⟨ws, hws⟩ : ∃ ws, ws = membersL k xs.length := ⟨_, rfl⟩
    have hwl := membersL_length k xs.length
    have hok := goOK_members g k
    have hli := membersOf_c k xs.length (by omega) (by omega) m'
    simp only [stepB] at hst
    rw [← hws] at hli hok hwl hst
    obtain ⟨mA, hmA⟩ : ∃ mA, mA = m' ++ [(⟨ws.map (Value.int .i64), 2, 1, 2⟩ : AObj)] := ⟨_, rfl⟩
    have hpA : m' <+: mA := by rw [hmA]; exact ⟨_, rfl⟩
    have hA : mA[m'.length]? = some ⟨ws.map (Value.int .i64), 2, 1, 2⟩ := by rw [hmA]; simp
    rw [← hmA] at hli
    have hru := goTo_c xs ys ws a b _ mA hok (hr.pre (hp.trans hpA)) (hs.pre' (hp.trans hpA)) (RdI.of_get hA (by simp) rfl rfl) hn hn2 (by omega)
    obtain ⟨mB, hmB⟩ : ∃ mB, mB = mA ++ [(⟨(goTo xs ys ws ws.length).1.map (Value.int .i64), 2, 1, 2⟩ : AObj)] := ⟨_, rfl⟩
    have hpB : mA <+: mB := by rw [hmB]; exact ⟨_, rfl⟩
    rw [← hmB] at hru
    have hB := prefix_get hpB hA
    have hoB := prefix_get (hpA.trans hpB) ho
    have hle := fewer_c ws (bestS xs ys k).1 _ _ mB (RdI.of_get hB (by simp) rfl rfl) (RdI.of_get (xs := (bestS xs ys k).1) hoB ho2 ho3 ho5) (by omega)
    have hiA : m.length ≤ m'.length := hp.length_le
    simp -dsimp -implicitDefEqProofs [s1, s2, s10, s11, s26, s27, hlt, hwk]
    refine callsTo Try.cal67 hli ?_
    simp -dsimp -implicitDefEqProofs [s1, s2, s10, s11, s26, s27, hlt, hwk]
    refine callsTo Try.cal64 hru ?_
    simp -dsimp -implicitDefEqProofs [s1, s2, s10, s11, s26, s27, hlt, hwk]
    refine sp2 (fun g1 => ?_) (fun g1 => sp2 (fun g2 => ?_) (fun g2 => ?_))
    · simp at g1
      rw [if_pos g1] at hst
      exact next_ hlt ⟨m'.length, _, ⟨hp.trans (hpA.trans hpB), hiA, hB, by simp, by simp, rfl, rfl, by rw [hst]⟩, by simp [s1], by simp [s2], by simp [hst], by simp [hst], by simp [s26], by simp [hwk]⟩
    · simp at g1 g2
      rw [if_neg (by omega), if_pos g2] at hst
      refine callsTo Try.cal68 hle ?_
      simp -dsimp -implicitDefEqProofs [s1, s2, s10, s11, s26, s27, hlt, hwk]
      refine sp2 (fun g3 => ?_) (fun g3 => ?_)
      · rw [if_pos g3] at hst
        exact next_ hlt ⟨m'.length, _, ⟨hp.trans (hpA.trans hpB), hiA, hB, by simp, by simp, rfl, rfl, by rw [hst]⟩, by simp [s1], by simp [s2], by simp [hst], by simp [hst], by simp [s26], by simp [hwk]⟩
      · rw [if_neg (by simp [g3])] at hst
        exact next_ hlt ⟨i, o, ⟨hp.trans (hpA.trans hpB), hi, hoB, ho1, ho2, ho3, ho4, by rw [hst]; exact ho5⟩, by simp [s1], by simp [s2], by simp [s10, hst], by simp [s11, hst], by simp [s26], by simp [hwk]⟩
    · simp at g1 g2
      rw [if_neg (by omega), if_neg g2] at hst
      exact next_ hlt ⟨i, o, ⟨hp.trans (hpA.trans hpB), hi, hoB, ho1, ho2, ho3, ho4, by rw [hst]; exact ho5⟩, by simp [s1], by simp [s2], by simp [s10, hst], by simp [s11, hst], by simp [s26], by simp [hwk]⟩
  · simp -dsimp -implicitDefEqProofs [s1, s2, s10, s11, s26, s27, hlt]
    have hkN : k = 2 ^ xs.length := by omega
    simp only [bestM, mostM, g, if_true, optV, optM]
    rw [hkN] at ho5 ⊢
    exact GC.keepTP (Fits.refl m) hp ho hi ho3.symm ho4.symm (by simp; omega) ho5.symm (by rw [ho5]; exact ints_lit _) rfl
end Go.Proofs.Ytciekhcdkfhcoaa
