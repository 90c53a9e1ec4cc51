/-
  Markets, part 12: choices of markets. Conditions: none.
-/
import Derived.Test.YtciekhcdkfhcoaaMkK
set_option linter.unusedSimpArgs false
set_option linter.unusedVariables false
set_option linter.unusedSectionVars false
namespace Go.Proofs.Ytciekhcdkfhcoaa
open Go.Abs Go.RowKit

def lexLt : List Int → List Int → Bool
  | x :: xs, y :: ys => if x = y then lexLt xs ys else decide (x < y)
  | _, _ => false
def lessB (a b : List Int) : Bool := if a.length = b.length then lexLt a b else decide (a.length < b.length)
theorem lexLt_at : ∀ {a b : List Int} {k : Nat} (h : k < a.length) (h' : k < b.length), a.take k = b.take k → a[k] ≠ b[k] → lexLt a b = decide (a[k] < b[k])
  | x :: xs, y :: ys, 0, _, _, _, hne => by simp at hne; simp [lexLt, hne]
  | x :: xs, y :: ys, k + 1, h, h', ht, hne => by
    simp only [List.take_succ_cons, List.cons.injEq] at ht
    obtain ⟨rfl, ht⟩ := ht
    simp only [List.getElem_cons_succ] at hne ⊢
    simp only [lexLt, if_true]
    exact lexLt_at (by simpa using h) (by simpa using h') ht hne
  | [], _, _, h, _, _, _ => by simp at h
  | _ :: _, [], _, _, h', _, _ => by simp at h'
theorem lexLt_self : ∀ a : List Int, lexLt a a = false
  | [] => rfl
  | x :: xs => by simp [lexLt, lexLt_self xs]
theorem l03Less_c (xs ys : List Int) (a b : Option Addr) (m : Mem) (hr : RdI m a xs) (hs : RdI m b ys) (hn : xs.length ≤ 1048576) : ACalls Try.prog 66 [.slice a xs.length xs.length, .slice b ys.length ys.length] m (.bool (lessB xs ys)) m := by
  refine acalls_of_vc Try.func66 rfl Try.fol (by kernel_rfl) ?_
  simp only [Try.f66]
  simp -dsimp -implicitDefEqProofs
  refine sp2 (fun g => GC.eq ?_) (fun g => ?_)
  · simp at g
    have : ¬ xs.length = ys.length := by omega
    simp [lessB, this]
  have hxy : xs.length = ys.length := by simp at g; omega
  refine loopN xs.length (fun k σ m' => m' = m ∧ (σ 0 = some (.slice a xs.length xs.length) ∧ σ 1 = some (.slice b ys.length ys.length) ∧ σ 5 = some (.int .i64 k)) ∧ xs.take k = ys.take k) ⟨rfl, by simp, by simp⟩ ?_
  rintro k σ m' hk ⟨rfl, ⟨s0, s1, s5⟩, ht⟩
  by_cases hlt : k < xs.length
  · have hlt' : k < ys.length := by omega
    obtain ⟨id, off, o, rfl, hm, hkd, hsz, hc⟩ := hr.at_ hlt
    obtain ⟨id', off', o', rfl, hm', hkd', hsz', hc'⟩ := hs.at_ hlt'
    have hw : IntKind.i64.wrap ((k : Int) + 1) = k + 1 := wrapI (by omega) (by omega)
    simp -dsimp -implicitDefEqProofs [s0, s1, s5, hlt, hlt', withO_of hm, hkd, hsz, withC_of hc, withO_of hm', hkd', hsz', withC_of hc', hw]
    refine sp2 (fun g => GC.eq ?_) (fun g => ?_)
    · simp at g
      simp [lessB, hxy, lexLt_at hlt hlt' ht g]
    · refine next_ hlt ⟨rfl, by simp [s0, s1, hw], take_succ_eq hlt hlt' ht (by simpa using g)⟩
  · simp -dsimp -implicitDefEqProofs [s0, s1, s5, hlt]
    refine GC.eq ?_
    rw [List.take_of_length_le (by omega), List.take_of_length_le (by omega)] at ht
    subst ht
    simp [lessB, lexLt_self]
theorem isNaN_c (a : Int) (m : Mem) : ACalls Try.prog 90 [.int .i64 a] m (.bool false) m := by
  refine acalls_of_vc Try.func90 rfl Try.fol (by kernel_rfl) ?_
  simp only [Try.f90]
  simp -dsimp -implicitDefEqProofs
  exact GC.eq (by simp)
def cmpI (a b : Int) : Int := if a < b then -1 else if b < a then 1 else 0
theorem cmpI_c (a b : Int) (m : Mem) : ACalls Try.prog 88 [.int .i64 a, .int .i64 b] m (.int .i64 (cmpI a b)) m := by
  refine acalls_of_vc Try.func88 rfl Try.fol (by kernel_rfl) ?_
  simp only [Try.f88]
  simp -dsimp -implicitDefEqProofs
  refine callsTo Try.cal90 (isNaN_c _ _) ?_
  simp -dsimp -implicitDefEqProofs
  refine callsTo Try.cal90 (isNaN_c _ _) ?_
  simp -dsimp -implicitDefEqProofs
  refine sp2 (fun g => GC.eq (by simp at g; simp [cmpI, g])) (fun g => sp2 (fun g' => GC.eq (by simp at g g'; simp [cmpI, g', Int.not_lt.2 g])) (fun g' => GC.eq (by simp at g g'; simp [cmpI, Int.not_lt.2 g, Int.not_lt.2 g'])))
theorem compare_c (xs ys : List Int) (a b : Option Addr) (m : Mem) (hr : RdI m a xs) (hs : RdI m b ys) (hn : xs.length ≤ 1048576) (hxy : xs.length = ys.length) : ACalls Try.prog 82 [.slice a xs.length xs.length, .slice b ys.length ys.length] m (.int .i64 (if xs = ys then 0 else if lexLt xs ys then -1 else 1)) m := by
  refine acalls_of_vc Try.func82 rfl Try.fol (by kernel_rfl) ?_
  simp only [Try.f82]
  simp -dsimp -implicitDefEqProofs
  refine loopN xs.length (fun k σ m' => m' = m ∧ (σ 0 = some (.slice a xs.length xs.length) ∧ σ 1 = some (.slice b ys.length ys.length) ∧ σ 9 = some (.slice a xs.length xs.length) ∧ σ 10 = some (.int .i64 xs.length) ∧ σ 11 = some (.int .i64 k)) ∧ xs.take k = ys.take k) ⟨rfl, by simp, by simp⟩ ?_
  rintro k σ m' hk ⟨rfl, ⟨s0, s1, s9, s10, s11⟩, ht⟩
  by_cases hlt : k < xs.length
  · have hlt' : k < ys.length := by omega
    have hle' : ¬ ys.length ≤ k := by omega
    obtain ⟨id, off, o, rfl, hm, hkd, hsz, hc⟩ := hr.at_ hlt
    obtain ⟨id', off', o', rfl, hm', hkd', hsz', hc'⟩ := hs.at_ hlt'
    have hw : IntKind.i64.wrap ((k : Int) + 1) = k + 1 := wrapI (by omega) (by omega)
    simp -dsimp -implicitDefEqProofs [s0, s1, s9, s10, s11, hlt, hlt', hle', withO_of hm, hkd, hsz, withC_of hc, withO_of hm', hkd', hsz', withC_of hc', hw]
    refine callsTo Try.cal88 (cmpI_c _ _ _) ?_
    simp -dsimp -implicitDefEqProofs [s0, s1, s9, s10, s11, hlt, hlt', hle', withO_of hm, hkd, hsz, withC_of hc, withO_of hm', hkd', hsz', withC_of hc', hw]
    refine sp2 (fun g => GC.eq ?_) (fun g => ?_)
    · simp at g
      have hne : xs[k] ≠ ys[k] := fun h => g (by simp [cmpI, h])
      have hxne : xs ≠ ys := fun h => by subst h; exact hne rfl
      rw [if_neg hxne, lexLt_at hlt hlt' ht hne]
      by_cases h1 : xs[k] < ys[k]
      · simp [cmpI, h1]
      · have : ys[k] < xs[k] := by omega
        simp [cmpI, h1, this]
    · simp at g
      have heq : xs[k] = ys[k] := by
        unfold cmpI at g
        split at g
        · omega
        · split at g <;> omega
      exact next_ hlt ⟨rfl, by simp [s0, s1, s9, s10, hw], take_succ_eq hlt hlt' ht heq⟩
  · have hle' : ¬ xs.length < ys.length := by omega
    simp -dsimp -implicitDefEqProofs [s0, s1, s9, s10, s11, hlt, hle']
    refine GC.eq ?_
    rw [List.take_of_length_le (by omega), List.take_of_length_le (by omega)] at ht
    subst ht
    simp
theorem fewer_c (xs ys : List Int) (a b : Option Addr) (m : Mem) (hr : RdI m a xs) (hs : RdI m b ys) (hn : xs.length ≤ 1048576) : ACalls Try.prog 68 [.slice a xs.length xs.length, .slice b ys.length ys.length] m (.bool (lessB xs ys)) m := by
  refine acalls_of_vc Try.func68 rfl Try.fol (by kernel_rfl) ?_
  simp only [Try.f68]
  simp -dsimp -implicitDefEqProofs
  refine sp2 (fun g => GC.eq ?_) (fun g => sp2 (fun g' => ?_) (fun g' => GC.eq ?_))
  · simp at g
    have : ¬ xs.length = ys.length := by omega
    simp [lessB, this, g]
  · have hxy : xs.length = ys.length := by simp at g'; omega
    refine callsTo Try.cal82 (compare_c xs ys a b _ hr hs hn hxy) ?_
    simp -dsimp -implicitDefEqProofs
    refine GC.eq ?_
    by_cases h : xs = ys
    · subst h; simp [lessB, lexLt_self]
    · cases h2 : lexLt xs ys <;> simp [lessB, hxy, h, h2]
  · simp at g g'
    have : ¬ xs.length = ys.length := by omega
    have h2 : ¬ xs.length < ys.length := by omega
    simp [lessB, this, h2]

/-- The bits of a number, as indices below n. -/
def membersL (s n : Nat) : List Int := ((List.range n).filter fun i => s.testBit i).map fun (i : Nat) => (i : Int)
theorem membersL_succ (s n : Nat) : membersL s (n + 1) = membersL s n ++ (if s.testBit n then [(n : Int)] else []) := by
  unfold membersL
  rw [List.range_succ, List.filter_append, List.map_append]
  congr 1
  by_cases h : s.testBit n = true
  · simp [h]
  · simp [h]
theorem membersL_length (s n : Nat) : (membersL s n).length ≤ n := by
  unfold membersL
  rw [List.length_map]
  exact Nat.le_trans (List.length_filter_le _ _) (by simp)
theorem membersL_mem {s n : Nat} {z : Int} (h : z ∈ membersL s n) : 0 ≤ z ∧ z < (n : Int) := by
  simp only [membersL, List.mem_map, List.mem_filter, List.mem_range] at h
  obtain ⟨i, ⟨hi, _⟩, rfl⟩ := h
  omega
theorem membersL_stop {s k n : Nat} (h : s >>> k = 0) (hk : k ≤ n) : membersL s n = membersL s k := by
  induction n with
  | zero => have : k = 0 := by omega
            subst this; rfl
  | succ n ih =>
    by_cases hkn : k = n + 1
    · subst hkn; rfl
    · rw [membersL_succ, ih (by omega)]
      have : s.testBit n = false := by
        rw [Nat.testBit_eq_decide_div_mod_eq]
        rw [Nat.shiftRight_eq_div_pow] at h
        have h2 : s / 2 ^ n = 0 := by
          have hp : (0 : Nat) < 2 ^ k := Nat.pow_pos (by omega)
          have := (Nat.div_eq_zero_iff).1 h
          have hle : 2 ^ k ≤ 2 ^ n := Nat.pow_le_pow_right (by omega) (by omega)
          exact Nat.div_eq_of_lt (by omega)
        rw [h2]; decide
      simp [this]
theorem bit_and (x : Nat) (hx : x < 2 ^ 63) : IntKind.i64.wrap (((x % 2 ^ IntKind.i64.bits &&& 1 % 2 ^ IntKind.i64.bits : Nat)) : Int) = if x % 2 = 1 then 1 else 0 := by
  rw [Nat.mod_eq_of_lt (show x < 2 ^ IntKind.i64.bits by rw [show IntKind.i64.bits = 64 from rfl]; omega), show (1 % 2 ^ IntKind.i64.bits : Nat) = 1 by decide, Nat.and_one_is_mod]
  rw [wrapI (by omega) (by omega)]
  split <;> omega
theorem bit_test (s k : Nat) : s.testBit k = decide (s / 2 ^ k % 2 = 1) := Nat.testBit_eq_decide_div_mod_eq
theorem membersOf_c (s n : Nat) (hs : s < 2 ^ n) (hn : n ≤ 60) (m : Mem) : ACalls Try.prog 67 [.int .i64 s] m (.slice (some ⟨m.length, 0, none⟩) (membersL s n).length (membersL s n).length) (m ++ [⟨(membersL s n).map (Value.int .i64), 2, 1, 2⟩]) := by
  refine acalls_of_vc Try.func67 rfl Try.fol (by kernel_rfl) ?_
  simp only [Try.f67]
  simp -dsimp -implicitDefEqProofs
  refine loopN n (fun k σ m' => ∃ (i : Nat) (o : AObj), (m <+: m' ∧ m.length ≤ i ∧ m'[i]? = some o ∧ 1 ≤ o.kind ∧ o.kind ≤ 2 ∧ o.sz = 1 ∧ o.elem = 2 ∧ o.cells = (membersL s k).map (Value.int .i64)) ∧ (∃ x : Nat, x = s / 2 ^ k ∧ σ 0 = some (.int .i64 x)) ∧ σ 3 = some (.slice (some ⟨i, 0, none⟩) (membersL s k).length (membersL s k).length) ∧ σ 4 = some (.int .i64 k))
    ⟨m.length, _, ⟨⟨_, rfl⟩, Nat.le_refl _, by simp; rfl, by simp, by simp, rfl, rfl, rfl⟩, ⟨s, by simp, by simp⟩, by simp [membersL], by simp⟩ ?_
  rintro k σ m' hk ⟨i, o, ⟨hp, hi, ho, ho1, ho2, ho3, ho4, ho5⟩, ⟨x, hx, s0⟩, s3, s4⟩
  have hml := membersL_length s k
  have hfin : x = 0 → GC m m' (.slice (some ⟨i, 0, none⟩) (membersL s k).length (membersL s k).length) (m ++ [⟨(membersL s n).map (Value.int .i64), 2, 1, 2⟩]) (.slice (some ⟨m.length, 0, none⟩) (membersL s n).length (membersL s n).length) := fun h => by
    rw [membersL_stop (by rw [Nat.shiftRight_eq_div_pow, ← hx, h]) hk]
    exact GC.keepSP (Fits.refl m) hp ho hi ho3.symm ho4.symm (by simp; omega) ho5.symm (by rw [ho5]; exact ints_lit _)
  have hxs : x ≤ s := by rw [hx]; exact Nat.div_le_self _ _
  have hs60 : 2 ^ n ≤ 2 ^ 60 := Nat.pow_le_pow_right (by omega) hn
  by_cases h0 : x = 0
  · have hneg : ¬ (0 < x) := by omega
    simp -dsimp -implicitDefEqProofs [s0, s3, s4, hneg]
    exact hfin h0
  · have hpos : 0 < x := by omega
    have hkn : k < n := by
      rcases Nat.lt_or_ge k n with h | h
      · exact h
      · exfalso
        apply h0
        rw [hx]
        exact Nat.div_eq_of_lt (Nat.lt_of_lt_of_le hs (Nat.pow_le_pow_right (by omega) h))
    have hwk : IntKind.i64.wrap ((k : Int) + 1) = k + 1 := wrapI (by omega) (by omega)
    have hbit := bit_and x (by omega)
    have htb := bit_test s k
    rw [← hx] at htb
    have hws := membersL_succ s k
    obtain ⟨x2, hx2⟩ : ∃ x2, x2 = x / 2 := ⟨_, rfl⟩
    have hsh : (x : Int).fdiv (2 ^ min (1 : Nat) IntKind.i64.bits) = (x2 : Int) := by
      rw [show min 1 IntKind.i64.bits = 1 from rfl, Int.fdiv_eq_ediv_of_nonneg _ (by decide), hx2]
      omega
    have hx2' : x2 = s / 2 ^ (k + 1) := by rw [hx2, hx, Nat.div_div_eq_div_mul, Nat.pow_succ]
    by_cases hb : x % 2 = 1
    · rw [if_pos hb] at hbit
      rw [htb] at hws
      simp only [hb, decide_true, if_true] at hws
      simp -dsimp -implicitDefEqProofs [s0, s3, s4, hpos, hwk, hbit, hsh]
      refine appTo_grow (e := 2) (sz := 1) (by_ := 8) (z := .int .i64 0) (by kernel_rfl) (by kernel_rfl) ⟨by decide, rfl⟩ (o := o) (get_old ho) ⟨ho1, ho2⟩ ⟨ho3, ho4⟩ (by rw [ho5]; simp) (by omega) (Src.obj (o := ⟨[.int .i64 k], 2, 1, 1⟩) (by simp) (by simp) rfl rfl) ?_
      intro m4 id4 hg
      simp -dsimp -implicitDefEqProofs [s0, s3, s4, hpos, hwk, hbit, hsh]
      exact next_ hkn ⟨id4, _, ⟨hg.pre m (pre_app hp _) hi, by rw [hg.at_]; simp; have := hp.length_le; omega, hg.new, by simp, by simp, rfl, rfl, by simp [ho5, hws]⟩, ⟨x2, hx2', by simp [hsh]⟩, by simp [hws], by simp [hwk]⟩
    · rw [if_neg hb] at hbit
      rw [htb] at hws
      simp only [hb, decide_false, Bool.false_eq_true, if_false, List.append_nil] at hws
      simp -dsimp -implicitDefEqProofs [s0, s3, s4, hpos, hwk, hbit, hsh]
      exact next_ hkn ⟨i, o, ⟨hp, hi, ho, ho1, ho2, ho3, ho4, by rw [hws]; exact ho5⟩, ⟨x2, hx2', by simp [hsh]⟩, by simp [s3, hws], by simp [hwk]⟩
theorem l03List_c (s n : Nat) (hs : s < 2 ^ n) (hn : n ≤ 60) (m : Mem) : ACalls Try.prog 65 [.int .i64 s, .int .i64 n] m (.slice (some ⟨m.length, 0, none⟩) (membersL s n).length (membersL s n).length) (m ++ [⟨(membersL s n).map (Value.int .i64), 2, 1, 2⟩]) := by
  refine acalls_of_vc Try.func65 rfl Try.fol (by kernel_rfl) ?_
  simp only [Try.f65]
  simp -dsimp -implicitDefEqProofs
  refine loopN n (fun k σ m' => ∃ (i : Nat) (o : AObj), (m <+: m' ∧ m.length ≤ i ∧ m'[i]? = some o ∧ 1 ≤ o.kind ∧ o.kind ≤ 2 ∧ o.sz = 1 ∧ o.elem = 2 ∧ o.cells = (membersL s k).map (Value.int .i64)) ∧ σ 0 = some (.int .i64 s) ∧ σ 1 = some (.int .i64 n) ∧ σ 5 = some (.slice (some ⟨i, 0, none⟩) (membersL s k).length (membersL s k).length) ∧ σ 6 = some (.int .i64 k))
    ⟨m.length, _, ⟨⟨_, rfl⟩, Nat.le_refl _, by simp; rfl, by simp, by simp, rfl, rfl, rfl⟩, by simp, by simp, by simp [membersL], by simp⟩ ?_
  rintro k σ m' hk ⟨i, o, ⟨hp, hi, ho, ho1, ho2, ho3, ho4, ho5⟩, s0, s1, s5, s6⟩
  have hml := membersL_length s k
  by_cases hlt : k < n
  · have hwk : IntKind.i64.wrap ((k : Int) + 1) = k + 1 := wrapI (by omega) (by omega)
    obtain ⟨x, hx⟩ : ∃ x, x = s / 2 ^ k := ⟨_, rfl⟩
    have hxs : x ≤ s := by rw [hx]; exact Nat.div_le_self _ _
    have hs60 : 2 ^ n ≤ 2 ^ 60 := Nat.pow_le_pow_right (by omega) hn
    have hbit := bit_and x (by omega)
    have htb := bit_test s k
    rw [← hx] at htb
    have hws := membersL_succ s k
    have hku : IntKind.u64.wrap (k : Int) = k := by rw [IntKind.wrap_u64]; omega
    have hsh : (s : Int).fdiv (2 ^ min k IntKind.i64.bits) = (x : Int) := by
      have h64 : IntKind.i64.bits = 64 := rfl
      rw [h64, Nat.min_eq_left (by omega), Int.fdiv_eq_ediv_of_nonneg _ (Int.pow_nonneg (by decide)), hx]
      simp
    by_cases hb : x % 2 = 1
    · rw [if_pos hb] at hbit
      rw [htb] at hws
      simp only [hb, decide_true, if_true] at hws
      simp -dsimp -implicitDefEqProofs [s0, s1, s5, s6, hlt, hwk, hku, hsh, hbit]
      refine appTo_grow (e := 2) (sz := 1) (by_ := 8) (z := .int .i64 0) (by kernel_rfl) (by kernel_rfl) ⟨by decide, rfl⟩ (o := o) (get_old ho) ⟨ho1, ho2⟩ ⟨ho3, ho4⟩ (by rw [ho5]; simp) (by omega) (Src.obj (o := ⟨[.int .i64 k], 2, 1, 1⟩) (by simp) (by simp) rfl rfl) ?_
      intro m4 id4 hg
      simp -dsimp -implicitDefEqProofs [s0, s1, s5, s6, hlt, hwk, hku, hsh, hbit]
      exact next_ hlt ⟨id4, _, ⟨hg.pre m (pre_app hp _) hi, by rw [hg.at_]; simp; have := hp.length_le; omega, hg.new, by simp, by simp, rfl, rfl, by simp [ho5, hws]⟩, by simp [s0], by simp [s1], by simp [hws], by simp [hwk]⟩
    · rw [if_neg hb] at hbit
      rw [htb] at hws
      simp only [hb, decide_false, Bool.false_eq_true, if_false, List.append_nil] at hws
      simp -dsimp -implicitDefEqProofs [s0, s1, s5, s6, hlt, hwk, hku, hsh, hbit]
      exact next_ hlt ⟨i, o, ⟨hp, hi, ho, ho1, ho2, ho3, ho4, by rw [hws]; exact ho5⟩, by simp [s0], by simp [s1], by simp [s5, hws], by simp [hwk]⟩
  · simp -dsimp -implicitDefEqProofs [s0, s1, s5, s6, hlt]
    obtain rfl : k = n := by omega
    exact GC.keepSP (Fits.refl m) hp ho hi ho3.symm ho4.symm (by simp; omega) ho5.symm (by rw [ho5]; exact ints_lit _)
end Go.Proofs.Ytciekhcdkfhcoaa
