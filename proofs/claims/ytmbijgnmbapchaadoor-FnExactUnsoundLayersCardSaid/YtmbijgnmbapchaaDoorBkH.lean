/-
  Baskets, part 8: the contracts of weaves: greatest divisors, runs. Conditions: none.
-/
import Derived.Test.YtmbijgnmbapchaaDoorBkB
import Derived.Test.YtmbijgnmbapchaaDoorLawRun
set_option linter.unusedSimpArgs false
set_option linter.unusedVariables false
set_option linter.unusedSectionVars false
namespace Go.Proofs.YtmbijgnmbapchaaDoor
open Go.Abs Go.RowKit Go.Law

theorem tmodN (a b : Nat) : (a : Int).tmod (b : Int) = ((a % b : Nat) : Int) := by
  rw [Int.tmod_eq_emod_of_nonneg (by omega)]; rfl
theorem tdivN (a b : Nat) : (a : Int).tdiv (b : Int) = ((a / b : Nat) : Int) := by
  rw [Int.tdiv_eq_ediv_of_nonneg (by omega)]; rfl
theorem l00Gcd_c (a b : Nat) (h : a ≤ 1000000 ∧ b ≤ 1000000) (m : Mem) : ACalls Tryd.prog 169 [.int .i64 a, .int .i64 b] m (.int .i64 (Nat.gcd a b : Nat)) m := by
  refine acalls_of_vc Tryd.func169 rfl Tryd.fol (by kernel_rfl) ?_
  simp only [Tryd.f169]
  simp -dsimp -implicitDefEqProofs
  refine loopT (fun c σ m' => ∃ x y : Nat, c = y ∧ m' = m ∧ σ 0 = some (.int .i64 x) ∧ σ 1 = some (.int .i64 y) ∧ Nat.gcd x y = Nat.gcd a b ∧ x ≤ 1000000 ∧ y ≤ 1000000) _ ⟨a, b, rfl, rfl, by simp, by simp, rfl, h⟩ ?_
  rintro y σ m' ⟨x, y', hyy, rfl, s0, s1, hg, hx, hy⟩
  subst hyy
  by_cases h0 : y = 0
  · subst h0
    simp -dsimp -implicitDefEqProofs [s0, s1]
    exact GC.eq (by rw [← hg, Nat.gcd_zero_right])
  · have h0' : ((y : Int) != 0) = true := by simpa using h0
    have h0'' : ¬ (y : Int) = 0 := by omega
    have hlt := Nat.mod_lt x (show 0 < y by omega)
    obtain ⟨r, hr⟩ : ∃ r, r = x % y := ⟨_, rfl⟩
    have hmod : (x : Int).tmod (y : Int) = (r : Int) := by rw [hr]; exact tmodN x y
    rw [← hr] at hlt
    simp -dsimp -implicitDefEqProofs [s0, s1, h0', h0'', h0, hmod]
    exact invT _ hlt ⟨y, r, rfl, rfl, by simp, by simp, by rw [hr]; exact (by rw [← hg, Nat.gcd_comm x y, Nat.gcd_rec y x, Nat.gcd_comm]), hy, by omega⟩
theorem divisor_c (a b : Nat) (h : a ≤ 1000000 ∧ b ≤ 1000000) (m : Mem) : ACalls Tryd.prog 124 [.int .i64 a, .int .i64 b] m (.int .i64 (Nat.gcd a b : Nat)) m := by
  refine acalls_of_vc Tryd.func124 rfl Tryd.fol (by kernel_rfl) ?_
  simp only [Tryd.f124]
  simp -dsimp -implicitDefEqProofs
  refine loopT (fun c σ m' => ∃ x y : Nat, c = y ∧ m' = m ∧ σ 0 = some (.int .i64 x) ∧ σ 1 = some (.int .i64 y) ∧ Nat.gcd x y = Nat.gcd a b ∧ x ≤ 1000000 ∧ y ≤ 1000000) _ ⟨a, b, rfl, rfl, by simp, by simp, rfl, h⟩ ?_
  rintro y σ m' ⟨x, y', hyy, rfl, s0, s1, hg, hx, hy⟩
  subst hyy
  by_cases h0 : y = 0
  · subst h0
    simp -dsimp -implicitDefEqProofs [s0, s1]
    exact GC.eq (by rw [← hg, Nat.gcd_zero_right])
  · have h0' : ((y : Int) != 0) = true := by simpa using h0
    have h0'' : ¬ (y : Int) = 0 := by omega
    have hlt := Nat.mod_lt x (show 0 < y by omega)
    obtain ⟨r, hr⟩ : ∃ r, r = x % y := ⟨_, rfl⟩
    have hmod : (x : Int).tmod (y : Int) = (r : Int) := by rw [hr]; exact tmodN x y
    rw [← hr] at hlt
    simp -dsimp -implicitDefEqProofs [s0, s1, h0', h0'', h0, hmod]
    exact invT _ hlt ⟨y, r, rfl, rfl, by simp, by simp, by rw [hr]; exact (by rw [← hg, Nat.gcd_comm x y, Nat.gcd_rec y x, Nat.gcd_comm]), hy, by omega⟩
/-- After how many rounds a weave begins again. -/
def againN (n st : Nat) : Nat := n / Nat.gcd n st
theorem l06Again_c (s : ByteArray) (st : Nat) (h : s.size ≤ 1000 ∧ 1 ≤ s.size) (h' : st ≤ 1000) (m : Mem) : ACalls Tryd.prog 154 [.string s, .int .i64 st] m (.int .i64 (againN s.size st : Nat)) m := by
  have hg : ¬ Nat.gcd s.size st = 0 := fun e => by have := Nat.eq_zero_of_gcd_eq_zero_left e; omega
  have hle := Nat.div_le_self s.size (Nat.gcd s.size st)
  obtain ⟨q, hq⟩ : ∃ q, q = s.size / Nat.gcd s.size st := ⟨_, rfl⟩
  have hd : ((s.size : Nat) : Int).tdiv ((Nat.gcd s.size st : Nat) : Int) = (q : Int) := by rw [hq]; exact tdivN _ _
  have hw : IntKind.i64.wrap (q : Int) = (q : Int) := wrapI (by omega) (by omega)
  rw [show againN s.size st = q from hq.symm]
  refine acalls_of_vc Tryd.func154 rfl Tryd.fol (by kernel_rfl) ?_
  simp only [Tryd.f154]
  simp -dsimp -implicitDefEqProofs [hd, hg, hw]
  refine callsTo Tryd.cal169 (l00Gcd_c _ _ (by omega) _) ?_
  simp -dsimp -implicitDefEqProofs [hd, hg, hw]
  exact GC.refl _ _ _
theorem beginsAgainI_c (s : ByteArray) (st : Nat) (h : s.size ≤ 1000 ∧ 1 ≤ s.size) (h' : st ≤ 1000) (m : Mem) : ACalls Tryd.prog 86 [.string s, .int .i64 st] m (.int .i64 (againN s.size st : Nat)) m := by
  have hg : ¬ Nat.gcd s.size st = 0 := fun e => by have := Nat.eq_zero_of_gcd_eq_zero_left e; omega
  have hle := Nat.div_le_self s.size (Nat.gcd s.size st)
  obtain ⟨q, hq⟩ : ∃ q, q = s.size / Nat.gcd s.size st := ⟨_, rfl⟩
  have hd : ((s.size : Nat) : Int).tdiv ((Nat.gcd s.size st : Nat) : Int) = (q : Int) := by rw [hq]; exact tdivN _ _
  have hw : IntKind.i64.wrap (q : Int) = (q : Int) := wrapI (by omega) (by omega)
  rw [show againN s.size st = q from hq.symm]
  refine acalls_of_vc Tryd.func86 rfl Tryd.fol (by kernel_rfl) ?_
  simp only [Tryd.f86]
  simp -dsimp -implicitDefEqProofs [hd, hg, hw]
  refine callsTo Tryd.cal124 (divisor_c _ _ (by omega) _) ?_
  simp -dsimp -implicitDefEqProofs [hd, hg, hw]
  exact GC.refl _ _ _
def hasL (l : List UInt8) (c : UInt8) : Bool := l.contains c
theorem bothL_has (l : List UInt8) : bothL l = (hasL l 70 && hasL l 66) := rfl
theorem contains_ix (l : List UInt8) (c : UInt8) : decide (0 ≤ Lib.indexByte l c) = l.contains c := by
  induction l with
  | nil => simp [Lib.indexByte]
  | cons b l ih =>
    have hge := Lib.indexByte_ge l c
    unfold Lib.indexByte
    by_cases h : b = c
    · subst h; simp
    · have h1 : (b == c) = false := by simpa using h
      have h2 : (b :: l).contains c = l.contains c := by simp [Ne.symm h]
      rw [h2, ← ih, h1]
      by_cases h3 : Lib.indexByte l c = -1
      · simp [h3]
      · have h4 : (Lib.indexByte l c == -1) = false := by simpa using h3
        simp [h4]; omega
theorem contains_c (s : ByteArray) (c : UInt8) (m : Mem) : ACalls Tryd.prog 123 [.string s, .string ⟨#[c]⟩] m (.bool (hasL s.data.toList c)) m :=
  acalls_of_lit rfl rfl fun w => (Any.strings_Contains_one { Tryd.laysM144 with } s c w).mono fun e w' ⟨he, hw⟩ => ⟨by rw [he, contains_ix]; rfl, hw⟩
theorem bothKinds_c (s : ByteArray) (m : Mem) : ACalls Tryd.prog 83 [.string s] m (.bool (bothL s.data.toList)) m := by
  refine acalls_of_vc Tryd.func83 rfl Tryd.fol (by kernel_rfl) ?_
  simp only [Tryd.f83]
  simp -dsimp -implicitDefEqProofs
  refine callsTo Tryd.cal123 (contains_c s 70 _) ?_
  simp -dsimp -implicitDefEqProofs
  refine sp2 (fun g => ?_) (fun g => GC.eq (by rw [bothL_has, g]; rfl))
  refine callsTo Tryd.cal123 (contains_c s 66 _) ?_
  simp -dsimp -implicitDefEqProofs
  exact GC.eq (by rw [bothL_has, g]; rfl)
/-- The byte at a place of a row that goes on for ever. -/
theorem cycB {s : ByteArray} (h : 1 ≤ s.size) (k : Nat) : ∃ hk : k % s.size < s.size, s.data[k % s.size]'hk = cyc s.data.toList k := by
  have hk := Nat.mod_lt k h
  refine ⟨hk, ?_⟩
  rw [← byteC hk]
  unfold cyc
  rw [bytes_size]
theorem l06Run_c (s : ByteArray) (h : s.size ≤ 1000 ∧ 1 ≤ s.size) (m : Mem) : ACalls Tryd.prog 112 [.string s] m (.int .i64 (runS s.data.toList : Nat)) m := by
  have hn0 : ¬ s.size = 0 := by omega
  obtain ⟨N, hN⟩ : ∃ N, N = 2 * s.size := ⟨_, rfl⟩
  have hw2 : IntKind.i64.wrap (2 * (s.size : Int)) = (N : Int) := by rw [wrapI (by omega) (by omega)]; omega
  obtain ⟨f, hf⟩ : ∃ f, f = cyc s.data.toList := ⟨_, rfl⟩
  have hres : runS s.data.toList = maxS f N := by rw [hf, hN, runS, bytes_size]
  rw [hres]
  refine acalls_of_vc Tryd.func112 rfl Tryd.fol (by kernel_rfl) ?_
  simp only [Tryd.f112]
  simp -dsimp -implicitDefEqProofs [hw2]
  refine loopN N (fun k σ m' => m' = m ∧ σ 0 = some (.string s) ∧ (∃ a : Nat, a = maxS f k ∧ σ 3 = some (.int .i64 a)) ∧ (∃ r : Nat, r + 1 = runAt f k ∧ σ 4 = some (.int .i64 r)) ∧ σ 5 = some (.int .i64 k)) ⟨rfl, by simp, ⟨0, rfl, by simp⟩, ⟨0, rfl, by simp⟩, by simp⟩ ?_
  rintro k σ m' hk ⟨rfl, s0, ⟨a, ha, s3⟩, ⟨r, hr, s4⟩, s5⟩
  by_cases hlt : k < N
  · have hw : IntKind.i64.wrap ((k : Int) + 1) = (k : Int) + 1 := wrapI (by omega) (by omega)
    have hr2 := runAt_le f k
    have hw4 : IntKind.i64.wrap ((r : Int) + 1) = (r : Int) + 1 := wrapI (by omega) (by omega)
    obtain ⟨b1, e1⟩ := cycB h.2 k
    obtain ⟨b2, e2⟩ := cycB h.2 (k + 1)
    obtain ⟨k1, hk1⟩ : ∃ k1, k1 = k % s.size := ⟨_, rfl⟩
    obtain ⟨k2, hk2⟩ : ∃ k2, k2 = (k + 1) % s.size := ⟨_, rfl⟩
    have t1 : (k : Int).tmod (s.size : Int) = (k1 : Int) := by rw [hk1]; exact tmodN _ _
    have t2 : ((k : Int) + 1).tmod (s.size : Int) = (k2 : Int) := by rw [hk2]; exact tmodN (k + 1) _
    simp only [← hk1] at b1 e1
    simp only [← hk2] at b2 e2
    rw [← hf] at e1 e2
    by_cases hc : f k = f (k + 1)
    · have hcB : ((f k).toNat != (f (k + 1)).toNat) = false := by rw [hc]; simp
      simp -dsimp -implicitDefEqProofs [s0, s3, s4, s5, hlt, hw, hw2, hw4, t1, t2, hn0, b1, b2, e1, e2, hc]
      exact next_ hlt ⟨rfl, by simp [s0], ⟨a, by rw [maxS, if_pos hc]; exact ha, by simp [s3]⟩, ⟨r + 1, by rw [runAt, if_pos hc.symm, hr], by simp⟩, by simp [hw]⟩
    · have hcn : (((f k).toNat : Int) != ((f (k + 1)).toNat : Int)) = true := by
        have : ¬ (f k).toNat = (f (k + 1)).toNat := fun e => hc (UInt8.toNat_inj.1 e)
        simp; omega
      simp -dsimp -implicitDefEqProofs [s0, s3, s4, s5, hlt, hw, hw2, hw4, t1, t2, hn0, b1, b2, e1, e2, hc, hcn]
      refine callsTo Tryd.cal135 (l00Max_c _ _ _) ?_
      simp -dsimp -implicitDefEqProofs [s0, s3, s4, s5, hlt, hw, hw2, hw4, t1, t2, hn0, b1, b2, e1, e2, hc, hcn]
      exact next_ hlt ⟨rfl, by simp [s0], ⟨max a (r + 1), by rw [maxS, if_neg hc, ← ha, hr], by simp; omega⟩, ⟨0, by rw [runAt, if_neg (Ne.symm hc)], by simp⟩, by simp [hw]⟩
  · obtain rfl : k = N := by omega
    simp -dsimp -implicitDefEqProofs [s0, s3, s4, s5, hw2]
    exact GC.eq (by rw [ha])
end Go.Proofs.YtmbijgnmbapchaaDoor
