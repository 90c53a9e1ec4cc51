/-
  Baskets, part 8: the contracts of weaves: greatest divisors, runs. Conditions: none.
-/
import Derived.Test.YtmbijgnmbapchaaDoorBkB
import Derived.Test.YtmbijgnmbapchaaDoorLawRun
set_option linter.unusedSimpArgs false
set_option linter.unusedVariables false
set_option linter.unusedSectionVars false
namespace Go.Proofs.YtmbijgnmbapchaaDoor
open Go.Abs Go.RowKit Go.Law

theorem tmodN (a b : Nat) : (a : Int).tmod (b : Int) = ((a % b : Nat) : Int) := by
  rw [Int.tmod_eq_emod_of_nonneg (by omega)]; rfl
theorem tdivN (a b : Nat) : (a : Int).tdiv (b : Int) = ((a / b : Nat) : Int) := by
  rw [Int.tdiv_eq_ediv_of_nonneg (by omega)]; rfl
theorem l00Gcd_c (a b : Nat) (h : a ≤ 1000000 ∧ b ≤ 1000000) (m : Mem) : ACalls Tryd.prog 169 [.int .i64 a, .int .i64 b] m (.int .i64 (Nat.gcd a b : Nat)) m := by
  refine acalls_of_vc Tryd.func169 rfl Tryd.fol (by kernel_rfl) ?_
  simp only [Tryd.f169]
  simp -dsimp -implicitDefEqProofs
  refine loopT (fun c σ m' => ∃ x y : Nat, c = y ∧ m' = m ∧ σ 0 = some (.int .i64 x) ∧ σ 1 = some (.int .i64 y) ∧ Nat.gcd x y = Nat.gcd a b ∧ x ≤ 1000000 ∧ y ≤ 1000000) _ ⟨a, b, rfl, rfl, by simp, by simp, rfl, h⟩ ?_
  rintro y σ m' ⟨x, y', hyy, rfl, s0, s1, hg, hx, hy⟩
  subst hyy
  by_cases h0 : y = 0
  · subst h0
    simp -dsimp -implicitDefEqProofs [s0, s1]
    exact GC.eq (by rw [← hg, Nat.gcd_zero_right])
  · have h0' : ((y : Int) != 0) = true := by simpa using h0
    have h0'' : ¬ (y : Int) = 0 := by omega
    have hlt := Nat.mod_lt x (show 0 < y by omega)
    obtain ⟨r, hr⟩ : ∃ r, r = x % y := ⟨_, rfl⟩
    have hmod : (x : Int).tmod (y : Int) = (r : Int) := by rw [hr]; exact tmodN x y
    rw [← hr] at hlt
    simp -dsimp -implicitDefEqProofs [s0, s1, h0', h0'', h0, hmod]
    exact invT _ hlt ⟨y, r, rfl, rfl, by simp, by simp, by rw [hr]; exact (by rw [← hg, Nat.gcd_comm x y, Nat.gcd_rec y x, Nat.gcd_comm]), hy, by omega⟩
theorem divisor_c (a b : Nat) (h : a ≤ 1000000 ∧ b ≤ 1000000) (m : Mem) : ACalls Tryd.prog 124 [.int .i64 a, .int .i64 b] m (.int .i64 (Nat.gcd a b : Nat)) m := by
  refine acalls_of_vc Tryd.func124 rfl Tryd.fol (by kernel_rfl) ?_
  simp only [Tryd.f124]
  simp -dsimp -implicitDefEqProofs
  refine loopT (fun c σ m' => ∃ x y : Nat, c = y ∧ m' = m ∧ σ 0 = some (.int .i64 x) ∧ σ 1 = some (.int .i64 y) ∧ Nat.gcd x y = Nat.gcd a b ∧ x ≤ 1000000 ∧ y ≤ 1000000) _ ⟨a, b, rfl, rfl, by simp, by simp, rfl, h⟩ ?_
  rintro y σ m' ⟨x, y', hyy, rfl, s0, s1, hg, hx, hy⟩
  subst hyy
  by_cases h0 : y = 0
  · subst h0
    simp -dsimp -implicitDefEqProofs [s0, s1]
    exact GC.eq (by rw [← hg, Nat.gcd_zero_right])
  · have h0' : ((y : Int) != 0) = true := by simpa using h0
    have h0'' : ¬ (y : Int) = 0 := by omega
    have hlt := Nat.mod_lt x (show 0 < y by omega)
    obtain ⟨r, hr⟩ : ∃ r, r = x % y := ⟨_, rfl⟩
    have hmod : (x : Int).tmod (y : Int) = (r : Int) := by rw [hr]; exact tmodN x y
    rw [← hr] at hlt
    simp -dsimp -implicitDefEqProofs [s0, s1, h0', h0'', h0, hmod]
    exact invT _ hlt ⟨y, r, rfl, rfl, by simp, by simp, by rw [hr]; exact (by rw [← hg, Nat.gcd_comm x y, Nat.gcd_rec y x, Nat.gcd_comm]), hy, by omega⟩
/-- After how many rounds a weave begins again. -/
def againN (n st : Nat) : Nat := n / Nat.gcd n st
theorem l06Again_c (s : ByteArray) (st : Nat) (h : s.size ≤ 1000 ∧ 1 ≤ s.size) (h' : st ≤ 1000) (m : Mem) : ACalls Tryd.prog 154 [.string s, .int .i64 st] m (.int .i64 (againN s.size st : Nat)) m := by
  have hg : ¬ Nat.gcd s.size st = 0 := fun e => by have := Nat.eq_zero_of_gcd_eq_zero_left e; omega
  have hle := Nat.div_le_self s.size (Nat.gcd s.size st)
  obtain ⟨q, hq⟩ : ∃ q, q = s.size / Nat.gcd s.size st := ⟨_, rfl⟩
  have hd : ((s.size : Nat) : Int).tdiv ((Nat.gcd s.size st : Nat) : Int) = (q : Int) := by rw [hq]; exact tdivN _ _
  have hw : IntKind.i64.wrap (q : Int) = (q : Int) := wrapI (by omega) (by omega)
  rw [show againN s.size st = q from hq.symm]
  refine acalls_of_vc Tryd.func154 rfl Tryd.fol (by kernel_rfl) ?_
  simp only [Tryd.f154]
  simp -dsimp -implicitDefEqProofs [hd, hg, hw]
  refine callsTo Tryd.cal169 (l00Gcd_c _ _ (by omega) _) ?_
  simp -dsimp -implicitDefEqProofs [hd, hg, hw]
  exact GC.refl _ _ _
theorem beginsAgainI_c (s : ByteArray) (st : Nat) (h : s.size ≤ 1000 ∧ 1 ≤ s.size) (h' : st ≤ 1000) (m : Mem) : ACalls Tryd.prog 86 [.string s, .int .i64 st] m (.int .i64 (againN s.size st : Nat)) m := by
  have hg : ¬ Nat.gcd s.size st = 0 := fun e => by have := Nat.eq_zero_of_gcd_eq_zero_left e; omega
  have hle := Nat.div_le_self s.size (Nat.gcd s.size st)
  obtain ⟨q, hq⟩ : ∃ q, q = s.size / Nat.gcd s.size st := ⟨_, rfl⟩
  have hd : ((s.size : Nat) : Int).tdiv ((Nat.gcd s.size st : Nat) : Int) = (q : Int) := by rw [hq]; exact tdivN _ _
  have hw : IntKind.i64.wrap (q : Int) = (q : Int) := wrapI (by omega) (by omega)
  rw [show againN s.size st = q from hq.symm]
  refine acalls_of_vc Tryd.func86 rfl Tryd.fol (by kernel_rfl) ?_
  simp only [Tryd.f86]
  simp -dsimp -implicitDefEqProofs [hd, hg, hw]
  refine callsTo Tryd.cal124 (divisor_c _ _ (by omega) _) ?_
  simp -dsimp -implicitDefEqProofs [hd, hg, hw]
  exact GC.refl _ _ _
def hasL (l : List UInt8) (c : UInt8) : Bool := l.contains c
theorem bothL_has (l : List UInt8) : bothL l = (hasL l 70 && hasL l 66) := rfl
theorem contains_ix (l : List UInt8) (c : UInt8) : decide (0 ≤ Lib.indexByte l c) = l.contains c := by
  induction l with
  | nil => simp [Lib.indexByte]
  | cons b l ih =>
    have hge := Lib.indexByte_ge l c
    unfold Lib.indexByte
    by_cases h : b = c
    · subst h; simp
    · have h1 : (b == c) = false := by simpa using h
      have h2 : (b :: l).contains c = l.contains c := by simp [Ne.symm h]
      rw [h2, ← ih, h1]
      by_cases h3 : Lib.indexByte l c = -1
      · simp [h3]
      · have h4 : (Lib.indexByte l c == -1) = false := by simpa using h3
        simp [h4]; omega
theorem contains_c (s : ByteArray) (c : UInt8) (m : Mem) : ACalls Tryd.prog 123 [.string s, .string ⟨#[c]⟩] m (.bool (hasL s.data.toList c)) m :=
  acalls_of_lit rfl rfl fun w => (Any.strings_Contains_one { Tryd.laysM144 with } s c w).mono fun e w' ⟨he, hw⟩ => ⟨by rw [he, contains_ix]; rfl, hw⟩
theorem bothKinds_c (s : ByteArray) (m : Mem) : ACalls Tryd.prog 83 [.string s] m (.bool (bothL s.data.toList)) m := by
  refine acalls_of_vc Tryd.func83 rfl Tryd.fol (by kernel_rfl) ?_
  simp only [Tryd.f83]
  simp -dsimp -implicitDefEqProofs
  refine callsTo Tryd.cal123 (contains_c s 70 _) ?_
  simp -dsimp -implicitDefEqProofs
  refine sp2 (fun g => ?_) (fun g => GC.eq (by rw [bothL_has, g]; rfl))
  refine callsTo Tryd.cal123 (contains_c s 66 _) ?_
  simp -dsimp -implicitDefEqProofs
  exact GC.eq (by rw [bothL_has, g]; rfl)
/-- The byte at a place of a row that goes on for ever. -/
theorem cycB {s : ByteArray} (h : 1 ≤ s.size) (k : Nat) : ∃ hk : k % s.size < s.size, s.data[k % s.size]'hk = cyc s.data.toList k := by
  have hk := Nat.mod_lt k h
  refine ⟨hk, ?_⟩
  rw [← byteC hk]
  unfold cyc
  rw [bytes_size]
theorem l06Run_c (s : ByteArray) (h : s.size ≤ 1000 ∧ 1 ≤ s.size) (m : Mem) : ACalls Tryd.prog 112 [.string s] m (.int .i64 (runS s.data.toList : Nat)) m := by
  have hn0 : ¬ s.size = 0 := by omega
  obtain ⟨N, hN⟩ : ∃ N, N = 2 * s.size := ⟨_, rfl⟩
  have hw2 : IntKind.i64.wrap (2 * (s.size : Int)) = (N : Int) := by rw [wrapI (by omega) (by omega)]; omega
  obtain ⟨f, hf⟩ : ∃ f, f = cyc s.data.toList := ⟨_, rfl⟩
  have hres : runS s.data.toList = maxS f N := by rw [hf, hN, runS, bytes_size]
  rw [hres]
  refine acalls_of_vc Tryd.func112 rfl Tryd.fol (by kernel_rfl) ?_
  simp only [Tryd.f112]
  simp -dsimp -implicitDefEqProofs [hw2]
  refine loopN N (fun k σ m' => m' = m ∧ σ 0 = some (.string s) ∧ (∃ a : Nat, a = maxS f k ∧ σ 3 = some (.int .i64 a)) ∧ (∃ r : Nat, r + 1 = runAt f k ∧ σ 4 = some (.int .i64 r)) ∧ σ 5 = some (.int .i64 k)) ⟨rfl, by simp, ⟨0, rfl, by simp⟩, ⟨0, rfl, by simp⟩, by simp⟩ ?_
  rintro k σ m' hk ⟨rfl, s0, ⟨a, ha, s3⟩, ⟨r, hr, s4⟩, s5⟩
  by_cases hlt : k < N
  · have hw : IntKind.i64.wrap ((k : Int) + 1) = (k : Int) + 1 := wrapI (by omega) (by omega)
    have hr2 := runAt_le f k
    have hw4 : IntKind.i64.wrap ((r : Int) + 1) = (r : Int) + 1 := wrapI (by omega) (by omega)
    obtain ⟨b1, e1⟩ := cycB h.2 k
    obtain ⟨b2, e2⟩ := cycB h.2 (k + 1)
    obtain ⟨k1, hk1⟩ : ∃ k1, k1 = k % s.size := ⟨_, rfl⟩
    obtain ⟨k2, hk2⟩ : ∃ k2, k2 = (k + 1) % s.size := ⟨_, rfl⟩
    have t1 : (k : Int).tmod (s.size : Int) = (k1 : Int) := by rw [hk1]; exact tmodN _ _
    have t2 : ((k : Int) + 1).tmod (s.size : Int) = (k2 : Int) := by rw [hk2]; exact tmodN (k + 1) _
    simp only [← hk1] at b1 e1
    simp only [← hk2] at b2 e2
    rw [← hf] at e1 e2
    by_cases hc : f k = f (k + 1)
    · have hcB : ((f k).toNat != (f (k + 1)).toNat) = false := by rw [hc]; simp
      simp -dsimp -implicitDefEqProofs [s0, s3, s4, s5, hlt, hw, hw2, hw4, t1, t2, hn0, b1, b2, e1, e2, hc]
      exact next_ hlt ⟨rfl, by simp [s0], ⟨a, by rw [maxS, if_pos hc]; exact ha, by simp [s3]⟩, ⟨r + 1, by rw [runAt, if_pos hc.symm, hr], by simp⟩, by simp [hw]⟩
    · have hcn : (((f k).toNat : Int) != ((f (k + 1)).toNat : Int)) = true := by
        have : ¬ (f k).toNat = (f (k + 1)).toNat := fun e => hc (UInt8.toNat_inj.1 e)
        simp; omega
      simp -dsimp -implicitDefEqProofs [s0, s3, s4, s5, hlt, hw, hw2, hw4, t1, t2, hn0, b1, b2, e1, e2, hc, hcn]
      refine callsTo Tryd.cal135 (l00Max_c _ _ _) ?_
      simp -dsimp -implicitDefEqProofs [s0, s3, s4, s5, hlt, hw, hw2, hw4, t1, t2, hn0, b1, b2, e1, e2, hc, hcn]
      exact next_ hlt ⟨rfl, by simp [s0], ⟨max a (r + 1), by rw [maxS, if_neg hc, ← ha, hr], by simp; omega⟩, ⟨0, by rw [runAt, if_neg (Ne.symm hc)], by simp⟩, by simp [hw]⟩
  · obtain rfl : k = N := by omega
    simp -dsimp -implicitDefEqProofs [s0, s3, s4, s5, hw2]
    exact GC.eq (by rw [ha])
end Go.Proofs.YtmbijgnmbapchaaDoor
namespace Go.Proofs.YtmbijgnmbapchaaDoor
open Go.Abs Go.RowKit Go.Law

theorem longestRun_c (s : ByteArray) (h : s.size ≤ 1000 ∧ 1 ≤ s.size) (m : Mem) : ACalls Tryd.prog 84 [.string s] m (.int .i64 (runI s.data.toList : Nat)) m := by
  have hn0 : ¬ s.size = 0 := by omega
  obtain ⟨N, hN⟩ : ∃ N, N = 2 * s.size := ⟨_, rfl⟩
  have hw2 : IntKind.i64.wrap (2 * (s.size : Int)) = (N : Int) := by rw [wrapI (by omega) (by omega)]; omega
  obtain ⟨f, hf⟩ : ∃ f, f = cyc s.data.toList := ⟨_, rfl⟩
  have hres : runI s.data.toList = maxI f s.size N := by rw [hf, hN, runI, bytes_size]
  rw [hres]
  have hmax : ∀ k, maxI f s.size k ≤ s.size := fun k => by
    induction k with
    | zero => unfold maxI; omega
    | succ k ih => unfold maxI; omega
  refine acalls_of_vc Tryd.func84 rfl Tryd.fol (by kernel_rfl) ?_
  simp only [Tryd.f84]
  simp -dsimp -implicitDefEqProofs [hw2]
  refine loopN N (fun k σ m' => m' = m ∧ σ 0 = some (.string s) ∧ (∃ a : Nat, a = maxI f s.size k ∧ σ 3 = some (.int .i64 a)) ∧ (∃ r : Nat, r = (if k = 0 then 0 else runAt f (k - 1)) ∧ σ 4 = some (.int .i64 r)) ∧ σ 8 = some (.int .i64 N) ∧ σ 9 = some (.int .i64 k)) ⟨rfl, by simp, ⟨1, rfl, by simp⟩, ⟨0, rfl, by simp⟩, by simp [hw2], by simp⟩ ?_
  rintro k σ m' hk ⟨rfl, s0, ⟨a, ha, s3⟩, ⟨r, hr, s4⟩, s8, s9⟩
  by_cases hlt : k < N
  · have hw : IntKind.i64.wrap ((k : Int) + 1) = (k : Int) + 1 := wrapI (by omega) (by omega)
    have hltI : (k : Int) < (N : Int) := by omega
    have hw1 : IntKind.i64.wrap 1 = 1 := wrapI (by omega) (by omega)
    have fin : ∀ r' : Nat, r' = runAt f k → ∃ a' : Nat, a' = maxI f s.size (k + 1) ∧ (max (a : Int) (min (r' : Int) (s.size : Int))) = (a' : Int) := fun r' h' => ⟨max a (min r' s.size), by rw [maxI, ← ha, h'], by omega⟩
    by_cases hk0 : k = 0
    · subst hk0
      have hr0 : r = 0 := by simpa using hr
      subst hr0
      obtain ⟨a', ha', hmx⟩ := fin 1 rfl
      have h0N : 0 < N := by omega
      simp -dsimp -implicitDefEqProofs [s0, s3, s4, s8, s9, hltI, hw, h0N, hw1]
      exact next_ hlt ⟨rfl, by simp [s0], ⟨a', ha', by simpa using hmx⟩, ⟨1, rfl, by simp⟩, by simp [s8], by simp⟩
    · obtain ⟨j, rfl⟩ : ∃ j, k = j + 1 := ⟨k - 1, by omega⟩
      have hr1 : r = runAt f j := by simpa using hr
      have hrl := runAt_le f j
      have hj0 : (0 : Int) < (j : Int) + 1 := by omega
      have hwj : IntKind.i64.wrap (j : Int) = (j : Int) := wrapI (by omega) (by omega)
      have hwr : IntKind.i64.wrap ((r : Int) + 1) = (r : Int) + 1 := wrapI (by omega) (by omega)
      obtain ⟨b1, e1⟩ := cycB h.2 (j + 1)
      obtain ⟨b2, e2⟩ := cycB h.2 j
      obtain ⟨k1, hk1⟩ : ∃ k1, k1 = (j + 1) % s.size := ⟨_, rfl⟩
      obtain ⟨k2, hk2⟩ : ∃ k2, k2 = j % s.size := ⟨_, rfl⟩
      have t1 : ((j : Int) + 1).tmod (s.size : Int) = (k1 : Int) := by rw [hk1]; exact tmodN (j + 1) _
      have t2 : (j : Int).tmod (s.size : Int) = (k2 : Int) := by rw [hk2]; exact tmodN j _
      simp only [← hk1] at b1 e1
      simp only [← hk2] at b2 e2
      rw [← hf] at e1 e2
      have hw' : IntKind.i64.wrap ((j : Int) + 1 + 1) = (j : Int) + 1 + 1 := wrapI (by omega) (by omega)
      have hlt' : (j : Int) + 1 < (N : Int) := by omega
      by_cases hc : f (j + 1) = f j
      · obtain ⟨a', ha', hmx⟩ := fin (r + 1) (by rw [runAt, if_pos hc, hr1])
        simp only [Int.natCast_add, Int.cast_ofNat_Int] at hmx
        simp -dsimp -implicitDefEqProofs [s0, s3, s4, s8, s9, hlt, hlt', hw', hj0, hwj, hwr, t1, t2, hn0, b1, b2, e1, e2, hc]
        exact next_ hlt ⟨rfl, by simp [s0], ⟨a', ha', by simpa using hmx⟩, ⟨r + 1, by simp [runAt, hc, hr1], by simp⟩, by simp [s8], by simp [hw']⟩
      · have hcn : (((f (j + 1)).toNat : Int) != ((f j).toNat : Int)) = true := by
          have : ¬ (f (j + 1)).toNat = (f j).toNat := fun e => hc (UInt8.toNat_inj.1 e)
          simp; omega
        obtain ⟨a', ha', hmx⟩ := fin 1 (by rw [runAt, if_neg hc])
        simp -dsimp -implicitDefEqProofs [s0, s3, s4, s8, s9, hlt, hlt', hw', hj0, hwj, hwr, t1, t2, hn0, b1, b2, e1, e2, hcn, hw1]
        exact next_ hlt ⟨rfl, by simp [s0], ⟨a', ha', by simpa using hmx⟩, ⟨1, by simp [runAt, hc], by simp⟩, by simp [s8], by simp [hw']⟩
  · obtain rfl : k = N := by omega
    simp -dsimp -implicitDefEqProofs [s0, s3, s4, s8, s9]
    exact GC.eq (by rw [ha])

/-- Bytes of a row that goes on for ever, from a place on, each some places on. -/
def stepL (l : List UInt8) (from_ step many : Nat) : List UInt8 := (List.range many).map fun i => cyc l (from_ + i * step)
def numsB (l : List UInt8) : List Int := l.map fun b => (b.toNat : Int)
theorem strOfNums_bytes (l : List UInt8) : strOfNums (numsB l) = ⟨l.toArray⟩ := by
  unfold strOfNums numsB
  rw [List.map_map]
  congr 2
  conv => rhs; rw [← List.map_id l]
  refine List.map_congr_left fun b _ => ?_
  simp
theorem stepL_length (l : List UInt8) (a b c : Nat) : (stepL l a b c).length = c := by simp [stepL]
theorem stepL_succ (l : List UInt8) (a b c : Nat) : stepL l a b (c + 1) = stepL l a b c ++ [cyc l (a + c * b)] := by simp [stepL, List.range_succ]
def fillB (xs : List Int) (N : Nat) : List Value := xs.map (Value.int .u8) ++ List.replicate (N - xs.length) (.int .u8 0)
theorem fillB_length {xs : List Int} {N : Nat} (h : xs.length ≤ N) : (fillB xs N).length = N := by simp [fillB]; omega
theorem fillB_set {xs : List Int} {N : Nat} (h : xs.length < N) (x : Int) : (fillB xs N).set xs.length (.int .u8 x) = fillB (xs ++ [x]) N := by
  unfold fillB
  rw [List.set_append_right _ _ (by simp), List.length_map, Nat.sub_self]
  obtain ⟨d, hd⟩ : ∃ d, N - xs.length = d + 1 := ⟨N - xs.length - 1, by omega⟩
  rw [hd, List.replicate_succ, List.set_cons_zero, List.map_append, List.append_assoc, show N - (xs ++ [x]).length = d by simp; omega]
  rfl
theorem along_c (s : ByteArray) (a b c : Nat) (h : s.size ≤ 1000 ∧ 1 ≤ s.size) (h' : a ≤ 100000 ∧ b ≤ 1000 ∧ c ≤ 1000) (m : Mem) :
    ACalls Tryd.prog 89 [.string s, .int .i64 a, .int .i64 b, .int .i64 c] m (.string ⟨(stepL s.data.toList a b c).toArray⟩) m := by
  have hn0 : ¬ s.size = 0 := by omega
  refine acalls_of_vc Tryd.func89 rfl Tryd.fol (by kernel_rfl) ?_
  simp only [Tryd.f89]
  simp -dsimp -implicitDefEqProofs
  refine need_intro (by omega) ?_
  refine loopN c (fun k σ m' => m' = m ++ [⟨fillB (numsB (stepL s.data.toList a b k)) c, 5, 1, 1⟩] ∧ σ 0 = some (.string s) ∧ σ 1 = some (.int .i64 a) ∧ σ 2 = some (.int .i64 b) ∧ σ 9 = some (.slice (some ⟨m.length, 0, none⟩) c c) ∧ σ 13 = some (.int .i64 c) ∧ σ 14 = some (.int .i64 k))
    ⟨by simp [fillB, numsB, stepL], by simp, by simp, by simp, by simp, by simp, by simp⟩ ?_
  rintro k σ m' hk ⟨rfl, s0, s1, s2, s9, s13, s14⟩
  have hl : (numsB (stepL s.data.toList a b k)).length = k := by simp [numsB, stepL_length]
  by_cases hlt : k < c
  · have hltI : (k : Int) < (c : Int) := by omega
    have hw : IntKind.i64.wrap ((k : Int) + 1) = (k : Int) + 1 := wrapI (by omega) (by omega)
    obtain ⟨q, hq⟩ : ∃ q, q = k * b := ⟨_, rfl⟩
    have hq1 : q ≤ 1000000 := by rw [hq]; exact Nat.mul_le_mul (show k ≤ 1000 by omega) h'.2.1
    have hwq : IntKind.i64.wrap ((k : Int) * (b : Int)) = (q : Int) := by rw [← Int.natCast_mul, ← hq, wrapI (by omega) (by omega)]
    have hwa : IntKind.i64.wrap ((a : Int) + (q : Int)) = (a : Int) + (q : Int) := wrapI (by omega) (by omega)
    obtain ⟨b1, e1⟩ := cycB h.2 (a + q)
    obtain ⟨k1, hk1⟩ : ∃ k1, k1 = (a + q) % s.size := ⟨_, rfl⟩
    have t1 : ((a : Int) + (q : Int)).tmod (s.size : Int) = (k1 : Int) := by rw [hk1]; exact tmodN (a + q) _
    simp only [← hk1] at b1 e1
    obtain ⟨x, hx⟩ : ∃ x, x = cyc s.data.toList (a + q) := ⟨_, rfl⟩
    rw [← hx] at e1
    have hset := fillB_set (xs := numsB (stepL s.data.toList a b k)) (N := c) (by omega) (x.toNat : Int)
    rw [hl] at hset
    have hlen := fillB_length (xs := numsB (stepL s.data.toList a b k)) (N := c) (by omega)
    have hnext : numsB (stepL s.data.toList a b k) ++ [(x.toNat : Int)] = numsB (stepL s.data.toList a b (k + 1)) := by
      rw [stepL_succ, ← hq, ← hx]; simp [numsB]
    rw [hnext] at hset
    simp -dsimp -implicitDefEqProofs [s0, s1, s2, s9, s13, s14, hltI, hlt, hw, hwq, hwa, t1, hn0, b1, e1, hset, hlen]
    refine need_intro (by omega) ?_
    exact next_ hlt ⟨rfl, by simp [s0], by simp [s1], by simp [s2], by simp [s9], by simp [s13], by simp [hw]⟩
  · obtain rfl : k = c := by omega
    have hlen := fillB_length (xs := numsB (stepL s.data.toList a b k)) (N := k) (by omega)
    simp -dsimp -implicitDefEqProofs [s0, s1, s2, s9, s13, s14, hlen]
    refine strT (numsB (stepL s.data.toList a b k)) ?_ ?_
    · rw [List.take_of_length_le (by omega)]
      simp [fillB, hl]
    · simp -dsimp -implicitDefEqProofs [s0, s1, s2, s9, s13, s14, hlen]
      exact GC.dropEq (by rw [strOfNums_bytes]) rfl
end Go.Proofs.YtmbijgnmbapchaaDoor
namespace Go.Proofs.YtmbijgnmbapchaaDoor
open Go.Abs Go.RowKit Go.Law

theorem l06At_c (s : ByteArray) (st r k : Nat) (h : s.size ≤ 1000 ∧ 1 ≤ s.size) (h' : st ≤ 1000 ∧ r ≤ 1000 ∧ k ≤ 1000) (m : Mem) :
    ACalls Tryd.prog 155 [.string s, .int .i64 st, .int .i64 r, .int .i64 k] m (.int .u8 (cyc s.data.toList (k + r * st)).toNat) m := by
  have hn0 : ¬ s.size = 0 := by omega
  obtain ⟨q, hq⟩ : ∃ q, q = r * st := ⟨_, rfl⟩
  have hq1 : q ≤ 1000000 := by rw [hq]; exact Nat.mul_le_mul h'.2.1 h'.1
  have hwq : IntKind.i64.wrap ((r : Int) * (st : Int)) = (q : Int) := by rw [← Int.natCast_mul, ← hq, wrapI (by omega) (by omega)]
  have hwa : IntKind.i64.wrap ((q : Int) + (k : Int)) = (q : Int) + (k : Int) := wrapI (by omega) (by omega)
  obtain ⟨b1, e1⟩ := cycB h.2 (k + q)
  obtain ⟨k1, hk1⟩ : ∃ k1, k1 = (k + q) % s.size := ⟨_, rfl⟩
  have t1 : ((q : Int) + (k : Int)).tmod (s.size : Int) = (k1 : Int) := by rw [hk1, Nat.add_comm]; exact tmodN (q + k) _
  simp only [← hk1] at b1 e1
  rw [← hq]
  refine acalls_of_vc Tryd.func155 rfl Tryd.fol (by kernel_rfl) ?_
  simp only [Tryd.f155]
  simp -dsimp -implicitDefEqProofs [hwq, hwa, t1, hn0, b1, e1]
  exact GC.refl _ _ _
theorem againN_le {n st : Nat} (h : n ≤ 1000) : againN n st ≤ 1000 := Nat.le_trans (Nat.div_le_self _ _) h
theorem againN_pos {n st : Nat} (h : 1 ≤ n) : 1 ≤ againN n st := Nat.div_pos (Nat.gcd_le_left _ h) (Nat.gcd_pos_of_pos_left _ h)
theorem l06Stack_c (s : ByteArray) (st k : Nat) (h : s.size ≤ 1000 ∧ 1 ≤ s.size) (h' : st ≤ 1000 ∧ k ≤ 1000) (m : Mem) :
    ACalls Tryd.prog 136 [.string s, .int .i64 st, .int .i64 k] m (.string ⟨(stepL s.data.toList k st (againN s.size st)).toArray⟩) m := by
  obtain ⟨c, hc⟩ : ∃ c, c = againN s.size st := ⟨_, rfl⟩
  have hc1 : c ≤ 1000 := by rw [hc]; exact againN_le h.1
  have hag := fun m => l06Again_c s st h h'.1 m
  simp only [← hc] at hag
  rw [← hc]
  refine acalls_of_vc Tryd.func136 rfl Tryd.fol (by kernel_rfl) ?_
  simp only [Tryd.f136]
  simp -dsimp -implicitDefEqProofs
  refine loopN c (fun r σ m' => (m <+: m' ∧ ∃ id kd, m.length ≤ id ∧ (kd = 1 ∨ kd = 2) ∧ m'[id]? = some ⟨(numsB (stepL s.data.toList k st r)).map (Value.int .u8), 5, 1, kd⟩ ∧ σ 7 = some (.slice (some ⟨id, 0, none⟩) r r)) ∧ σ 0 = some (.string s) ∧ σ 1 = some (.int .i64 st) ∧ σ 2 = some (.int .i64 k) ∧ σ 8 = some (.int .i64 r))
    ⟨⟨pre_app (pre_refl m) _, m.length, 1, Nat.le_refl _, .inl rfl, by simp [numsB, stepL], by simp⟩, by simp, by simp, by simp, by simp⟩ ?_
  rintro r σ m' hr ⟨⟨hp, id, kd, hid, hkd, ho, s7⟩, s0, s1, s2, s8⟩
  have hl : (numsB (stepL s.data.toList k st r)).length = r := by simp [numsB, stepL_length]
  by_cases hlt : r < c
  · have hltI : (r : Int) < (c : Int) := by omega
    have hw : IntKind.i64.wrap ((r : Int) + 1) = (r : Int) + 1 := wrapI (by omega) (by omega)
    obtain ⟨x, hx⟩ : ∃ x, x = cyc s.data.toList (k + r * st) := ⟨_, rfl⟩
    have hat := fun m => l06At_c s st r k h ⟨h'.1, by omega, h'.2⟩ m
    simp only [← hx] at hat
    simp -dsimp -implicitDefEqProofs [s0, s1, s2, s7, s8, hlt, hltI, hw]
    refine callsTo Tryd.cal154 (hag _) ?_
    simp -dsimp -implicitDefEqProofs [s0, s1, s2, s7, s8, hlt, hltI, hw]
    refine callsTo Tryd.cal155 (hat _) ?_
    simp -dsimp -implicitDefEqProofs [s0, s1, s2, s7, s8, hlt, hltI, hw]
    refine appTo_grow (n := r) (c := 1) (e := 5) (sz := 1) (by_ := 1) (z := .int .u8 0) (by kernel_rfl) (by kernel_rfl) ⟨by decide, rfl⟩ (get_old ho) (by simp; omega) ⟨rfl, rfl⟩ (by simp [hl]) (by omega) (Src.obj (o := ⟨[.int .u8 x.toNat], 5, 1, 1⟩) (by simp) (by simp) rfl rfl) ?_
    intro m2 id2 gr
    simp -dsimp -implicitDefEqProofs [s0, s1, s2, s7, s8, hlt, hltI, hw]
    have hnext : (numsB (stepL s.data.toList k st (r + 1))).map (Value.int .u8) = (numsB (stepL s.data.toList k st r)).map (Value.int .u8) ++ [.int .u8 x.toNat] := by
      rw [stepL_succ, ← hx]; simp [numsB]
    have hml := hp.length_le
    exact next_ hlt ⟨⟨gr.pre _ (pre_app hp _) hid, id2, 2, by have := gr.at_; simp at this; omega, .inr rfl, by rw [hnext]; simpa using gr.new, by simp⟩, by simp [s0], by simp [s1], by simp [s2], by simp [hw]⟩
  · obtain rfl : r = c := by omega
    have hkd2 : kd ≤ 2 := by omega
    simp -dsimp -implicitDefEqProofs [s0, s1, s2, s7, s8, withO_of ho, hkd2, hl]
    refine callsTo Tryd.cal154 (hag _) ?_
    simp -dsimp -implicitDefEqProofs [s0, s1, s2, s7, s8, withO_of ho, hkd2, hl]
    refine strT (numsB (stepL s.data.toList k st r)) (by rw [List.take_of_length_le (by simp; omega)]) ?_
    simp -dsimp -implicitDefEqProofs [s0, s1, s2, s7, s8, withO_of ho, hkd2, hl]
    exact GC.dropP hp (by rw [strOfNums_bytes]) rfl
/-- The loose stakes among the first k. -/
def looseTo (l : List UInt8) (st k : Nat) : List Int := ((List.range k).filter fun (i : Nat) => !bothL (stepL l i st (againN l.length st))).map fun (i : Nat) => (i : Int)
theorem looseTo_succ (l : List UInt8) (st k : Nat) : looseTo l st (k + 1) = looseTo l st k ++ (if bothL (stepL l k st (againN l.length st)) then [] else [(k : Int)]) := by
  unfold looseTo
  rw [List.range_succ, List.filter_append, List.map_append]
  congr 1
  cases h : bothL (stepL l k st (againN l.length st)) <;> simp [h]
theorem looseTo_length (l : List UInt8) (st k : Nat) : (looseTo l st k).length ≤ k := by
  unfold looseTo
  rw [List.length_map]
  exact Nat.le_trans (List.length_filter_le _ _) (by simp)
theorem stack_run {s : ByteArray} (hs : strokeB s = true) (st k : Nat) : (runS (stepL s.data.toList k st (againN s.size st)) = 0) = (bothL (stepL s.data.toList k st (againN s.size st)) = false) := by
  simp only [strokeB, wordB, Bool.and_eq_true, decide_eq_true_eq] at hs
  obtain ⟨⟨h1, h2⟩, h3⟩ := hs
  have hpos : 0 < s.data.toList.length := by rw [bytes_size]; exact h1
  have hlen : 0 < (stepL s.data.toList k st (againN s.size st)).length := by rw [stepL_length]; exact againN_pos h1
  refine propext ⟨fun h => ?_, fun h => run_same hlen ?_ h⟩
  · cases hb : bothL (stepL s.data.toList k st (againN s.size st)) with
    | false => rfl
    | true => have := (run_both hb).2; omega
  · rw [List.all_eq_true]
    intro x hx
    obtain ⟨i, _, rfl⟩ := List.mem_map.1 hx
    exact List.all_eq_true.1 h3 _ (cyc_mem hpos _)
theorem stroke_size {s : ByteArray} (hs : strokeB s = true) : s.size ≤ 12 ∧ 1 ≤ s.size := by
  simp only [strokeB, wordB, Bool.and_eq_true, decide_eq_true_eq] at hs
  exact ⟨hs.1.2, hs.1.1⟩
end Go.Proofs.YtmbijgnmbapchaaDoor
namespace Go.Proofs.YtmbijgnmbapchaaDoor
open Go.Abs Go.RowKit Go.Law

theorem l06Loose_c (s : ByteArray) (st : Nat) (hs : strokeB s = true) (h' : st ≤ 1000) (m : Mem) :
    ACalls Tryd.prog 113 [.string s, .int .i64 st] m (.slice (some ⟨m.length, 0, none⟩) (looseTo s.data.toList st st).length (looseTo s.data.toList st st).length) (m ++ [⟨(looseTo s.data.toList st st).map (Value.int .i64), 2, 1, 2⟩]) := by
  have hz := stroke_size hs
  have hsz : s.size ≤ 1000 ∧ 1 ≤ s.size := ⟨by omega, hz.2⟩
  obtain ⟨L, hL⟩ : ∃ L, L = looseTo s.data.toList st := ⟨_, rfl⟩
  have hLl : ∀ k, (L k).length ≤ k := fun k => by rw [hL]; exact looseTo_length _ _ _
  have hL1 : ∀ k, bothL (stepL s.data.toList k st (againN s.size st)) = true → L (k + 1) = L k := fun k h => by rw [hL, looseTo_succ, bytes_size, if_pos h, List.append_nil]
  have hL2 : ∀ k, bothL (stepL s.data.toList k st (againN s.size st)) = false → L (k + 1) = L k ++ [(k : Int)] := fun k h => by rw [hL, looseTo_succ, bytes_size, if_neg (by rw [h]; decide)]
  have hL0 : L 0 = [] := by rw [hL]; rfl
  simp only [← hL]
  refine acalls_of_vc Tryd.func113 rfl Tryd.fol (by kernel_rfl) ?_
  simp only [Tryd.f113]
  simp -dsimp -implicitDefEqProofs
  refine loopN st (fun k σ m' => (m <+: m' ∧ ∃ id kd, m.length ≤ id ∧ (kd = 1 ∨ kd = 2) ∧ m'[id]? = some ⟨(L k).map (Value.int .i64), 2, 1, kd⟩ ∧ σ 5 = some (.slice (some ⟨id, 0, none⟩) (L k).length (L k).length)) ∧ σ 0 = some (.string s) ∧ σ 1 = some (.int .i64 st) ∧ σ 6 = some (.int .i64 k))
    ⟨⟨pre_app (pre_refl m) _, m.length, 1, Nat.le_refl _, .inl rfl, by simp [hL0], by simp [hL0]⟩, by simp, by simp, by simp⟩ ?_
  rintro k σ m' hk ⟨⟨hp, id, kd, hid, hkd, ho, s5⟩, s0, s1, s6⟩
  have hlk := hLl k
  have hml := hp.length_le
  by_cases hlt : k < st
  · have hltI : (k : Int) < (st : Int) := by omega
    have hw : IntKind.i64.wrap ((k : Int) + 1) = (k : Int) + 1 := wrapI (by omega) (by omega)
    obtain ⟨x, hx⟩ : ∃ x : ByteArray, x = ⟨(stepL s.data.toList k st (againN s.size st)).toArray⟩ := ⟨_, rfl⟩
    have hxl : x.data.toList = stepL s.data.toList k st (againN s.size st) := by rw [hx]
    have hxs : x.size = againN s.size st := by rw [← bytes_size, hxl, stepL_length]
    have hx1 : x.size ≤ 1000 ∧ 1 ≤ x.size := by rw [hxs]; exact ⟨againN_le hsz.1, againN_pos hsz.2⟩
    have e1 := fun m => l06Stack_c s st k hsz ⟨h', by omega⟩ m
    simp only [← hx] at e1
    have e2 := fun m => l06Run_c x hx1 m
    rw [hxl] at e2
    cases hb : bothL (stepL s.data.toList k st (againN s.size st))
    · have hc : (((runS (stepL s.data.toList k st (againN s.size st)) : Nat) : Int) == 0) = true := by rw [(stack_run hs st k).symm.mp hb]; rfl
      simp -dsimp -implicitDefEqProofs [s0, s1, s5, s6, hlt, hltI, hw, hc]
      refine callsTo Tryd.cal136 (e1 _) ?_
      simp -dsimp -implicitDefEqProofs [s0, s1, s5, s6, hlt, hltI, hw, hc]
      refine callsTo Tryd.cal112 (e2 _) ?_
      simp -dsimp -implicitDefEqProofs [s0, s1, s5, s6, hlt, hltI, hw, hc]
      refine appTo_grow (n := (L k).length) (c := 1) (e := 2) (sz := 1) (by_ := 8) (z := .int .i64 0) (by kernel_rfl) (by kernel_rfl) ⟨by decide, rfl⟩ (get_old ho) (by simp; omega) ⟨rfl, rfl⟩ (by simp) (by omega) (Src.obj (o := ⟨[.int .i64 k], 2, 1, 1⟩) (by simp) (by simp) rfl rfl) ?_
      intro m2 id2 gr
      simp -dsimp -implicitDefEqProofs [s0, s1, s5, s6, hlt, hltI, hw, hc]
      have hat := gr.at_
      simp at hat
      exact next_ hlt ⟨⟨gr.pre _ (pre_app hp _) hid, id2, 2, by omega, .inr rfl, by rw [hL2 k hb]; simpa using gr.new, by rw [hL2 k hb]; simp⟩, by simp [s0], by simp [s1], by simp [s6, hw]⟩
    · have hc : (((runS (stepL s.data.toList k st (againN s.size st)) : Nat) : Int) == 0) = false := by
        have := (run_both hb).2
        simp; omega
      simp -dsimp -implicitDefEqProofs [s0, s1, s5, s6, hlt, hltI, hw, hc]
      refine callsTo Tryd.cal136 (e1 _) ?_
      simp -dsimp -implicitDefEqProofs [s0, s1, s5, s6, hlt, hltI, hw, hc]
      refine callsTo Tryd.cal112 (e2 _) ?_
      simp -dsimp -implicitDefEqProofs [s0, s1, s5, s6, hlt, hltI, hw, hc]
      exact next_ hlt ⟨⟨hp, id, kd, hid, hkd, by rw [hL1 k hb]; exact ho, by rw [hL1 k hb]; simp [s5]⟩, by simp [s0], by simp [s1], by simp [s6, hw]⟩
  · obtain rfl : k = st := by omega
    simp -dsimp -implicitDefEqProofs [s0, s1, s5, s6]
    exact GC.keepSP (m' := m) (o2 := ⟨(L k).map (Value.int .i64), 2, 1, 2⟩) (Fits.refl m) hp ho hid rfl rfl (by simp; omega) rfl (by simp [litB])
theorem looseStakes_c (s : ByteArray) (st : Nat) (hs : strokeB s = true) (h' : st ≤ 1000) (m : Mem) :
    ACalls Tryd.prog 85 [.string s, .int .i64 st] m (.slice (some ⟨m.length, 0, none⟩) (looseTo s.data.toList st st).length (looseTo s.data.toList st st).length) (m ++ [⟨(looseTo s.data.toList st st).map (Value.int .i64), 2, 1, 2⟩]) := by
  have hz := stroke_size hs
  have hsz : s.size ≤ 1000 ∧ 1 ≤ s.size := ⟨by omega, hz.2⟩
  obtain ⟨L, hL⟩ : ∃ L, L = looseTo s.data.toList st := ⟨_, rfl⟩
  have hLl : ∀ k, (L k).length ≤ k := fun k => by rw [hL]; exact looseTo_length _ _ _
  have hL1 : ∀ k, bothL (stepL s.data.toList k st (againN s.size st)) = true → L (k + 1) = L k := fun k h => by rw [hL, looseTo_succ, bytes_size, if_pos h, List.append_nil]
  have hL2 : ∀ k, bothL (stepL s.data.toList k st (againN s.size st)) = false → L (k + 1) = L k ++ [(k : Int)] := fun k h => by rw [hL, looseTo_succ, bytes_size, if_neg (by rw [h]; decide)]
  have hL0 : L 0 = [] := by rw [hL]; rfl
  simp only [← hL]
  refine acalls_of_vc Tryd.func85 rfl Tryd.fol (by kernel_rfl) ?_
  simp only [Tryd.f85]
  simp -dsimp -implicitDefEqProofs
  refine loopN st (fun k σ m' => (m <+: m' ∧ ∃ id kd, m.length ≤ id ∧ (kd = 1 ∨ kd = 2) ∧ m'[id]? = some ⟨(L k).map (Value.int .i64), 2, 1, kd⟩ ∧ σ 5 = some (.slice (some ⟨id, 0, none⟩) (L k).length (L k).length)) ∧ σ 0 = some (.string s) ∧ σ 1 = some (.int .i64 st) ∧ σ 8 = some (.int .i64 st) ∧ σ 9 = some (.int .i64 k))
    ⟨⟨pre_app (pre_refl m) _, m.length, 1, Nat.le_refl _, .inl rfl, by simp [hL0], by simp [hL0]⟩, by simp, by simp, by simp, by simp⟩ ?_
  rintro k σ m' hk ⟨⟨hp, id, kd, hid, hkd, ho, s5⟩, s0, s1, s8, s9⟩
  have hlk := hLl k
  have hml := hp.length_le
  by_cases hlt : k < st
  · have hltI : (k : Int) < (st : Int) := by omega
    have hw : IntKind.i64.wrap ((k : Int) + 1) = (k : Int) + 1 := wrapI (by omega) (by omega)
    obtain ⟨x, hx⟩ : ∃ x : ByteArray, x = ⟨(stepL s.data.toList k st (againN s.size st)).toArray⟩ := ⟨_, rfl⟩
    have hxl : x.data.toList = stepL s.data.toList k st (againN s.size st) := by rw [hx]
    have hxs : x.size = againN s.size st := by rw [← bytes_size, hxl, stepL_length]
    have hx1 : x.size ≤ 1000 ∧ 1 ≤ x.size := by rw [hxs]; exact ⟨againN_le hsz.1, againN_pos hsz.2⟩
    have e0 := fun m => beginsAgainI_c s st hsz h' m
    have e1 := fun m => along_c s k st (againN s.size st) hsz ⟨by omega, h', againN_le hsz.1⟩ m
    simp only [← hx] at e1
    have e2 := fun m => bothKinds_c x m
    rw [hxl] at e2
    cases hb : bothL (stepL s.data.toList k st (againN s.size st))
    · have hc := hb
      simp -dsimp -implicitDefEqProofs [s0, s1, s5, s8, s9, hlt, hltI, hw, hc]
      refine callsTo Tryd.cal86 (e0 _) ?_
      simp -dsimp -implicitDefEqProofs [s0, s1, s5, s8, s9, hlt, hltI, hw, hc]
      refine callsTo Tryd.cal89 (e1 _) ?_
      simp -dsimp -implicitDefEqProofs [s0, s1, s5, s8, s9, hlt, hltI, hw, hc]
      refine callsTo Tryd.cal83 (e2 _) ?_
      simp -dsimp -implicitDefEqProofs [s0, s1, s5, s8, s9, hlt, hltI, hw, hc]
      refine appTo_grow (n := (L k).length) (c := 1) (e := 2) (sz := 1) (by_ := 8) (z := .int .i64 0) (by kernel_rfl) (by kernel_rfl) ⟨by decide, rfl⟩ (get_old ho) (by simp; omega) ⟨rfl, rfl⟩ (by simp) (by omega) (Src.obj (o := ⟨[.int .i64 k], 2, 1, 1⟩) (by simp) (by simp) rfl rfl) ?_
      intro m2 id2 gr
      simp -dsimp -implicitDefEqProofs [s0, s1, s5, s8, s9, hlt, hltI, hw, hc]
      have hat := gr.at_
      simp at hat
      exact next_ hlt ⟨⟨gr.pre _ (pre_app hp _) hid, id2, 2, by omega, .inr rfl, by rw [hL2 k hb]; simpa using gr.new, by rw [hL2 k hb]; simp⟩, by simp [s0], by simp [s1], by simp [s8], by simp [hw]⟩
    · have hc := hb
      simp -dsimp -implicitDefEqProofs [s0, s1, s5, s8, s9, hlt, hltI, hw, hc]
      refine callsTo Tryd.cal86 (e0 _) ?_
      simp -dsimp -implicitDefEqProofs [s0, s1, s5, s8, s9, hlt, hltI, hw, hc]
      refine callsTo Tryd.cal89 (e1 _) ?_
      simp -dsimp -implicitDefEqProofs [s0, s1, s5, s8, s9, hlt, hltI, hw, hc]
      refine callsTo Tryd.cal83 (e2 _) ?_
      simp -dsimp -implicitDefEqProofs [s0, s1, s5, s8, s9, hlt, hltI, hw, hc]
      exact next_ hlt ⟨⟨hp, id, kd, hid, hkd, by rw [hL1 k hb]; exact ho, by rw [hL1 k hb]; simp [s5]⟩, by simp [s0], by simp [s1], by simp [s8], by simp [hw]⟩
  · obtain rfl : k = st := by omega
    simp -dsimp -implicitDefEqProofs [s0, s1, s5, s8, s9]
    exact GC.keepSP (m' := m) (o2 := ⟨(L k).map (Value.int .i64), 2, 1, 2⟩) (Fits.refl m) hp ho hid rfl rfl (by simp; omega) rfl (by simp [litB])
theorem lenZ (l : List Int) : ((l.length : Int) == 0) = decide (l.length = 0) := by
  by_cases h : l.length = 0
  · simp [h]
  · rw [decide_eq_false h]; simpa using h
/-- Whether a weave is sound. -/
def soundB (s : ByteArray) (st : Nat) (fl : Int) : Bool := bothL s.data.toList && decide ((runS s.data.toList : Int) ≤ fl) && decide ((looseTo s.data.toList st st).length = 0)
theorem l06Sound_c (s : ByteArray) (st : Nat) (fl : Int) (hs : strokeB s = true) (h' : st ≤ 1000) (m : Mem) : ACalls Tryd.prog 63 [.string s, .int .i64 st, .int .i64 fl] m (.bool (soundB s st fl)) m := by
  have hz := stroke_size hs
  have hpos : 0 < s.data.toList.length := by rw [bytes_size]; exact hz.2
  have hall : s.data.toList.all (([70, 66] : List UInt8).contains ·) = true := by
    simp only [strokeB, wordB, Bool.and_eq_true, decide_eq_true_eq] at hs
    exact hs.2
  obtain ⟨r, hr⟩ : ∃ r, r = runS s.data.toList := ⟨_, rfl⟩
  have e1 := fun m => l06Run_c s ⟨by omega, hz.2⟩ m
  simp only [← hr] at e1
  refine acalls_of_vc Tryd.func63 rfl Tryd.fol (by kernel_rfl) ?_
  simp only [Tryd.f63]
  simp -dsimp -implicitDefEqProofs
  refine callsTo Tryd.cal112 (e1 _) ?_
  simp -dsimp -implicitDefEqProofs
  cases hb : bothL s.data.toList
  · have h0 : r = 0 := hr.trans (run_same hpos hall hb)
    subst h0
    simp -dsimp -implicitDefEqProofs
    exact GC.eq (by simp [soundB, hb])
  · have h0 : 0 < r := by have := (run_both hb).2; omega
    by_cases hf : (r : Int) ≤ fl
    · simp -dsimp -implicitDefEqProofs [h0, hf]
      refine callsTo Tryd.cal113 (l06Loose_c s st hs h' _) ?_
      simp -dsimp -implicitDefEqProofs [h0, hf]
      exact GC.dropEq (by rw [soundB, hb, ← hr, decide_eq_true hf, ← lenZ]; rfl) rfl
    · simp -dsimp -implicitDefEqProofs [h0, hf]
      exact GC.eq (by simp [soundB, hb, ← hr, hf])
theorem isSoundI_c (s : ByteArray) (st : Nat) (fl : Int) (hs : strokeB s = true) (h' : st ≤ 1000) (m : Mem) : ACalls Tryd.prog 65 [.string s, .int .i64 st, .int .i64 fl] m (.bool (soundB s st fl)) m := by
  have hz := stroke_size hs
  refine acalls_of_vc Tryd.func65 rfl Tryd.fol (by kernel_rfl) ?_
  simp only [Tryd.f65]
  simp -dsimp -implicitDefEqProofs
  refine callsTo Tryd.cal83 (bothKinds_c s _) ?_
  simp -dsimp -implicitDefEqProofs
  cases hb : bothL s.data.toList
  · simp -dsimp -implicitDefEqProofs
    exact GC.eq (by simp [soundB, hb])
  · obtain ⟨r, hr⟩ : ∃ r, r = runS s.data.toList := ⟨_, rfl⟩
    have e1 := fun m => longestRun_c s ⟨by omega, hz.2⟩ m
    rw [(run_both hb).1] at e1
    simp only [← hr] at e1
    simp -dsimp -implicitDefEqProofs
    refine callsTo Tryd.cal84 (e1 _) ?_
    simp -dsimp -implicitDefEqProofs
    by_cases hf : (r : Int) ≤ fl
    · simp -dsimp -implicitDefEqProofs [hf]
      refine callsTo Tryd.cal85 (looseStakes_c s st hs h' _) ?_
      simp -dsimp -implicitDefEqProofs [hf]
      exact GC.dropEq (by rw [soundB, hb, ← hr, decide_eq_true hf, ← lenZ]; rfl) rfl
    · simp -dsimp -implicitDefEqProofs [hf]
      exact GC.eq (by simp [soundB, hb, ← hr, hf])
end Go.Proofs.YtmbijgnmbapchaaDoor
namespace Go.Proofs.YtmbijgnmbapchaaDoor
open Go.Abs Go.RowKit Go.Law

/-- The code of a stroke and stakes. -/
def strokeC (s : ByteArray) (st : Int) : Int := if strokeB s then (if inB st 3 60 then 0 else 2) else 1
theorem strokeCode_c (s : ByteArray) (st : Int) (hs : s.size ≤ maxLen) (m : Mem) : ACalls Tryd.prog 80 [.string s, .int .i64 st] m (.int .i64 (strokeC s st)) m := by
  refine acalls_of_vc Tryd.func80 rfl Tryd.fol (by kernel_rfl) ?_
  simp only [Tryd.f80]
  simp -dsimp -implicitDefEqProofs
  refine callsTo Tryd.cal82 (validStroke_c s hs _) ?_
  simp -dsimp -implicitDefEqProofs
  cases h1 : strokeB s
  · simp -dsimp -implicitDefEqProofs
    exact GC.eq (by simp [strokeC, h1])
  simp -dsimp -implicitDefEqProofs
  refine callsTo Tryd.cal87 (bkStakesI_c st _) ?_
  simp -dsimp -implicitDefEqProofs
  cases h2 : inB st 3 60
  · simp -dsimp -implicitDefEqProofs
    exact GC.eq (by simp [strokeC, h1, h2])
  · simp -dsimp -implicitDefEqProofs
    exact GC.eq (by simp [strokeC, h1, h2])
theorem isFloatB_c (n : Int) (m : Mem) : ACalls Tryd.prog 64 [.int .i64 n] m (.bool (inB n 1 12)) m := by
  refine acalls_of_vc Tryd.func64 rfl Tryd.fol (by kernel_rfl) ?_
  simp only [Tryd.f64]
  simp -dsimp -implicitDefEqProofs
  refine callsTo Tryd.cal88 (within_c _ _ _ _) ?_
  simp -dsimp -implicitDefEqProofs
  exact GC.refl _ _ _
theorem implIsSound_c (s : ByteArray) (st : Nat) (fl : Int) (hs : strokeB s = true) (h1 : 3 ≤ st ∧ st ≤ 60) (h2 : inB fl 1 12 = true) (m : Mem) :
    ACalls Tryd.prog 37 [.string s, .int .i64 st, .int .i64 fl] m (.tuple #[.bool (soundB s st fl), .int .i64 0]) m := by
  have hz := stroke_size hs
  have hc : strokeC s st = 0 := by
    have : inB (st : Int) 3 60 = true := by simp [inB]; omega
    simp [strokeC, hs, this]
  have e1 := fun m => strokeCode_c s st (by unfold maxLen; omega) m
  simp only [hc] at e1
  refine acalls_of_vc Tryd.func37 rfl Tryd.fol (by kernel_rfl) ?_
  simp only [Tryd.f37]
  simp -dsimp -implicitDefEqProofs [h2]
  refine callsTo Tryd.cal80 (e1 _) ?_
  simp -dsimp -implicitDefEqProofs [h2]
  refine callsTo Tryd.cal64 (isFloatB_c _ _) ?_
  simp -dsimp -implicitDefEqProofs [h2]
  refine callsTo Tryd.cal65 (isSoundI_c s st fl hs (by omega) _) ?_
  simp -dsimp -implicitDefEqProofs [h2]
  exact GC.refl _ _ _
theorem l06Code_c (s : ByteArray) (st : Int) (hs : s.size ≤ maxLen) (m : Mem) : ACalls Tryd.prog 125 [.string s, .int .i64 st] m (.int .i64 (strokeC s st)) m := by
  refine acalls_of_vc Tryd.func125 rfl Tryd.fol (by kernel_rfl) ?_
  simp only [Tryd.f125]
  simp -dsimp -implicitDefEqProofs
  refine callsTo Tryd.cal129 (l06Ok_c s hs _) ?_
  simp -dsimp -implicitDefEqProofs
  cases h1 : strokeB s
  · simp -dsimp -implicitDefEqProofs
    exact GC.eq (by simp [strokeC, h1])
  simp -dsimp -implicitDefEqProofs
  refine callsTo Tryd.cal128 (bkStakesS_c st _) ?_
  simp -dsimp -implicitDefEqProofs
  cases h2 : inB st 3 60
  · simp -dsimp -implicitDefEqProofs
    exact GC.eq (by simp [strokeC, h1, h2])
  · simp -dsimp -implicitDefEqProofs
    exact GC.eq (by simp [strokeC, h1, h2])
theorem specIsSound_c (s : ByteArray) (st : Nat) (fl : Int) (hs : strokeB s = true) (h1 : 3 ≤ st ∧ st ≤ 60) (h2 : inB fl 1 12 = true) (m : Mem) :
    ACalls Tryd.prog 47 [.string s, .int .i64 st, .int .i64 fl] m (.tuple #[.bool (soundB s st fl), .int .i64 0]) m := by
  have hz := stroke_size hs
  have hc : strokeC s st = 0 := by
    have : inB (st : Int) 3 60 = true := by simp [inB]; omega
    simp [strokeC, hs, this]
  have e1 := fun m => l06Code_c s st (by unfold maxLen; omega) m
  simp only [hc] at e1
  have e2 : ∀ m : Mem, ACalls Tryd.prog 90 [.string s, .int .i64 st, .int .i64 fl] m (.int .i64 0) m := fun m => by
    refine acalls_of_vc Tryd.func90 rfl Tryd.fol (by kernel_rfl) ?_
    simp only [Tryd.f90]
    simp -dsimp -implicitDefEqProofs [h2]
    refine callsTo Tryd.cal125 (e1 _) ?_
    simp -dsimp -implicitDefEqProofs [h2]
    refine callsTo Tryd.cal62 (l00In_c _ _ _ _) ?_
    simp -dsimp -implicitDefEqProofs [h2]
    exact GC.refl _ _ _
  refine acalls_of_vc Tryd.func47 rfl Tryd.fol (by kernel_rfl) ?_
  simp only [Tryd.f47]
  simp -dsimp -implicitDefEqProofs [h2]
  refine callsTo Tryd.cal90 (e2 _) ?_
  simp -dsimp -implicitDefEqProofs [h2]
  refine callsTo Tryd.cal63 (l06Sound_c s st fl hs (by omega) _) ?_
  simp -dsimp -implicitDefEqProofs [h2]
  exact GC.refl _ _ _
def floatC (s : ByteArray) : Int := if bothL s.data.toList then 0 else 6
def floatN (s : ByteArray) : Nat := if bothL s.data.toList then runS s.data.toList else 0
theorem longestFloat_c (s : ByteArray) (hs : strokeB s = true) (m : Mem) : ACalls Tryd.prog 42 [.string s] m (.tuple #[.int .i64 (floatN s : Nat), .int .i64 (floatC s)]) m := by
  have hz := stroke_size hs
  refine acalls_of_vc Tryd.func42 rfl Tryd.fol (by kernel_rfl) ?_
  simp only [Tryd.f42]
  simp -dsimp -implicitDefEqProofs [hs]
  refine callsTo Tryd.cal82 (validStroke_c s (by unfold maxLen; omega) _) ?_
  simp -dsimp -implicitDefEqProofs [hs]
  refine callsTo Tryd.cal83 (bothKinds_c s _) ?_
  simp -dsimp -implicitDefEqProofs [hs]
  cases hb : bothL s.data.toList
  · simp -dsimp -implicitDefEqProofs [hs]
    exact GC.eq (by simp [floatN, floatC, hb])
  · have e1 := fun m => longestRun_c s ⟨by omega, hz.2⟩ m
    rw [(run_both hb).1] at e1
    simp -dsimp -implicitDefEqProofs [hs]
    refine callsTo Tryd.cal84 (e1 _) ?_
    simp -dsimp -implicitDefEqProofs [hs]
    exact GC.eq (by simp [floatN, floatC, hb])
theorem looseStakesT_c (s : ByteArray) (st : Nat) (hs : strokeB s = true) (h1 : 3 ≤ st ∧ st ≤ 60) (m : Mem) :
    ACalls Tryd.prog 43 [.string s, .int .i64 st] m (.tuple #[.slice (some ⟨m.length, 0, none⟩) (looseTo s.data.toList st st).length (looseTo s.data.toList st st).length, .int .i64 0]) (m ++ [⟨(looseTo s.data.toList st st).map (Value.int .i64), 2, 1, 2⟩]) := by
  have hz := stroke_size hs
  have hc : strokeC s st = 0 := by
    have : inB (st : Int) 3 60 = true := by simp [inB]; omega
    simp [strokeC, hs, this]
  have e1 := fun m => strokeCode_c s st (by unfold maxLen; omega) m
  simp only [hc] at e1
  refine acalls_of_vc Tryd.func43 rfl Tryd.fol (by kernel_rfl) ?_
  simp only [Tryd.f43]
  simp -dsimp -implicitDefEqProofs
  refine callsTo Tryd.cal80 (e1 _) ?_
  simp -dsimp -implicitDefEqProofs
  refine callsTo Tryd.cal85 (looseStakes_c s st hs (by omega) _) ?_
  simp -dsimp -implicitDefEqProofs
  exact GC.refl _ _ _
theorem beginsAgainT_c (s : ByteArray) (st : Nat) (hs : strokeB s = true) (h1 : 3 ≤ st ∧ st ≤ 60) (m : Mem) :
    ACalls Tryd.prog 44 [.string s, .int .i64 st] m (.tuple #[.int .i64 (againN s.size st : Nat), .int .i64 0]) m := by
  have hz := stroke_size hs
  have hc : strokeC s st = 0 := by
    have : inB (st : Int) 3 60 = true := by simp [inB]; omega
    simp [strokeC, hs, this]
  have e1 := fun m => strokeCode_c s st (by unfold maxLen; omega) m
  simp only [hc] at e1
  refine acalls_of_vc Tryd.func44 rfl Tryd.fol (by kernel_rfl) ?_
  simp only [Tryd.f44]
  simp -dsimp -implicitDefEqProofs
  refine callsTo Tryd.cal80 (e1 _) ?_
  simp -dsimp -implicitDefEqProofs
  refine callsTo Tryd.cal86 (beginsAgainI_c s st ⟨by omega, hz.2⟩ (by omega) _) ?_
  simp -dsimp -implicitDefEqProofs
  exact GC.refl _ _ _
theorem roundOf_c (s : ByteArray) (st r : Nat) (hs : strokeB s = true) (h1 : 3 ≤ st ∧ st ≤ 60) (h2 : r ≤ 100) (m : Mem) :
    ACalls Tryd.prog 45 [.string s, .int .i64 st, .int .i64 r] m (.tuple #[.string ⟨(stepL s.data.toList (r * st) 1 st).toArray⟩, .int .i64 0]) m := by
  have hz := stroke_size hs
  have h3 : inB (st : Int) 3 60 = true := by simp [inB]; omega
  have h4 : inB (r : Int) 0 100 = true := by simp [inB]; omega
  obtain ⟨q, hq⟩ : ∃ q, q = r * st := ⟨_, rfl⟩
  have hq1 : q ≤ 6000 := by rw [hq]; exact Nat.mul_le_mul h2 h1.2
  have hwq : IntKind.i64.wrap ((r : Int) * (st : Int)) = (q : Int) := by rw [← Int.natCast_mul, ← hq, wrapI (by omega) (by omega)]
  have e1 := fun m => along_c s q 1 st ⟨by omega, hz.2⟩ ⟨by omega, by omega, by omega⟩ m
  rw [← hq]
  refine acalls_of_vc Tryd.func45 rfl Tryd.fol (by kernel_rfl) ?_
  simp only [Tryd.f45]
  simp -dsimp -implicitDefEqProofs [hs, h3, h4, hwq]
  refine callsTo Tryd.cal82 (validStroke_c s (by unfold maxLen; omega) _) ?_
  simp -dsimp -implicitDefEqProofs [hs, h3, h4, hwq]
  refine callsTo Tryd.cal87 (bkStakesI_c _ _) ?_
  simp -dsimp -implicitDefEqProofs [hs, h3, h4, hwq]
  refine callsTo Tryd.cal88 (within_c _ _ _ _) ?_
  simp -dsimp -implicitDefEqProofs [hs, h3, h4, hwq]
  refine callsTo Tryd.cal89 (e1 _) ?_
  simp -dsimp -implicitDefEqProofs [hs, h3, h4, hwq]
  exact GC.refl _ _ _
/-- The round that begins again is the first one. -/
theorem again_same (l : List UInt8) (st : Nat) (hn : 0 < l.length) : stepL l (againN l.length st * st) 1 st = stepL l (0 * st) 1 st := by
  have hd : l.length ∣ againN l.length st * st := by
    unfold againN
    obtain ⟨g, hg⟩ : ∃ g, g = Nat.gcd l.length st := ⟨_, rfl⟩
    have h1 : g ∣ l.length := hg ▸ Nat.gcd_dvd_left _ _
    obtain ⟨c, hc⟩ : g ∣ st := hg ▸ Nat.gcd_dvd_right _ _
    rw [← hg]
    refine ⟨c, ?_⟩
    rw [hc, ← Nat.mul_assoc, Nat.div_mul_cancel h1]
  obtain ⟨q, hq⟩ := hd
  unfold stepL
  refine List.map_congr_left fun i _ => ?_
  rw [hq, Nat.zero_mul, Nat.zero_add]
  unfold cyc
  rw [Nat.add_comm, Nat.add_mul_mod_self_left]
/-- The count of stakes to be added that lets the float fit. -/
theorem isSoundFl_c (s : ByteArray) (st : Nat) (fl : Int) (hs : strokeB s = true) (h1 : st ≤ 60) (m : Mem) : ACalls Tryd.prog 65 [.string s, .int .i64 st, .int .i64 fl] m (.bool (soundB s st fl)) m := isSoundI_c s st fl hs (by omega) m
def AddP (s : ByteArray) (st : Nat) (fl : Int) (v : Value) : Prop :=
  (∃ k : Nat, v = .tuple #[.int .i64 k, .int .i64 0] ∧ st + k ≤ 60 ∧ soundB s (st + k) fl = true ∧ ∀ i, i < k → soundB s (st + i) fl = false) ∨
  (v = .tuple #[.int .i64 0, .int .i64 3] ∧ ∀ i, st + i ≤ 60 → soundB s (st + i) fl = false)
def AddQ (s : ByteArray) (st : Nat) (fl : Int) (m : Mem) (v : Value) (m' : Mem) : Prop := AddP s st fl v ∧ m' = m
theorem stakesToAdd_c (s : ByteArray) (st : Nat) (fl : Int) (hs : strokeB s = true) (h1 : 3 ≤ st ∧ st ≤ 60) (h2 : inB fl 1 12 = true) (m : Mem) :
    ∃ v m', ACalls Tryd.prog 46 [.string s, .int .i64 st, .int .i64 fl] m v m' ∧ AddQ s st fl m v m' := by
  have hz := stroke_size hs
  have hc : strokeC s st = 0 := by
    have : inB (st : Int) 3 60 = true := by simp [inB]; omega
    simp [strokeC, hs, this]
  have e1 := fun m => strokeCode_c s st (by unfold maxLen; omega) m
  simp only [hc] at e1
  refine ecalls_of_vc Tryd.func46 rfl Tryd.fol (by kernel_rfl) ?_
  simp only [Tryd.f46]
  simp -dsimp -implicitDefEqProofs [h2]
  refine callsTo Tryd.cal80 (e1 _) ?_
  simp -dsimp -implicitDefEqProofs [h2]
  refine callsTo Tryd.cal64 (isFloatB_c _ _) ?_
  simp -dsimp -implicitDefEqProofs [h2]
  refine loopN (61 - st) (fun j σ m' => m' = m ∧ (∀ i, i < j → soundB s (st + i) fl = false) ∧ σ 0 = some (.string s) ∧ σ 1 = some (.int .i64 st) ∧ σ 2 = some (.int .i64 fl) ∧ σ 9 = some (.int .i64 j)) ⟨rfl, by omega, by simp, by simp, by simp, by simp⟩ ?_
  rintro j σ m' hj ⟨hm, hno, s0, s1, s2, s9⟩
  subst hm
  obtain ⟨q, hq⟩ : ∃ q, q = st + j := ⟨_, rfl⟩
  have hwq : IntKind.i64.wrap ((st : Int) + (j : Int)) = (q : Int) := by rw [wrapI (by omega) (by omega)]; omega
  by_cases hlt : j < 61 - st
  · have g1 : (q : Int) ≤ 60 := by omega
    have hwj : IntKind.i64.wrap ((j : Int) + 1) = (j : Int) + 1 := wrapI (by omega) (by omega)
    simp -dsimp -implicitDefEqProofs [s0, s1, s2, s9, hwq, g1, hwj]
    refine callsTo Tryd.cal65 (isSoundFl_c s q fl hs (by omega) _) ?_
    simp -dsimp -implicitDefEqProofs [s0, s1, s2, s9, hwq, g1, hwj]
    cases hsd : soundB s q fl
    · simp -dsimp -implicitDefEqProofs [s0, s1, s2, s9, hwq, g1, hwj]
      refine next_ hlt ⟨rfl, fun i hi => ?_, by simp [s0], by simp [s1], by simp [s2], by simp [hwj]⟩
      by_cases hij : i < j
      · exact hno i hij
      · have : i = j := by omega
        subst this; rw [← hq]; exact hsd
    · simp -dsimp -implicitDefEqProofs [s0, s1, s2, s9, hwq, g1, hwj]
      refine ⟨_, _, GC.refl _ _ _, ?_, rfl⟩
      exact .inl ⟨j, rfl, by omega, hq ▸ hsd, hno⟩
  · have g1 : ¬ (q : Int) ≤ 60 := by omega
    simp -dsimp -implicitDefEqProofs [s0, s1, s2, s9, hwq, g1]
    refine ⟨_, _, GC.refl _ _ _, ?_, rfl⟩
    exact .inr ⟨rfl, fun i hi => hno i (by omega)⟩
end Go.Proofs.YtmbijgnmbapchaaDoor
