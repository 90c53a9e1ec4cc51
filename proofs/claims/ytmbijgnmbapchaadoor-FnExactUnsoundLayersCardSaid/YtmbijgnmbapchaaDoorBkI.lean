/-
  Baskets, part 9: the contracts of weaves: the longest run by the program, rows of bytes. Conditions: none.
-/
import Derived.Test.YtmbijgnmbapchaaDoorBkH
set_option linter.unusedSimpArgs false
set_option linter.unusedVariables false
set_option linter.unusedSectionVars false
namespace Go.Proofs.YtmbijgnmbapchaaDoor
open Go.Abs Go.RowKit Go.Law

theorem longestRun_c (s : ByteArray) (h : s.size ≤ 1000 ∧ 1 ≤ s.size) (m : Mem) : ACalls Tryd.prog 84 [.string s] m (.int .i64 (runI s.data.toList : Nat)) m := by
  have hn0 : ¬ s.size = 0 := by omega
  obtain ⟨N, hN⟩ : ∃ N, N = 2 * s.size := ⟨_, rfl⟩
  have hw2 : IntKind.i64.wrap (2 * (s.size : Int)) = (N : Int) := by rw [wrapI (by omega) (by omega)]; omega
  obtain ⟨f, hf⟩ : ∃ f, f = cyc s.data.toList := ⟨_, rfl⟩
  have hres : runI s.data.toList = maxI f s.size N := by rw [hf, hN, runI, bytes_size]
  rw [hres]
  have hmax : ∀ k, maxI f s.size k ≤ s.size := fun k => by
    induction k with
    | zero => unfold maxI; omega
    | succ k ih => unfold maxI; omega
  refine acalls_of_vc Tryd.func84 rfl Tryd.fol (by kernel_rfl) ?_
  simp only [Tryd.f84]
  simp -dsimp -implicitDefEqProofs [hw2]
  refine loopN N (fun k σ m' => m' = m ∧ σ 0 = some (.string s) ∧ (∃ a : Nat, a = maxI f s.size k ∧ σ 3 = some (.int .i64 a)) ∧ (∃ r : Nat, r = (if k = 0 then 0 else runAt f (k - 1)) ∧ σ 4 = some (.int .i64 r)) ∧ σ 8 = some (.int .i64 N) ∧ σ 9 = some (.int .i64 k)) ⟨rfl, by simp, ⟨1, rfl, by simp⟩, ⟨0, rfl, by simp⟩, by simp [hw2], by simp⟩ ?_
  rintro k σ m' hk ⟨rfl, s0, ⟨a, ha, s3⟩, ⟨r, hr, s4⟩, s8, s9⟩
  by_cases hlt : k < N
  · have hw : IntKind.i64.wrap ((k : Int) + 1) = (k : Int) + 1 := wrapI (by omega) (by omega)
    have hltI : (k : Int) < (N : Int) := by omega
    have hw1 : IntKind.i64.wrap 1 = 1 := wrapI (by omega) (by omega)
    have fin : ∀ r' : Nat, r' = runAt f k → ∃ a' : Nat, a' = maxI f s.size (k + 1) ∧ (max (a : Int) (min (r' : Int) (s.size : Int))) = (a' : Int) := fun r' h' => ⟨max a (min r' s.size), by rw [maxI, ← ha, h'], by omega⟩
    by_cases hk0 : k = 0
    · subst hk0
      have hr0 : r = 0 := by simpa using hr
      subst hr0
      obtain ⟨a', ha', hmx⟩ := fin 1 rfl
      have h0N : 0 < N := by omega
      simp -dsimp -implicitDefEqProofs [s0, s3, s4, s8, s9, hltI, hw, h0N, hw1]
      exact next_ hlt ⟨rfl, by simp [s0], ⟨a', ha', by simpa using hmx⟩, ⟨1, rfl, by simp⟩, by simp [s8], by simp⟩
    · obtain ⟨j, rfl⟩ : ∃ j, k = j + 1 := ⟨k - 1, by omega⟩
      have hr1 : r = runAt f j := by simpa using hr
      have hrl := runAt_le f j
      have hj0 : (0 : Int) < (j : Int) + 1 := by omega
      have hwj : IntKind.i64.wrap (j : Int) = (j : Int) := wrapI (by omega) (by omega)
      have hwr : IntKind.i64.wrap ((r : Int) + 1) = (r : Int) + 1 := wrapI (by omega) (by omega)
      obtain ⟨b1, e1⟩ := cycB h.2 (j + 1)
      obtain ⟨b2, e2⟩ := cycB h.2 j
      obtain ⟨k1, hk1⟩ : ∃ k1, k1 = (j + 1) % s.size := ⟨_, rfl⟩
      obtain ⟨k2, hk2⟩ : ∃ k2, k2 = j % s.size := ⟨_, rfl⟩
      have t1 : ((j : Int) + 1).tmod (s.size : Int) = (k1 : Int) := by rw [hk1]; exact tmodN (j + 1) _
      have t2 : (j : Int).tmod (s.size : Int) = (k2 : Int) := by rw [hk2]; exact tmodN j _
      simp only [← hk1] at b1 e1
      simp only [← hk2] at b2 e2
      rw [← hf] at e1 e2
      have hw' : IntKind.i64.wrap ((j : Int) + 1 + 1) = (j : Int) + 1 + 1 := wrapI (by omega) (by omega)
      have hlt' : (j : Int) + 1 < (N : Int) := by omega
      by_cases hc : f (j + 1) = f j
      · obtain ⟨a', ha', hmx⟩ := fin (r + 1) (by rw [runAt, if_pos hc, hr1])
        simp only [Int.natCast_add, Int.cast_ofNat_Int] at hmx
        simp -dsimp -implicitDefEqProofs [s0, s3, s4, s8, s9, hlt, hlt', hw', hj0, hwj, hwr, t1, t2, hn0, b1, b2, e1, e2, hc]
        exact next_ hlt ⟨rfl, by simp [s0], ⟨a', ha', by simpa using hmx⟩, ⟨r + 1, by simp [runAt, hc, hr1], by simp⟩, by simp [s8], by simp [hw']⟩
      · have hcn : (((f (j + 1)).toNat : Int) != ((f j).toNat : Int)) = true := by
          have : ¬ (f (j + 1)).toNat = (f j).toNat := fun e => hc (UInt8.toNat_inj.1 e)
          simp; omega
        obtain ⟨a', ha', hmx⟩ := fin 1 (by rw [runAt, if_neg hc])
        simp -dsimp -implicitDefEqProofs [s0, s3, s4, s8, s9, hlt, hlt', hw', hj0, hwj, hwr, t1, t2, hn0, b1, b2, e1, e2, hcn, hw1]
        exact next_ hlt ⟨rfl, by simp [s0], ⟨a', ha', by simpa using hmx⟩, ⟨1, by simp [runAt, hc], by simp⟩, by simp [s8], by simp [hw']⟩
  · obtain rfl : k = N := by omega
    simp -dsimp -implicitDefEqProofs [s0, s3, s4, s8, s9]
    exact GC.eq (by rw [ha])

/-- Bytes of a row that goes on for ever, from a place on, each some places on. -/
def stepL (l : List UInt8) (from_ step many : Nat) : List UInt8 := (List.range many).map fun i => cyc l (from_ + i * step)
def numsB (l : List UInt8) : List Int := l.map fun b => (b.toNat : Int)
theorem strOfNums_bytes (l : List UInt8) : strOfNums (numsB l) = ⟨l.toArray⟩ := by
  unfold strOfNums numsB
  rw [List.map_map]
  congr 2
  conv => rhs; rw [← List.map_id l]
  refine List.map_congr_left fun b _ => ?_
  simp
theorem stepL_length (l : List UInt8) (a b c : Nat) : (stepL l a b c).length = c := by simp [stepL]
theorem stepL_succ (l : List UInt8) (a b c : Nat) : stepL l a b (c + 1) = stepL l a b c ++ [cyc l (a + c * b)] := by simp [stepL, List.range_succ]
def fillB (xs : List Int) (N : Nat) : List Value := xs.map (Value.int .u8) ++ List.replicate (N - xs.length) (.int .u8 0)
theorem fillB_length {xs : List Int} {N : Nat} (h : xs.length ≤ N) : (fillB xs N).length = N := by simp [fillB]; omega
theorem fillB_set {xs : List Int} {N : Nat} (h : xs.length < N) (x : Int) : (fillB xs N).set xs.length (.int .u8 x) = fillB (xs ++ [x]) N := by
  unfold fillB
  rw [List.set_append_right _ _ (by simp), List.length_map, Nat.sub_self]
  obtain ⟨d, hd⟩ : ∃ d, N - xs.length = d + 1 := ⟨N - xs.length - 1, by omega⟩
  rw [hd, List.replicate_succ, List.set_cons_zero, List.map_append, List.append_assoc, show N - (xs ++ [x]).length = d by simp; omega]
  rfl
theorem along_c (s : ByteArray) (a b c : Nat) (h : s.size ≤ 1000 ∧ 1 ≤ s.size) (h' : a ≤ 100000 ∧ b ≤ 1000 ∧ c ≤ 1000) (m : Mem) :
    ACalls Tryd.prog 89 [.string s, .int .i64 a, .int .i64 b, .int .i64 c] m (.string ⟨(stepL s.data.toList a b c).toArray⟩) m := by
  have hn0 : ¬ s.size = 0 := by omega
  refine acalls_of_vc Tryd.func89 rfl Tryd.fol (by kernel_rfl) ?_
  simp only [Tryd.f89]
  simp -dsimp -implicitDefEqProofs
  refine need_intro (by omega) ?_
  refine loopN c (fun k σ m' => m' = m ++ [⟨fillB (numsB (stepL s.data.toList a b k)) c, 5, 1, 1⟩] ∧ σ 0 = some (.string s) ∧ σ 1 = some (.int .i64 a) ∧ σ 2 = some (.int .i64 b) ∧ σ 9 = some (.slice (some ⟨m.length, 0, none⟩) c c) ∧ σ 13 = some (.int .i64 c) ∧ σ 14 = some (.int .i64 k))
    ⟨by simp [fillB, numsB, stepL], by simp, by simp, by simp, by simp, by simp, by simp⟩ ?_
  rintro k σ m' hk ⟨rfl, s0, s1, s2, s9, s13, s14⟩
  have hl : (numsB (stepL s.data.toList a b k)).length = k := by simp [numsB, stepL_length]
  by_cases hlt : k < c
  · have hltI : (k : Int) < (c : Int) := by omega
    have hw : IntKind.i64.wrap ((k : Int) + 1) = (k : Int) + 1 := wrapI (by omega) (by omega)
    obtain ⟨q, hq⟩ : ∃ q, q = k * b := ⟨_, rfl⟩
    have hq1 : q ≤ 1000000 := by rw [hq]; exact Nat.mul_le_mul (show k ≤ 1000 by omega) h'.2.1
    have hwq : IntKind.i64.wrap ((k : Int) * (b : Int)) = (q : Int) := by rw [← Int.natCast_mul, ← hq, wrapI (by omega) (by omega)]
    have hwa : IntKind.i64.wrap ((a : Int) + (q : Int)) = (a : Int) + (q : Int) := wrapI (by omega) (by omega)
    obtain ⟨b1, e1⟩ := cycB h.2 (a + q)
    obtain ⟨k1, hk1⟩ : ∃ k1, k1 = (a + q) % s.size := ⟨_, rfl⟩
    have t1 : ((a : Int) + (q : Int)).tmod (s.size : Int) = (k1 : Int) := by rw [hk1]; exact tmodN (a + q) _
    simp only [← hk1] at b1 e1
    obtain ⟨x, hx⟩ : ∃ x, x = cyc s.data.toList (a + q) := ⟨_, rfl⟩
    rw [← hx] at e1
    have hset := fillB_set (xs := numsB (stepL s.data.toList a b k)) (N := c) (by omega) (x.toNat : Int)
    rw [hl] at hset
    have hlen := fillB_length (xs := numsB (stepL s.data.toList a b k)) (N := c) (by omega)
    have hnext : numsB (stepL s.data.toList a b k) ++ [(x.toNat : Int)] = numsB (stepL s.data.toList a b (k + 1)) := by
      rw [stepL_succ, ← hq, ← hx]; simp [numsB]
    rw [hnext] at hset
    simp -dsimp -implicitDefEqProofs [s0, s1, s2, s9, s13, s14, hltI, hlt, hw, hwq, hwa, t1, hn0, b1, e1, hset, hlen]
    refine need_intro (by omega) ?_
    exact next_ hlt ⟨rfl, by simp [s0], by simp [s1], by simp [s2], by simp [s9], by simp [s13], by simp [hw]⟩
  · obtain rfl : k = c := by omega
    have hlen := fillB_length (xs := numsB (stepL s.data.toList a b k)) (N := k) (by omega)
    simp -dsimp -implicitDefEqProofs [s0, s1, s2, s9, s13, s14, hlen]
    refine strT (numsB (stepL s.data.toList a b k)) ?_ ?_
    · rw [List.take_of_length_le (by omega)]
      simp [fillB, hl]
    · simp -dsimp -implicitDefEqProofs [s0, s1, s2, s9, s13, s14, hlen]
      exact GC.dropEq (by rw [strOfNums_bytes]) rfl
end Go.Proofs.YtmbijgnmbapchaaDoor
