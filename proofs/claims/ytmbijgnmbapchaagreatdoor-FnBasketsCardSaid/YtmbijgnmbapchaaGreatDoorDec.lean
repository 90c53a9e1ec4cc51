/-
  Numbers in decimal: the reference's text and the program's are one. Conditions: none.
-/
import Derived.Test.YtmbijgnmbapchaaGreatDoorBase
import Derived.Test.YtmbijgnmbapchaaGreatDoorAbsStr
import Derived.Test.YtmbijgnmbapchaaGreatDoorLays
set_option linter.unusedSimpArgs false
set_option linter.unusedVariables false
set_option linter.unusedSectionVars false
namespace Go.Proofs.YtmbijgnmbapchaaGreatDoor
open Go.Abs Go.RowKit

/-- A number in decimal, as a text. -/
def decT (n : Int) : ByteArray := ⟨(Lib.itoa n).toArray⟩
/-- The digits of a number, none of 0. -/
def digI (u : Nat) : List Int := if u = 0 then [] else (Lib.decDigits u).map fun b => (b.toNat : Int)
theorem digI_zero : digI 0 = [] := by simp [digI]
theorem digI_step {u : Nat} (h : u ≠ 0) : digI u = digI (u / 10) ++ [48 + ((u % 10 : Nat) : Int)] := by
  unfold digI
  rw [if_neg h]
  by_cases h10 : u < 10
  · rw [Lib.decDigits_one h10, if_pos (by omega)]
    have : u % 10 = u := by omega
    simp [this]; omega
  · rw [Lib.decDigits, dif_neg h10, if_neg (by omega)]
    simp; omega
theorem digI_bytes {u : Nat} (h : u ≠ 0) : strOfNums (digI u) = ⟨(Lib.decDigits u).toArray⟩ := by
  unfold strOfNums digI
  rw [if_neg h, List.map_map]
  congr 2
  conv => rhs; rw [← List.map_id (Lib.decDigits u)]
  refine List.map_congr_left fun b _ => ?_
  simp
theorem decT_neg {n : Int} (h : n < 0) : (⟨#[45]⟩ : ByteArray) ++ strOfNums (digI n.natAbs) = decT n := by
  rw [digI_bytes (by omega)]
  refine WideShapes.bytes_inj ?_
  simp [decT, Lib.itoa, h]
theorem decT_pos {n : Int} (h : 0 < n) : strOfNums (digI n.natAbs) = decT n := by
  rw [digI_bytes (by omega)]
  refine WideShapes.bytes_inj ?_
  have e : n.natAbs = n.toNat := by omega
  simp [decT, Lib.itoa, show ¬ n < 0 by omega, e]
theorem decT_zero : decT 0 = ⟨#[48]⟩ := by
  refine WideShapes.bytes_inj ?_
  simp [decT, Lib.itoa, Lib.decDigits]

theorem nDigits_le : ∀ (k u : Nat), u < 10 ^ (k + 1) → Lib.nDigits u ≤ k + 1
  | 0, u, h => by rw [Lib.nDigits_small (by simpa using h)]; exact Nat.le_refl _
  | k + 1, u, h => by
    by_cases h10 : u < 10
    · rw [Lib.nDigits_small h10]; omega
    · rw [Lib.nDigits_big h10]
      have := nDigits_le k (u / 10) (by rw [Nat.pow_succ] at h; omega)
      omega
theorem decT_size {n : Int} (h : in64 n) : (decT n).size ≤ 20 := by
  have hd : ∀ u : Nat, u ≤ 9223372036854775808 → (Lib.decDigits u).length ≤ 19 := fun u hu => by
    rw [Lib.decDigits_length]; exact nDigits_le 18 u (by omega)
  have e : (decT n).size = (Lib.itoa n).length := by simp [decT, ByteArray.size]
  rw [e]
  unfold Lib.itoa
  unfold in64 at h
  split
  · have := hd n.natAbs (by omega)
    simp; omega
  · have := hd n.toNat (by omega)
    omega

theorem formatInt_c (n : Int) (h : in64 n) (m : Mem) : ACalls Tryz.prog 50 [.int .i64 n, .int .i64 10] m (.string (decT n)) m :=
  acalls_grown rfl rfl fun W0 w ht hb => (Any.strconv_FormatInt_10 Tryz.laysM173 n h.1 h.2 w (tabIs_of_at (by kernel_rfl) ht.1 hb)).mono fun e w' ⟨he, k, os, hw⟩ => ⟨he, hw ▸ grownBy_both w k os⟩
theorem implDecimal_c (n : Int) (h : in64 n) (m : Mem) : ACalls Tryz.prog 27 [.int .i64 n] m (.string (decT n)) m := by
  refine acalls_of_vc Tryz.func27 rfl Tryz.fol (by kernel_rfl) ?_
  simp only [Tryz.f27]
  simp -dsimp -implicitDefEqProofs
  refine callsTo Tryz.cal50 (formatInt_c n h _) ?_
  simp -dsimp -implicitDefEqProofs
  exact GC.refl _ _ _

theorem wrapB {x : Int} (h1 : 0 ≤ x) (h2 : x < 256) : IntKind.u8.wrap x = x := by
  simp [IntKind.wrap, IntKind.bits, IntKind.signed]; omega
def DecInv (n : Int) (m0 : Mem) (k : Int) (ds : List Int) (id kd : Nat) (m : Mem) : Prop :=
  m0 <+: m ∧ m0.length ≤ id ∧ m[id]? = some ⟨ds.map (Value.int .u8), 5, 1, kd⟩ ∧ (kd = 1 ∨ kd = 2) ∧ digI n.natAbs = digI k.natAbs ++ ds ∧ ds.length ≤ 64 ∧ k.natAbs * 2 ^ ds.length ≤ 2 ^ 63 ∧ in64 k
theorem l01Dec_c (n : Int) (h : in64 n) (m : Mem) : ACalls Tryz.prog 37 [.int .i64 n] m (.string (decT n)) m := by
  refine acalls_of_vc Tryz.func37 rfl Tryz.fol (by kernel_rfl) ?_
  simp only [Tryz.f37]
  simp -dsimp -implicitDefEqProofs
  refine loopT (fun k' σ m' => ∃ (k : Int) (ds : List Int) (id kd : Nat), k' = k.natAbs ∧ DecInv n m k ds id kd m' ∧ σ 0 = some (.int .i64 n) ∧ σ 3 = some (.slice (some ⟨id, 0, none⟩) ds.length ds.length) ∧ σ 4 = some (.int .i64 k)) _
    ⟨n, [], m.length, 1, rfl, ⟨⟨_, rfl⟩, Nat.le_refl _, by simp, .inl rfl, by simp, by simp, by unfold in64 at h; simp; omega, h⟩, by simp, by simp, by simp⟩ ?_
  rintro _ σ m' ⟨k, ds, id, kd, rfl, ⟨hp, hid, hm, hkd, hd, hlen, hsz, hk⟩, s0, s3, s4⟩
  have hk2 : kd ≤ 2 := by omega
  have htk : (ds.map (Value.int .u8)).take ds.length = ds.map (Value.int .u8) := List.take_of_length_le (by simp)
  by_cases h0 : k = 0
  · subst h0
    simp only [Int.natAbs_zero, digI_zero, List.nil_append] at hd
    simp -dsimp -implicitDefEqProofs [s0, s3, s4, withO_of hm, hk2, htk]
    refine sp2 (fun g => ?_) (fun g => sp2 (fun g' => ?_) (fun g' => ?_))
    · have : ds = [] := List.length_eq_zero_iff.1 (by simpa using g)
      subst this
      have : n = 0 := by
        by_cases hn : n.natAbs = 0
        · omega
        · rw [digI_step hn] at hd; simp at hd
      subst this
      exact GC.dropP hp (by rw [decT_zero]) rfl
    · have hn : n < 0 := by simpa using g'
      refine strT ds rfl ?_
      have hsz' : ByteArray.size ⟨#[45]⟩ + (strOfNums ds).size ≤ 9223372036854775807 := by
        rw [strOfNums_size]
        have : ds.length ≤ 64 := hlen
        show 1 + _ ≤ _
        omega
      simp -dsimp -implicitDefEqProofs [s0, s3, s4, withO_of hm, hk2, htk, hsz']
      exact GC.dropP hp (by rw [← hd, decT_neg hn]) rfl
    · have hn : 0 < n := by
        have : ¬ n = 0 := fun e => by subst e; simp [digI_zero] at hd; subst hd; simp at g
        simp at g'
        omega
      refine strT ds rfl ?_
      simp -dsimp -implicitDefEqProofs [s0, s3, s4, withO_of hm, hk2, htk]
      exact GC.dropP hp (by rw [← hd, decT_pos hn]) rfl
  · have hn0 : (k != 0) = true := by simpa using h0
    have hu : k.natAbs ≠ 0 := by omega
    have hm10 : (k.tmod 10).natAbs = k.natAbs % 10 := Int.natAbs_tmod k 10
    have hd10 : (k.tdiv 10).natAbs = k.natAbs / 10 := Int.natAbs_tdiv k 10
    have hin : in64 (k.tdiv 10) := by unfold in64 at hk ⊢; omega
    have hwq : IntKind.i64.wrap (k.tdiv 10) = k.tdiv 10 := wrapI (by unfold in64 at hin; omega) (by unfold in64 at hin; omega)
    have h63 : ds.length ≤ 63 := by
      have h1 : 1 * 2 ^ ds.length ≤ 2 ^ 63 := Nat.le_trans (Nat.mul_le_mul_right _ (by omega)) hsz
      rw [Nat.one_mul] at h1
      exact (Nat.pow_le_pow_iff_right (by decide)).1 h1
    have hsz2 : k.natAbs / 10 * 2 ^ (ds.length + 1) ≤ 2 ^ 63 := by
      refine Nat.le_trans ?_ hsz
      rw [Nat.pow_succ, Nat.mul_comm (2 ^ ds.length) 2, ← Nat.mul_assoc]
      exact Nat.mul_le_mul_right _ (by omega)
    have hdg : digI n.natAbs = digI (k.tdiv 10).natAbs ++ ((48 + ((k.natAbs % 10 : Nat) : Int)) :: ds) := by
      rw [hd, digI_step hu, hd10, List.append_assoc]; rfl
    have fin : ∀ (m2 : Mem) (id2 kd2 n2 : Nat), m' <+: m2 → m2[id2]? = some ⟨((48 + ((k.natAbs % 10 : Nat) : Int)) :: ds).map (Value.int .u8), 5, 1, kd2⟩ → kd2 = 1 ∨ kd2 = 2 → m.length ≤ id2 →
        DecInv n m (k.tdiv 10) ((48 + ((k.natAbs % 10 : Nat) : Int)) :: ds) id2 kd2 m2 := fun m2 id2 kd2 n2 h1 h2 h3 h4 =>
      ⟨hp.trans h1, h4, h2, h3, hdg, by simp; omega, by simpa [hd10] using hsz2, hin⟩
    simp -dsimp -implicitDefEqProofs [s0, s3, s4, withO_of hm, hn0, hk2, htk]
    refine sp2 (fun g => ?_) (fun g => ?_)
    · have hx : IntKind.u8.wrap (IntKind.i64.wrap (48 + IntKind.i64.wrap (-k.tmod 10))) = 48 + ((k.natAbs % 10 : Nat) : Int) := by
        have hg : k.tmod 10 < 0 := by simpa using g
        have e : -k.tmod 10 = ((k.natAbs % 10 : Nat) : Int) := by omega
        rw [e, wrapI (x := ((k.natAbs % 10 : Nat) : Int)) (by omega) (by omega), wrapI (by omega) (by omega), wrapB (by omega) (by omega)]
      rw [hx]
      by_cases hds : ds = []
      · subst hds
        refine appTo_in Tryz.sl22 Tryz.inf5 ⟨by decide, rfl⟩ (get_len _ _) rfl ⟨rfl, rfl⟩ (by simp) (by simp) (Src.nil _ _ _) ?_
        simp -dsimp -implicitDefEqProofs [s0, s3, s4, withO_of hm, hn0, hk2, htk, hwq]
        exact invT _ (by omega) ⟨_, _, _, _, rfl, fin _ m'.length 1 1 ⟨_, rfl⟩ (by simp) (.inl rfl) (by have := hp.length_le; omega), by simp [s0], by simp, by simp [hwq]⟩
      · refine appTo_grow Tryz.sl22 Tryz.inf5 ⟨by decide, rfl⟩ (get_len _ _) (by simp) ⟨rfl, rfl⟩ (by simp) (by omega) (Src.obj (get_old hm) hk2 rfl (by simp)) fun m2 id2 gr => ?_
        simp -dsimp -implicitDefEqProofs [s0, s3, s4, withO_of hm, hn0, hk2, htk, hwq]
        exact invT _ (by omega) ⟨_, _, _, _, rfl, fin _ id2 2 2 (gr.pre _ ⟨_, rfl⟩ (Nat.le_refl _)) (by simpa using gr.new) (.inr rfl) (by have := gr.at_; have := hp.length_le; simp at *; omega), by simp [s0], by simp [Nat.add_comm], by simp [hwq]⟩
    · have hx : IntKind.u8.wrap (IntKind.i64.wrap (48 + k.tmod 10)) = 48 + ((k.natAbs % 10 : Nat) : Int) := by
        have hg : ¬ k.tmod 10 < 0 := by simpa using g
        have e : k.tmod 10 = ((k.natAbs % 10 : Nat) : Int) := by omega
        rw [e, wrapI (by omega) (by omega), wrapB (by omega) (by omega)]
      rw [hx]
      by_cases hds : ds = []
      · subst hds
        refine appTo_in Tryz.sl22 Tryz.inf5 ⟨by decide, rfl⟩ (get_len _ _) rfl ⟨rfl, rfl⟩ (by simp) (by simp) (Src.nil _ _ _) ?_
        simp -dsimp -implicitDefEqProofs [s0, s3, s4, withO_of hm, hn0, hk2, htk, hwq]
        exact invT _ (by omega) ⟨_, _, _, _, rfl, fin _ m'.length 1 1 ⟨_, rfl⟩ (by simp) (.inl rfl) (by have := hp.length_le; omega), by simp [s0], by simp, by simp [hwq]⟩
      · refine appTo_grow Tryz.sl22 Tryz.inf5 ⟨by decide, rfl⟩ (get_len _ _) (by simp) ⟨rfl, rfl⟩ (by simp) (by omega) (Src.obj (get_old hm) hk2 rfl (by simp)) fun m2 id2 gr => ?_
        simp -dsimp -implicitDefEqProofs [s0, s3, s4, withO_of hm, hn0, hk2, htk, hwq]
        exact invT _ (by omega) ⟨_, _, _, _, rfl, fin _ id2 2 2 (gr.pre _ ⟨_, rfl⟩ (Nat.le_refl _)) (by simpa using gr.new) (.inr rfl) (by have := gr.at_; have := hp.length_le; simp at *; omega), by simp [s0], by simp [Nat.add_comm], by simp [hwq]⟩
end Go.Proofs.YtmbijgnmbapchaaGreatDoor
