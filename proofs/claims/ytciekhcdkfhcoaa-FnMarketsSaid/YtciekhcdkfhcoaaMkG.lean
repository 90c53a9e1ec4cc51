/-
  Markets, part 7: sales, incomes, and where it is worth going. Conditions: none.
-/
import Derived.Test.YtciekhcdkfhcoaaMkF
set_option linter.unusedSimpArgs false
set_option linter.unusedVariables false
set_option linter.unusedSectionVars false
namespace Go.Proofs.Ytciekhcdkfhcoaa
open Go.Abs Go.RowKit

def atC (n : Int) (x : Mk) (ys : List Int) : Int := if inB n 1 6 && mkB n x then (if countsB ys n 1000 then 0 else 2) else 1
def saleO (n : Int) (x : Mk) (ys : List Int) : Option (List Int) := if atC n x ys = 0 then some (saleN x ys ys.length) else none
def incV (n : Int) (x : Mk) (ys : List Int) : Value := .tuple #[.int .i64 (if atC n x ys = 0 then incOf x ys else 0), .int .i64 (atC n x ys)]
theorem atC_zero {n : Int} {x : Mk} {ys : List Int} (h : atC n x ys = 0) : inB n 1 6 = true ∧ mkB n x = true ∧ countsB ys n 1000 = true ∧ (ys.length : Int) = n ∧ (x.2.2.1.length : Int) = n ∧ (x.2.2.2.length : Int) = n := by
  unfold atC at h
  split at h
  · rename_i h1
    split at h
    · rename_i h2
      simp only [Bool.and_eq_true] at h1
      have h3 := h1.2
      simp only [mkB, Bool.and_eq_true, countsB, decide_eq_true_eq] at h3
      have h4 := h2
      simp only [countsB, Bool.and_eq_true, decide_eq_true_eq] at h4
      exact ⟨h1.1, h1.2, h2, h4.2, h3.1.2.2, h3.2.2⟩
    · omega
  · omega
theorem saleO_length {n : Int} {x : Mk} {ys zs : List Int} (h : saleO n x ys = some zs) : zs.length = ys.length := by
  unfold saleO at h
  split at h
  · injection h with h; subst h; exact saleN_length _ _ _
  · cases h
theorem l21At_c (n : Int) (x : Mk) (ys : List Int) (id off : Nat) (b : Option Addr) (m : Mem) (hp : IsMk m id off x) (hs : RdI m b ys) (hn1 : x.2.2.1.length ≤ 1048576) (hn2 : x.2.2.2.length ≤ 1048576) (hn : ys.length ≤ 1048576) :
    ACalls Try.prog 53 [.int .i64 n, .pointer (some ⟨id, off, none⟩), .slice b ys.length ys.length] m (.int .i64 (atC n x ys)) m := by
  refine acalls_of_vc Try.func53 rfl Try.fol (by kernel_rfl) ?_
  simp only [Try.f53]
  simp -dsimp -implicitDefEqProofs
  refine callsTo Try.cal76 (l21Kinds_c _ _) ?_
  simp -dsimp -implicitDefEqProofs
  refine sp2 (fun g1 => GC.eq (by simp at g1; simp [atC, g1])) (fun g1 => ?_)
  simp at g1
  refine callsTo Try.cal75 (l21One_c x n _ _ _ hp hn1 hn2) ?_
  simp -dsimp -implicitDefEqProofs
  refine sp2 (fun g2 => GC.eq (by simp at g2; simp [atC, g1, g2])) (fun g2 => ?_)
  simp at g2
  refine callsTo Try.cal78 (l21Stock_c n ys b _ hs hn) ?_
  simp -dsimp -implicitDefEqProofs
  refine sp2 (fun g3 => GC.eq (by simp at g3; simp [atC, g1, g2, g3])) (fun g3 => GC.eq (by simp at g3; simp [atC, g1, g2, g3]))
theorem mkNew {x : Mk} {ad bd : Option Addr} {m : Mem} (q1 : RdI m ad x.2.2.1) (q2 : RdI m bd x.2.2.2) (e : TypeId) : IsMk (m ++ [⟨mkRow4 x ad bd, e, 4, 1⟩]) m.length 0 x :=
  ⟨_, ad, bd, by simp; rfl, by simp, rfl, rfl, rfl, rfl, q1.ext _, q2.ext _⟩
theorem specSale_c (n : Int) (x : Mk) (ys : List Int) (ad bd b : Option Addr) (m : Mem) (q1 : RdI m ad x.2.2.1) (q2 : RdI m bd x.2.2.2) (hs : RdI m b ys) (hn1 : x.2.2.1.length ≤ 1048576) (hn2 : x.2.2.2.length ≤ 1048576) (hn : ys.length ≤ 1048576) :
    ACalls Try.prog 25 [.int .i64 n, .agg (mkRow4 x ad bd).toArray, .slice b ys.length ys.length] m (.tuple #[optV m.length (saleO n x ys), .int .i64 (atC n x ys)]) (m ++ optM 2 (saleO n x ys)) := by
  have hx := mkNew q1 q2 35
  refine acalls_of_vc Try.func25 rfl Try.fol (by kernel_rfl) ?_
  simp only [Try.f25, mkRow4]
  simp -dsimp -implicitDefEqProofs
  refine callsTo Try.cal53 (l21At_c n x ys m.length 0 b _ hx (hs.ext _) hn1 hn2 hn) ?_
  simp -dsimp -implicitDefEqProofs
  refine ⟨fun g => ?_, fun g => ?_⟩
  · simp at g
    simp only [saleO, g, if_false, optV, optM, List.append_nil]
    exact GC.dropEq rfl rfl
  simp at g
  obtain ⟨_, _, _, e1, e2, e3⟩ := atC_zero g
  refine callsTo Try.cal55 (l21Sale_c x ys m.length 0 b _ hx (hs.ext _) hn (by omega)) ?_
  simp -dsimp -implicitDefEqProofs
  simp only [saleO, g, if_true, optV, optM]
  have := GC.keepTP (m := m) (m' := m) (m1 := m ++ [⟨mkRow4 x ad bd, 35, 4, 1⟩, ⟨(saleN x ys ys.length).map (Value.int .i64), 2, 1, 2⟩]) (id := m.length + 1) (off := 0) (n := ys.length) (o1 := ⟨(saleN x ys ys.length).map (Value.int .i64), 2, 1, 2⟩) (o2 := ⟨(saleN x ys ys.length).map (Value.int .i64), 2, 1, 2⟩) (l := [.int .i64 0]) (Fits.refl m) ⟨_, rfl⟩ (by simp) (by omega) rfl rfl (.inl rfl) rfl (ints_lit _) rfl
  rw [saleN_length]
  exact this
theorem specInc_c (n : Int) (x : Mk) (ys : List Int) (ad bd b : Option Addr) (m : Mem) (q1 : RdI m ad x.2.2.1) (q2 : RdI m bd x.2.2.2) (hs : RdI m b ys) (hn1 : x.2.2.1.length ≤ 1048576) (hn2 : x.2.2.2.length ≤ 1048576) (hn : ys.length ≤ 1048576) :
    ACalls Try.prog 19 [.int .i64 n, .agg (mkRow4 x ad bd).toArray, .slice b ys.length ys.length] m (incV n x ys) m := by
  have hx := mkNew q1 q2 35
  refine acalls_of_vc Try.func19 rfl Try.fol (by kernel_rfl) ?_
  simp only [Try.f19, mkRow4]
  simp -dsimp -implicitDefEqProofs
  refine callsTo Try.cal53 (l21At_c n x ys m.length 0 b _ hx (hs.ext _) hn1 hn2 hn) ?_
  simp -dsimp -implicitDefEqProofs
  refine ⟨fun g => GC.dropEq (by simp at g; simp [incV, g]) rfl, fun g => ?_⟩
  simp at g
  obtain ⟨_, _, _, e1, e2, e3⟩ := atC_zero g
  refine callsTo Try.cal55 (l21Sale_c x ys m.length 0 b _ hx (hs.ext _) hn (by omega)) ?_
  simp -dsimp -implicitDefEqProofs
  have hx2 : IsMk ((m ++ [⟨mkRow4 x ad bd, 35, 4, 1⟩]) ++ [⟨(saleN x ys ys.length).map (Value.int .i64), 2, 1, 2⟩]) m.length 0 x := by
    obtain ⟨o, a1, a2, h1, h2, h3, h4, h5, h6, h7, h8⟩ := hx
    exact ⟨o, a1, a2, get_old h1, h2, h3, h4, h5, h6, h7.ext _, h8.ext _⟩
  have hinc := l21Income_c x (saleN x ys ys.length) m.length 0 (some ⟨m.length + 1, 0, none⟩) _ hx2 (RdI.of_get (o := ⟨(saleN x ys ys.length).map (Value.int .i64), 2, 1, 2⟩) (by simp) (by simp) rfl rfl) (by rw [saleN_length]; omega) (by rw [saleN_length]; omega)
  rw [saleN_length] at hinc
  simp only [List.append_assoc, List.cons_append, List.nil_append] at hinc
  refine callsTo Try.cal54 hinc ?_
  simp -dsimp -implicitDefEqProofs
  exact GC.dropEq (by simp [incV, g, incOf]) rfl
theorem implSale_c (n : Int) (x : Mk) (ys : List Int) (ad bd b : Option Addr) (m : Mem) (q1 : RdI m ad x.2.2.1) (q2 : RdI m bd x.2.2.2) (hs : RdI m b ys) (hn1 : x.2.2.1.length ≤ 1048576) (hn2 : x.2.2.2.length ≤ 1048576) (hn : ys.length ≤ 1048576) :
    ACalls Try.prog 26 [.int .i64 n, .agg (mkRow4 x ad bd).toArray, .slice b ys.length ys.length] m (.tuple #[optV m.length (saleO n x ys), .int .i64 (atC n x ys)]) (m ++ optM 2 (saleO n x ys)) := by
  refine acalls_of_vc Try.func26 rfl Try.fol (by kernel_rfl) ?_
  simp only [Try.f26, mkRow4]
  simp -dsimp -implicitDefEqProofs
  refine callsTo Try.cal50 (isMarket_c x n ad bd _ (q1.ext _) (q2.ext _) hn1 hn2) ?_
  simp -dsimp -implicitDefEqProofs
  cases h1 : (inB n 1 6 && mkB n x) with
  | false =>
    have h1' : (!inB n 1 6 || !mkB n x) = true := by rw [← Bool.not_and, h1]; rfl
    simp -dsimp -implicitDefEqProofs [h1']
    simp [saleO, atC, h1, optV, optM]
    exact GC.dropEq rfl rfl
  | true =>
    have h1' : (!inB n 1 6 || !mkB n x) = false := by rw [← Bool.not_and, h1]; rfl
    simp -dsimp -implicitDefEqProofs [h1']
    refine callsTo Try.cal56 (isStock_c n ys b _ (hs.ext _) hn) ?_
    simp -dsimp -implicitDefEqProofs [h1']
    refine sp2 (fun g => by
      simp at g
      simp [saleO, atC, h1, g, optV, optM]
      exact GC.dropEq rfl rfl) (fun g => ?_)
    simp at g
    have g0 : atC n x ys = 0 := by simp [atC, h1, g]
    obtain ⟨_, _, _, e1, e2, e3⟩ := atC_zero g0
    refine callsTo Try.cal57 (sellAt_c x ys ad bd b _ (q1.ext _) (q2.ext _) (hs.ext _) hn (by omega) (by omega)) ?_
    simp -dsimp -implicitDefEqProofs [h1']
    simp only [saleO, g0, if_true, optV, optM]
    have := GC.keepTP (m := m) (m' := m) (m1 := m ++ [⟨mkRow4 x ad bd, 35, 4, 1⟩, ⟨(saleN x ys ys.length).map (Value.int .i64), 2, 1, 2⟩, ⟨(leftN x ys ys.length).map (Value.int .i64), 2, 1, 2⟩]) (id := m.length + 1) (off := 0) (n := ys.length) (o1 := ⟨(saleN x ys ys.length).map (Value.int .i64), 2, 1, 2⟩) (o2 := ⟨(saleN x ys ys.length).map (Value.int .i64), 2, 1, 2⟩) (l := [.int .i64 0]) (Fits.refl m) ⟨_, rfl⟩ (by simp) (by omega) rfl rfl (.inl rfl) rfl (ints_lit _) rfl
    rw [saleN_length]
    exact this
theorem implInc_c (n : Int) (x : Mk) (ys : List Int) (ad bd b : Option Addr) (m : Mem) (q1 : RdI m ad x.2.2.1) (q2 : RdI m bd x.2.2.2) (hs : RdI m b ys) (hn1 : x.2.2.1.length ≤ 1048576) (hn2 : x.2.2.2.length ≤ 1048576) (hn : ys.length ≤ 1048576) :
    ACalls Try.prog 22 [.int .i64 n, .agg (mkRow4 x ad bd).toArray, .slice b ys.length ys.length] m (incV n x ys) m := by
  refine acalls_of_vc Try.func22 rfl Try.fol (by kernel_rfl) ?_
  simp only [Try.f22, mkRow4]
  simp -dsimp -implicitDefEqProofs
  refine callsTo Try.cal50 (isMarket_c x n ad bd _ (q1.ext _) (q2.ext _) hn1 hn2) ?_
  simp -dsimp -implicitDefEqProofs
  cases h1 : (inB n 1 6 && mkB n x) with
  | false =>
    have h1' : (!inB n 1 6 || !mkB n x) = true := by rw [← Bool.not_and, h1]; rfl
    simp -dsimp -implicitDefEqProofs [h1']
    exact GC.dropEq (by simp [incV, atC, h1]) rfl
  | true =>
    have h1' : (!inB n 1 6 || !mkB n x) = false := by rw [← Bool.not_and, h1]; rfl
    simp -dsimp -implicitDefEqProofs [h1']
    refine callsTo Try.cal56 (isStock_c n ys b _ (hs.ext _) hn) ?_
    simp -dsimp -implicitDefEqProofs [h1']
    refine sp2 (fun g => GC.dropEq (by simp at g; simp [incV, atC, h1, g]) rfl) (fun g => ?_)
    simp at g
    have g0 : atC n x ys = 0 := by simp [atC, h1, g]
    obtain ⟨_, _, _, e1, e2, e3⟩ := atC_zero g0
    refine callsTo Try.cal57 (sellAt_c x ys ad bd b _ (q1.ext _) (q2.ext _) (hs.ext _) hn (by omega) (by omega)) ?_
    simp -dsimp -implicitDefEqProofs [h1']
    exact GC.dropEq (by simp [incV, g0]) rfl
end Go.Proofs.Ytciekhcdkfhcoaa
