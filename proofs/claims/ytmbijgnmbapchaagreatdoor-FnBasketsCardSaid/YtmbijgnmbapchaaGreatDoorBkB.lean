/-
  Baskets, part 2: words of two letters: strokes and bends; stakes. Conditions: none.
-/
import Derived.Test.YtmbijgnmbapchaaGreatDoorBkA
import Derived.Test.YtmbijgnmbapchaaGreatDoorLays
set_option linter.unusedSimpArgs false
set_option linter.unusedVariables false
set_option linter.unusedSectionVars false
namespace Go.Proofs.YtmbijgnmbapchaaGreatDoor
open Go.Abs Go.RowKit

/-- All bytes of a text are of these. -/
def allIn (cs : List UInt8) (s : ByteArray) : Bool := s.data.toList.all (cs.contains ·)
def wordB (cs : List UInt8) (n : Nat) (s : ByteArray) : Bool := decide (1 ≤ s.size) && decide (s.size ≤ n) && allIn cs s
def strokeB (s : ByteArray) : Bool := wordB [70, 66] 12 s
def bendsB (s : ByteArray) : Bool := wordB [98, 102] 8 s
theorem dropWhile_nil {α : Type} {p : α → Bool} : ∀ {l : List α}, l.dropWhile p = [] ↔ l.all p = true
  | [] => by simp
  | x :: l => by
    rw [List.dropWhile_cons]
    cases h : p x
    · simp [h]
    · simp [h, dropWhile_nil (l := l)]
theorem trim_nil (l cs : List UInt8) : Lib.trimS l cs = [] ↔ l.all (cs.contains ·) = true := by
  unfold Lib.trimS Lib.trimLeftS Lib.trimRightS
  rw [dropWhile_nil, List.all_reverse]
  constructor
  · intro h
    rw [← List.all_reverse]
    have key : ∀ m : List UInt8, (m.dropWhile (cs.contains ·)).all (cs.contains ·) = true → m.all (cs.contains ·) = true := fun m => by
      induction m with
      | nil => simp
      | cons x m ih =>
        rw [List.dropWhile_cons]
        cases hx : cs.contains x
        · exact fun h => h
        · intro h
          rw [List.all_cons, hx, Bool.true_and]
          exact ih (by simpa using h)
    exact key _ h
  · intro h
    rw [List.all_eq_true] at h ⊢
    intro x hx
    exact h x (by simpa using (List.dropWhile_sublist _).subset hx)
theorem trim_c (s cs : ByteArray) (hs : s.size ≤ maxLen) (hcs : cs.size < 4294967281) (ha : cs.data.toList.all (fun b => decide (b.toNat < 128)) = true) (m : Mem) :
    ACalls Tryz.prog 68 [.string s, .string cs] m (.string ⟨(Lib.trimS s.data.toList cs.data.toList).toArray⟩) m :=
  acalls_grown rfl rfl fun W0 w ht hb => (Any.strings_Trim_laid Tryz.lays160 (by kernel_rfl) s cs w hs hcs (ascii_of_all ha)).mono fun e w' ⟨he, hw⟩ => ⟨he, ⟨hw.os, hw.tape, hw.output, hw.size, fun k hk _ => hw.block k hk⟩⟩
theorem trim_eq (s : ByteArray) (cs : List UInt8) : ((⟨(Lib.trimS s.data.toList cs).toArray⟩ : ByteArray) = ⟨#[]⟩) = (allIn cs s = true) := by
  refine propext ⟨fun h => (trim_nil _ _).1 ?_, fun h => ?_⟩
  · have := congrArg (fun b => b.data.toList) h
    simpa using this
  · rw [(trim_nil _ _).2 h]
theorem trim_empty (s : ByteArray) (cs : List UInt8) : (Lib.trimS s.data.toList cs).isEmpty = allIn cs s := by
  cases h : allIn cs s with
  | true => rw [(trim_nil _ _).2 h]; rfl
  | false =>
    cases h2 : Lib.trimS s.data.toList cs with
    | nil => have := (trim_nil _ _).1 h2; unfold allIn at h; rw [this] at h; cases h
    | cons x l => rfl
theorem lenB (n k : Nat) : inB (n : Int) 1 k = (decide (1 ≤ n) && decide (n ≤ k)) := by
  unfold inB
  congr 1 <;> (apply decide_eq_decide.2; omega)
theorem validStroke_c (s : ByteArray) (hs : s.size ≤ maxLen) (m : Mem) : ACalls Tryz.prog 55 [.string s] m (.bool (strokeB s)) m := by
  have hmx : s.size ≤ 9223372036854775807 := hs
  have ht := trim_empty s [70, 66]
  refine acalls_of_vc Tryz.func55 rfl Tryz.fol (by kernel_rfl) ?_
  simp only [Tryz.f55]
  simp -dsimp -implicitDefEqProofs [bytes_beq, ht]
  refine ⟨fun g => ⟨fun g' => ?_, fun g' => GC.eq ?_⟩, fun g => GC.eq ?_⟩
  · refine callsTo Tryz.cal68 (trim_c s ⟨#[70, 66]⟩ hs (by decide) (by decide) _) ?_
    simp -dsimp -implicitDefEqProofs [bytes_beq, ht]
    refine GC.eq ?_
    have h1 : 1 ≤ s.size := by simp at g; omega
    have h2 : s.size ≤ 12 := by simp at g'; omega
    simp [strokeB, wordB, h1, h2]
  · have h2 : ¬ s.size ≤ 12 := by simp at g'; omega
    simp [strokeB, wordB, h2]
  · have h1 : ¬ 1 ≤ s.size := by simp at g; omega
    simp [strokeB, wordB, h1]
theorem validBends_c (s : ByteArray) (hs : s.size ≤ maxLen) (m : Mem) : ACalls Tryz.prog 56 [.string s] m (.bool (bendsB s)) m := by
  have hmx : s.size ≤ 9223372036854775807 := hs
  have ht := trim_empty s [98, 102]
  refine acalls_of_vc Tryz.func56 rfl Tryz.fol (by kernel_rfl) ?_
  simp only [Tryz.f56]
  simp -dsimp -implicitDefEqProofs [bytes_beq, ht]
  refine ⟨fun g => ⟨fun g' => ?_, fun g' => GC.eq ?_⟩, fun g => GC.eq ?_⟩
  · refine callsTo Tryz.cal68 (trim_c s ⟨#[98, 102]⟩ hs (by decide) (by decide) _) ?_
    simp -dsimp -implicitDefEqProofs [bytes_beq, ht]
    refine GC.eq ?_
    have h1 : 1 ≤ s.size := by simp at g; omega
    have h2 : s.size ≤ 8 := by simp at g'; omega
    simp [bendsB, wordB, h1, h2]
  · have h2 : ¬ s.size ≤ 8 := by simp at g'; omega
    simp [bendsB, wordB, h2]
  · have h1 : ¬ 1 ≤ s.size := by simp at g; omega
    simp [bendsB, wordB, h1]
theorem l06Ok_c (s : ByteArray) (hs : s.size ≤ maxLen) (m : Mem) : ACalls Tryz.prog 66 [.string s] m (.bool (strokeB s)) m := by
  have hmx : s.size ≤ 9223372036854775807 := hs
  refine acalls_of_vc Tryz.func66 rfl Tryz.fol (by kernel_rfl) ?_
  simp only [Tryz.f66]
  simp -dsimp -implicitDefEqProofs
  refine loopN s.size (fun k σ m' => m' = m ∧ (σ 0 = some (.string s) ∧ σ 3 = some (.int .i64 k)) ∧ (List.range k).all (fun i => ([70, 66] : List UInt8).contains (s.data.toList.getD i 0)) = true) ⟨rfl, by simp, by simp⟩ ?_
  rintro k σ m' hk ⟨rfl, ⟨s0, s3⟩, hok⟩
  by_cases hlt : k < s.size
  · obtain ⟨c, hb⟩ : ∃ c, s.data[k]'hlt = c := ⟨_, rfl⟩
    have hD := (byteC hlt).trans hb
    have hw : IntKind.i64.wrap ((k : Int) + 1) = k + 1 := wrapI (by omega) (by omega)
    have hnext : ([70, 66] : List UInt8).contains c = true → (List.range (k + 1)).all (fun i => ([70, 66] : List UInt8).contains (s.data.toList.getD i 0)) = true := fun h => allTo_succ hok (by rw [hD]; exact h)
    have hstop : ([70, 66] : List UInt8).contains c = false → strokeB s = false := fun h => by
      have : allIn [70, 66] s = false := by
        unfold allIn
        rw [List.all_eq_false]
        refine ⟨c, ?_, by simpa using h⟩
        rw [← hb]
        exact Array.getElem_mem_toList _
      simp [strokeB, wordB, this]
    have e1 : ((c.toNat : Int) != 70) = (c != 70) := by
      by_cases h : c = 70
      · subst h; rfl
      · have h' : c.toNat ≠ 70 := fun e => h (UInt8.toNat_inj.1 e)
        rw [show (c != 70) = true by simpa using h]
        simp; omega
    have e2 : ((c.toNat : Int) != 66) = (c != 66) := by
      by_cases h : c = 66
      · subst h; rfl
      · have h' : c.toNat ≠ 66 := fun e => h (UInt8.toNat_inj.1 e)
        rw [show (c != 66) = true by simpa using h]
        simp; omega
    simp -dsimp -implicitDefEqProofs [s0, s3, hlt, hb, hw, e1, e2]
    by_cases ha : c = 70
    · simp -dsimp -implicitDefEqProofs [s0, s3, hlt, hb, hw, e1, e2, ha]
      exact next_ hlt ⟨rfl, by simp [s0, hw], hnext (by simp [ha])⟩
    · have ha' : (c != 70) = true := by simpa using ha
      by_cases hb2 : c = 66
      · simp -dsimp -implicitDefEqProofs [s0, s3, hlt, hb, hw, e1, e2, ha', hb2]
        exact next_ hlt ⟨rfl, by simp [s0, hw], hnext (by simp [hb2])⟩
      · have hb2' : (c != 66) = true := by simpa using hb2
        simp -dsimp -implicitDefEqProofs [s0, s3, hlt, hb, hw, e1, e2, ha', hb2']
        exact GC.eq (by rw [hstop (by simp [ha, hb2])])
  · obtain rfl : k = s.size := by omega
    simp -dsimp -implicitDefEqProofs [s0, s3, hlt]
    refine callsTo Tryz.cal36 (l00In_c _ _ _ _) ?_
    simp -dsimp -implicitDefEqProofs [s0, s3, hlt]
    refine GC.eq ?_
    have : allIn [70, 66] s = true := by
      unfold allIn
      rw [List.all_eq_true]
      intro x hx
      obtain ⟨i, hi, rfl⟩ := List.getElem_of_mem hx
      have := List.all_eq_true.1 hok i (by simpa [bytes_size] using hi)
      rwa [List.getD_eq_getElem?_getD, List.getElem?_eq_getElem hi] at this
    have hl := lenB s.size 12
    simp only [strokeB, wordB, this, Bool.and_true]
    rw [← hl]
    rfl
theorem l11Ok_c (s : ByteArray) (hs : s.size ≤ maxLen) (m : Mem) : ACalls Tryz.prog 62 [.string s] m (.bool (bendsB s)) m := by
  have hmx : s.size ≤ 9223372036854775807 := hs
  refine acalls_of_vc Tryz.func62 rfl Tryz.fol (by kernel_rfl) ?_
  simp only [Tryz.f62]
  simp -dsimp -implicitDefEqProofs
  refine loopN s.size (fun k σ m' => m' = m ∧ (σ 0 = some (.string s) ∧ σ 3 = some (.int .i64 k)) ∧ (List.range k).all (fun i => ([98, 102] : List UInt8).contains (s.data.toList.getD i 0)) = true) ⟨rfl, by simp, by simp⟩ ?_
  rintro k σ m' hk ⟨rfl, ⟨s0, s3⟩, hok⟩
  by_cases hlt : k < s.size
  · obtain ⟨c, hb⟩ : ∃ c, s.data[k]'hlt = c := ⟨_, rfl⟩
    have hD := (byteC hlt).trans hb
    have hw : IntKind.i64.wrap ((k : Int) + 1) = k + 1 := wrapI (by omega) (by omega)
    have hnext : ([98, 102] : List UInt8).contains c = true → (List.range (k + 1)).all (fun i => ([98, 102] : List UInt8).contains (s.data.toList.getD i 0)) = true := fun h => allTo_succ hok (by rw [hD]; exact h)
    have hstop : ([98, 102] : List UInt8).contains c = false → bendsB s = false := fun h => by
      have : allIn [98, 102] s = false := by
        unfold allIn
        rw [List.all_eq_false]
        refine ⟨c, ?_, by simpa using h⟩
        rw [← hb]
        exact Array.getElem_mem_toList _
      simp [bendsB, wordB, this]
    have e1 : ((c.toNat : Int) != 98) = (c != 98) := by
      by_cases h : c = 98
      · subst h; rfl
      · have h' : c.toNat ≠ 98 := fun e => h (UInt8.toNat_inj.1 e)
        rw [show (c != 98) = true by simpa using h]
        simp; omega
    have e2 : ((c.toNat : Int) != 102) = (c != 102) := by
      by_cases h : c = 102
      · subst h; rfl
      · have h' : c.toNat ≠ 102 := fun e => h (UInt8.toNat_inj.1 e)
        rw [show (c != 102) = true by simpa using h]
        simp; omega
    simp -dsimp -implicitDefEqProofs [s0, s3, hlt, hb, hw, e1, e2]
    by_cases ha : c = 98
    · simp -dsimp -implicitDefEqProofs [s0, s3, hlt, hb, hw, e1, e2, ha]
      exact next_ hlt ⟨rfl, by simp [s0, hw], hnext (by simp [ha])⟩
    · have ha' : (c != 98) = true := by simpa using ha
      by_cases hb2 : c = 102
      · simp -dsimp -implicitDefEqProofs [s0, s3, hlt, hb, hw, e1, e2, ha', hb2]
        exact next_ hlt ⟨rfl, by simp [s0, hw], hnext (by simp [hb2])⟩
      · have hb2' : (c != 102) = true := by simpa using hb2
        simp -dsimp -implicitDefEqProofs [s0, s3, hlt, hb, hw, e1, e2, ha', hb2']
        exact GC.eq (by rw [hstop (by simp [ha, hb2])])
  · obtain rfl : k = s.size := by omega
    simp -dsimp -implicitDefEqProofs [s0, s3, hlt]
    refine callsTo Tryz.cal36 (l00In_c _ _ _ _) ?_
    simp -dsimp -implicitDefEqProofs [s0, s3, hlt]
    refine GC.eq ?_
    have : allIn [98, 102] s = true := by
      unfold allIn
      rw [List.all_eq_true]
      intro x hx
      obtain ⟨i, hi, rfl⟩ := List.getElem_of_mem hx
      have := List.all_eq_true.1 hok i (by simpa [bytes_size] using hi)
      rwa [List.getD_eq_getElem?_getD, List.getElem?_eq_getElem hi] at this
    have hl := lenB s.size 8
    simp only [bendsB, wordB, this, Bool.and_true]
    rw [← hl]
    rfl
theorem bkStakesS_c (n : Int) (m : Mem) : ACalls Tryz.prog 65 [.int .i64 n] m (.bool (inB n 3 60)) m := by
  refine acalls_of_vc Tryz.func65 rfl Tryz.fol (by kernel_rfl) ?_
  simp only [Tryz.f65]
  simp -dsimp -implicitDefEqProofs
  refine callsTo Tryz.cal36 (l00In_c _ _ _ _) ?_
  simp -dsimp -implicitDefEqProofs
  exact GC.refl _ _ _
theorem bkStakesI_c (n : Int) (m : Mem) : ACalls Tryz.prog 54 [.int .i64 n] m (.bool (inB n 3 60)) m := by
  refine acalls_of_vc Tryz.func54 rfl Tryz.fol (by kernel_rfl) ?_
  simp only [Tryz.f54]
  simp -dsimp -implicitDefEqProofs
  refine callsTo Tryz.cal35 (within_c _ _ _ _) ?_
  simp -dsimp -implicitDefEqProofs
  exact GC.refl _ _ _
theorem l11Stakes_c (s : ByteArray) (n : Int) (hs : s.size ≤ 1000000) (m : Mem) : ACalls Tryz.prog 63 [.string s, .int .i64 n] m (.bool (inB n (s.size + 2) 40)) m := by
  refine acalls_of_vc Tryz.func63 rfl Tryz.fol (by kernel_rfl) ?_
  simp only [Tryz.f63]
  simp -dsimp -implicitDefEqProofs
  rw [wrapI (by omega) (by omega)]
  refine callsTo Tryz.cal36 (l00In_c _ _ _ _) ?_
  simp -dsimp -implicitDefEqProofs
  exact GC.refl _ _ _
theorem bendCode_c (s : ByteArray) (n : Int) (hs : s.size ≤ maxLen) (hn : 3 ≤ n ∧ n ≤ 60) (m : Mem) : ACalls Tryz.prog 57 [.string s, .int .i64 n, .int .i64 0] m (.int .i64 (if bendsB s then (if inB n (s.size + 2) 40 then 0 else 2) else 7)) m := by
  refine acalls_of_vc Tryz.func57 rfl Tryz.fol (by kernel_rfl) ?_
  simp only [Tryz.f57]
  simp -dsimp -implicitDefEqProofs
  refine callsTo Tryz.cal56 (validBends_c s hs _) ?_
  simp -dsimp -implicitDefEqProofs
  refine sp2 (fun g => GC.eq (by have : bendsB s = false := by simpa using g
                                 simp [this])) (fun g => ?_)
  have g' : bendsB s = true := by simpa using g
  have h8 : s.size ≤ 8 := by simp [bendsB, wordB] at g'; omega
  rw [wrapI (by omega) (by omega)]
  refine callsTo Tryz.cal35 (within_c _ _ _ _) ?_
  simp -dsimp -implicitDefEqProofs
  refine sp2 (fun g2 => GC.eq (by have : inB n (s.size + 2) 40 = false := by simpa using g2
                                  simp [g', this])) (fun g2 => ?_)
  have g2' : inB n (s.size + 2) 40 = true := by simpa using g2
  rw [wrapI (by omega) (by omega)]
  have h0 : inB 0 0 (n - 1) = true := by simp [inB]; omega
  refine callsTo Tryz.cal35 (within_c _ _ _ _) ?_
  simp -dsimp -implicitDefEqProofs [h0]
  exact GC.eq (by simp [g', g2'])
end Go.Proofs.YtmbijgnmbapchaaGreatDoor
