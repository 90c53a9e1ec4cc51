/-
  Jobs, part 9: drawn jobs and skills. Conditions: none.
-/
import Derived.Test.YtaggfcnaedadaaaJobH
import Derived.Test.YtaggfcnaedadaaaDraw
set_option linter.unusedSimpArgs false
set_option linter.unusedVariables false
set_option linter.unusedSectionVars false
namespace Go.Proofs.Ytaggfcnaedadaaa
open Go.Abs Go.RowKit

theorem a2Long_c (a b : Option Addr) (n k : Nat) (m : Mem) : ACalls Try.prog 40 [.slice a n n, .slice b k k] m (.bool (decide ((3000 : Int) < n) || decide ((3000 : Int) < k))) m := by
  refine acalls_of_vc Try.func40 rfl Try.fol (by kernel_rfl) ?_
  simp only [Try.f40]
  simp -dsimp -implicitDefEqProofs
  refine sp2 (fun g => GC.eq (by simp at g; simp [g])) (fun g => GC.eq (by simp at g; simp; omega))
/-- An object of rows. -/
def RowsAt (m : Mem) (id sz : Nat) (t : TypeId) (cells : List Value) : Prop := ∃ o : AObj, m[id]? = some o ∧ 1 ≤ o.kind ∧ o.kind ≤ 2 ∧ o.sz = sz ∧ o.elem = t ∧ o.cells = cells
def SmallJ (js : List I2) (ss : List Int) : Prop := (∀ p ∈ js, (1 ≤ p.1 ∧ p.1 ≤ 12) ∧ 0 ≤ p.2 ∧ p.2 ≤ 3) ∧ js.length ≤ 6 ∧ (∀ s ∈ ss, 0 ≤ s ∧ s ≤ 4) ∧ 1 ≤ ss.length ∧ ss.length ≤ 3
def DrawnJ (m : Mem) (v : Value) (m' : Mem) : Prop :=
  ∃ js ss i1 i2, SmallJ js ss ∧ v = .tuple #[.slice (some ⟨i1, 0, none⟩) js.length js.length, .slice (some ⟨i2, 0, none⟩) ss.length ss.length] ∧ m <+: m' ∧ m.length ≤ i1 ∧ m.length ≤ i2 ∧ i1 ≠ i2 ∧ RowsAt m' i1 2 51 (js.map v2).flatten ∧ RowsAt m' i2 1 2 (ss.map (Value.int .i64))
theorem SmallJ.ok {js : List I2} {ss : List Int} (h : SmallJ js ss) : jobsB js ss = true := by
  obtain ⟨h1, h2, h3, h4, h5⟩ := h
  simp only [jobsB, Bool.and_eq_true, decide_eq_true_eq, List.all_eq_true]
  refine ⟨⟨⟨fun p hp => ?_, fun s hs => ?_⟩, by omega⟩, ?_⟩
  · have := h1 p hp
    simp [jobB, inB]; omega
  · have := h3 s hs
    simp [inB]; omega
  · simp [inB]; omega
def DrawnJ' (is : Nat) (m : Mem) (v : Value) (m' : Mem) : Prop :=
  ∃ js ss i1 i2, SmallJ js ss ∧ v = .tuple #[.slice (some ⟨i1, 0, none⟩) js.length js.length, .slice (some ⟨i2, 0, none⟩) ss.length ss.length] ∧ But is m m' ∧ m.length ≤ i1 ∧ m.length ≤ i2 ∧ i1 ≠ i2 ∧ RowsAt m' i1 2 51 (js.map v2).flatten ∧ RowsAt m' i2 1 2 (ss.map (Value.int .i64))
theorem l20Draw_c (is : Nat) (a : Option Addr) (code : List Int) (k : Int) (hk : k < 800000000) (m : Mem) (h : SrcA is a code k m) :
    ∃ v m', ACalls Try.prog 68 [.pointer (some ⟨is, 0, none⟩)] m v m' ∧ DrawnJ' is m v m' := by
  obtain ⟨v1, m1, hc1, x1, rfl, hx1, hb1, hs1, hl1⟩ := pick_c is a code k 4 (by omega) (m ++ [⟨[], 51, 2, 1⟩]) (h.app _)
  obtain ⟨v2', m2, hc2, x2, rfl, hx2, hb2, hs2, hl2⟩ := pick_c is a code (k + 2) 7 (by omega) m1 hs1
  simp at hx1 hx2
  have hw1 : IntKind.i64.wrap (1 + x1) = 1 + x1 := wrapI (by omega) (by omega)
  have his : is < m.length := lt_of_get h.obj.choose_spec.choose_spec.1
  refine ecalls_of_vc Try.func68 rfl Try.fol (by kernel_rfl) ?_
  simp only [Try.f68]
  simp -dsimp -implicitDefEqProofs
  refine callsTo Try.cal73 hc1 ?_
  simp -dsimp -implicitDefEqProofs [hw1]
  refine callsTo Try.cal73 hc2 ?_
  simp -dsimp -implicitDefEqProofs [hw1]
  have hid1 : m2[m.length]? = some ⟨[], 51, 2, 1⟩ := hb2.get _ _ (by omega) (hb1.get _ _ (by omega) (by simp))
  refine loopN x2.toNat (fun j σ m' => ∃ (js : List I2) (id : Nat) (o : AObj), (js.length = j ∧ (∀ p ∈ js, (1 ≤ p.1 ∧ p.1 ≤ 12) ∧ 0 ≤ p.2 ∧ p.2 ≤ 3)) ∧ (But is m m' ∧ SrcA is a code (k + 4 + 4 * j) m' ∧ m.length ≤ id) ∧
      (m'[id]? = some o ∧ 1 ≤ o.kind ∧ o.kind ≤ 2 ∧ o.sz = 2 ∧ o.elem = 51 ∧ o.cells = (js.map v2).flatten) ∧ σ 0 = some (.pointer (some ⟨is, 0, none⟩)) ∧ σ 4 = some (.slice (some ⟨id, 0, none⟩) j j) ∧ σ 5 = some (.int .i64 (1 + x1)) ∧ σ 6 = some (.int .i64 (x2 - j)))
    ⟨[], m.length, _, ⟨rfl, by simp⟩, ⟨((But.app is m _).trans hb1).trans hb2, hs2.mono (by omega), Nat.le_refl _⟩, ⟨hid1, by simp, by simp, rfl, rfl, rfl⟩, by simp, by simp, by simp [hw1], by simp⟩ ?_
  rintro j σ m' hj ⟨js, id, o, ⟨rfl, hjs⟩, ⟨hbut, hsrc, hid⟩, ⟨ho, ho1, ho2, ho3, ho4, ho5⟩, s0, s4, s5, s6⟩
  by_cases hlt : js.length < x2.toNat
  · have g1 : (js.length : Int) < x2 := by omega
    have hne : id ≠ is := by omega
    have hmade : madeCells #[.int .i64 0, .int .i64 0] 2 = #[.int .i64 0, .int .i64 0] := by
      have := made_rows #[.int .i64 0, .int .i64 0] 1 (by simp)
      exact Array.toList_inj.1 (by simpa using this)
    simp -dsimp -implicitDefEqProofs [s0, s4, s5, s6, g1, hmade]
    obtain ⟨v3, m3, hc3, x3, rfl, hx3, hb3, hs3, hl3⟩ := pick_c is a code (k + 4 + 4 * js.length) 12 (by omega) m' hsrc
    simp at hx3
    have hw3 : IntKind.i64.wrap (1 + x3) = 1 + x3 := wrapI (by omega) (by omega)
    refine callsTo Try.cal73 hc3 ?_
    simp -dsimp -implicitDefEqProofs [s0, s4, s5, s6, g1, hmade, hw3]
    obtain ⟨v5, m5, hc5, x5, rfl, hx5, hb5, hs5, hl5⟩ := pick_c is a code (k + 4 + 4 * js.length + 2) (1 + x1) (by omega) (m3 ++ [(⟨[.int .i64 (1 + x3), .int .i64 0], 51, 2, 1⟩ : AObj)]) (hs3.app _)
    have hx5' : 0 ≤ x5 ∧ x5 ≤ 3 := by
      split at hx5 <;> omega
    have l3 : m.length ≤ m3.length := by have := hb3.len; have := hbut.len; omega
    have hbx := hb5.get _ _ (show m3.length ≠ is by omega) (show (m3 ++ [(⟨[.int .i64 (1 + x3), .int .i64 0], 51, 2, 1⟩ : AObj)])[m3.length]? = some ⟨[.int .i64 (1 + x3), .int .i64 0], 51, 2, 1⟩ by simp)
    have hset := fun x => get_set hbx x
    have hw6 : IntKind.i64.wrap (x2 - (js.length : Int) - 1) = x2 - ((js.length : Int) + 1) := by rw [wrapI (by omega) (by omega)]; omega
    refine callsTo Try.cal73 hc5 ?_
    simp -dsimp -implicitDefEqProofs [s0, s4, s5, s6, g1, hmade, hw3, withO_of hbx, fun x => withO_of (hset x), hw6]
    have hidl := lt_of_get ho
    have l3' := hb3.len
    have l5 : m3.length + 1 ≤ m5.length := by have := hb5.len; simp at this; omega
    obtain ⟨mS, hmS⟩ : ∃ mS, mS = m5.set m3.length ⟨[.int .i64 (1 + x3), .int .i64 x5], 51, 2, 1⟩ := ⟨_, rfl⟩
    rw [← hmS]
    have lS : mS.length = m5.length := by rw [hmS]; simp
    have hbS : But m3.length m5 mS := by rw [hmS]; exact But.set _ _
    have hsS := hs5.keep hbS (by omega) (fun h0 x hx => by have := hs5.off h0 x hx; omega)
    have hoS := hbS.get _ _ (show id ≠ m3.length by omega) (hb5.get _ _ hne (get_old (hb3.get _ _ hne ho)))
    have hbut' : But is m mS := ⟨by omega, fun i o' h1 h2 => hbS.get _ _ (by have := lt_of_get h2; omega) (hb5.get _ _ h1 (get_old (hb3.get _ _ h1 (hbut.get _ _ h1 h2))))⟩
    refine appTo_grow (e := 51) (sz := 2) (by_ := 16) (z := .agg #[.int .i64 0, .int .i64 0]) (by kernel_rfl) (by kernel_rfl) ⟨by decide, rfl⟩ (o := o) (get_old hoS) ⟨ho1, ho2⟩ ⟨ho3, ho4⟩ (by rw [ho5, flatten_length (sz := 2) (by intro r hr; obtain ⟨x, _, rfl⟩ := List.mem_map.1 hr; rfl), List.length_map]) (by omega) (Src.obj (o := ⟨[.int .i64 (1 + x3), .int .i64 x5], 51, 2, 1⟩) (by simp [lS]) (by simp) rfl rfl) ?_
    intro m4 id4 hg
    have hb4 : But id (mS ++ [⟨[.int .i64 (1 + x3), .int .i64 x5], 51, 2, 1⟩]) m4 := ⟨by have := hg.len; omega, fun i o' h1 h2 => hg.old i o' h1 h2⟩
    have hs4 := (hsS.app [(⟨[.int .i64 (1 + x3), .int .i64 x5], 51, 2, 1⟩ : AObj)]).keep hb4 (Ne.symm hne) (fun h0 x hx => by have := hs3.off h0 x hx; omega)
    simp -dsimp -implicitDefEqProofs [s0, s4, s5, s6, g1, hmade, hw3, withO_of hbx, fun x => withO_of (hset x), hw6]
    refine next_ hlt ⟨js ++ [(1 + x3, x5)], id4, _, ⟨by simp, fun p hp => ?_⟩, ⟨⟨by have := hg.len; have := hbut'.len; simp at *; omega, fun i o' h1 h2 => hg.old i o' (by have := lt_of_get h2; omega) (get_old (hbut'.get i o' h1 h2))⟩, hs4.mono (by simp; omega), by rw [hg.at_]; simp; omega⟩,
      ⟨hg.new, by simp, by simp, rfl, rfl, by simp [ho5, v2]⟩, by simp [s0], by simp, by simp [s5], by simp [hw6]⟩
    rcases List.mem_append.1 hp with hp | hp
    · exact hjs p hp
    · simp at hp; subst hp; simp; omega
  · have g1 : ¬ (js.length : Int) < x2 := by omega
    simp -dsimp -implicitDefEqProofs [s0, s4, s5, s6, g1]
    obtain ⟨v6, m6, hc6, x6, rfl, hx6, hb6, hs6, hl6⟩ := pick_c is a code (k + 4 + 4 * js.length) 3 (by omega) (m' ++ [(⟨[], 2, 1, 1⟩ : AObj)]) (hsrc.app _)
    simp at hx6
    have hw7 : IntKind.i64.wrap (1 + x6) = 1 + x6 := wrapI (by omega) (by omega)
    refine callsTo Try.cal73 hc6 ?_
    simp -dsimp -implicitDefEqProofs [s0, s4, s5, s6, g1, hw7]
    have hidl := lt_of_get ho
    have hml := hbut.len
    have hid6 : m6[m'.length]? = some ⟨[], 2, 1, 1⟩ := hb6.get _ _ (by omega) (by simp)
    have hjl : js.length ≤ 6 := by omega
    refine loopN (1 + x6).toNat (fun j σ m'' => ∃ (ss : List Int) (id2 : Nat) (o2 : AObj), (ss.length = j ∧ (∀ p ∈ ss, 0 ≤ p ∧ p ≤ 4)) ∧ (But is m m'' ∧ SrcA is a code (k + 4 + 4 * js.length + 2 + 2 * j) m'' ∧ m'.length ≤ id2 ∧ m''[id]? = some o) ∧
        (m''[id2]? = some o2 ∧ 1 ≤ o2.kind ∧ o2.kind ≤ 2 ∧ o2.sz = 1 ∧ o2.elem = 2 ∧ o2.cells = ss.map (Value.int .i64)) ∧ σ 0 = some (.pointer (some ⟨is, 0, none⟩)) ∧ σ 4 = some (.slice (some ⟨id, 0, none⟩) js.length js.length) ∧ σ 5 = some (.int .i64 (1 + x1)) ∧ σ 8 = some (.slice (some ⟨id2, 0, none⟩) j j) ∧ σ 9 = some (.int .i64 (1 + x6 - j)))
      ⟨[], m'.length, _, ⟨rfl, by simp⟩, ⟨(hbut.trans (But.app is _ _)).trans hb6, hs6.mono (by omega), Nat.le_refl _, hb6.get _ _ (by omega) (get_old ho)⟩, ⟨hid6, by simp, by simp, rfl, rfl, rfl⟩, by simp [s0], by simp [s4], by simp [s5], by simp, by simp [hw7]⟩ ?_
    clear hsrc hid6 hs6 s0 s4 s5 s6
    rintro j σ m'' hj ⟨ss, id2, o2, ⟨rfl, hss⟩, ⟨hbut2, hsrc, hid2, hjo⟩, ⟨hp, hp1, hp2, hp3, hp4, hp5⟩, s0, s4, s5, s8, s9⟩
    by_cases hlt2 : ss.length < (1 + x6).toNat
    · have g2 : (ss.length : Int) < 1 + x6 := by omega
      have hne2 : id2 ≠ is := by omega
      have hw8 : IntKind.i64.wrap (1 + x1 + 1) = 2 + x1 := by rw [wrapI (by omega) (by omega)]; omega
      have hw9 : IntKind.i64.wrap (1 + x6 - (ss.length : Int) - 1) = 1 + x6 - ((ss.length : Int) + 1) := by rw [wrapI (by omega) (by omega)]; omega
      obtain ⟨v7, m7, hc7, x7, rfl, hx7, hb7, hs7, hl7⟩ := pick_c is a code (k + 4 + 4 * js.length + 2 + 2 * ss.length) (2 + x1) (by omega) m'' hsrc
      have hx7' : 0 ≤ x7 ∧ x7 ≤ 4 := by
        split at hx7 <;> omega
      simp -dsimp -implicitDefEqProofs [s0, s4, s5, s8, s9, g2, hw8, hw9]
      refine callsTo Try.cal73 hc7 ?_
      simp -dsimp -implicitDefEqProofs [s0, s4, s5, s8, s9, g2, hw8, hw9]
      have hp' := hb7.get _ _ hne2 hp
      have hjo' := hb7.get _ _ (show id ≠ is by omega) hjo
      have hidl2 := lt_of_get hp
      refine appTo_grow (e := 2) (sz := 1) (by_ := 8) (z := .int .i64 0) (by kernel_rfl) (by kernel_rfl) ⟨by decide, rfl⟩ (o := o2) (get_old hp') ⟨hp1, hp2⟩ ⟨hp3, hp4⟩ (by rw [hp5]; simp) (by omega) (Src.obj (o := ⟨[.int .i64 x7], 2, 1, 1⟩) (by simp) (by simp) rfl rfl) ?_
      intro m4 id4 hg
      have hb4 : But id2 (m7 ++ [⟨[.int .i64 x7], 2, 1, 1⟩]) m4 := ⟨by have := hg.len; omega, fun i o' h1 h2 => hg.old i o' h1 h2⟩
      have hs4 := (hs7.app [(⟨[.int .i64 x7], 2, 1, 1⟩ : AObj)]).keep hb4 (Ne.symm hne2) (fun h0 x hx => by have := hs7.off h0 x hx; omega)
      have hbb := hbut2.trans hb7
      simp -dsimp -implicitDefEqProofs [s0, s4, s5, s8, s9, g2, hw8, hw9]
      refine next_ hlt2 ⟨ss ++ [x7], id4, _, ⟨by simp, fun p hp => ?_⟩, ⟨⟨by have := hg.len; have := hbb.len; simp at *; omega, fun i o' h1 h2 => hg.old i o' (by have := lt_of_get h2; omega) (get_old (hbb.get i o' h1 h2))⟩, hs4.mono (by simp; omega), by rw [hg.at_]; simp; have := hb7.len; omega, hg.old _ _ (by omega) (get_old hjo')⟩,
        ⟨hg.new, by simp, by simp, rfl, rfl, by simp [hp5]⟩, by simp [s0], by simp [s4], by simp [s5], by simp, by simp [hw9]⟩
      rcases List.mem_append.1 hp with hp | hp
      · exact hss p hp
      · simp at hp; subst hp; exact hx7'
    · have g2 : ¬ (ss.length : Int) < 1 + x6 := by omega
      simp -dsimp -implicitDefEqProofs [s0, s4, s5, s8, s9, g2]
      exact ⟨_, _, GC.refl _ _ _, js, ss, id, id2, ⟨hjs, hjl, hss, by omega, by omega⟩, rfl, hbut2, hid, by omega, by omega, ⟨o, hjo, ho1, ho2, ho3, ho4, ho5⟩, o2, hp, hp1, hp2, hp3, hp4, hp5⟩
theorem a2Jobs_c (a : Option Addr) (code : List Int) (m : Mem) (h : RdB m a code) (hl : code.length ≤ 1048576) :
    ∃ v m', ACalls Try.prog 41 [.slice a code.length code.length] m v m' ∧ DrawnJ m v m' := by
  obtain ⟨v, m', hc, js, ss, i1, i2, hsm, rfl, hbut, h1, h2, h3, h4, h5⟩ := l20Draw_c m.length a code 0 (by omega) _ (srcNew h hl)
  refine ecalls_of_vc Try.func41 rfl Try.fol (by kernel_rfl) ?_
  simp only [Try.f41]
  simp -dsimp -implicitDefEqProofs
  refine callsTo Try.cal69 (l00From_c a code m) ?_
  simp -dsimp -implicitDefEqProofs
  refine callsTo Try.cal68 hc ?_
  simp -dsimp -implicitDefEqProofs
  simp at h1 h2
  exact ⟨_, _, GC.refl _ _ _, js, ss, i1, i2, hsm, rfl, hbut.pre ⟨_, rfl⟩ (Nat.le_refl _), by omega, by omega, h3, h4, h5⟩
theorem a2Has_c (xs : List Int) (a : Option Addr) (n : Int) (m : Mem) (hr : RdI m a xs) (hn : xs.length ≤ 1048576) : ACalls Try.prog 43 [.slice a xs.length xs.length, .int .i64 n] m (.bool (xs.contains n)) m := by
  refine acalls_of_vc Try.func43 rfl Try.fol (by kernel_rfl) ?_
  simp only [Try.f43]
  simp -dsimp -implicitDefEqProofs
  refine loopN xs.length (fun k σ m' => m' = m ∧ (σ 0 = some (.slice a xs.length xs.length) ∧ σ 1 = some (.int .i64 n) ∧ σ 5 = some (.int .i64 k)) ∧ n ∉ xs.take k) ⟨rfl, by simp, by simp⟩ ?_
  rintro k σ m' hk ⟨rfl, ⟨s0, s1, s5⟩, hok⟩
  by_cases hlt : k < xs.length
  · obtain ⟨id, off, o, rfl, hm, hkd, hsz, hc⟩ := hr.at_ hlt
    have hw : IntKind.i64.wrap ((k : Int) + 1) = k + 1 := wrapI (by omega) (by omega)
    simp -dsimp -implicitDefEqProofs [s0, s1, s5, hlt, withO_of hm, hkd, hsz, withC_of hc, hw]
    refine sp2 (fun g => GC.eq ?_) (fun g => ?_)
    · simp at g
      subst g
      simp
    · simp at g
      refine next_ hlt ⟨rfl, by simp [s0, s1, hw], ?_⟩
      rw [List.take_add_one, List.getElem?_eq_getElem hlt]
      intro h
      rcases List.mem_append.1 h with h | h
      · exact hok h
      · simp at h; exact g h.symm
  · simp -dsimp -implicitDefEqProofs [s0, s1, s5, hlt]
    rw [List.take_of_length_le (by omega)] at hok
    exact GC.eq (by simp [hok])
def risesA (xs : List Int) (n : Int) (k : Nat) : Bool := decide (0 ≤ xs.getD k 0 ∧ xs.getD k 0 < n ∧ (0 < k → xs.getD (k - 1) 0 < xs.getD k 0))
theorem a2Rises_c (xs : List Int) (a : Option Addr) (n : Int) (m : Mem) (hr : RdI m a xs) (hn : xs.length ≤ 1048576) (hall : ∀ k, k < xs.length → risesA xs n k = true) : ACalls Try.prog 42 [.slice a xs.length xs.length, .int .i64 n] m (.bool true) m := by
  refine acalls_of_vc Try.func42 rfl Try.fol (by kernel_rfl) ?_
  simp only [Try.f42]
  simp -dsimp -implicitDefEqProofs
  refine loopN xs.length (fun k σ m' => m' = m ∧ (σ 0 = some (.slice a xs.length xs.length) ∧ σ 1 = some (.int .i64 n) ∧ σ 5 = some (.int .i64 k))) ⟨rfl, by simp, by simp⟩ ?_
  rintro k σ m' hk ⟨rfl, s0, s1, s5⟩
  by_cases hlt : k < xs.length
  · obtain ⟨id, off, o, rfl, hm, hkd, hsz, hc⟩ := hr.at_ hlt
    have hw : IntKind.i64.wrap ((k : Int) + 1) = k + 1 := wrapI (by omega) (by omega)
    have hA := hall k hlt
    simp only [risesA, decide_eq_true_eq, List.getD_eq_getElem?_getD, List.getElem?_eq_getElem hlt, Option.getD_some] at hA
    obtain ⟨hA1, hA2, hA3⟩ := hA
    have n1 : ¬ xs[k] < 0 := by omega
    have n2 : ¬ n ≤ xs[k] := by omega
    cases k with
    | zero =>
      simp only [Nat.add_zero] at hc
      simp -dsimp -implicitDefEqProofs [s0, s1, s5, hlt, withO_of hm, hkd, hsz, withC_of hc, hw, n1, n2]
      exact next_ hlt ⟨rfl, by simp [s0, s1]; rfl⟩
    | succ j =>
      obtain ⟨id, off, o, he, hm2, hkd2, hsz2, hc2⟩ := hr.at_ (i := j) (by omega)
      injection he with he
      injection he with he1 he2
      subst he1 he2
      rw [hm] at hm2
      injection hm2 with hm2
      subst hm2
      have hlj : j < xs.length := by omega
      have hA4 := hA3 (by omega)
      simp only [Nat.add_sub_cancel, List.getElem?_eq_getElem hlj, Option.getD_some] at hA4
      have n3 : ¬ xs[j + 1] ≤ xs[j] := by omega
      have e1 : ((j : Int) + 1 < xs.length) := by omega
      have e2 : ((0 : Int) ≤ (j : Int) + 1) := by omega
      have e3 : ((j : Int) + 1).toNat = j + 1 := by omega
      have e4 : IntKind.i64.wrap ((j : Int) + 1 + 1) = j + 2 := by rw [show ((j : Int) + 1 + 1) = j + 2 by omega]; exact wrapI (by omega) (by omega)
      have e5 : IntKind.i64.wrap (j : Int) = j := wrapI (by omega) (by omega)
      have e6 : ((0 : Int) < (j : Int) + 1) := by omega
      simp -dsimp -implicitDefEqProofs [s0, s1, s5, hlt, hlj, withO_of hm, hkd, hsz, withC_of hc, withC_of hc2, n1, n2, n3, e1, e2, e3, e4, e5, e6]
      exact next_ hlt ⟨rfl, by simp [s0, s1, e4]; omega⟩
  · simp -dsimp -implicitDefEqProofs [s0, s1, s5, hlt]
    exact GC.refl _ _ _
end Go.Proofs.Ytaggfcnaedadaaa
