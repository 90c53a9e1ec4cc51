/-
  Kinds, part 9: drawn kinds and drawn rods. Conditions: none.
-/
import Derived.Test.YtlhcepcgjnlopaaKinH
import Derived.Test.YtlhcepcgjnlopaaKinD
import Derived.Test.YtlhcepcgjnlopaaDraw
set_option linter.unusedSimpArgs false
set_option linter.unusedVariables false
set_option linter.unusedSectionVars false
namespace Go.Proofs.Ytlhcepcgjnlopaa
open Go.Abs Go.RowKit Go.Law

theorem a2Long_c (a b : Option Addr) (n k : Nat) (m : Mem) : ACalls Try.prog 40 [.slice a n n, .slice b k k] m (.bool (decide ((3000 : Int) < n) || decide ((3000 : Int) < k))) m := by
  refine acalls_of_vc Try.func40 rfl Try.fol (by kernel_rfl) ?_
  simp only [Try.f40]
  simp -dsimp -implicitDefEqProofs
  refine sp2 (fun g => GC.eq (by simp at g; simp [g])) (fun g => GC.eq (by simp at g; simp; omega))
def ValIs (lo hi : Int) (m : Mem) (v : Value) (m' : Mem) : Prop := ∃ x, v = .int .i64 x ∧ (lo ≤ x ∧ x ≤ hi) ∧ m' = m
theorem a2At_c (a : Option Addr) (code : List Int) (i n : Int) (m : Mem) (h : RdB m a code) (hl : code.length ≤ 1048576) (hi : 0 ≤ i) (hn : 1 ≤ n) : ∃ v m', ACalls Try.prog 42 [.slice a code.length code.length, .int .i64 i, .int .i64 n] m v m' ∧ ValIs 0 (n - 1) m v m' := by
  by_cases hlt : i < (code.length : Int)
  · obtain ⟨p, rfl⟩ : ∃ p : Nat, i = p := ⟨i.toNat, by omega⟩
    obtain ⟨id, off, o, rfl, hm, hkd, hsz, hc, hb0, hb1⟩ := h.at_ (i := p) (by omega)
    have g1 : ¬ (code.length ≤ p) := by omega
    have g4 : p < code.length := by omega
    have g2 : ¬ (n < 1) := by omega
    have g3 : n ≠ 0 := by omega
    have hw : IntKind.i64.wrap code[p] = code[p] := wrapI (by omega) (by omega)
    refine ecalls_of_vc Try.func42 rfl Try.fol (by kernel_rfl) ?_
    simp only [Try.f42]
    simp -dsimp -implicitDefEqProofs
    simp -dsimp -implicitDefEqProofs [g1, g2, g3, g4, withO_of hm, hkd, hsz, withC_of hc, hw]
    refine ⟨.int .i64 (code[p].tmod n), m, GC.refl _ _ _, code[p].tmod n, rfl, ?_, rfl⟩
    rw [Int.tmod_eq_emod_of_nonneg hb0]
    exact ⟨Int.emod_nonneg _ g3, by have := Int.emod_lt_of_pos code[p] (show 0 < n by omega); omega⟩
  · have g1 : ((code.length : Int) ≤ i) := by omega
    refine ecalls_of_vc Try.func42 rfl Try.fol (by kernel_rfl) ?_
    simp only [Try.f42]
    simp -dsimp -implicitDefEqProofs
    simp -dsimp -implicitDefEqProofs [g1]
    refine ⟨.int .i64 0, m, GC.refl _ _ _, 0, rfl, ?_, rfl⟩
    omega

/-- Kinds as they are drawn: few, of small reach, each kind reaching farther than the one ahead. -/
def SmallK (ks : List I2) : Prop := kinB ks = true ∧ ks.length ≤ 3 ∧ ∀ k ∈ ks, k.1 ≤ 24 ∧ k.2 ≤ 7
def DrawnK (is : Nat) (a : Option Addr) (code : List Int) (k : Int) (m : Mem) (v : Value) (m' : Mem) : Prop :=
  ∃ ks id, SmallK ks ∧ v = .slice (some ⟨id, 0, none⟩) ks.length ks.length ∧ But is m m' ∧ SrcA is a code k m' ∧ m.length ≤ id ∧ ∃ o, m'[id]? = some o ∧ 1 ≤ o.kind ∧ o.kind ≤ 2 ∧ o.sz = 2 ∧ o.elem = 51 ∧ o.cells = (ks.map v2).flatten
theorem kinB_snoc {ks : List I2} {p : I2} (h : kinB ks = true) (h1 : 1 ≤ p.1 ∧ p.1 ≤ 200) (h2 : 0 ≤ p.2 ∧ p.2 ≤ 12) (hl : ks.length + 1 ≤ 4) (hlt : ∀ k ∈ ks, k.1 < p.1) : kinB (ks ++ [p]) = true := by
  simp only [kinB, Bool.and_eq_true, decide_eq_true_eq] at h ⊢
  refine ⟨?_, by simpa using hl⟩
  unfold kinTo at *
  rw [List.all_eq_true] at *
  intro i hi
  simp only [List.length_append, List.length_singleton, List.mem_range] at hi
  by_cases hik : i < ks.length
  · have h0 := h.1 i (by simpa using hik)
    have e1 : (ks ++ [p])[i]? = ks[i]? := List.getElem?_append_left hik
    have e2 : ∀ j, j < i → (ks ++ [p])[j]? = ks[j]? := fun j hj => List.getElem?_append_left (by omega)
    unfold kinAt at *
    rw [e1]
    cases i with
    | zero => exact h0
    | succ i => simp only [e2 i (by omega)] at *; exact h0
  · have e : i = ks.length := by omega
    subst e
    unfold kinAt
    rw [show (ks ++ [p])[ks.length]? = some p by simp]
    cases hk : ks.length with
    | zero => simp [inB]; omega
    | succ n =>
      have hn : n < ks.length := by omega
      have := hlt _ (List.getElem_mem hn)
      simp only [inB, Bool.and_eq_true, decide_eq_true_eq]
      rw [List.getElem?_append_left hn, List.getElem?_eq_getElem hn]
      simp; omega
theorem l18Draw_c (is : Nat) (a : Option Addr) (code : List Int) (k : Int) (hk : k < 800000000) (m : Mem) (h : SrcA is a code k m) :
    ∃ v m', ACalls Try.prog 65 [.pointer (some ⟨is, 0, none⟩)] m v m' ∧ DrawnK is a code (k + 100) m v m' := by
  obtain ⟨v1, m1, hc1, x1, rfl, hx1, hb1, hs1, hl1⟩ := pick_c is a code k 8 (by omega) (m ++ [⟨[], 51, 2, 1⟩]) (h.app _)
  obtain ⟨v2, m2, hc2, x2, rfl, hx2, hb2, hs2, hl2⟩ := pick_c is a code (k + 2) 4 (by omega) m1 hs1
  have hw1 : IntKind.i64.wrap (1 + x1) = 1 + x1 := wrapI (by omega) (by omega)
  have his : is < m.length := lt_of_get h.obj.choose_spec.choose_spec.1
  refine ecalls_of_vc Try.func65 rfl Try.fol (by kernel_rfl) ?_
  simp only [Try.f65]
  simp -dsimp -implicitDefEqProofs
  refine callsTo Try.cal67 hc1 ?_
  simp -dsimp -implicitDefEqProofs [hw1]
  refine callsTo Try.cal67 hc2 ?_
  simp -dsimp -implicitDefEqProofs [hw1]
  have hid1 : m2[m.length]? = some ⟨[], 51, 2, 1⟩ := hb2.get _ _ (by omega) (hb1.get _ _ (by omega) (by simp))
  refine loopN x2.toNat (fun j σ m' => ∃ (ks : List I2) (id : Nat) (reach : Int) (o : AObj), (ks.length = j ∧ kinB ks = true ∧ (∀ p ∈ ks, p.1 < reach ∧ p.1 ≤ 24 ∧ p.2 ≤ 7) ∧ 1 ≤ reach ∧ reach ≤ 8 + 8 * j) ∧ (But is m m' ∧ SrcA is a code (k + 4 + 4 * j) m' ∧ m.length ≤ id) ∧
      (m'[id]? = some o ∧ 1 ≤ o.kind ∧ o.kind ≤ 2 ∧ o.sz = 2 ∧ o.elem = 51 ∧ o.cells = (ks.map v2).flatten) ∧ σ 0 = some (.pointer (some ⟨is, 0, none⟩)) ∧ σ 3 = some (.slice (some ⟨id, 0, none⟩) j j) ∧ σ 4 = some (.int .i64 reach) ∧ σ 5 = some (.int .i64 (x2 - j)))
    ⟨[], m.length, 1 + x1, _, ⟨rfl, rfl, by simp, by omega, by omega⟩, ⟨((But.app is m _).trans hb1).trans hb2, hs2.mono (by omega), Nat.le_refl _⟩, ⟨hid1, by simp, by simp, rfl, rfl, rfl⟩, by simp, by simp, by simp, by simp⟩ ?_
  rintro j σ m' hj ⟨ks, id, reach, o, ⟨rfl, hks, hsm, hr1, hr2⟩, ⟨hbut, hsrc, hid⟩, ⟨ho, ho1, ho2, ho3, ho4, ho5⟩, s0, s3, s4, s5⟩
  simp at hx2
  by_cases hlt : ks.length < x2.toNat
  · have g1 : (ks.length : Int) < x2 := by omega
    have hne : id ≠ is := by omega
    obtain ⟨v3, m3, hc3, x3, rfl, hx3, hb3, hs3, hl3⟩ := pick_c is a code (k + 4 + 4 * ks.length) 8 (by omega) m' hsrc
    simp at hx3
    have hmade : madeCells #[.int .i64 0, .int .i64 0] 2 = #[.int .i64 0, .int .i64 0] := by
      have := made_rows #[.int .i64 0, .int .i64 0] 1 (by simp)
      exact Array.toList_inj.1 (by simpa using this)
    simp -dsimp -implicitDefEqProofs [s0, s3, s4, s5, g1, hmade]
    refine callsTo Try.cal67 hc3 ?_
    simp -dsimp -implicitDefEqProofs [s0, s3, s4, s5, g1, hmade]
    have ho' := hb3.get _ _ hne ho
    refine appTo_grow (e := 51) (sz := 2) (by_ := 16) (z := .agg #[.int .i64 0, .int .i64 0]) (by kernel_rfl) (by kernel_rfl) ⟨by decide, rfl⟩ (o := o) (get_old ho') ⟨ho1, ho2⟩ ⟨ho3, ho4⟩ (by rw [ho5, flatten_length (sz := 2) (by intro r hr; obtain ⟨x, _, rfl⟩ := List.mem_map.1 hr; rfl), List.length_map]) (by omega) (Src.obj (o := ⟨[.int .i64 reach, .int .i64 x3], 51, 2, 1⟩) (by simp) (by simp) rfl rfl) ?_
    intro m4 id4 hg
    have hs4 : SrcA is a code (k + 4 + 4 * ks.length + 2) m4 := by
      have hb4 : But id (m3 ++ [⟨[.int .i64 reach, .int .i64 x3], 51, 2, 1⟩]) m4 := ⟨by have := hg.len; omega, fun i o' h1 h2 => hg.old i o' h1 h2⟩
      exact (hs3.app _).keep hb4 (Ne.symm hne) (fun h0 x hx => by have := hs3.off h0 x hx; omega)
    obtain ⟨v5, m5, hc5, x5, rfl, hx5, hb5, hs5, hl5⟩ := pick_c is a code (k + 4 + 4 * ks.length + 2) 8 (by omega) m4 hs4
    simp at hx5
    simp -dsimp -implicitDefEqProofs [s0, s3, s4, s5, g1, hmade]
    have hwr : IntKind.i64.wrap (1 + x5) = 1 + x5 := wrapI (by omega) (by omega)
    have hwr2 : IntKind.i64.wrap (reach + (1 + x5)) = reach + (1 + x5) := wrapI (by omega) (by omega)
    have hw5 : IntKind.i64.wrap (x2 - (ks.length : Int) - 1) = x2 - ((ks.length : Int) + 1) := by rw [wrapI (by omega) (by omega)]; omega
    refine callsTo Try.cal67 hc5 ?_
    simp -dsimp -implicitDefEqProofs [s0, s3, s4, s5, g1, hmade, hwr, hwr2, hw5]
    refine next_ hlt ⟨ks ++ [(reach, x3)], id4, reach + (1 + x5), _, ⟨by simp, kinB_snoc hks (by omega) (by omega) (by omega) (fun p hp => (hsm p hp).1), ?_, by omega, by omega⟩, ⟨?_, hs5.mono (by omega), by rw [hg.at_]; simp; have := hb3.len; have := hbut.len; omega⟩,
      ⟨hb5.get _ _ (by rw [hg.at_]; simp; have := hb3.len; have := hbut.len; omega) hg.new, by simp, by simp, rfl, rfl, ?_⟩, by simp [s0], by simp, by simp [hwr2], by simp [hw5]⟩
    · intro p hp
      rcases List.mem_append.1 hp with hp | hp
      · have := hsm p hp; omega
      · simp at hp; subst hp; simp; omega
    · have h13 := hbut.trans hb3
      refine But.trans ⟨by have := hg.len; have := h13.len; simp at *; omega, fun i o' h1 h2 => ?_⟩ hb5
      exact hg.old i o' (by have := lt_of_get h2; omega) (get_old (h13.get i o' h1 h2))
    · simp [ho5, v2]
  · have g1 : ¬ (ks.length : Int) < x2 := by omega
    simp -dsimp -implicitDefEqProofs [s0, s3, s4, s5, g1]
    exact ⟨_, _, GC.refl _ _ _, ks, id, ⟨hks, by omega, fun p hp => (hsm p hp).2⟩, rfl, hbut, hsrc.mono (by omega), hid, o, ho, ho1, ho2, ho3, ho4, ho5⟩
def DrawnX (ks : List I2) (m : Mem) (v : Value) (m' : Mem) : Prop :=
  ∃ (xs : List Int) (id : Nat), (xs.length = ks.length ∧ ∀ (i : Nat) (h : i < xs.length) (h' : i < ks.length), 0 ≤ xs[i] ∧ xs[i] ≤ ks[i].2) ∧ v = .slice (some ⟨id, 0, none⟩) xs.length xs.length ∧ m <+: m' ∧ m.length ≤ id ∧ ∃ o, m'[id]? = some o ∧ 1 ≤ o.kind ∧ o.kind ≤ 2 ∧ o.sz = 1 ∧ o.cells = xs.map (Value.int .i64)
def DrawnL (m : Mem) (v : Value) (m' : Mem) : Prop :=
  ∃ ks id, SmallK ks ∧ v = .slice (some ⟨id, 0, none⟩) ks.length ks.length ∧ m <+: m' ∧ m.length ≤ id ∧ ∃ o, m'[id]? = some o ∧ 1 ≤ o.kind ∧ o.kind ≤ 2 ∧ o.sz = 2 ∧ o.cells = (ks.map v2).flatten
theorem a2Kinds_c (a : Option Addr) (code : List Int) (m : Mem) (h : RdB m a code) (hl : code.length ≤ 1048576) :
    ∃ v m', ACalls Try.prog 41 [.slice a code.length code.length] m v m' ∧ DrawnL m v m' := by
  obtain ⟨v, m', hc, ks, id, hks, rfl, hbut, hsrc, hid, o, ho, h1, h2, h3, h4, h5⟩ := l18Draw_c m.length a code 0 (by omega) _ (srcNew h hl)
  refine ecalls_of_vc Try.func41 rfl Try.fol (by kernel_rfl) ?_
  simp only [Try.f41]
  simp -dsimp -implicitDefEqProofs
  refine callsTo Try.cal66 (l00From_c a code m) ?_
  simp -dsimp -implicitDefEqProofs
  refine callsTo Try.cal65 hc ?_
  simp -dsimp -implicitDefEqProofs
  refine ⟨_, _, GC.refl _ _ _, ks, id, hks, rfl, hbut.pre ⟨_, rfl⟩ (Nat.le_refl _), ?_, o, ho, h1, h2, h3, h5⟩
  simp at hid; omega
theorem a2Taken_c (a : Option Addr) (code : List Int) (ks : List I2) (hks : SmallK ks) (la : Option Addr) (m : Mem) (h : RdB m a code) (hl : code.length ≤ 1048576) (hr : RdG v2 2 m la ks) (hla : ∀ x, la = some x → x.block < m.length) :
    ∃ v m', ACalls Try.prog 43 [.slice a code.length code.length, .slice la ks.length ks.length] m v m' ∧ DrawnX ks m v m' := by
  obtain ⟨hks1, hks2, hks3⟩ := hks
  have hsrc0 := (srcNew h hl).app [⟨[], 2, 1, 1⟩]
  refine ecalls_of_vc Try.func43 rfl Try.fol (by kernel_rfl) ?_
  simp only [Try.f43]
  simp -dsimp -implicitDefEqProofs
  refine callsTo Try.cal66 (l00From_c a code m) ?_
  simp -dsimp -implicitDefEqProofs
  refine loopN ks.length (fun j σ m' => ∃ (xs : List Int) (id : Nat) (o : AObj), (xs.length = j ∧ ∀ (i : Nat) (h : i < xs.length) (h' : i < ks.length), 0 ≤ xs[i] ∧ xs[i] ≤ ks[i].2) ∧ (m <+: m' ∧ SrcA m.length a code (2 * j) m' ∧ m.length + 1 ≤ id) ∧
      (m'[id]? = some o ∧ 1 ≤ o.kind ∧ o.kind ≤ 2 ∧ o.sz = 1 ∧ o.elem = 2 ∧ o.cells = xs.map (Value.int .i64)) ∧ σ 1 = some (.slice la ks.length ks.length) ∧ σ 5 = some (.pointer (some ⟨m.length, 0, none⟩)) ∧ σ 6 = some (.slice (some ⟨id, 0, none⟩) j j) ∧ σ 7 = some (.int .i64 j))
    ⟨[], m.length + 1, _, ⟨rfl, by simp⟩, ⟨⟨_, rfl⟩, by simpa using hsrc0, Nat.le_refl _⟩, ⟨by simp; rfl, by simp, by simp, rfl, rfl, rfl⟩, by simp, by simp, by simp, by simp⟩ ?_
  rintro j σ m' hj ⟨xs, id, o, ⟨rfl, hxs⟩, ⟨hp, hsrc, hid⟩, ⟨ho, ho1, ho2, ho3, ho4, ho5⟩, s1, s5, s6, s7⟩
  by_cases hlt : xs.length < ks.length
  · obtain ⟨kid, koff, ko, rfl, hm, hkd, hsz, hl0, hrow, hc0, hc1⟩ := R2.at_ (hr.pre hp) hlt
    obtain ⟨_, _, hH0, hH1⟩ := kinB_at hks1 hlt
    have hw1 : IntKind.i64.wrap (ks[xs.length].2 + 1) = ks[xs.length].2 + 1 := wrapI (by omega) (by omega)
    have hw7 : IntKind.i64.wrap ((xs.length : Int) + 1) = xs.length + 1 := wrapI (by omega) (by omega)
    obtain ⟨v3, m3, hc3, x3, rfl, hx3, hb3, hs3, hl3⟩ := pick_c m.length a code (2 * xs.length) (ks[xs.length].2 + 1) (by omega) m' hsrc
    have hx3' : 0 ≤ x3 ∧ x3 ≤ ks[xs.length].2 := by
      split at hx3 <;> omega
    simp -dsimp -implicitDefEqProofs [s1, s5, s6, s7, hlt, withO_of hm, hkd, hsz, withC_of hc1, hw1, hw7]
    refine callsTo Try.cal67 hc3 ?_
    simp -dsimp -implicitDefEqProofs [s1, s5, s6, s7, hlt, withO_of hm, hkd, hsz, withC_of hc1, hw1, hw7]
    have hne : id ≠ m.length := by omega
    have ho' := hb3.get _ _ hne ho
    refine appTo_grow (e := 2) (sz := 1) (by_ := 8) (z := .int .i64 0) (by kernel_rfl) (by kernel_rfl) ⟨by decide, rfl⟩ (o := o) (get_old ho') ⟨ho1, ho2⟩ ⟨ho3, ho4⟩ (by rw [ho5]; simp) (by omega) (Src.obj (o := ⟨[.int .i64 x3], 2, 1, 1⟩) (by simp) (by simp) rfl rfl) ?_
    intro m4 id4 hg
    have hb4 : But id (m3 ++ [⟨[.int .i64 x3], 2, 1, 1⟩]) m4 := ⟨by have := hg.len; omega, fun i o' h1 h2 => hg.old i o' h1 h2⟩
    have hp3 := hb3.pre hp (Nat.le_refl _)
    simp -dsimp -implicitDefEqProofs [s1, s5, s6, s7, hlt, withO_of hm, hkd, hsz, withC_of hc1, hw1, hw7]
    refine next_ hlt ⟨xs ++ [x3], id4, _, ⟨by simp, ?_⟩, ⟨hg.pre m (pre_app hp3 _) (by omega), ((hs3.app _).keep hb4 (Ne.symm hne) (fun h0 x hx => by have := hs3.off h0 x hx; omega)).mono (by omega), by rw [hg.at_]; simp; have := hb3.len; have := lt_of_get ho; omega⟩,
      ⟨hg.new, by simp, by simp, rfl, rfl, by simp [ho5]⟩, by simp [s1], by simp [s5], by simp, by simp [hw7]⟩
    intro i hi hi'
    by_cases hix : i < xs.length
    · rw [List.getElem_append_left hix]; exact hxs i hix hi'
    · have : i = xs.length := by simp at hi; omega
      subst this
      simpa using hx3'
  · simp -dsimp -implicitDefEqProofs [s1, s5, s6, s7, hlt]
    exact ⟨_, _, GC.refl _ _ _, xs, id, ⟨by omega, hxs⟩, rfl, hp, by omega, o, ho, ho1, ho2, ho3, ho5⟩
end Go.Proofs.Ytlhcepcgjnlopaa
