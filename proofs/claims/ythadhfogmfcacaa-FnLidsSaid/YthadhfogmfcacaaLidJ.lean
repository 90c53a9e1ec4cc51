/-
  Lids, part 10: drawn widths and slacks. Conditions: none.
-/
import Derived.Test.YthadhfogmfcacaaLidI
set_option linter.unusedSimpArgs false
set_option linter.unusedVariables false
set_option linter.unusedSectionVars false
namespace Go.Proofs.Ythadhfogmfcacaa
open Go.Abs Go.RowKit Go.Law

def SomeInt (is : Nat) (a : Option Addr) (code : List Int) (k : Int) (m : Mem) (v : Value) (m' : Mem) : Prop :=
  ∃ x : Int, v = .int .i64 x ∧ But is m m' ∧ SrcA is a code k m'
theorem l22DrawWidth_c (is : Nat) (a : Option Addr) (code : List Int) (k : Int) (hk : k < 800000000) (m : Mem) (h : SrcA is a code k m) :
    ∃ v m', ACalls Try.prog 70 [.pointer (some ⟨is, 0, none⟩)] m v m' ∧ SomeInt is a code (k + 4) m v m' := by
  obtain ⟨v1, m1, hc1, b1, rfl, hb1, hs1, hl1⟩ := one_c is a code k 10 (by omega) m h
  obtain ⟨v2, m2, hc2, x2, rfl, hb2, hs2, hl2⟩ := amongLit_c is a code (k + 2) (by omega) [-1, 0, 1, 2000, 2001] 5 rfl m1 hs1 (by decide)
  obtain ⟨v3', m3, hc3, x3, rfl, hx3, hb3, hs3, hl3⟩ := pick_c is a code (k + 2) 60 (by omega) m1 hs1
  refine ecalls_of_vc Try.func70 rfl Try.fol (by kernel_rfl) ?_
  simp only [Try.f70]
  simp -dsimp -implicitDefEqProofs
  refine callsTo Try.cal67 hc1 ?_
  simp -dsimp -implicitDefEqProofs
  refine sp2 (fun g => ?_) (fun g => ?_)
  · refine callsTo Try.cal71 hc2 ?_
    simp -dsimp -implicitDefEqProofs
    exact ⟨_, _, GC.refl _ _ _, x2, rfl, hb1.trans hb2, hs2.mono (by omega)⟩
  · refine callsTo Try.cal66 hc3 ?_
    simp -dsimp -implicitDefEqProofs
    exact ⟨_, _, GC.refl _ _ _, _, rfl, hb1.trans hb3, hs3.mono (by omega)⟩
theorem l22DrawSlack_c (is : Nat) (a : Option Addr) (code : List Int) (k : Int) (hk : k < 800000000) (m : Mem) (h : SrcA is a code k m) :
    ∃ v m', ACalls Try.prog 64 [.pointer (some ⟨is, 0, none⟩)] m v m' ∧ SomeInt is a code (k + 4) m v m' := by
  obtain ⟨v1, m1, hc1, b1, rfl, hb1, hs1, hl1⟩ := one_c is a code k 10 (by omega) m h
  obtain ⟨v2, m2, hc2, x2, rfl, hb2, hs2, hl2⟩ := amongLit_c is a code (k + 2) (by omega) [-1, 0, 100, 101, -9223372036854775808] 5 rfl m1 hs1 (by decide)
  obtain ⟨v3', m3, hc3, x3, rfl, hx3, hb3, hs3, hl3⟩ := pick_c is a code (k + 2) 20 (by omega) m1 hs1
  refine ecalls_of_vc Try.func64 rfl Try.fol (by kernel_rfl) ?_
  simp only [Try.f64]
  simp -dsimp -implicitDefEqProofs
  refine callsTo Try.cal67 hc1 ?_
  simp -dsimp -implicitDefEqProofs
  refine sp2 (fun g => ?_) (fun g => ?_)
  · refine callsTo Try.cal71 hc2 ?_
    simp -dsimp -implicitDefEqProofs
    exact ⟨_, _, GC.refl _ _ _, x2, rfl, hb1.trans hb2, hs2.mono (by omega)⟩
  · refine callsTo Try.cal66 hc3 ?_
    simp -dsimp -implicitDefEqProofs
    exact ⟨_, _, GC.refl _ _ _, _, rfl, hb1.trans hb3, hs3.mono (by omega)⟩
def DrawnW (is : Nat) (a : Option Addr) (code : List Int) (k : Int) (m : Mem) (v : Value) (m' : Mem) : Prop :=
  ∃ xs id, xs.length ≤ 13 ∧ v = .slice (some ⟨id, 0, none⟩) xs.length xs.length ∧ But is m m' ∧ SrcA is a code k m' ∧ m.length ≤ id ∧ IntsAt m' id xs
theorem l22DrawWidths_c (is : Nat) (a : Option Addr) (code : List Int) (k : Int) (hk : k < 700000000) (m : Mem) (h : SrcA is a code k m) :
    ∃ v m', ACalls Try.prog 63 [.pointer (some ⟨is, 0, none⟩)] m v m' ∧ DrawnW is a code (k + 200) m v m' := by
  have his : is < m.length := lt_of_get h.obj.choose_spec.choose_spec.1
  obtain ⟨v1, m1, hc1, x1, rfl, hx1, hb1, hs1, hl1⟩ := pick_c is a code k 6 (by omega) (m ++ [⟨[], 2, 1, 1⟩]) (h.app _)
  obtain ⟨v2, m2, hc2, b2, rfl, hb2, hs2, hl2⟩ := one_c is a code (k + 2) 20 (by omega) m1 hs1
  obtain ⟨v3', m3, hc3, x3, rfl, hx3, hb3, hs3, hl3⟩ := pick_c is a code (k + 2 + 2) 2 (by omega) m2 hs2
  simp at hx1 hx3 hl1
  have hw3 : IntKind.i64.wrap (12 + x3) = 12 + x3 := wrapI (by omega) (by omega)
  have q1 : IntsAt m1 m.length [] := ⟨⟨[], 2, 1, 1⟩, hb1.get _ _ (by omega) (by simp), by simp, by simp, rfl, rfl, rfl⟩
  refine ecalls_of_vc Try.func63 rfl Try.fol (by kernel_rfl) ?_
  simp only [Try.f63]
  simp -dsimp -implicitDefEqProofs
  refine callsTo Try.cal66 hc1 ?_
  simp -dsimp -implicitDefEqProofs
  refine callsTo Try.cal67 hc2 ?_
  simp -dsimp -implicitDefEqProofs
  have hbm2 : But is m m2 := ((But.app is m _).trans hb1).trans hb2
  refine sp2 (fun g => ?_) (fun g => ?_)
  · refine callsTo Try.cal66 hc3 ?_
    simp -dsimp -implicitDefEqProofs
    obtain ⟨n, hn⟩ : ∃ n, n = 12 + x3 := ⟨_, rfl⟩
    rw [hw3, ← hn]
    have hn0 : 0 ≤ n ∧ n ≤ 13 := by omega
    obtain ⟨mX, hmX⟩ : ∃ mX, mX = m3 := ⟨_, rfl⟩
    rw [← hmX]
    have hbX : But is m mX := by rw [hmX]; exact hbm2.trans hb3
    have hsX : SrcA is a code (k + 6) mX := by rw [hmX]; exact hs3.mono (by omega)
    have qX : IntsAt mX m.length [] := by
      obtain ⟨o, o1, o2⟩ := q1
      exact ⟨o, by rw [hmX]; exact hb3.get _ _ (by omega) (hb2.get _ _ (by omega) o1), o2⟩
    clear hmX hn hw3 hx3 hb3 hs3 hl3 hc3
    refine loopN n.toNat (fun j σ m' => ∃ xs id, (xs.length = j ∧ But is m m' ∧ SrcA is a code (k + 6 + 2 * j) m' ∧ m.length ≤ id ∧ IntsAt m' id xs) ∧ σ 0 = some (.pointer (some ⟨is, 0, none⟩)) ∧ σ 3 = some (.slice (some ⟨id, 0, none⟩) j j) ∧ σ 4 = some (.int .i64 n) ∧ σ 5 = some (.int .i64 (n - j)))
      ⟨[], m.length, ⟨rfl, hbX, hsX.mono (by omega), Nat.le_refl _, qX⟩, by simp, by simp, by simp, by simp⟩ ?_
    rintro j σ m' hj ⟨xs, id, ⟨rfl, hbut, hsrc, hid, hL⟩, s0, s3, s4, s5⟩
    by_cases hlt : xs.length < n.toNat
    · have g1 : (xs.length : Int) < n := by omega
      obtain ⟨v4, m4, hc4, x4, rfl, hx4, hb4, hs4, hl4⟩ := pick_c is a code (k + 6 + 2 * xs.length) 60 (by omega) m' hsrc
      have hw5 : IntKind.i64.wrap (n - (xs.length : Int) - 1) = n - ((xs.length : Int) + 1) := by rw [wrapI (by omega) (by omega)]; omega
      obtain ⟨o, ho, ho1, ho2, ho3, ho4, ho5⟩ := hL
      have ho' := hb4.get _ _ (show id ≠ is by omega) ho
      obtain ⟨y4, hy4⟩ : ∃ y, y = IntKind.i64.wrap (30 + x4) := ⟨_, rfl⟩
      simp -dsimp -implicitDefEqProofs [s0, s3, s4, s5, g1, hw5, hy4.symm]
      refine callsTo Try.cal66 hc4 ?_
      simp -dsimp -implicitDefEqProofs [s0, s3, s4, s5, g1, hw5, hy4.symm]
      refine appTo_grow (e := 2) (sz := 1) (by_ := 8) (z := .int .i64 0) (by kernel_rfl) (by kernel_rfl) ⟨by decide, rfl⟩ (o := o) (get_old ho') ⟨ho1, ho2⟩ ⟨ho3, ho4⟩ (by rw [ho5]; simp) (by omega) (Src.obj (o := ⟨[.int .i64 y4], 2, 1, 1⟩) (by simp) (by simp) rfl rfl) ?_
      intro m5 id5 hg
      have hb5 : But id (m4 ++ [⟨[.int .i64 y4], 2, 1, 1⟩]) m5 := ⟨by have := hg.len; omega, fun i o' h1 h2 => hg.old i o' h1 h2⟩
      have hbb := hbut.trans hb4
      simp -dsimp -implicitDefEqProofs [s0, s3, s4, s5, g1, hw5, hy4.symm]
      refine next_ hlt ⟨xs ++ [y4], id5, ⟨by simp, ⟨by have := hb5.len; have := hbb.len; simp at *; omega, fun i o' h1 h2 => hb5.get _ _ (by have := lt_of_get h2; omega) (get_old (hbb.get i o' h1 h2))⟩, ((hs4.app _).keep hb5 (by omega) (fun h0 x hx => by have := hsrc.off h0 x hx; omega)).mono (by simp; omega), by rw [hg.at_]; simp; have := hbb.len; omega, ⟨_, hg.new, by simp, by simp, rfl, rfl, by simp [ho5]⟩⟩, by simp [s0], by simp, by simp [s4], by simp [hw5]⟩
    · have g1 : ¬ (xs.length : Int) < n := by omega
      have hfin : ∀ m6, But is m m6 → SrcA is a code (k + 200) m6 → ∀ ys : List Int, ys.length = xs.length → IntsAt m6 id ys → ∃ v'' m'', GC m m6 (.slice (some ⟨id, 0, none⟩) xs.length xs.length) m'' v'' ∧ DrawnW is a code (k + 200) m v'' m'' := fun m6 h1 h2 ys h3 h4 =>
        ⟨_, _, GC.refl _ _ _, ys, id, by omega, by rw [h3], h1, h2, hid, h4⟩
      obtain ⟨v4, m4, hc4, b4, rfl, hb4, hs4, hl4⟩ := one_c is a code (k + 6 + 2 * xs.length) 10 (by omega) m' hsrc
      have hne : id ≠ is := by omega
      have hL4 : IntsAt m4 id xs := by
        obtain ⟨o, o1, o2⟩ := hL
        exact ⟨o, hb4.get _ _ hne o1, o2⟩
      have hout : xs.length = n.toNat := by omega
      simp -dsimp -implicitDefEqProofs [s0, s3, s4, s5, g1]
      by_cases hpos : 0 < n
      · simp -dsimp -implicitDefEqProofs [s0, s3, s4, s5, g1, hpos]
        refine callsTo Try.cal67 hc4 ?_
        simp -dsimp -implicitDefEqProofs [s0, s3, s4, s5, g1, hpos]
        refine sp2 (fun g2 => ?_) (fun g2 => ?_)
        · obtain ⟨v6, m6, hc6, x6, rfl, hb6, hs6⟩ := l22DrawWidth_c is a code (k + 6 + 2 * xs.length + 2) (by omega) m4 hs4
          obtain ⟨⟨cells, el, sz, kd⟩, w1, w2, w3, w4, w5, w6⟩ := hL4
          simp only at w2 w3 w4 w5 w6
          subst w4 w5 w6
          have w1' := hb6.get _ _ hne w1
          have hpos2 : (0 : Int) < (xs.length : Int) := by omega
          have hpos3 : 0 < xs.length := by omega
          refine callsTo Try.cal70 hc6 ?_
          simp -dsimp -implicitDefEqProofs [s0, s3, s4, s5, g1, hpos, hpos2, hpos3, withO_of w1', w3, w2]
          refine need_intro (by omega) ?_
          rw [show (xs.map (Value.int .i64)).set 0 (.int .i64 x6) = (xs.set 0 x6).map (Value.int .i64) from (List.map_set ..).symm]
          have hb7 : But id m6 (m6.set id ⟨(xs.set 0 x6).map (Value.int .i64), 2, 1, kd⟩) := But.set _ _
          refine hfin _ (butRest (is := is) (id := id) ((hbut.trans hb4).trans hb6) (RestS.set _ (by simp) _) hid) ((hs6.keep hb7 (by omega) (fun h0 x hx => by have := hsrc.off h0 x hx; omega)).mono (by omega)) (xs.set 0 x6) (by simp) ⟨_, get_set w1' _, w2, w3, rfl, rfl, rfl⟩
        · exact hfin m4 (hbut.trans hb4) (hs4.mono (by omega)) xs rfl hL4
      · simp -dsimp -implicitDefEqProofs [s0, s3, s4, s5, g1, hpos]
        exact hfin m' hbut (hsrc.mono (by omega)) xs rfl hL
  · obtain ⟨n, hn⟩ : ∃ n, n = x1 := ⟨_, rfl⟩
    rw [← hn]
    have hn0 : 0 ≤ n ∧ n ≤ 13 := by omega
    obtain ⟨mX, hmX⟩ : ∃ mX, mX = m2 := ⟨_, rfl⟩
    rw [← hmX]
    have hbX : But is m mX := by rw [hmX]; exact hbm2
    have hsX : SrcA is a code (k + 6) mX := by rw [hmX]; exact hs2.mono (by omega)
    have qX : IntsAt mX m.length [] := by
      obtain ⟨o, o1, o2⟩ := q1
      exact ⟨o, by rw [hmX]; exact hb2.get _ _ (by omega) o1, o2⟩
    clear hmX hn hw3 hx3 hb3 hs3 hl3 hc3
    refine loopN n.toNat (fun j σ m' => ∃ xs id, (xs.length = j ∧ But is m m' ∧ SrcA is a code (k + 6 + 2 * j) m' ∧ m.length ≤ id ∧ IntsAt m' id xs) ∧ σ 0 = some (.pointer (some ⟨is, 0, none⟩)) ∧ σ 3 = some (.slice (some ⟨id, 0, none⟩) j j) ∧ σ 4 = some (.int .i64 n) ∧ σ 5 = some (.int .i64 (n - j)))
      ⟨[], m.length, ⟨rfl, hbX, hsX.mono (by omega), Nat.le_refl _, qX⟩, by simp, by simp, by simp, by simp⟩ ?_
    rintro j σ m' hj ⟨xs, id, ⟨rfl, hbut, hsrc, hid, hL⟩, s0, s3, s4, s5⟩
    by_cases hlt : xs.length < n.toNat
    · have g1 : (xs.length : Int) < n := by omega
      obtain ⟨v4, m4, hc4, x4, rfl, hx4, hb4, hs4, hl4⟩ := pick_c is a code (k + 6 + 2 * xs.length) 60 (by omega) m' hsrc
      have hw5 : IntKind.i64.wrap (n - (xs.length : Int) - 1) = n - ((xs.length : Int) + 1) := by rw [wrapI (by omega) (by omega)]; omega
      obtain ⟨o, ho, ho1, ho2, ho3, ho4, ho5⟩ := hL
      have ho' := hb4.get _ _ (show id ≠ is by omega) ho
      obtain ⟨y4, hy4⟩ : ∃ y, y = IntKind.i64.wrap (30 + x4) := ⟨_, rfl⟩
      simp -dsimp -implicitDefEqProofs [s0, s3, s4, s5, g1, hw5, hy4.symm]
      refine callsTo Try.cal66 hc4 ?_
      simp -dsimp -implicitDefEqProofs [s0, s3, s4, s5, g1, hw5, hy4.symm]
      refine appTo_grow (e := 2) (sz := 1) (by_ := 8) (z := .int .i64 0) (by kernel_rfl) (by kernel_rfl) ⟨by decide, rfl⟩ (o := o) (get_old ho') ⟨ho1, ho2⟩ ⟨ho3, ho4⟩ (by rw [ho5]; simp) (by omega) (Src.obj (o := ⟨[.int .i64 y4], 2, 1, 1⟩) (by simp) (by simp) rfl rfl) ?_
      intro m5 id5 hg
      have hb5 : But id (m4 ++ [⟨[.int .i64 y4], 2, 1, 1⟩]) m5 := ⟨by have := hg.len; omega, fun i o' h1 h2 => hg.old i o' h1 h2⟩
      have hbb := hbut.trans hb4
      simp -dsimp -implicitDefEqProofs [s0, s3, s4, s5, g1, hw5, hy4.symm]
      refine next_ hlt ⟨xs ++ [y4], id5, ⟨by simp, ⟨by have := hb5.len; have := hbb.len; simp at *; omega, fun i o' h1 h2 => hb5.get _ _ (by have := lt_of_get h2; omega) (get_old (hbb.get i o' h1 h2))⟩, ((hs4.app _).keep hb5 (by omega) (fun h0 x hx => by have := hsrc.off h0 x hx; omega)).mono (by simp; omega), by rw [hg.at_]; simp; have := hbb.len; omega, ⟨_, hg.new, by simp, by simp, rfl, rfl, by simp [ho5]⟩⟩, by simp [s0], by simp, by simp [s4], by simp [hw5]⟩
    · have g1 : ¬ (xs.length : Int) < n := by omega
      have hfin : ∀ m6, But is m m6 → SrcA is a code (k + 200) m6 → ∀ ys : List Int, ys.length = xs.length → IntsAt m6 id ys → ∃ v'' m'', GC m m6 (.slice (some ⟨id, 0, none⟩) xs.length xs.length) m'' v'' ∧ DrawnW is a code (k + 200) m v'' m'' := fun m6 h1 h2 ys h3 h4 =>
        ⟨_, _, GC.refl _ _ _, ys, id, by omega, by rw [h3], h1, h2, hid, h4⟩
      obtain ⟨v4, m4, hc4, b4, rfl, hb4, hs4, hl4⟩ := one_c is a code (k + 6 + 2 * xs.length) 10 (by omega) m' hsrc
      have hne : id ≠ is := by omega
      have hL4 : IntsAt m4 id xs := by
        obtain ⟨o, o1, o2⟩ := hL
        exact ⟨o, hb4.get _ _ hne o1, o2⟩
      have hout : xs.length = n.toNat := by omega
      simp -dsimp -implicitDefEqProofs [s0, s3, s4, s5, g1]
      by_cases hpos : 0 < n
      · simp -dsimp -implicitDefEqProofs [s0, s3, s4, s5, g1, hpos]
        refine callsTo Try.cal67 hc4 ?_
        simp -dsimp -implicitDefEqProofs [s0, s3, s4, s5, g1, hpos]
        refine sp2 (fun g2 => ?_) (fun g2 => ?_)
        · obtain ⟨v6, m6, hc6, x6, rfl, hb6, hs6⟩ := l22DrawWidth_c is a code (k + 6 + 2 * xs.length + 2) (by omega) m4 hs4
          obtain ⟨⟨cells, el, sz, kd⟩, w1, w2, w3, w4, w5, w6⟩ := hL4
          simp only at w2 w3 w4 w5 w6
          subst w4 w5 w6
          have w1' := hb6.get _ _ hne w1
          have hpos2 : (0 : Int) < (xs.length : Int) := by omega
          have hpos3 : 0 < xs.length := by omega
          refine callsTo Try.cal70 hc6 ?_
          simp -dsimp -implicitDefEqProofs [s0, s3, s4, s5, g1, hpos, hpos2, hpos3, withO_of w1', w3, w2]
          refine need_intro (by omega) ?_
          rw [show (xs.map (Value.int .i64)).set 0 (.int .i64 x6) = (xs.set 0 x6).map (Value.int .i64) from (List.map_set ..).symm]
          have hb7 : But id m6 (m6.set id ⟨(xs.set 0 x6).map (Value.int .i64), 2, 1, kd⟩) := But.set _ _
          refine hfin _ (butRest (is := is) (id := id) ((hbut.trans hb4).trans hb6) (RestS.set _ (by simp) _) hid) ((hs6.keep hb7 (by omega) (fun h0 x hx => by have := hsrc.off h0 x hx; omega)).mono (by omega)) (xs.set 0 x6) (by simp) ⟨_, get_set w1' _, w2, w3, rfl, rfl, rfl⟩
        · exact hfin m4 (hbut.trans hb4) (hs4.mono (by omega)) xs rfl hL4
      · simp -dsimp -implicitDefEqProofs [s0, s3, s4, s5, g1, hpos]
        exact hfin m' hbut (hsrc.mono (by omega)) xs rfl hL
def DrawnAll (m : Mem) (v : Value) (m' : Mem) : Prop :=
  ∃ xs ws s i1 i2, xs.length ≤ 13 ∧ ws.length ≤ 13 ∧ v = .tuple #[.slice (some ⟨i1, 0, none⟩) xs.length xs.length, .slice (some ⟨i2, 0, none⟩) ws.length ws.length, .int .i64 s] ∧ m <+: m' ∧ LidsAt m' i1 xs ∧ IntsAt m' i2 ws
theorem l22All_c (a : Option Addr) (code : List Int) (m : Mem) (h : RdB m a code) (hl : code.length ≤ 1048576) :
    ∃ v m', ACalls Try.prog 54 [.slice a code.length code.length] m v m' ∧ DrawnAll m v m' := by
  obtain ⟨v1, m1, hc1, xs, i1, hx, rfl, hb1, hs1, hi1, hL1⟩ := l22Draw_c m.length a code 0 (by omega) _ (srcNew h hl)
  obtain ⟨v2, m2, hc2, ws, i2, hw, rfl, hb2, hs2, hi2, hI2⟩ := l22DrawWidths_c m.length a code (0 + 200) (by omega) _ hs1
  obtain ⟨v3', m3, hc3, s, rfl, hb3, hs3⟩ := l22DrawSlack_c m.length a code (0 + 200 + 200) (by omega) _ hs2
  simp at hi1
  have hl1 := hb1.len
  simp at hl1
  refine ecalls_of_vc Try.func54 rfl Try.fol (by kernel_rfl) ?_
  simp only [Try.f54]
  simp -dsimp -implicitDefEqProofs
  refine callsTo Try.cal61 (l00From_c a code m) ?_
  simp -dsimp -implicitDefEqProofs
  refine callsTo Try.cal62 hc1 ?_
  simp -dsimp -implicitDefEqProofs
  refine callsTo Try.cal63 hc2 ?_
  simp -dsimp -implicitDefEqProofs
  refine callsTo Try.cal64 hc3 ?_
  simp -dsimp -implicitDefEqProofs
  refine ⟨_, _, GC.refl _ _ _, xs, ws, s, i1, i2, hx, hw, rfl, ((hb1.trans hb2).trans hb3).pre ⟨_, rfl⟩ (Nat.le_refl _), ?_, ?_⟩
  · obtain ⟨o, o1, o2⟩ := hL1
    exact ⟨o, hb3.get _ _ (by omega) (hb2.get _ _ (by omega) o1), o2⟩
  · obtain ⟨o, o1, o2⟩ := hI2
    exact ⟨o, hb3.get _ _ (by omega) o1, o2⟩
theorem drawLidsFor_c (a : Option Addr) (code : List Int) (m : Mem) (h : RdB m a code) (hl : code.length ≤ 1048576) :
    ∃ v m', ACalls Try.prog 35 [.slice a code.length code.length] m v m' ∧ DrawnAll m v m' := by
  obtain ⟨v1, m1, hc1, xs, ws, s, i1, i2, hx, hw, rfl, h1⟩ := l22All_c a code m h hl
  refine ecalls_of_vc Try.func35 rfl Try.fol (by kernel_rfl) ?_
  simp only [Try.f35]
  simp -dsimp -implicitDefEqProofs
  refine callsTo Try.cal54 hc1 ?_
  simp -dsimp -implicitDefEqProofs
  exact ⟨_, _, GC.refl _ _ _, xs, ws, s, i1, i2, hx, hw, rfl, h1⟩
def DrawnTwo (m : Mem) (v : Value) (m' : Mem) : Prop :=
  ∃ xs ws i1 i2, xs.length ≤ 13 ∧ ws.length ≤ 13 ∧ v = .tuple #[.slice (some ⟨i1, 0, none⟩) xs.length xs.length, .slice (some ⟨i2, 0, none⟩) ws.length ws.length] ∧ m <+: m' ∧ LidsAt m' i1 xs ∧ IntsAt m' i2 ws
theorem drawLeastSlack_c (a : Option Addr) (code : List Int) (m : Mem) (h : RdB m a code) (hl : code.length ≤ 1048576) :
    ∃ v m', ACalls Try.prog 36 [.slice a code.length code.length] m v m' ∧ DrawnTwo m v m' := by
  obtain ⟨v1, m1, hc1, xs, ws, s, i1, i2, hx, hw, rfl, h1⟩ := l22All_c a code m h hl
  refine ecalls_of_vc Try.func36 rfl Try.fol (by kernel_rfl) ?_
  simp only [Try.f36]
  simp -dsimp -implicitDefEqProofs
  refine callsTo Try.cal54 hc1 ?_
  simp -dsimp -implicitDefEqProofs
  exact ⟨_, _, GC.refl _ _ _, xs, ws, i1, i2, hx, hw, rfl, h1⟩
end Go.Proofs.Ythadhfogmfcacaa
