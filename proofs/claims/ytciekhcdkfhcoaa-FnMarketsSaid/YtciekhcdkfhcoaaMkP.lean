/-
  Markets, part 16: drawn stocks, and what the laws draw. Conditions: none.
-/
import Derived.Test.YtciekhcdkfhcoaaMkO
set_option linter.unusedSimpArgs false
set_option linter.unusedVariables false
set_option linter.unusedSectionVars false
namespace Go.Proofs.Ytciekhcdkfhcoaa
open Go.Abs Go.RowKit

def DrawnI (is : Nat) (a : Option Addr) (code : List Int) (k : Int) (B : Nat) (m : Mem) (v : Value) (m' : Mem) : Prop :=
  ∃ l id, l.length ≤ B ∧ v = .slice (some ⟨id, 0, none⟩) l.length l.length ∧ But is m m' ∧ SrcA is a code k m' ∧ m.length ≤ id ∧ IntsAt m' id l
theorem l21DrawStock_c (is : Nat) (a : Option Addr) (code : List Int) (k : Int) (hk : k < 700000000) (kinds : Int) (m : Mem) (h : SrcA is a code k m) :
    ∃ v m', ACalls Try.prog 71 [.pointer (some ⟨is, 0, none⟩), .int .i64 kinds] m v m' ∧ DrawnI is a code (k + 100) 10 m v m' := by
  have his : is < m.length := lt_of_get h.obj.choose_spec.choose_spec.1
  obtain ⟨v1, m1, hc1, l, id, hl, rfl, hb1, hs1, hid, hI1⟩ := l21New_c is a code k (by omega) (min kinds 9) 20 (by omega) m h
  obtain ⟨v2, m2, hc2, x2, rfl, hx2, hb2, hs2, hl2⟩ := pick_c is a code (k + 18) 20 (by omega) m1 hs1
  rw [← hl] at hc1
  have hl9 : l.length ≤ 9 := by omega
  have hne : id ≠ is := by omega
  have hI2 := hI1.but hb2 hne
  have hb12 := hb1.trans hb2
  refine ecalls_of_vc Try.func71 rfl Try.fol (by kernel_rfl) ?_
  simp only [Try.f71]
  simp -dsimp -implicitDefEqProofs
  refine callsTo Try.cal79 (l00Min_c _ _ _) ?_
  simp -dsimp -implicitDefEqProofs
  refine callsTo Try.cal85 hc1 ?_
  simp -dsimp -implicitDefEqProofs
  refine callsTo Try.cal83 hc2 ?_
  simp -dsimp -implicitDefEqProofs
  refine sp2 (fun g => ?_) (fun g => sp2 (fun g' => ?_) (fun g' => ?_))
  · obtain ⟨o, ho, ho1, ho2, ho3, ho4, ho5⟩ := hI2
    refine appTo_grow (e := 2) (sz := 1) (by_ := 8) (z := .int .i64 0) (by kernel_rfl) (by kernel_rfl) ⟨by decide, rfl⟩ (o := o) (get_old ho) ⟨ho1, ho2⟩ ⟨ho3, ho4⟩ (by rw [ho5]; simp) (by omega) (Src.obj (o := ⟨[.int .i64 5], 2, 1, 1⟩) (by simp) (by simp) rfl rfl) ?_
    intro m5 id5 hg
    have hb5 : But id (m2 ++ [⟨[.int .i64 5], 2, 1, 1⟩]) m5 := ⟨by have := hg.len; omega, fun i o' h1 h2 => hg.old i o' h1 h2⟩
    simp -dsimp -implicitDefEqProofs
    exact ⟨_, _, GC.refl _ _ _, l ++ [5], id5, by simp; omega, by simp, ⟨by have := hb5.len; have := hb12.len; simp at *; omega, fun i o' h1 h2 => hb5.get _ _ (by have := lt_of_get h2; omega) (get_old (hb12.get i o' h1 h2))⟩, ((hs2.app _).keep hb5 (by omega) (fun h0 x hx => by have := h.off h0 x hx; omega)).mono (by omega), by rw [hg.at_]; simp; have := hb12.len; omega, ⟨_, hg.new, by simp, by simp, rfl, rfl, by simp [ho5]⟩⟩
  · by_cases hpos : 0 < l.length
    · obtain ⟨v3', m3, hc3, x3, rfl, hb3, hs3, hl3⟩ := amongLit_c is a code (k + 20) (by omega) [-1, 0, 1000, 1001] 4 rfl m2 (hs2.mono (by omega)) (by decide)
      have hI3 := hI2.but hb3 hne
      obtain ⟨o, ho, ho1, ho2, ho3, ho4, ho5⟩ := hI3
      have hocl : o.cells.length = l.length := by rw [ho5]; simp
      have hb4 : But id m3 (m3.set id ⟨(l.set 0 x3).map (Value.int .i64), o.elem, 1, o.kind⟩) := But.set _ _
      simp -dsimp -implicitDefEqProofs [hpos]
      refine callsTo Try.cal86 hc3 ?_
      simp -dsimp -implicitDefEqProofs [withO_of ho, ho2, ho3, hocl, hpos]
      refine need_intro ho1 (need_intro (by omega) ?_)
      rw [show o.cells.set 0 (.int .i64 x3) = (l.set 0 x3).map (Value.int .i64) by rw [ho5, List.map_set]]
      exact ⟨_, _, GC.refl _ _ _, l.set 0 x3, id, by simp; omega, by simp, butRest (is := is) (id := id) (hb12.trans hb3) (RestS.set _ (by simp) _) hid, (hs3.keep hb4 (by omega) (fun h0 x hx => by have := h.off h0 x hx; omega)).mono (by omega), hid, ⟨_, get_set ho _, ho1, ho2, rfl, ho4, rfl⟩⟩
    · simp -dsimp -implicitDefEqProofs [hpos]
      exact ⟨_, _, GC.refl _ _ _, l, id, by omega, rfl, hb12, hs2.mono (by omega), hid, hI2⟩
  · exact ⟨_, _, GC.refl _ _ _, l, id, by omega, rfl, hb12, hs2.mono (by omega), hid, hI2⟩
theorem l03Some_c (is : Nat) (a : Option Addr) (code : List Int) (k : Int) (hk : k < 700000000) (n : Nat) (hn : n ≤ 12) (m : Mem) (h : SrcA is a code k m) :
    ∃ v m', ACalls Try.prog 72 [.pointer (some ⟨is, 0, none⟩), .int .i64 n] m v m' ∧ DrawnI is a code (k + 100) 13 m v m' := by
  have his : is < m.length := lt_of_get h.obj.choose_spec.choose_spec.1
  refine ecalls_of_vc Try.func72 rfl Try.fol (by kernel_rfl) ?_
  simp only [Try.f72]
  simp -dsimp -implicitDefEqProofs
  refine loopN n (fun j σ m' => ∃ l id, (l.length ≤ j ∧ But is m m' ∧ SrcA is a code (k + 2 * j) m' ∧ m.length ≤ id ∧ IntsAt m' id l) ∧ σ 0 = some (.pointer (some ⟨is, 0, none⟩)) ∧ σ 1 = some (.int .i64 n) ∧ σ 5 = some (.slice (some ⟨id, 0, none⟩) l.length l.length) ∧ σ 6 = some (.int .i64 j))
    ⟨[], m.length, ⟨Nat.le_refl _, But.app _ _ _, (h.app _).mono (by omega), Nat.le_refl _, ⟨⟨[], 2, 1, 1⟩, by simp, by simp, by simp, rfl, rfl, rfl⟩⟩, by simp, by simp, by simp, by simp⟩ ?_
  rintro j σ m' hj ⟨l, id, ⟨hlj, hbut, hsrc, hid, hL⟩, s0, s1, s5, s6⟩
  have hne : id ≠ is := by omega
  by_cases hlt : j < n
  · have hwj : IntKind.i64.wrap ((j : Int) + 1) = j + 1 := wrapI (by omega) (by omega)
    obtain ⟨v4, m4, hc4, b4, rfl, hb4, hs4, hl4⟩ := one_c is a code (k + 2 * j) 2 (by omega) m' hsrc
    have hL4 := hL.but hb4 hne
    have hbb := hbut.trans hb4
    simp -dsimp -implicitDefEqProofs [s0, s1, s5, s6, hlt, hwj]
    refine callsTo Try.cal84 hc4 ?_
    simp -dsimp -implicitDefEqProofs [s0, s1, s5, s6, hlt, hwj]
    refine sp2 (fun g => ?_) (fun g => ?_)
    · obtain ⟨o, ho, ho1, ho2, ho3, ho4, ho5⟩ := hL4
      refine appTo_grow (e := 2) (sz := 1) (by_ := 8) (z := .int .i64 0) (by kernel_rfl) (by kernel_rfl) ⟨by decide, rfl⟩ (o := o) (get_old ho) ⟨ho1, ho2⟩ ⟨ho3, ho4⟩ (by rw [ho5]; simp) (by omega) (Src.obj (o := ⟨[.int .i64 j], 2, 1, 1⟩) (by simp) (by simp) rfl rfl) ?_
      intro m5 id5 hg
      have hb5 : But id (m4 ++ [⟨[.int .i64 j], 2, 1, 1⟩]) m5 := ⟨by have := hg.len; omega, fun i o' h1 h2 => hg.old i o' h1 h2⟩
      simp -dsimp -implicitDefEqProofs [s0, s1, s5, s6, hlt, hwj]
      exact next_ hlt ⟨l ++ [(j : Int)], id5, ⟨by simp; omega, ⟨by have := hb5.len; have := hbb.len; simp at *; omega, fun i o' h1 h2 => hb5.get _ _ (by have := lt_of_get h2; omega) (get_old (hbb.get i o' h1 h2))⟩, ((hs4.app _).keep hb5 (by omega) (fun h0 x hx => by have := hsrc.off h0 x hx; omega)).mono (by omega), by rw [hg.at_]; simp; have := hbb.len; omega, ⟨_, hg.new, by simp, by simp, rfl, rfl, by simp [ho5]⟩⟩, by simp [s0], by simp [s1], by simp, by simp [hwj]⟩
    · exact next_ hlt ⟨l, id, ⟨by omega, hbb, hs4.mono (by omega), hid, hL4⟩, by simp [s0], by simp [s1], by simp [s5], by simp [hwj]⟩
  · obtain rfl : j = n := by omega
    obtain ⟨v4, m4, hc4, b4, rfl, hb4, hs4, hl4⟩ := one_c is a code (k + 2 * j) 12 (by omega) m' hsrc
    have hL4 := hL.but hb4 hne
    have hbb := hbut.trans hb4
    simp -dsimp -implicitDefEqProofs [s0, s1, s5, s6]
    refine callsTo Try.cal84 hc4 ?_
    simp -dsimp -implicitDefEqProofs [s0, s1, s5, s6]
    refine sp2 (fun g => ?_) (fun g => ?_)
    · obtain ⟨v5, m5, hc5, x5, rfl, hb5, hs5, hl5⟩ := amongLit_c is a code (k + 2 * j + 2) (by omega) [-1, 0, (j : Int)] 3 rfl m4 hs4 (by decide)
      obtain ⟨o, ho, ho1, ho2, ho3, ho4, ho5⟩ := hL4.but hb5 hne
      have hb3 := hbb.trans hb5
      refine callsTo Try.cal86 hc5 ?_
      simp -dsimp -implicitDefEqProofs [s0, s1, s5, s6]
      refine appTo_grow (e := 2) (sz := 1) (by_ := 8) (z := .int .i64 0) (by kernel_rfl) (by kernel_rfl) ⟨by decide, rfl⟩ (o := o) (get_old ho) ⟨ho1, ho2⟩ ⟨ho3, ho4⟩ (by rw [ho5]; simp) (by omega) (Src.obj (o := ⟨[.int .i64 x5], 2, 1, 1⟩) (by simp) (by simp) rfl rfl) ?_
      intro m6 id6 hg
      have hb6 : But id (m5 ++ [⟨[.int .i64 x5], 2, 1, 1⟩]) m6 := ⟨by have := hg.len; omega, fun i o' h1 h2 => hg.old i o' h1 h2⟩
      simp -dsimp -implicitDefEqProofs [s0, s1, s5, s6]
      exact ⟨_, _, GC.refl _ _ _, l ++ [x5], id6, by simp; omega, by simp, ⟨by have := hb6.len; have := hb3.len; simp at *; omega, fun i o' h1 h2 => hb6.get _ _ (by have := lt_of_get h2; omega) (get_old (hb3.get i o' h1 h2))⟩, ((hs5.app _).keep hb6 (by omega) (fun h0 x hx => by have := hsrc.off h0 x hx; omega)).mono (by omega), by rw [hg.at_]; simp; have := hb3.len; omega, ⟨_, hg.new, by simp, by simp, rfl, rfl, by simp [ho5]⟩⟩
    · exact ⟨_, _, GC.refl _ _ _, l, id, by omega, rfl, hbb, hs4.mono (by omega), hid, hL4⟩
/-! ### What the laws draw -/
def DMks (m : Mem) (v : Value) (m' : Mem) : Prop :=
  ∃ (kinds : Int) (xs : List Mk) (im : Nat), v = .tuple #[.int .i64 kinds, .slice (some ⟨im, 0, none⟩) xs.length xs.length] ∧ xs.length ≤ 12 ∧ (∀ x ∈ xs, x.2.2.1.length ≤ 4 ∧ x.2.2.2.length ≤ 4) ∧ m <+: m' ∧ RdM m' (some ⟨im, 0, none⟩) xs
def DAll (m : Mem) (v : Value) (m' : Mem) : Prop :=
  ∃ (kinds : Int) (xs : List Mk) (im : Nat) (ys : List Int) (iy : Nat), v = .tuple #[.int .i64 kinds, .slice (some ⟨im, 0, none⟩) xs.length xs.length, .slice (some ⟨iy, 0, none⟩) ys.length ys.length] ∧ xs.length ≤ 12 ∧ (∀ x ∈ xs, x.2.2.1.length ≤ 4 ∧ x.2.2.2.length ≤ 4) ∧ ys.length ≤ 10 ∧ m <+: m' ∧ RdM m' (some ⟨im, 0, none⟩) xs ∧ RdI m' (some ⟨iy, 0, none⟩) ys
def DStock (m : Mem) (v : Value) (m' : Mem) : Prop :=
  ∃ (kinds : Int) (xs : List Mk) (im : Nat) (ys : List Int) (iy : Nat) (zs : List Int) (iz : Nat), v = .tuple #[.int .i64 kinds, .slice (some ⟨im, 0, none⟩) xs.length xs.length, .slice (some ⟨iy, 0, none⟩) ys.length ys.length, .slice (some ⟨iz, 0, none⟩) zs.length zs.length] ∧ xs.length ≤ 12 ∧ (∀ x ∈ xs, x.2.2.1.length ≤ 4 ∧ x.2.2.2.length ≤ 4) ∧ ys.length ≤ 10 ∧ zs.length ≤ 13 ∧ m <+: m' ∧ RdM m' (some ⟨im, 0, none⟩) xs ∧ RdI m' (some ⟨iy, 0, none⟩) ys ∧ RdI m' (some ⟨iz, 0, none⟩) zs
theorem drawBest_c (a : Option Addr) (code : List Int) (m : Mem) (h : RdB m a code) (hl : code.length ≤ 1048576) :
    ∃ v m', ACalls Try.prog 43 [.slice a code.length code.length] m v m' ∧ DMks m v m' := by
  obtain ⟨v1, m1, hc1, kinds, n, im, o, ss, ps, rfl, hn, hb1, hs1, hM⟩ := l21Draw_c m.length a code 0 (by omega) _ (srcNew h hl)
  obtain ⟨xs, hx, hrd, hxl⟩ := hM.rd
  subst hx
  refine ecalls_of_vc Try.func43 rfl Try.fol (by kernel_rfl) ?_
  simp only [Try.f43]
  simp -dsimp -implicitDefEqProofs
  refine callsTo Try.cal69 (l00From_c a code m) ?_
  simp -dsimp -implicitDefEqProofs
  refine callsTo Try.cal70 hc1 ?_
  simp -dsimp -implicitDefEqProofs
  exact ⟨_, _, GC.refl _ _ _, kinds, xs, im, rfl, hn, hxl, hb1.pre ⟨_, rfl⟩ (Nat.le_refl _), hrd⟩
theorem l21All_c (a : Option Addr) (code : List Int) (m : Mem) (h : RdB m a code) (hl : code.length ≤ 1048576) :
    ∃ v m', ACalls Try.prog 73 [.slice a code.length code.length] m v m' ∧ DAll m v m' := by
  obtain ⟨v1, m1, hc1, kinds, n, im, o, ss, ps, rfl, hn, hb1, hs1, hM⟩ := l21Draw_c m.length a code 0 (by omega) _ (srcNew h hl)
  obtain ⟨v2, m2, hc2, ys, iy, hy, rfl, hb2, hs2, hiy, hY⟩ := l21DrawStock_c m.length a code (0 + 2000) (by omega) kinds m1 hs1
  obtain ⟨xs, hx, hrd, hxl⟩ := (hM.but hb2 (by simp)).rd
  subst hx
  refine ecalls_of_vc Try.func73 rfl Try.fol (by kernel_rfl) ?_
  simp only [Try.f73]
  simp -dsimp -implicitDefEqProofs
  refine callsTo Try.cal69 (l00From_c a code m) ?_
  simp -dsimp -implicitDefEqProofs
  refine callsTo Try.cal70 hc1 ?_
  simp -dsimp -implicitDefEqProofs
  refine callsTo Try.cal71 hc2 ?_
  simp -dsimp -implicitDefEqProofs
  exact ⟨_, _, GC.refl _ _ _, kinds, xs, im, ys, iy, rfl, hn, hxl, hy, (hb1.trans hb2).pre ⟨_, rfl⟩ (Nat.le_refl _), hrd, hY.rd⟩
theorem drawMake_c (a : Option Addr) (code : List Int) (m : Mem) (h : RdB m a code) (hl : code.length ≤ 1048576) :
    ∃ v m', ACalls Try.prog 44 [.slice a code.length code.length] m v m' ∧ DAll m v m' := by
  obtain ⟨v1, m1, hc1, kinds, xs, im, ys, iy, rfl, h1⟩ := l21All_c a code m h hl
  refine ecalls_of_vc Try.func44 rfl Try.fol (by kernel_rfl) ?_
  simp only [Try.f44]
  simp -dsimp -implicitDefEqProofs
  refine callsTo Try.cal73 hc1 ?_
  simp -dsimp -implicitDefEqProofs
  exact ⟨_, _, GC.refl _ _ _, kinds, xs, im, ys, iy, rfl, h1⟩
theorem drawBestM_c (a : Option Addr) (code : List Int) (m : Mem) (h : RdB m a code) (hl : code.length ≤ 1048576) :
    ∃ v m', ACalls Try.prog 46 [.slice a code.length code.length] m v m' ∧ DAll m v m' := by
  obtain ⟨v1, m1, hc1, kinds, xs, im, ys, iy, rfl, h1⟩ := l21All_c a code m h hl
  refine ecalls_of_vc Try.func46 rfl Try.fol (by kernel_rfl) ?_
  simp only [Try.f46]
  simp -dsimp -implicitDefEqProofs
  refine callsTo Try.cal73 hc1 ?_
  simp -dsimp -implicitDefEqProofs
  exact ⟨_, _, GC.refl _ _ _, kinds, xs, im, ys, iy, rfl, h1⟩
theorem drawStock_c (a : Option Addr) (code : List Int) (m : Mem) (h : RdB m a code) (hl : code.length ≤ 1048576) :
    ∃ v m', ACalls Try.prog 42 [.slice a code.length code.length] m v m' ∧ DStock m v m' := by
  obtain ⟨v1, m1, hc1, kinds, n, im, o, ss, ps, rfl, hn, hb1, hs1, hM⟩ := l21Draw_c m.length a code 0 (by omega) _ (srcNew h hl)
  obtain ⟨v2, m2, hc2, ys, iy, hy, rfl, hb2, hs2, hiy, hY⟩ := l21DrawStock_c m.length a code (0 + 2000) (by omega) kinds m1 hs1
  obtain ⟨v3', m3, hc3, zs, iz, hz, rfl, hb3, hs3, hiz, hZ⟩ := l03Some_c m.length a code (0 + 2000 + 100) (by omega) n hn m2 hs2
  obtain ⟨xs, hx, hrd, hxl⟩ := ((hM.but hb2 (by simp)).but hb3 (by simp)).rd
  have hl1 := hb1.len
  simp at hl1
  subst hx
  refine ecalls_of_vc Try.func42 rfl Try.fol (by kernel_rfl) ?_
  simp only [Try.f42]
  simp -dsimp -implicitDefEqProofs
  refine callsTo Try.cal69 (l00From_c a code m) ?_
  simp -dsimp -implicitDefEqProofs
  refine callsTo Try.cal70 hc1 ?_
  simp -dsimp -implicitDefEqProofs
  refine callsTo Try.cal71 hc2 ?_
  simp -dsimp -implicitDefEqProofs
  refine callsTo Try.cal72 hc3 ?_
  simp -dsimp -implicitDefEqProofs
  exact ⟨_, _, GC.refl _ _ _, kinds, xs, im, ys, iy, zs, iz, rfl, hn, hxl, hy, hz, ((hb1.trans hb2).trans hb3).pre ⟨_, rfl⟩ (Nat.le_refl _), hrd, (hY.but hb3 (by omega)).rd, hZ.rd⟩
end Go.Proofs.Ytciekhcdkfhcoaa
