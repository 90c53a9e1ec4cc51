/-
  Markets, part 6: what a market sells, what is left of a stock, and the income. Conditions: none.
-/
import Derived.Test.YtciekhcdkfhcoaaMkE
set_option linter.unusedSimpArgs false
set_option linter.unusedVariables false
set_option linter.unusedSectionVars false
namespace Go.Proofs.Ytciekhcdkfhcoaa
open Go.Abs Go.RowKit

def saleAt (x : Mk) (ys : List Int) (k : Nat) : Int := min (ys.getD k 0) (x.2.2.1.getD k 0)
def saleN (x : Mk) (ys : List Int) (n : Nat) : List Int := (List.range n).map (saleAt x ys)
def leftAt (x : Mk) (ys : List Int) (k : Nat) : Int := w64 (ys.getD k 0 - saleAt x ys k)
def leftN (x : Mk) (ys : List Int) (n : Nat) : List Int := (List.range n).map (leftAt x ys)
/-- The income from the first k kinds of a sale. -/
def incTo (x : Mk) (sale : List Int) : Nat → Int
  | 0 => w64 (0 - x.2.1)
  | k + 1 => w64 (incTo x sale k + w64 (sale.getD k 0 * x.2.2.2.getD k 0))
def incOf (x : Mk) (ys : List Int) : Int := incTo x (saleN x ys ys.length) ys.length
theorem saleN_length (x : Mk) (ys : List Int) (n : Nat) : (saleN x ys n).length = n := by simp [saleN]
theorem leftN_length (x : Mk) (ys : List Int) (n : Nat) : (leftN x ys n).length = n := by simp [leftN]
theorem saleN_succ (x : Mk) (ys : List Int) (n : Nat) : saleN x ys (n + 1) = saleN x ys n ++ [saleAt x ys n] := by simp [saleN, List.range_succ]
theorem leftN_succ (x : Mk) (ys : List Int) (n : Nat) : leftN x ys (n + 1) = leftN x ys n ++ [leftAt x ys n] := by simp [leftN, List.range_succ]
theorem saleN_getD (x : Mk) (ys : List Int) {n k : Nat} (h : k < n) : (saleN x ys n).getD k 0 = saleAt x ys k := by simp [saleN, List.getD_eq_getElem?_getD, h]
theorem incTo_congr (x : Mk) {s t : List Int} : ∀ k, (∀ i, i < k → s.getD i 0 = t.getD i 0) → incTo x s k = incTo x t k
  | 0, _ => rfl
  | k + 1, h => by simp only [incTo]; rw [incTo_congr x k fun i hi => h i (by omega), h k (by omega)]
theorem l00Min_c (a b : Int) (m : Mem) : ACalls Try.prog 79 [.int .i64 a, .int .i64 b] m (.int .i64 (min a b)) m := by
  refine acalls_of_vc Try.func79 rfl Try.fol (by kernel_rfl) ?_
  simp only [Try.f79]
  simp -dsimp -implicitDefEqProofs
  refine ⟨fun h => GC.eq ?_, fun h => GC.eq ?_⟩ <;> simp at h <;> simp <;> omega

theorem l21Sale_c (x : Mk) (ys : List Int) (id off : Nat) (b : Option Addr) (m : Mem) (hp : IsMk m id off x) (hs : RdI m b ys) (hn : ys.length ≤ 1048576) (hl : ys.length ≤ x.2.2.1.length) :
    ACalls Try.prog 55 [.pointer (some ⟨id, off, none⟩), .slice b ys.length ys.length] m (.slice (some ⟨m.length, 0, none⟩) ys.length ys.length) (m ++ [⟨(saleN x ys ys.length).map (Value.int .i64), 2, 1, 2⟩]) := by
  refine acalls_of_vc Try.func55 rfl Try.fol (by kernel_rfl) ?_
  simp only [Try.f55]
  simp -dsimp -implicitDefEqProofs
  refine loopN ys.length (fun k σ m' => ∃ (i : Nat) (o : AObj), (m <+: m' ∧ m.length ≤ i ∧ m'[i]? = some o ∧ 1 ≤ o.kind ∧ o.kind ≤ 2 ∧ o.sz = 1 ∧ o.elem = 2 ∧ o.cells = (saleN x ys k).map (Value.int .i64)) ∧ σ 0 = some (.pointer (some ⟨id, off, none⟩)) ∧ σ 1 = some (.slice b ys.length ys.length) ∧ σ 5 = some (.slice (some ⟨i, 0, none⟩) k k) ∧ σ 6 = some (.int .i64 k))
    ⟨m.length, _, ⟨⟨_, rfl⟩, Nat.le_refl _, by simp; rfl, by simp, by simp, rfl, rfl, rfl⟩, by simp, by simp, by simp, by simp⟩ ?_
  rintro k σ m' hk ⟨i, o, ⟨hpre, hi, ho, ho1, ho2, ho3, ho4, ho5⟩, s0, s1, s5, s6⟩
  by_cases hlt : k < ys.length
  · obtain ⟨ox, ad, bd, hm, hkd, h0, h1, h2, h3, q1, q2⟩ := hp
    have hlx : k < x.2.2.1.length := by omega
    obtain ⟨yid, yoff, yo, rfl, hym, hyk, hys, hyc⟩ := (hs.pre' hpre).at_ hlt
    obtain ⟨pid, poff, po, rfl, hpm, hpk, hps, hpc⟩ := (q1.pre' hpre).at_ hlx
    have hm' := prefix_get hpre hm
    have hwk : IntKind.i64.wrap ((k : Int) + 1) = k + 1 := wrapI (by omega) (by omega)
    simp -dsimp -implicitDefEqProofs [s0, s1, s5, s6, hlt, hlx, withO_of hm', hkd, withC_of h0, withC_of h1, withC_of h2, withC_of h3, withO_of hym, hyk, hys, withC_of hyc, withO_of hpm, hpk, hps, withC_of hpc, hwk]
    refine callsTo Try.cal79 (l00Min_c _ _ _) ?_
    simp -dsimp -implicitDefEqProofs [s0, s1, s5, s6, hlt, hlx, withO_of hm', hkd, withC_of h0, withC_of h1, withC_of h2, withC_of h3, withO_of hym, hyk, hys, withC_of hyc, withO_of hpm, hpk, hps, withC_of hpc, hwk]
    have e : saleAt x ys k = min ys[k] x.2.2.1[k] := by simp [saleAt, List.getD_eq_getElem?_getD, hlt, hlx]
    refine appTo_grow (e := 2) (sz := 1) (by_ := 8) (z := .int .i64 0) (by kernel_rfl) (by kernel_rfl) ⟨by decide, rfl⟩ (o := o) (get_old ho) ⟨ho1, ho2⟩ ⟨ho3, ho4⟩ (by rw [ho5]; simp [saleN_length]) (by omega) (Src.obj (o := ⟨[.int .i64 (min ys[k] x.2.2.1[k])], 2, 1, 1⟩) (by simp) (by simp) rfl rfl) ?_
    intro m4 id4 hg
    simp -dsimp -implicitDefEqProofs [s0, s1, s5, s6, hlt, hlx, withO_of hm', hkd, withC_of h0, withC_of h1, withC_of h2, withC_of h3, withO_of hym, hyk, hys, withC_of hyc, withO_of hpm, hpk, hps, withC_of hpc, hwk]
    refine need_intro (.inr (by kernel_rfl)) ?_
    exact next_ hlt ⟨id4, _, ⟨hg.pre m (pre_app hpre _) hi, by rw [hg.at_]; simp; have := hpre.length_le; omega, hg.new, by simp, by simp, rfl, rfl, by simp [ho5, saleN_succ, e]⟩, by simp [s0], by simp [s1], by simp, by simp [hwk]⟩
  · simp -dsimp -implicitDefEqProofs [s0, s1, s5, s6, hlt]
    obtain rfl : k = ys.length := by omega
    exact GC.keepSP (Fits.refl m) hpre ho hi ho3.symm ho4.symm (by simp; omega) ho5.symm (by rw [ho5]; exact ints_lit _)
theorem l21Income_c (x : Mk) (sale : List Int) (id off : Nat) (b : Option Addr) (m : Mem) (hp : IsMk m id off x) (hs : RdI m b sale) (hn : sale.length ≤ 1048576) (hl : sale.length ≤ x.2.2.2.length) :
    ACalls Try.prog 54 [.pointer (some ⟨id, off, none⟩), .slice b sale.length sale.length] m (.int .i64 (incTo x sale sale.length)) m := by
  obtain ⟨ox, ad, bd, hm, hkd, h0, h1, h2, h3, q1, q2⟩ := hp
  refine acalls_of_vc Try.func54 rfl Try.fol (by kernel_rfl) ?_
  simp only [Try.f54]
  simp -dsimp -implicitDefEqProofs [withO_of hm, hkd, withC_of h1]
  refine loopN sale.length (fun k σ m' => m' = m ∧ σ 0 = some (.pointer (some ⟨id, off, none⟩)) ∧ σ 1 = some (.slice b sale.length sale.length) ∧ σ 5 = some (.int .i64 (incTo x sale k)) ∧ σ 6 = some (.int .i64 k)) ⟨rfl, by simp [incTo]⟩ ?_
  rintro k σ m' hk ⟨rfl, s0, s1, s5, s6⟩
  by_cases hlt : k < sale.length
  · have hlx : k < x.2.2.2.length := by omega
    obtain ⟨yid, yoff, yo, rfl, hym, hyk, hys, hyc⟩ := hs.at_ hlt
    obtain ⟨pid, poff, po, rfl, hpm, hpk, hps, hpc⟩ := q2.at_ hlx
    have hwk : IntKind.i64.wrap ((k : Int) + 1) = k + 1 := wrapI (by omega) (by omega)
    have e1 : sale.getD k 0 = sale[k] := by simp [List.getD_eq_getElem?_getD, hlt]
    have e2 : x.2.2.2.getD k 0 = x.2.2.2[k] := by simp [List.getD_eq_getElem?_getD, hlx]
    simp -dsimp -implicitDefEqProofs [s0, s1, s5, s6, hlt, hlx, withO_of hm, hkd, withC_of h0, withC_of h1, withC_of h2, withC_of h3, withO_of hym, hyk, hys, withC_of hyc, withO_of hpm, hpk, hps, withC_of hpc, hwk]
    have ei : incTo x sale (k + 1) = w64 (incTo x sale k + w64 (sale[k] * x.2.2.2[k])) := by simp only [incTo, e1, e2]
    exact next_ hlt ⟨rfl, by simp [s0, s1, hwk, ei]⟩
  · simp -dsimp -implicitDefEqProofs [s0, s1, s5, s6, hlt]
    obtain rfl : k = sale.length := by omega
    exact GC.refl _ _ _

theorem GC.keepT2 {m m1 : Mem} {i1 i2 n1 n2 : Nat} {o1 o2 p1 p2 : AObj} {l : List Value} (hp : m <+: m1) (h1 : m1[i1]? = some o1) (h2 : m1[i2]? = some o2) (hne : i1 ≠ i2) (g1 : m.length ≤ i1) (g2 : m.length ≤ i2)
    (w1 : ∀ φ, Weak φ m o1 p1) (w2 : ∀ φ, Weak φ m o2 p2) (hll : l.all litB = true) :
    GC m m1 (.tuple (.slice (some ⟨i1, 0, none⟩) n1 n1 :: .slice (some ⟨i2, 0, none⟩) n2 n2 :: l).toArray) (m ++ [p1, p2]) (.tuple (.slice (some ⟨m.length, 0, none⟩) n1 n1 :: .slice (some ⟨m.length + 1, 0, none⟩) n2 n2 :: l).toArray) := by
  obtain ⟨j, rfl⟩ := hp
  have h0 : ∀ l : List Value, l.all litB = true → All2 (ren2 (phi m.length [i1, i2])) l l := by
    intro l
    induction l with
    | nil => exact fun _ => trivial
    | cons a l ih => intro h; simp only [List.all_cons, Bool.and_eq_true] at h; exact ⟨ren2_lit h.1, ih h.2⟩
  refine GC.keep [i1, i2] (Fits.refl m) (by simp [hne]) (by simp [g1, g2]) rfl ?_ ⟨_, rfl, .inl ⟨rfl, _, phi_new (k := 0) rfl, rfl⟩, .inl ⟨rfl, _, phi_new (k := 1) rfl, rfl⟩, h0 l hll⟩
  intro k i o hk' ho
  match k with
  | 0 => simp at hk' ho; subst hk'; subst ho; exact ⟨o1, h1, w1 _⟩
  | 1 => simp at hk' ho; subst hk'; subst ho; exact ⟨o2, h2, w2 _⟩
  | k + 2 => simp at hk'

theorem sellAt_c (x : Mk) (ys : List Int) (ad bd b : Option Addr) (m : Mem) (q1 : RdI m ad x.2.2.1) (q2 : RdI m bd x.2.2.2) (hs : RdI m b ys) (hn : ys.length ≤ 1048576) (hl1 : ys.length ≤ x.2.2.1.length) (hl2 : ys.length ≤ x.2.2.2.length) :
    ACalls Try.prog 57 [.agg (mkRow4 x ad bd).toArray, .slice b ys.length ys.length] m
      (.tuple #[.slice (some ⟨m.length, 0, none⟩) ys.length ys.length, .slice (some ⟨m.length + 1, 0, none⟩) ys.length ys.length, .int .i64 (incOf x ys)])
      (m ++ [⟨(saleN x ys ys.length).map (Value.int .i64), 2, 1, 2⟩, ⟨(leftN x ys ys.length).map (Value.int .i64), 2, 1, 2⟩]) := by
  refine acalls_of_vcF [1] Try.func57 rfl Try.fol (by kernel_rfl) ?_
  simp only [Try.f57, mkRow4]
  simp -dsimp -implicitDefEqProofs
  have a11 : ∀ n : Nat, n + 1 + 1 = n + 2 := fun _ => rfl
  refine regF [[], [0], [], [0, 1], [], [], [], []] 2 (by kernel_rfl) (by kernel_rfl) ?_
  simp -dsimp -implicitDefEqProofs [a11]
  refine loopN ys.length (fun k σ m' => ∃ (i7 i8 : Nat) (o7 o8 : AObj), (m <+: m' ∧ m.length < i7 ∧ m.length < i8 ∧ i7 ≠ i8 ∧ m'[m.length]? = some ⟨mkRow4 x ad bd, 35, 4, 1⟩) ∧ (m'[i7]? = some o7 ∧ 1 ≤ o7.kind ∧ o7.kind ≤ 2 ∧ o7.sz = 1 ∧ o7.elem = 2 ∧ o7.cells = (saleN x ys k).map (Value.int .i64)) ∧
      (m'[i8]? = some o8 ∧ 1 ≤ o8.kind ∧ o8.kind ≤ 2 ∧ o8.sz = 1 ∧ o8.elem = 2 ∧ o8.cells = (leftN x ys k).map (Value.int .i64)) ∧ σ 2 = some (.pointer (some ⟨m.length, 0, none⟩)) ∧ σ 7 = some (.slice (some ⟨i7, 0, none⟩) k k) ∧ σ 8 = some (.slice (some ⟨i8, 0, none⟩) k k) ∧
      σ 9 = some (.int .i64 (incTo x (saleN x ys ys.length) k)) ∧ σ 18 = some (.slice b ys.length ys.length) ∧ σ 19 = some (.int .i64 ys.length) ∧ σ 20 = some (.int .i64 k))
    ⟨m.length + 1, m.length + 2, _, _, ⟨⟨_, rfl⟩, by omega, by omega, by omega, by simp [mkRow4]⟩, ⟨by simp; rfl, by simp, by simp, rfl, rfl, rfl⟩, ⟨by simp; rfl, by simp, by simp, rfl, rfl, rfl⟩, by simp, by simp, by simp, by simp [incTo], by simp, by simp, by simp⟩ ?_
  rintro k σ m' hk ⟨i7, i8, o7, o8, ⟨hp, hi7, hi8, h78, hbx⟩, ⟨a1, a2, a3, a4, a5, a6⟩, ⟨b1, b2, b3, b4, b5, b6⟩, s2, s7, s8, s9, s18, s19, s20⟩
  by_cases hlt : k < ys.length
  · have hlx : k < x.2.2.1.length := by omega
    have hlp : k < x.2.2.2.length := by omega
    obtain ⟨yid, yoff, yo, rfl, hym, hyk, hys, hyc⟩ := (hs.pre' hp).at_ hlt
    obtain ⟨pid, poff, po, rfl, hpm, hpk, hps, hpc⟩ := (q1.pre' hp).at_ hlx
    obtain ⟨rid, roff, ro, rfl, hrm, hrk, hrs, hrc⟩ := (q2.pre' hp).at_ hlp
    have hwk : IntKind.i64.wrap ((k : Int) + 1) = k + 1 := wrapI (by omega) (by omega)
    have e : saleAt x ys k = min ys[k] x.2.2.1[k] := by simp [saleAt, List.getD_eq_getElem?_getD, hlt, hlx]
    simp -dsimp -implicitDefEqProofs [mkRow4, s2, s7, s8, s9, s18, s19, s20, hlt, hlx, hlp, withO_of hbx, withO_of hym, hyk, hys, withC_of hyc, withO_of hpm, hpk, hps, withC_of hpc, hwk]
    refine appTo_grow (e := 2) (sz := 1) (by_ := 8) (z := .int .i64 0) (by kernel_rfl) (by kernel_rfl) ⟨by decide, rfl⟩ (o := o7) (get_old a1) ⟨a2, a3⟩ ⟨a4, a5⟩ (by rw [a6]; simp [saleN_length]) (by omega) (Src.obj (o := ⟨[.int .i64 (min ys[k] x.2.2.1[k])], 2, 1, 1⟩) (by simp) (by simp) rfl rfl) ?_
    intro m4 id4 hg
    have hb4 := hg.old _ _ (Ne.symm h78) (get_old (l := [⟨[.int .i64 (min ys[k] x.2.2.1[k])], 2, 1, 1⟩]) b1)
    have hx4 := hg.old _ _ (by omega) (get_old (l := [⟨[.int .i64 (min ys[k] x.2.2.1[k])], 2, 1, 1⟩]) hbx)
    have hp4 := hg.pre m (pre_app hp _) (by omega)
    have hi4 : id4 = m'.length + 1 := by rw [hg.at_]; simp
    have hl7 := lt_of_get a1
    have hl8 := lt_of_get b1
    have hl4 : m4.length = m'.length + 2 := by rw [hg.len]; simp
    simp -dsimp -implicitDefEqProofs [mkRow4, s2, s7, s8, s9, s18, s19, s20, hlt, hlx, hlp, withO_of hbx, withO_of hym, hyk, hys, withC_of hyc, withO_of hpm, hpk, hps, withC_of hpc, hwk]
    refine appTo_grow (e := 2) (sz := 1) (by_ := 8) (z := .int .i64 0) (by kernel_rfl) (by kernel_rfl) ⟨by decide, rfl⟩ (o := o8) (get_old hb4) ⟨b2, b3⟩ ⟨b4, b5⟩ (by rw [b6]; simp [leftN_length]) (by omega) (Src.obj (o := ⟨[.int .i64 (w64 (ys[k] - min ys[k] x.2.2.1[k]))], 2, 1, 1⟩) (by simp) (by simp) rfl rfl) ?_
    intro m5 id5 hg5
    have hx5 := hg5.old _ _ (by omega) (get_old (l := [⟨[.int .i64 (w64 (ys[k] - min ys[k] x.2.2.1[k]))], 2, 1, 1⟩]) hx4)
    have h75 := hg5.old _ _ (by omega) (get_old (l := [⟨[.int .i64 (w64 (ys[k] - min ys[k] x.2.2.1[k]))], 2, 1, 1⟩]) hg.new)
    have hp5 := hg5.pre m (pre_app hp4 _) (by omega)
    have hi5 : id5 = m4.length + 1 := by rw [hg5.at_]; simp
    obtain ⟨rid', roff', ro', hre, hrm', hrk', hrs', hrc'⟩ := (q2.pre' hp5).at_ hlp
    injection hre with hre
    injection hre with hre1 hre2
    subst hre1; subst hre2
    simp -dsimp -implicitDefEqProofs [mkRow4, s2, s7, s8, s9, s18, s19, s20, hlt, hlx, hlp, withO_of hbx, withO_of hym, hyk, hys, withC_of hyc, withO_of hpm, hpk, hps, withC_of hpc, hwk, withO_of hx5, withO_of hrm', hrk', hrs', withC_of hrc']
    have ey : ys.getD k 0 = ys[k] := by simp [List.getD_eq_getElem?_getD, hlt]
    have ep : x.2.2.2.getD k 0 = x.2.2.2[k] := by simp [List.getD_eq_getElem?_getD, hlp]
    have el : leftAt x ys k = w64 (ys[k] - min ys[k] x.2.2.1[k]) := by simp only [leftAt, e, ey]
    have ei : incTo x (saleN x ys ys.length) (k + 1) = w64 (incTo x (saleN x ys ys.length) k + w64 (min ys[k] x.2.2.1[k] * x.2.2.2[k])) := by simp only [incTo, saleN_getD x ys hlt, e, ep]
    exact next_ hlt ⟨id4, id5, _, _, ⟨hp5, by omega, by omega, by omega, hx5⟩, ⟨h75, by simp, by simp, rfl, rfl, by simp [a6, saleN_succ, e]⟩, ⟨hg5.new, by simp, by simp, rfl, rfl, by simp [b6, leftN_succ, el]⟩, by simp [s2], by simp, by simp, by simp [ei], by simp [s18], by simp [s19], by simp [hwk]⟩
  · simp -dsimp -implicitDefEqProofs [s2, s7, s8, s9, s18, s19, s20, hlt]
    obtain rfl : k = ys.length := by omega
    exact GC.keepT2 hp a1 b1 h78 (by omega) (by omega) (fun φ => Weak.lits a4.symm a5.symm (by simp; omega) a6.symm (by rw [a6]; exact ints_lit _)) (fun φ => Weak.lits b4.symm b5.symm (by simp; omega) b6.symm (by rw [b6]; exact ints_lit _)) rfl
end Go.Proofs.Ytciekhcdkfhcoaa
