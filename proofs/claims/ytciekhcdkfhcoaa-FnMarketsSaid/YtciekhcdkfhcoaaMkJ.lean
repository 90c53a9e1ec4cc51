/-
  Markets, part 10: the stock and the income behind some markets. Conditions: none.
-/
import Derived.Test.YtciekhcdkfhcoaaMkI
set_option linter.unusedSimpArgs false
set_option linter.unusedVariables false
set_option linter.unusedSectionVars false
namespace Go.Proofs.Ytciekhcdkfhcoaa
open Go.Abs Go.RowKit

/-- Rising numbers below n. -/
def riseAt (zs : List Int) (n : Int) (i : Nat) : Bool := inB (zs.getD i 0) 0 (n - 1) && (match i with | 0 => true | i + 1 => decide (zs.getD i 0 < zs.getD (i + 1) 0))
def risesB (zs : List Int) (n : Int) : Bool := (List.range zs.length).all (riseAt zs n)
theorem riseAt_zero {zs : List Int} {n : Int} (h : 0 < zs.length) : riseAt zs n 0 = inB zs[0] 0 (n - 1) := by simp [riseAt, List.getD_eq_getElem?_getD, h]
theorem riseAt_succ {zs : List Int} {n : Int} {i : Nat} (h : i + 1 < zs.length) : riseAt zs n (i + 1) = (inB zs[i + 1] 0 (n - 1) && decide (zs[i] < zs[i + 1])) := by
  simp [riseAt, List.getD_eq_getElem?_getD, h, show i < zs.length by omega]
theorem l00Rises_c (zs : List Int) (n : Int) (b : Option Addr) (m : Mem) (hs : RdI m b zs) (hn : zs.length ≤ 1048576) : ACalls Try.prog 61 [.slice b zs.length zs.length, .int .i64 0, .int .i64 (n - 1)] m (.bool (risesB zs n)) m := by
  refine acalls_of_vc Try.func61 rfl Try.fol (by kernel_rfl) ?_
  simp only [Try.f61]
  simp -dsimp -implicitDefEqProofs
  refine loopN zs.length (fun k σ m' => m' = m ∧ (σ 0 = some (.slice b zs.length zs.length) ∧ σ 1 = some (.int .i64 0) ∧ σ 2 = some (.int .i64 (n - 1)) ∧ σ 7 = some (.int .i64 k)) ∧ (List.range k).all (riseAt zs n) = true) ⟨rfl, by simp, rfl⟩ ?_
  rintro k σ m' hk ⟨rfl, ⟨s0, s1, s2, s7⟩, hok⟩
  by_cases hlt : k < zs.length
  · obtain ⟨id, off, o, rfl, hm, hkd, hsz, hc⟩ := hs.at_ hlt
    have hwk : IntKind.i64.wrap ((k : Int) + 1) = k + 1 := wrapI (by omega) (by omega)
    simp -dsimp -implicitDefEqProofs [s0, s1, s2, s7, hlt, withO_of hm, hkd, hsz, withC_of hc, hwk]
    refine callsTo Try.cal80 (l00In_c _ _ _ _) ?_
    simp -dsimp -implicitDefEqProofs [s0, s1, s2, s7, hlt, withO_of hm, hkd, hsz, withC_of hc, hwk]
    cases k with
    | zero =>
      refine sp2 (fun g => GC.eq ?_) (fun g => ?_)
      · simp at g
        rw [risesB, allTo_false hlt (by rw [riseAt_zero hlt]; exact g)]
      · simp at g
        simp -dsimp -implicitDefEqProofs [s0, s1, s2, s7, hlt, withO_of hm, hkd, hsz, withC_of hc, hwk]
        exact next_ hlt ⟨rfl, by simp [s0, s1, s2, hwk], allTo_succ hok (by rw [riseAt_zero hlt]; exact g)⟩
    | succ k =>
      have hlt' : k < zs.length := by omega
      obtain ⟨id', off', o', hre, hm', hkd', hsz', hc'⟩ := hs.at_ hlt'
      injection hre with hre
      injection hre with hre1 hre2
      subst hre1; subst hre2
      rw [hm] at hm'
      injection hm' with hm'
      subst hm'
      have hw2 : IntKind.i64.wrap (k : Int) = k := wrapI (by omega) (by omega)
      refine sp2 (fun g => GC.eq ?_) (fun g => ?_)
      · simp at g
        rw [risesB, allTo_false hlt (by rw [riseAt_succ hlt, g]; rfl)]
      · simp at g
        simp -dsimp -implicitDefEqProofs [s0, s1, s2, s7, hlt, withO_of hm, hkd, hsz, withC_of hc, hwk, withC_of hc', hw2, hlt']
        refine need_intro (by omega) (sp2 (fun g2 => GC.eq ?_) (fun g2 => ?_))
        · simp at g2
          rw [risesB, allTo_false hlt (by rw [riseAt_succ hlt]; simp; omega)]
        · simp at g2
          have hwk2 : IntKind.i64.wrap ((k : Int) + 1 + 1) = k + 1 + 1 := wrapI (by omega) (by omega)
          exact next_ hlt ⟨rfl, by simp [s0, s1, s2, hwk2], allTo_succ hok (by rw [riseAt_succ hlt, g]; simpa using g2)⟩
  · simp -dsimp -implicitDefEqProofs [s0, s1, s2, s7, hlt]
    obtain rfl : k = zs.length := by omega
    exact GC.eq (by rw [risesB, hok])
theorem indices_c (zs : List Int) (n : Int) (b : Option Addr) (m : Mem) (hs : RdI m b zs) (hn : zs.length ≤ 1048576) (hn0 : 0 ≤ n ∧ n ≤ 1048576) : ACalls Try.prog 63 [.slice b zs.length zs.length, .int .i64 n] m (.bool (risesB zs n)) m := by
  have hwn : IntKind.i64.wrap (n - 1) = n - 1 := wrapI (by omega) (by omega)
  refine acalls_of_vc Try.func63 rfl Try.fol (by kernel_rfl) ?_
  simp only [Try.f63]
  simp -dsimp -implicitDefEqProofs
  refine loopN zs.length (fun k σ m' => m' = m ∧ (σ 0 = some (.slice b zs.length zs.length) ∧ σ 1 = some (.int .i64 n) ∧ σ 7 = some (.slice b zs.length zs.length) ∧ σ 8 = some (.int .i64 zs.length) ∧ σ 9 = some (.int .i64 k)) ∧ (List.range k).all (riseAt zs n) = true) ⟨rfl, by simp, rfl⟩ ?_
  rintro k σ m' hk ⟨rfl, ⟨s0, s1, s7, s8, s9⟩, hok⟩
  by_cases hlt : k < zs.length
  · obtain ⟨id, off, o, rfl, hm, hkd, hsz, hc⟩ := hs.at_ hlt
    have hwk : IntKind.i64.wrap ((k : Int) + 1) = k + 1 := wrapI (by omega) (by omega)
    simp -dsimp -implicitDefEqProofs [s0, s1, s7, s8, s9, hlt, withO_of hm, hkd, hsz, withC_of hc, hwk, hwn]
    refine callsTo Try.cal51 (within_c _ _ _ _) ?_
    simp -dsimp -implicitDefEqProofs [s0, s1, s7, s8, s9, hlt, withO_of hm, hkd, hsz, withC_of hc, hwk, hwn]
    cases k with
    | zero =>
      refine sp2 (fun g => GC.eq ?_) (fun g => ?_)
      · simp at g
        rw [risesB, allTo_false hlt (by rw [riseAt_zero hlt]; exact g)]
      · simp at g
        simp -dsimp -implicitDefEqProofs [s0, s1, s7, s8, s9, hlt, withO_of hm, hkd, hsz, withC_of hc, hwk, hwn]
        exact next_ hlt ⟨rfl, by simp [s0, s1, s7, s8, hwk], allTo_succ hok (by rw [riseAt_zero hlt]; exact g)⟩
    | succ k =>
      have hlt' : k < zs.length := by omega
      obtain ⟨id', off', o', hre, hm', hkd', hsz', hc'⟩ := hs.at_ hlt'
      injection hre with hre
      injection hre with hre1 hre2
      subst hre1; subst hre2
      rw [hm] at hm'
      injection hm' with hm'
      subst hm'
      have hw2 : IntKind.i64.wrap (k : Int) = k := wrapI (by omega) (by omega)
      refine sp2 (fun g => GC.eq ?_) (fun g => ?_)
      · simp at g
        rw [risesB, allTo_false hlt (by rw [riseAt_succ hlt, g]; rfl)]
      · simp at g
        simp -dsimp -implicitDefEqProofs [s0, s1, s7, s8, s9, hlt, withO_of hm, hkd, hsz, withC_of hc, hwk, hwn, withC_of hc', hw2, hlt']
        refine sp2 (fun g2 => GC.eq ?_) (fun g2 => ?_)
        · simp at g2
          rw [risesB, allTo_false hlt (by rw [riseAt_succ hlt]; simp; omega)]
        · simp at g2
          have hwk2 : IntKind.i64.wrap ((k : Int) + 1 + 1) = k + 1 + 1 := wrapI (by omega) (by omega)
          exact next_ hlt ⟨rfl, by simp [s0, s1, s7, s8, hwk2], allTo_succ hok (by rw [riseAt_succ hlt, g]; simpa using g2)⟩
  · simp -dsimp -implicitDefEqProofs [s0, s1, s7, s8, s9, hlt]
    obtain rfl : k = zs.length := by omega
    exact GC.eq (by rw [risesB, hok])

theorem own_c (xs : List Int) (b : Option Addr) (m : Mem) (hs : RdI m b xs) (hn : xs.length ≤ 1048576) :
    ACalls Try.prog 81 [.slice b xs.length xs.length] m (.slice (some ⟨m.length, 0, none⟩) xs.length xs.length) (m ++ [⟨xs.map (Value.int .i64), 2, 1, 2⟩]) := by
  refine acalls_of_vc Try.func81 rfl Try.fol (by kernel_rfl) ?_
  simp only [Try.f81]
  simp -dsimp -implicitDefEqProofs
  refine appTo_grow (e := 2) (sz := 1) (by_ := 8) (z := .int .i64 0) (by kernel_rfl) (by kernel_rfl) ⟨by decide, rfl⟩ (o := ⟨[], 2, 1, 1⟩) (by simp) (by simp) ⟨rfl, rfl⟩ rfl (by omega) (Src.rdI (hs.ext _)) ?_
  intro m2 id2 hg
  simp -dsimp -implicitDefEqProofs
  have := GC.keepSP (m := m) (m' := m) (m1 := m2) (id := id2) (off := 0) (n := xs.length) (o2 := ⟨xs.map (Value.int .i64), 2, 1, 2⟩) (Fits.refl m) (hg.pre m ⟨_, rfl⟩ (Nat.le_refl _)) hg.new (by rw [hg.at_]; simp) rfl rfl (.inl rfl) (by simp) (by simp [litB])
  simpa using this

/-- What is left of a stock behind some markets, and the sum of their incomes. -/
def goStep (xs : List Mk) (s : List Int × Int) (k : Int) : List Int × Int := (leftN (xs.getD k.toNat dM) s.1 s.1.length, w64 (s.2 + incOf (xs.getD k.toNat dM) s.1))
def goTo (xs : List Mk) (ys zs : List Int) (k : Nat) : List Int × Int := (zs.take k).foldl (goStep xs) (ys, 0)
theorem goTo_zero (xs : List Mk) (ys zs : List Int) : goTo xs ys zs 0 = (ys, 0) := by simp [goTo]
theorem goTo_succ (xs : List Mk) (ys zs : List Int) {k : Nat} (h : k < zs.length) : goTo xs ys zs (k + 1) = goStep xs (goTo xs ys zs k) zs[k] := by
  unfold goTo; rw [List.take_add_one, List.getElem?_eq_getElem h, List.foldl_append]; rfl
theorem goTo_length (xs : List Mk) (ys zs : List Int) : ∀ k, (goTo xs ys zs k).1.length = ys.length
  | 0 => by rw [goTo_zero]
  | k + 1 => by
    by_cases h : k < zs.length
    · rw [goTo_succ xs ys zs h]
      show (leftN _ _ _).length = _
      rw [leftN_length, goTo_length xs ys zs k]
    · have : goTo xs ys zs (k + 1) = goTo xs ys zs k := by unfold goTo; rw [List.take_of_length_le (by omega), List.take_of_length_le (by omega)]
      rw [this, goTo_length xs ys zs k]
/-- The markets fit the stock, and the choice is one of them. -/
structure GoOK (xs : List Mk) (ys zs : List Int) : Prop where
  ix : ∀ z ∈ zs, 0 ≤ z ∧ z < (xs.length : Int)
  len : ∀ x ∈ xs, x.2.2.1.length = ys.length ∧ x.2.2.2.length = ys.length
theorem goTo_c (xs : List Mk) (ys zs : List Int) (a b c : Option Addr) (m : Mem) (hok : GoOK xs ys zs) (hr : RdM m a xs) (hs : RdI m b ys) (hz : RdI m c zs) (hn : xs.length ≤ 1048576) (hn2 : ys.length ≤ 1048576) (hn3 : zs.length ≤ 1048576) :
    ACalls Try.prog 64 [.slice a xs.length xs.length, .slice b ys.length ys.length, .slice c zs.length zs.length] m (.tuple #[.slice (some ⟨m.length, 0, none⟩) ys.length ys.length, .int .i64 (goTo xs ys zs zs.length).2]) (m ++ [⟨(goTo xs ys zs zs.length).1.map (Value.int .i64), 2, 1, 2⟩]) := by
  refine acalls_of_vc Try.func64 rfl Try.fol (by kernel_rfl) ?_
  simp only [Try.f64]
  simp -dsimp -implicitDefEqProofs
  refine appTo_grow (e := 2) (sz := 1) (by_ := 8) (z := .int .i64 0) (by kernel_rfl) (by kernel_rfl) ⟨by decide, rfl⟩ (o := ⟨[], 2, 1, 1⟩) (by simp) (by simp) ⟨rfl, rfl⟩ rfl (by omega) (Src.rdI (hs.ext _)) ?_
  intro m2 id2 hg
  simp -dsimp -implicitDefEqProofs
  refine loopN zs.length (fun k σ m' => ∃ (i : Nat) (o : AObj), (m <+: m' ∧ m.length ≤ i ∧ m'[i]? = some o ∧ 1 ≤ o.kind ∧ o.kind ≤ 2 ∧ o.sz = 1 ∧ o.elem = 2 ∧ o.cells = (goTo xs ys zs k).1.map (Value.int .i64)) ∧ σ 0 = some (.slice a xs.length xs.length) ∧ σ 8 = some (.slice (some ⟨i, 0, none⟩) ys.length ys.length) ∧
      σ 9 = some (.int .i64 (goTo xs ys zs k).2) ∧ σ 18 = some (.slice c zs.length zs.length) ∧ σ 19 = some (.int .i64 zs.length) ∧ σ 20 = some (.int .i64 k))
    ⟨id2, _, ⟨hg.pre m ⟨_, rfl⟩ (Nat.le_refl _), by rw [hg.at_]; simp, hg.new, by simp, by simp, rfl, rfl, by simp [goTo_zero]⟩, by simp, by simp, by simp [goTo_zero], by simp, by simp, by simp⟩ ?_
  clear hg m2 id2
  rintro k σ m' hk ⟨i, o, ⟨hp, hi, ho, ho1, ho2, ho3, ho4, ho5⟩, s0, s8, s9, s18, s19, s20⟩
  by_cases hlt : k < zs.length
  · have hL := goTo_length xs ys zs k
    obtain ⟨hz0, hz1⟩ := hok.ix _ (List.getElem_mem hlt)
    obtain ⟨w, hw⟩ : ∃ w : Nat, zs[k] = w := ⟨zs[k].toNat, by omega⟩
    have hwl : w < xs.length := by omega
    obtain ⟨yid, yoff, yo, rfl, hym, hyk, hys, hyc⟩ := (hz.pre' hp).at_ hlt
    rw [hw] at hyc
    obtain ⟨id, off, mo, ad, bd, rfl, hmo, hmk2, hms, hl4, hrow, c0, c1, c2, c3, q1, q2⟩ := (hr.pre hp) w hwl
    obtain ⟨e1, e2⟩ := hok.len _ (List.getElem_mem hwl)
    have hwk : IntKind.i64.wrap ((k : Int) + 1) = k + 1 := wrapI (by omega) (by omega)
    have hst : RdI m' (some ⟨i, 0, none⟩) (goTo xs ys zs k).1 := RdI.of_get ho ho2 ho3 ho5
    have hsell := sellAt_c xs[w] (goTo xs ys zs k).1 ad bd _ m' q1 q2 hst (by omega) (by omega) (by omega)
    simp only [mkRow4, hL] at hsell
    have hstep : goTo xs ys zs (k + 1) = (leftN xs[w] (goTo xs ys zs k).1 ys.length, w64 ((goTo xs ys zs k).2 + incOf xs[w] (goTo xs ys zs k).1)) := by
      rw [goTo_succ xs ys zs hlt, hw]
      simp only [goStep, Int.toNat_natCast, getM hwl, hL]
    simp -dsimp -implicitDefEqProofs [s0, s8, s9, s18, s19, s20, hlt, withO_of hym, hyk, hys, withC_of hyc, hwl, withO_of hmo, hmk2, hms, hl4, hrow, mkRow4, hwk]
    refine callsTo Try.cal57 hsell ?_
    simp -dsimp -implicitDefEqProofs [s0, s8, s9, s18, s19, s20, hlt, withO_of hym, hyk, hys, withC_of hyc, hwl, withO_of hmo, hmk2, hms, hl4, hrow, mkRow4, hwk]
    exact next_ hlt ⟨m'.length + 1, _, ⟨pre_app hp _, by have := hp.length_le; omega, by simp; rfl, by simp, by simp, rfl, rfl, by rw [hstep]⟩, by simp [s0], by simp, by simp [hstep], by simp [s18], by simp [s19], by simp [hwk]⟩
  · simp -dsimp -implicitDefEqProofs [s0, s8, s9, s18, s19, s20, hlt]
    obtain rfl : k = zs.length := by omega
    exact GC.keepTP (Fits.refl m) hp ho hi ho3.symm ho4.symm (by simp; omega) ho5.symm (by rw [ho5]; exact ints_lit _) rfl
/-- The first k kinds are sold, the others not yet. -/
def mixL (x : Mk) (ys : List Int) (k : Nat) : List Int := leftN x ys k ++ ys.drop k
section
variable (x : Mk) (ys : List Int)
theorem mixL_zero : mixL x ys 0 = ys := by simp [mixL, leftN]
theorem mixL_all : mixL x ys ys.length = leftN x ys ys.length := by simp [mixL]
theorem mixL_length {k : Nat} (h : k ≤ ys.length) : (mixL x ys k).length = ys.length := by simp [mixL, leftN_length]; omega
theorem mixL_get {k : Nat} (h : k < ys.length) : ((mixL x ys k).map (Value.int .i64))[k]? = some (.int .i64 ys[k]) := by
  unfold mixL
  rw [List.getElem?_map, List.getElem?_append_right (by rw [leftN_length]; exact Nat.le_refl _), leftN_length, Nat.sub_self, List.drop_eq_getElem_cons h]
  rfl
theorem mixL_set {k : Nat} (h : k < ys.length) : ((mixL x ys k).map (Value.int .i64)).set k (.int .i64 (leftAt x ys k)) = (mixL x ys (k + 1)).map (Value.int .i64) := by
  unfold mixL
  rw [← List.map_set, List.set_append_right _ _ (by rw [leftN_length]; exact Nat.le_refl _), leftN_length, Nat.sub_self, List.drop_eq_getElem_cons h, List.set_cons_zero, leftN_succ]
  simp
end
theorem GC.keepTR {m m1 : Mem} {id n : Nat} {o1 o2 : AObj} {x : Value} (hp : m <+: m1) (h1 : m1[id]? = some o1) (hge : m.length ≤ id) (w : ∀ φ, Weak φ m o1 o2) (hx : litB x = true) :
    GC m m1 (.tuple #[x, .slice (some ⟨id, 0, none⟩) n n]) (m ++ [o2]) (.tuple #[x, .slice (some ⟨m.length, 0, none⟩) n n]) := by
  obtain ⟨j, rfl⟩ := hp
  refine GC.keep [id] (Fits.refl m) (by simp) (by simpa using hge) rfl ?_ ⟨_, rfl, ren2_lit hx, .inl ⟨rfl, _, phi_new (k := 0) rfl, rfl⟩, trivial⟩
  intro k i o hk' ho
  match k with
  | 0 => simp at hk' ho; subst hk'; subst ho; exact ⟨o1, h1, w _⟩
  | k + 1 => simp at hk'
theorem l21Run_c (xs : List Mk) (ys zs : List Int) (a b c : Option Addr) (m : Mem) (hok : GoOK xs ys zs) (hr : RdM m a xs) (hs : RdI m b ys) (hz : RdI m c zs) (hn : xs.length ≤ 1048576) (hn2 : ys.length ≤ 1048576) (hn3 : zs.length ≤ 1048576) :
    ACalls Try.prog 62 [.slice a xs.length xs.length, .slice b ys.length ys.length, .slice c zs.length zs.length] m (.tuple #[.int .i64 (goTo xs ys zs zs.length).2, .slice (some ⟨m.length, 0, none⟩) ys.length ys.length]) (m ++ [⟨(goTo xs ys zs zs.length).1.map (Value.int .i64), 2, 1, 2⟩]) := by
  refine acalls_of_vc Try.func62 rfl Try.fol (by kernel_rfl) ?_
  simp only [Try.f62]
  simp -dsimp -implicitDefEqProofs
  refine callsTo Try.cal81 (own_c ys b m hs hn2) ?_
  simp -dsimp -implicitDefEqProofs
  refine loopN zs.length (fun k σ m' => (m <+: m' ∧ m'[m.length]? = some ⟨(goTo xs ys zs k).1.map (Value.int .i64), 2, 1, 2⟩) ∧ σ 0 = some (.slice a xs.length xs.length) ∧ σ 2 = some (.slice c zs.length zs.length) ∧ σ 8 = some (.slice (some ⟨m.length, 0, none⟩) ys.length ys.length) ∧
      σ 9 = some (.int .i64 (goTo xs ys zs k).2) ∧ σ 10 = some (.int .i64 k)) ⟨⟨⟨_, rfl⟩, by simp [goTo_zero]⟩, by simp, by simp, by simp, by simp [goTo_zero], by simp⟩ ?_
  rintro k σ m' hk ⟨⟨hp, ho⟩, s0, s2, s8, s9, s10⟩
  by_cases hlt : k < zs.length
  · have hL := goTo_length xs ys zs k
    obtain ⟨hz0, hz1⟩ := hok.ix _ (List.getElem_mem hlt)
    obtain ⟨w, hw⟩ : ∃ w : Nat, zs[k] = w := ⟨zs[k].toNat, by omega⟩
    have hwl : w < xs.length := by omega
    obtain ⟨yid, yoff, yo, rfl, hym, hyk, hys, hyc⟩ := (hz.pre' hp).at_ hlt
    rw [hw] at hyc
    obtain ⟨id, off, mo, ad, bd, rfl, hmo, hmk2, hms, _⟩ := (hr.pre hp) w hwl
    have hx := RdM.row (hr.pre hp) hwl
    obtain ⟨e1, e2⟩ := hok.len _ (List.getElem_mem hwl)
    have hwk : IntKind.i64.wrap ((k : Int) + 1) = k + 1 := wrapI (by omega) (by omega)
    have hst : RdI m' (some ⟨m.length, 0, none⟩) (goTo xs ys zs k).1 := RdI.of_get ho (by simp) rfl rfl
    have hsl := l21Sale_c xs[w] (goTo xs ys zs k).1 id ((off + w) * 4) _ m' hx hst (by omega) (by omega)
    have hx2 : IsMk (m' ++ [⟨(saleN xs[w] (goTo xs ys zs k).1 (goTo xs ys zs k).1.length).map (Value.int .i64), 2, 1, 2⟩]) id ((off + w) * 4) xs[w] := hx.pre ⟨_, rfl⟩
    have hinc := l21Income_c xs[w] (saleN xs[w] (goTo xs ys zs k).1 (goTo xs ys zs k).1.length) id ((off + w) * 4) (some ⟨m'.length, 0, none⟩) _ hx2 (RdI.of_get (o := ⟨(saleN xs[w] (goTo xs ys zs k).1 (goTo xs ys zs k).1.length).map (Value.int .i64), 2, 1, 2⟩) (by simp) (by simp) rfl rfl) (by rw [saleN_length]; omega) (by rw [saleN_length]; omega)
    rw [saleN_length] at hinc
    rw [hL] at hsl hinc
    have hstep : goTo xs ys zs (k + 1) = (leftN xs[w] (goTo xs ys zs k).1 ys.length, w64 ((goTo xs ys zs k).2 + incTo xs[w] (saleN xs[w] (goTo xs ys zs k).1 ys.length) ys.length)) := by
      rw [goTo_succ xs ys zs hlt, hw]
      simp only [goStep, Int.toNat_natCast, getM hwl, hL, incOf]
    have hml := lt_of_get ho
    simp -dsimp -implicitDefEqProofs [s0, s2, s8, s9, s10, hlt, withO_of hym, hyk, hys, withC_of hyc, hwl, withO_of hmo, hmk2, hms, hwk]
    refine callsTo Try.cal55 hsl ?_
    simp -dsimp -implicitDefEqProofs [s0, s2, s8, s9, s10, hlt, withO_of hym, hyk, hys, withC_of hyc, hwl, withO_of hmo, hmk2, hms, hwk]
    refine callsTo Try.cal54 hinc ?_
    simp -dsimp -implicitDefEqProofs [s0, s2, s8, s9, s10, hlt, withO_of hym, hyk, hys, withC_of hyc, hwl, withO_of hmo, hmk2, hms, hwk]
    generalize hys0 : (goTo xs ys zs k).1 = us at *
    refine loopN ys.length (fun j σ m2 => (m <+: m2 ∧ m2[m.length]? = some ⟨(mixL xs[w] us j).map (Value.int .i64), 2, 1, 2⟩ ∧ m2[m'.length]? = some ⟨(saleN xs[w] us ys.length).map (Value.int .i64), 2, 1, 2⟩) ∧
      (σ 0 = some (.slice (some ⟨id, off, none⟩) xs.length xs.length) ∧ σ 2 = some (.slice (some ⟨yid, yoff, none⟩) zs.length zs.length) ∧ σ 8 = some (.slice (some ⟨m.length, 0, none⟩) ys.length ys.length) ∧ σ 9 = some (.int .i64 (goTo xs ys zs (k + 1)).2) ∧ σ 10 = some (.int .i64 k)) ∧
      σ 12 = some (.slice (some ⟨m'.length, 0, none⟩) ys.length ys.length) ∧ σ 13 = some (.int .i64 j)) ⟨⟨pre_app hp _, ?_, by simp⟩, by simp [s0, s2, s8, s10, hstep], by simp, by simp⟩ ?_
    · rw [mixL_zero]; exact get_old ho
    rintro j σ m2 hj ⟨⟨hp2, ho2, hsa⟩, ⟨s0, s2, s8, s9, s10⟩, s12, s13⟩
    by_cases hlt2 : j < ys.length
    · have hlu : j < us.length := by omega
      have hwj : IntKind.i64.wrap ((j : Int) + 1) = j + 1 := wrapI (by omega) (by omega)
      have hg1 := mixL_get xs[w] us hlu
      have hg2 : ((saleN xs[w] us ys.length).map (Value.int .i64))[j]? = some (.int .i64 (saleAt xs[w] us j)) := by simp [saleN, hlt2]
      have hlm : (mixL xs[w] us j).length = ys.length := by rw [mixL_length _ _ (by omega), hL]
      have hls : (saleN xs[w] us ys.length).length = ys.length := saleN_length _ _ _
      have hset := mixL_set xs[w] us hlu
      have hla : leftAt xs[w] us j = w64 (us[j] - saleAt xs[w] us j) := by simp [leftAt, List.getD_eq_getElem?_getD, hlu]
      rw [hla] at hset
      simp -dsimp -implicitDefEqProofs [s0, s2, s8, s9, s10, s12, s13, hlt2, withO_of ho2, withO_of hsa, withC_of hg1, withC_of hg2, hwj, hlm, hset]
      refine need_intro (by omega) (need_intro (.inr (by kernel_rfl)) ?_)
      exact next_ hlt2 ⟨⟨pre_set hp2 (Nat.le_refl _) _, get_set ho2 _, by rw [List.getElem?_set_ne (by omega)]; exact hsa⟩, by simp [s0, s2, s8, s9, s10], by simp [s12], by simp [hwj]⟩
    · simp -dsimp -implicitDefEqProofs [s0, s2, s8, s9, s10, s12, s13, hlt2]
      obtain rfl : j = ys.length := by omega
      have hfin : (goTo xs ys zs (k + 1)).1 = mixL xs[w] us ys.length := by rw [hstep, ← hL, mixL_all]
      exact next_ hlt ⟨⟨hp2, by rw [hfin]; exact ho2⟩, by simp [s0], by simp [s2], by simp [s8], by simp [s9], by simp [hwk]⟩
  · simp -dsimp -implicitDefEqProofs [s0, s2, s8, s9, s10, hlt]
    obtain rfl : k = zs.length := by omega
    exact GC.keepTR hp ho (Nat.le_refl _) (fun φ => Weak.lits rfl rfl (.inl rfl) rfl (ints_lit _)) rfl
end Go.Proofs.Ytciekhcdkfhcoaa
