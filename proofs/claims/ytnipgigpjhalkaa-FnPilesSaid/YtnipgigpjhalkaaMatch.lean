/-
  The program's search for a matching, its code. Conditions: none.
-/
import Derived.Test.YtnipgigpjhalkaaRest
import Derived.Test.YtnipgigpjhalkaaLawScan
set_option linter.unusedSimpArgs false
set_option linter.unusedVariables false
set_option linter.unusedSectionVars false
namespace Go.Proofs.Ytnipgigpjhalkaa
open Go.Abs Go.RowKit Go.Law

theorem tinfM2 : tinf Try.prog 74 = some (1, 8, some .nilFunc) := by kernel_rfl
theorem aggM2 : aggB Try.prog 74 = some false := by kernel_rfl
theorem tinfM1 : tinf Try.prog 89 = some (1, 8, some .nilFunc) := by kernel_rfl
theorem aggM1 : aggB Try.prog 89 = some false := by kernel_rfl
/-- Where the search keeps what it has captured. -/
structure MCaps where
  m : Nat
  s : Nat
  f : Nat
  r : Nat
  g : Nat
  l : Nat
def MCaps.args (c : MCaps) : List Value := [.pointer (some ⟨c.m, 0, none⟩), .pointer (some ⟨c.s, 0, none⟩), .pointer (some ⟨c.f, 0, none⟩), .pointer (some ⟨c.r, 0, none⟩), .pointer (some ⟨c.g, 0, none⟩), .pointer (some ⟨c.l, 0, none⟩)]
structure MCapAt (c : MCaps) (n k : Nat) (gf : FuncId) (caps : List Value) (il ir is : Nat) (m : Mem) : Prop where
  pm : ∃ t, m[c.m]? = some ⟨[.int .i64 k], t, 1, 1⟩
  ps : ∃ t, m[c.s]? = some ⟨[.slice (some ⟨is, 0, none⟩) k k], t, 1, 1⟩
  pf : ∃ t, m[c.f]? = some ⟨[.func (.func gf) #[] caps.toArray], t, 1, 1⟩
  pr : ∃ t, m[c.r]? = some ⟨[.slice (some ⟨ir, 0, none⟩) k k], t, 1, 1⟩
  pg : ∃ t, m[c.g]? = some ⟨[.func (.func 84) #[] c.args.toArray], t, 1, 1⟩
  pl : ∃ t, m[c.l]? = some ⟨[.slice (some ⟨il, 0, none⟩) n n], t, 1, 1⟩
structure MCapOK (c : MCaps) (il ir is : Nat) : Prop where
  m : c.m ∉ [il, ir, is]
  s : c.s ∉ [il, ir, is]
  f : c.f ∉ [il, ir, is]
  r : c.r ∉ [il, ir, is]
  g : c.g ∉ [il, ir, is]
  l : c.l ∉ [il, ir, is]
  lr : il ≠ ir
  ls : il ≠ is
  rs : ir ≠ is
theorem MCapAt.rest {c : MCaps} {n k : Nat} {gf : FuncId} {caps : List Value} {il ir is : Nat} {m m' : Mem} (h : MCapAt c n k gf caps il ir is m) (ok : MCapOK c il ir is) (hr : RestS [il, ir, is] m m') : MCapAt c n k gf caps il ir is m' := by
  obtain ⟨⟨t1, h1⟩, ⟨t2, h2⟩, ⟨t3, h3⟩, ⟨t4, h4⟩, ⟨t5, h5⟩, ⟨t6, h6⟩⟩ := h
  exact ⟨⟨t1, hr.get _ _ ok.m h1⟩, ⟨t2, hr.get _ _ ok.s h2⟩, ⟨t3, hr.get _ _ ok.f h3⟩, ⟨t4, hr.get _ _ ok.r h4⟩, ⟨t5, hr.get _ _ ok.g h5⟩, ⟨t6, hr.get _ _ ok.l h6⟩⟩
/-- What is kept while one looks, in the memory. -/
structure StM (il ir is : Nat) (m : Mem) (st : KSt) : Prop where
  l : m[il]? = some ⟨st.left.map (Value.int .i64), 3, 1, 1⟩
  r : m[ir]? = some ⟨st.right.map (Value.int .i64), 3, 1, 1⟩
  s : m[is]? = some ⟨st.seen.map Value.bool, 4, 1, 1⟩
def FindPost (il ir is : Nat) (m : Mem) (p : Bool × KSt) (v : Value) (m' : Mem) : Prop := v = .bool p.1 ∧ StM il ir is m' p.2 ∧ RestS [il, ir, is] m m'
theorem bools_set (l : List Bool) (k : Nat) (b : Bool) : (l.map Value.bool).set k (.bool b) = (l.set k b).map Value.bool := by rw [List.map_set]
theorem leafM {il ir is : Nat} (lr : il ≠ ir) (ls : il ≠ is) (rs : ir ≠ is) {m0 m : Mem} {st : KSt} (hrest : RestS [il, ir, is] m0 m) (h : StM il ir is m st) (a b : Nat) :
    FindPost il ir is m0 (true, ⟨st.left.set a (b : Int), st.right.set b (a : Int), st.seen⟩) (.bool true) ((m.set il ⟨(st.left.map (Value.int .i64)).set a (.int .i64 (b : Int)), 3, 1, 1⟩).set ir ⟨(st.right.map (Value.int .i64)).set b (.int .i64 (a : Int)), 3, 1, 1⟩) := by
  obtain ⟨h1, h2, h3⟩ := h
  refine ⟨rfl, ⟨?_, ?_, ?_⟩, (hrest.trans (RestS.set _ (by simp) _)).trans (RestS.set _ (by simp) _)⟩
  · rw [List.getElem?_set_ne (Ne.symm lr), get_set h1, List.map_set]
  · rw [get_set (by rw [List.getElem?_set_ne lr]; exact h2), List.map_set]
  · rw [List.getElem?_set_ne rs, List.getElem?_set_ne ls]; exact h3
theorem findM_c (may : Nat → Nat → Bool) (n k : Nat) (hk : k ≤ 1048576) (hnn : n ≤ 1048576) (c : MCaps) (gf : FuncId) (caps : List Value) (il ir is : Nat) (ok : MCapOK c il ir is) (K : Mem → Prop) (hcl : callable Try.prog gf = true)
    (hK : ∀ m m', RestS [il, ir, is] m m' → K m → K m')
    (hmay : ∀ m, K m → ∀ (a b : Nat), a < n → b < k → ACalls Try.prog gf ([.int .i64 (a : Int), .int .i64 (b : Int)] ++ caps) m (.bool (may a b)) m) :
    ∀ (f a : Nat) (st : KSt) (m : Mem), unseen st.seen < f → a < n → KOK n k st → K m → MCapAt c n k gf caps il ir is m → StM il ir is m st →
      ∃ v m', ACalls Try.prog 84 (.int .i64 (a : Int) :: c.args) m v m' ∧ FindPost il ir is m (kfind may k f a st) v m' := by
  intro f
  induction f with
  | zero => intro a st m hu; omega
  | succ f ih =>
    intro a st m hu ha hst hKm hc hS
    obtain ⟨⟨t1, h1⟩, ⟨t2, h2⟩, ⟨t3, h3⟩, ⟨t4, h4⟩, ⟨t5, h5⟩, ⟨t6, h6⟩⟩ := id hc
    show ∃ v m', _ ∧ FindPost il ir is m (kscan (kfind may k f) may a (List.range k) st) v m'
    refine ecalls_of_vcF [7] Try.func84 rfl Try.fol (by kernel_rfl) ?_
    simp only [Try.f84]
    simp -dsimp -implicitDefEqProofs
    simp -dsimp -implicitDefEqProofs [MCaps.args, withO_of h1]
    refine loopN k (fun b σ m' => ∃ st', (kscan (kfind may k f) may a (List.range k) st = kscan (kfind may k f) may a ((List.range k).drop b) st' ∧ KOK n k st' ∧ unseen st'.seen ≤ unseen st.seen ∧ StM il ir is m' st' ∧ RestS [il, ir, is] m m') ∧
      (σ 0 = some (.int .i64 a) ∧ σ 1 = some (.pointer (some ⟨c.m, 0, none⟩)) ∧ σ 2 = some (.pointer (some ⟨c.s, 0, none⟩)) ∧ σ 3 = some (.pointer (some ⟨c.f, 0, none⟩)) ∧ σ 4 = some (.pointer (some ⟨c.r, 0, none⟩)) ∧ σ 5 = some (.pointer (some ⟨c.g, 0, none⟩)) ∧ σ 6 = some (.pointer (some ⟨c.l, 0, none⟩))) ∧
      σ 10 = some (.int .i64 k) ∧ σ 11 = some (.int .i64 b)) ⟨st, ⟨rfl, hst, Nat.le_refl _, hS, RestS.refl _ _⟩, by simp [frameOf, MCaps.args], by simp, by simp⟩ ?_
    clear h1 h2 h3 h4 h5 h6
    rintro b σ m' hb ⟨st', ⟨hks, hst', hun, ⟨g1, g2, g3⟩, hrest⟩, ⟨s0, s1, s2, s3, s4, s5, s6⟩, s10, s11⟩
    have hc' := hc.rest ok hrest
    obtain ⟨⟨t1, h1⟩, ⟨t2, h2⟩, ⟨t3, h3⟩, ⟨t4, h4⟩, ⟨t5, h5⟩, ⟨t6, h6⟩⟩ := id hc'
    by_cases hlt : b < k
    · rw [range_drop hlt] at hks
      have hwb : IntKind.i64.wrap ((b : Int) + 1) = b + 1 := wrapI (by omega) (by omega)
      have hbs : b < st'.seen.length := by rw [hst'.seen]; exact hlt
      have hbr : b < st'.right.length := by rw [hst'.right]; exact hlt
      have hal : a < st'.left.length := by rw [hst'.left]; exact ha
      have hsg : st'.seen.getD b false = st'.seen[b] := by simp [List.getD_eq_getElem?_getD, hbs]
      have hrg : st'.right.getD b 0 = st'.right[b] := by simp [List.getD_eq_getElem?_getD, hbr]
      have hsc : ∀ x, st'.seen[b] = x → (st'.seen.map Value.bool)[b]? = some (.bool x) := fun x hx => by simp [hbs, hx]
      cases hsn : st'.seen[b] with
      | true =>
        simp -dsimp -implicitDefEqProofs [tinfM2, aggM2, s0, s1, s2, s3, s4, s5, s6, s10, s11, hlt, withO_of h2, withO_of g3, withC_of (hsc _ hsn), hst'.seen, hwb]
        exact next_ hlt ⟨st', ⟨hks.trans (kscan_skip (by rw [hsg, hsn]; rfl)), hst', hun, ⟨g1, g2, g3⟩, hrest⟩, by simp [s0, s1, s2, s3, s4, s5, s6], by simp [s10], by simp [hwb]⟩
      | false =>
        simp -dsimp -implicitDefEqProofs [tinfM2, aggM2, s0, s1, s2, s3, s4, s5, s6, s10, s11, hlt, withO_of h2, withO_of h3, withO_of g3, withC_of (hsc _ hsn), hst'.seen, hwb]
        refine callsTo hcl (hmay m' (hK _ _ hrest hKm) a b ha hlt) ?_
        cases hab : may a b with
        | false =>
          simp -dsimp -implicitDefEqProofs [tinfM2, aggM2, s0, s1, s2, s3, s4, s5, s6, s10, s11, hlt, withO_of h2, withO_of h3, withO_of g3, withC_of (hsc _ hsn), hst'.seen, hwb]
          exact next_ hlt ⟨st', ⟨hks.trans (kscan_skip (by rw [hab]; simp)), hst', hun, ⟨g1, g2, g3⟩, hrest⟩, by simp [s0, s1, s2, s3, s4, s5, s6], by simp [s10], by simp [hwb]⟩
        | true =>
          have hcond : (st'.seen.getD b false || !may a b) = false := by rw [hsg, hsn, hab]; rfl
          simp -dsimp -implicitDefEqProofs [tinfM2, aggM2, s0, s1, s2, s3, s4, s5, s6, s10, s11, hlt, withO_of h2, withO_of h3, withO_of g3, withC_of (hsc _ hsn), hst'.seen, hwb]
          refine need_intro (by omega) ?_
          obtain ⟨mS, hmS⟩ : ∃ mS, mS = m'.set is ⟨(st'.seen.set b true).map Value.bool, 4, 1, 1⟩ := ⟨_, rfl⟩
          rw [bools_set, ← hmS]
          have hRS : RestS [il, ir, is] m' mS := by rw [hmS]; exact RestS.set _ (by simp) _
          have hcS := hc'.rest ok hRS
          obtain ⟨⟨u1, k1⟩, ⟨u2, k2⟩, ⟨u3, k3⟩, ⟨u4, k4⟩, ⟨u5, k5⟩, ⟨u6, k6⟩⟩ := id hcS
          have q1 : mS[il]? = some ⟨st'.left.map (Value.int .i64), 3, 1, 1⟩ := by rw [hmS, List.getElem?_set_ne (Ne.symm ok.ls)]; exact g1
          have q2 : mS[ir]? = some ⟨st'.right.map (Value.int .i64), 3, 1, 1⟩ := by rw [hmS, List.getElem?_set_ne (Ne.symm ok.rs)]; exact g2
          have q3 : mS[is]? = some ⟨(st'.seen.set b true).map Value.bool, 4, 1, 1⟩ := by rw [hmS]; exact get_set g3 _
          have hrc : (st'.right.map (Value.int .i64))[b]? = some (.int .i64 st'.right[b]) := by simp [hbr]
          have hus : unseen (st'.seen.set b true) + 1 = unseen st'.seen := unseen_set hbs (by rw [hsg]; exact hsn)
          have hst2 : KOK n k ⟨st'.left, st'.right, st'.seen.set b true⟩ := ⟨hst'.left, hst'.right, by simpa using hst'.seen, hst'.ix⟩
          by_cases hr : st'.right[b] < 0
          · have hfree := hks.trans (kscan_free hcond (by rw [hrg]; exact hr))
            simp -dsimp -implicitDefEqProofs [tinfM1, aggM1, s0, s1, s2, s3, s4, s5, s6, s10, s11, hlt, withO_of k4, withO_of q2, withC_of hrc, hst'.right, hr]
            refine regF [[], [], [], [], [], [], [], [2], [], []] 0 (by kernel_rfl) (by kernel_rfl) ?_
            have z2 : (mS.set il ⟨(st'.left.map (Value.int .i64)).set a (.int .i64 b), 3, 1, 1⟩)[ir]? = some ⟨st'.right.map (Value.int .i64), 3, 1, 1⟩ := by rw [List.getElem?_set_ne ok.lr]; exact q2
            have z4 : ∀ x, (mS.set il x)[c.r]? = mS[c.r]? := fun x => by rw [List.getElem?_set_ne]; intro e; exact ok.r (by simp [← e])
            simp -dsimp -implicitDefEqProofs [s0, s1, s2, s3, s4, s5, s6, s10, s11, hlt, ha, withO_of k4, withO_of k6, withO_of q1, withO_of q2, withO_of z2, hst'.right, hst'.left]
            refine need_intro (by omega) (need_intro (fun e => ok.r (by simp [← e])) (need_intro (by omega) ?_))
            rw [hfree]
            exact ⟨_, _, GC.refl _ _ _, leafM (st := ⟨st'.left, st'.right, st'.seen.set b true⟩) ok.lr ok.ls ok.rs (hrest.trans hRS) ⟨q1, q2, q3⟩ a b⟩
          · have hx := hst'.ix b hlt
            rw [hrg] at hx
            have hx2 : ((st'.right[b]).toNat : Int) = st'.right[b] := by omega
            obtain ⟨v, m2, hcall, rfl, ⟨y1, y2, y3⟩, hR2⟩ := ih (st'.right[b]).toNat ⟨st'.left, st'.right, st'.seen.set b true⟩ mS (by simp only; omega) (by omega) hst2 (hK _ _ hRS (hK _ _ hrest hKm)) hcS ⟨q1, q2, q3⟩
            rw [hx2] at hcall
            have hok2 := kfind_ok may f (st'.right[b]).toNat _ (show (st'.right[b]).toNat < n by omega) hst2
            simp -dsimp -implicitDefEqProofs [tinfM1, aggM1, s0, s1, s2, s3, s4, s5, s6, s10, s11, hlt, withO_of k4, withO_of k5, withO_of q2, withC_of hrc, hst'.right, hr]
            refine callsTo Try.cal84 hcall ?_
            cases hfd : (kfind may k f (st'.right[b]).toNat ⟨st'.left, st'.right, st'.seen.set b true⟩).1 with
            | false =>
              have hmiss := hks.trans (kscan_miss hcond (by rw [hrg]; exact hr) (by rw [hrg]; exact hfd))
              rw [hrg] at hmiss
              simp -dsimp -implicitDefEqProofs [tinfM1, aggM1, s0, s1, s2, s3, s4, s5, s6, s10, s11, hlt, withO_of k4, withO_of k5, withO_of q2, withC_of hrc, hst'.right, hr]
              refine need_intro (.inr (by kernel_rfl)) ?_
              exact next_ hlt ⟨_, ⟨hmiss, hok2.1, Nat.le_trans hok2.2 (by simp only; omega), ⟨y1, y2, y3⟩, (hrest.trans hRS).trans hR2⟩, by simp [s0, s1, s2, s3, s4, s5, s6], by simp [s10], by simp [hwb]⟩
            | true =>
              have hhit := hks.trans (kscan_hit hcond (by rw [hrg]; exact hr) (by rw [hrg]; exact hfd))
              rw [hrg] at hhit
              simp -dsimp -implicitDefEqProofs [tinfM1, aggM1, s0, s1, s2, s3, s4, s5, s6, s10, s11, hlt, withO_of k4, withO_of k5, withO_of q2, withC_of hrc, hst'.right, hr]
              refine need_intro (.inr (by kernel_rfl)) ?_
              obtain ⟨⟨w1, j1⟩, ⟨w2, j2⟩, ⟨w3, j3⟩, ⟨w4, j4⟩, ⟨w5, j5⟩, ⟨w6, j6⟩⟩ := hcS.rest ok hR2
              generalize (kfind may k f (st'.right[b]).toNat ⟨st'.left, st'.right, st'.seen.set b true⟩).2 = sf at *
              refine regF [[], [], [], [], [], [], [], [2], [], []] 0 (by kernel_rfl) (by kernel_rfl) ?_
              have z2 : (m2.set il ⟨(sf.left.map (Value.int .i64)).set a (.int .i64 b), 3, 1, 1⟩)[ir]? = some ⟨sf.right.map (Value.int .i64), 3, 1, 1⟩ := by rw [List.getElem?_set_ne ok.lr]; exact y2
              simp -dsimp -implicitDefEqProofs [s0, s1, s2, s3, s4, s5, s6, s10, s11, hlt, ha, withO_of j4, withO_of j6, withO_of y1, withO_of y2, withO_of z2, hok2.1.right, hok2.1.left]
              refine need_intro (by omega) (need_intro (fun e => ok.r (by simp [← e])) (need_intro (by omega) ?_))
              rw [hhit]
              exact ⟨_, _, GC.refl _ _ _, leafM ok.lr ok.ls ok.rs ((hrest.trans hRS).trans hR2) ⟨y1, y2, y3⟩ a b⟩
    · obtain rfl : b = k := by omega
      rw [range_drop_all] at hks
      simp -dsimp -implicitDefEqProofs [s0, s1, s2, s3, s4, s5, s6, s10, s11]
      rw [hks]
      exact ⟨_, _, GC.refl _ _ _, rfl, ⟨g1, g2, g3⟩, hrest⟩
/-- The first k are -1, the others 0. -/
def negL (n k : Nat) : List Value := List.replicate k (.int .i64 (-1)) ++ List.replicate (n - k) (.int .i64 0)
theorem negL_zero (n : Nat) : negL n 0 = List.replicate n (.int .i64 0) := by simp [negL]
theorem negL_all (n : Nat) : negL n n = (List.replicate n (-1 : Int)).map (Value.int .i64) := by simp [negL]
theorem negL_length {n k : Nat} (h : k ≤ n) : (negL n k).length = n := by simp [negL]; omega
theorem negL_set {n k : Nat} (h : k < n) : (negL n k).set k (.int .i64 (-1)) = negL n (k + 1) := by
  unfold negL
  rw [List.set_append_right _ _ (by simp), List.length_replicate, Nat.sub_self, show n - k = (n - (k + 1)) + 1 by omega, List.replicate_succ, List.set_cons_zero, List.replicate_succ', List.append_assoc]
  rfl
def MatchPost (may : Nat → Nat → Bool) (n k : Nat) (m0 : Mem) (v : Value) (m' : Mem) : Prop := ∃ id, v = .tuple #[.slice (some ⟨id, 0, none⟩) n n, .int .i64 (mostK may k n)] ∧ m0 <+: m'
theorem matchAll_c (may : Nat → Nat → Bool) (n k : Nat) (hk : k ≤ 1048576) (hnn : n ≤ 1048576) (gf : FuncId) (caps : List Value) (m0 : Mem) (hcl : callable Try.prog gf = true)
    (hmay : ∀ m, m0 <+: m → ∀ (a b : Nat), a < n → b < k → ACalls Try.prog gf ([.int .i64 (a : Int), .int .i64 (b : Int)] ++ caps) m (.bool (may a b)) m) :
    ∃ v m', ACalls Try.prog 62 [.int .i64 n, .int .i64 k, .func (.func gf) #[] caps.toArray] m0 v m' ∧ MatchPost may n k m0 v m' := by
  refine ecalls_of_vcF [1] Try.func62 rfl Try.fol (by kernel_rfl) ?_
  simp only [Try.f62]
  simp -dsimp -implicitDefEqProofs [tinfM2, aggM2, tinfM1, aggM1]
  obtain ⟨m2, hm2⟩ : ∃ m2, m2 = m0 ++ [(⟨[.int .i64 k], 3, 1, 1⟩ : AObj), ⟨[.func (.func gf) #[] caps.toArray], 74, 1, 1⟩] := ⟨_, rfl⟩
  rw [← hm2]
  have hp2 : m0 <+: m2 := by rw [hm2]; exact ⟨_, rfl⟩
  have hl2 : m2.length = m0.length + 2 := by rw [hm2]; simp
  have c0 : m2[m0.length]? = some ⟨[.int .i64 k], 3, 1, 1⟩ := by rw [hm2]; simp
  have c1 : m2[m0.length + 1]? = some ⟨[.func (.func gf) #[] caps.toArray], 74, 1, 1⟩ := by rw [hm2]; simp
  refine regF [[], [], [1], [1], [1, 2, 3], [1, 2, 3, 4], [2, 3], []] 4 (by kernel_rfl) (by kernel_rfl) ?_
  have x1 : ¬ m2.length = m0.length := by omega
  have x2 : ¬ m2.length + 1 = m0.length := by omega
  have x3 : ¬ m2.length + 2 = m0.length := by omega
  have x4 : ¬ m2.length + 3 = m0.length := by omega
  simp -dsimp -implicitDefEqProofs [tinfM2, aggM2, tinfM1, aggM1, x1, x2, x3, x4, withO_of c0, fun l => withO_of (get_old (l := l) c0)]
  refine need_intro (by omega) (need_intro (by omega) ?_)
  obtain ⟨m3, hm3⟩ : ∃ m3, m3 = m2 ++ [(⟨List.replicate n (.int .i64 0), 3, 1, 1⟩ : AObj), ⟨List.replicate k (.int .i64 0), 3, 1, 1⟩, ⟨[.slice (some ⟨m2.length, 0, none⟩) n n], 71, 1, 1⟩, ⟨[.slice (some ⟨m2.length + 1, 0, none⟩) k k], 71, 1, 1⟩] := ⟨_, rfl⟩
  rw [← hm3]
  have hp3 : m2 <+: m3 := by rw [hm3]; exact ⟨_, rfl⟩
  have hl3 : m3.length = m2.length + 4 := by rw [hm3]; simp
  have d0 : m3[m2.length]? = some ⟨negL n 0, 3, 1, 1⟩ := by rw [hm3, negL_zero]; simp
  have d1 : m3[m2.length + 1]? = some ⟨negL k 0, 3, 1, 1⟩ := by rw [hm3, negL_zero]; simp
  have d2 : m3[m2.length + 2]? = some ⟨[.slice (some ⟨m2.length, 0, none⟩) n n], 71, 1, 1⟩ := by rw [hm3]; simp
  have d3 : m3[m2.length + 3]? = some ⟨[.slice (some ⟨m2.length + 1, 0, none⟩) k k], 71, 1, 1⟩ := by rw [hm3]; simp
  obtain ⟨L, hL⟩ : ∃ L, m2.length = L := ⟨_, rfl⟩
  rw [hL] at d0 d1 d2 d3 hl2 hl3 ⊢
  refine loopN n (fun a σ m' => (m'[L]? = some ⟨negL n a, 3, 1, 1⟩ ∧ RestS [L, L + 1] m3 m' ∧ m'[L + 1]? = some ⟨negL k 0, 3, 1, 1⟩) ∧ (σ 0 = some (.int .i64 n) ∧ σ 4 = some (.pointer (some ⟨m0.length, 0, none⟩)) ∧ σ 5 = some (.pointer (some ⟨m0.length + 1, 0, none⟩)) ∧ σ 8 = some (.pointer (some ⟨L + 2, 0, none⟩)) ∧ σ 9 = some (.pointer (some ⟨L + 3, 0, none⟩))) ∧
      σ 21 = some (.int .i64 n) ∧ σ 22 = some (.int .i64 a)) ⟨⟨d0, RestS.refl _ _, d1⟩, by simp, by simp, by simp⟩ ?_
  rintro a σ m' ha ⟨⟨e0, hrest, e1⟩, ⟨s0, s4, s5, s8, s9⟩, s21, s22⟩
  have e2 := hrest.get _ _ (show L + 2 ∉ [L, L + 1] by simp) d2
  by_cases hlt : a < n
  · have hwa : IntKind.i64.wrap ((a : Int) + 1) = a + 1 := wrapI (by omega) (by omega)
    simp -dsimp -implicitDefEqProofs [s0, s4, s5, s8, s9, s21, s22, hlt, withO_of e0, withO_of e2, hwa, negL_length ha]
    refine need_intro (by omega) ?_
    exact next_ hlt ⟨⟨by rw [negL_set hlt]; exact get_set e0 _, hrest.trans (RestS.set _ (by simp) _), by rw [List.getElem?_set_ne (by omega)]; exact e1⟩, by simp [s0, s4, s5, s8, s9], by simp [s21], by simp [hwa]⟩
  obtain rfl : a = n := by omega
  have e3 := hrest.get _ _ (show L + 3 ∉ [L, L + 1] by simp) d3
  simp -dsimp -implicitDefEqProofs [s0, s4, s5, s8, s9, s21, s22, withO_of e3]
  refine loopN k (fun b σ m4 => (m4[L]? = some ⟨negL a a, 3, 1, 1⟩ ∧ RestS [L, L + 1] m3 m4 ∧ m4[L + 1]? = some ⟨negL k b, 3, 1, 1⟩) ∧ (σ 0 = some (.int .i64 a) ∧ σ 4 = some (.pointer (some ⟨m0.length, 0, none⟩)) ∧ σ 5 = some (.pointer (some ⟨m0.length + 1, 0, none⟩)) ∧ σ 8 = some (.pointer (some ⟨L + 2, 0, none⟩)) ∧ σ 9 = some (.pointer (some ⟨L + 3, 0, none⟩))) ∧
      σ 30 = some (.int .i64 k) ∧ σ 31 = some (.int .i64 b)) ⟨⟨e0, hrest, e1⟩, by simp [s0, s4, s5, s8, s9], by simp, by simp⟩ ?_
  clear s0 s4 s5 s8 s9 s21 s22 e0 e1 e2 e3 hrest
  rintro b σ m' hb ⟨⟨e0, hrest, e1⟩, ⟨s0, s4, s5, s8, s9⟩, s30, s31⟩
  have e3 := hrest.get _ _ (show L + 3 ∉ [L, L + 1] by simp) d3
  by_cases hlt : b < k
  · have hwa : IntKind.i64.wrap ((b : Int) + 1) = b + 1 := wrapI (by omega) (by omega)
    simp -dsimp -implicitDefEqProofs [s0, s4, s5, s8, s9, s30, s31, hlt, withO_of e1, withO_of e3, hwa, negL_length hb]
    refine need_intro (by omega) ?_
    exact next_ hlt ⟨⟨by rw [List.getElem?_set_ne (by omega)]; exact e0, hrest.trans (RestS.set _ (by simp) _), by rw [negL_set hlt]; exact get_set e1 _⟩, by simp [s0, s4, s5, s8, s9], by simp [s30], by simp [hwa]⟩
  obtain rfl : b = k := by omega
  rw [negL_all] at e0 e1
  simp -dsimp -implicitDefEqProofs [s0, s4, s5, s8, s9, s30, s31, tinfM1, aggM1]
  have hQ := hrest.len
  have hp4 : m0 <+: m' := hrest.base (hp2.trans hp3) (by intro i hi; simp at hi; omega)
  have f4 := hrest.get _ _ (show m0.length ∉ [L, L + 1] by simp; omega) (prefix_get hp3 c0)
  have f5 := hrest.get _ _ (show m0.length + 1 ∉ [L, L + 1] by simp; omega) (prefix_get hp3 c1)
  have f8 := hrest.get _ _ (show L + 2 ∉ [L, L + 1] by simp) d2
  obtain ⟨Q, hQe⟩ : ∃ Q, m'.length = Q := ⟨_, rfl⟩
  rw [hQe] at hQ ⊢
  obtain ⟨C, hC⟩ : ∃ C : MCaps, C = ⟨m0.length, Q, m0.length + 1, L + 3, Q + 1, L + 2⟩ := ⟨_, rfl⟩
  obtain ⟨m5, hm5⟩ : ∃ m5, m5 = m' ++ [(⟨[.slice none 0 0], 90, 1, 1⟩ : AObj), ⟨[.func (.func 84) #[] C.args.toArray], 89, 1, 1⟩] := ⟨_, rfl⟩
  have hm5' := hm5
  rw [hC] at hm5'
  simp only [MCaps.args] at hm5'
  rw [← hm5']
  have hp5 : m' <+: m5 := by rw [hm5]; exact ⟨_, rfl⟩
  have hl5 : m5.length = Q + 2 := by rw [hm5]; simp [hQe]
  refine loopN a (fun i σ m6 => (m0 <+: m6 ∧ Q + 2 ≤ m6.length ∧ (∃ v, m6[Q]? = some ⟨[v], 90, 1, 1⟩) ∧ m6[Q + 1]? = some ⟨[.func (.func 84) #[] C.args.toArray], 89, 1, 1⟩ ∧ m6[m0.length]? = some ⟨[.int .i64 b], 3, 1, 1⟩ ∧ m6[m0.length + 1]? = some ⟨[.func (.func gf) #[] caps.toArray], 74, 1, 1⟩ ∧
      m6[L + 2]? = some ⟨[.slice (some ⟨L, 0, none⟩) a a], 71, 1, 1⟩ ∧ m6[L + 3]? = some ⟨[.slice (some ⟨L + 1, 0, none⟩) b b], 71, 1, 1⟩ ∧ m6[L]? = some ⟨(kst may a b i).left.map (Value.int .i64), 3, 1, 1⟩ ∧ m6[L + 1]? = some ⟨(kst may a b i).right.map (Value.int .i64), 3, 1, 1⟩) ∧
      (σ 4 = some (.pointer (some ⟨m0.length, 0, none⟩)) ∧ σ 8 = some (.pointer (some ⟨L + 2, 0, none⟩)) ∧ σ 12 = some (.pointer (some ⟨Q, 0, none⟩)) ∧ σ 13 = some (.pointer (some ⟨Q + 1, 0, none⟩))) ∧ σ 14 = some (.int .i64 (kcnt may a b i)) ∧ σ 39 = some (.int .i64 a) ∧ σ 40 = some (.int .i64 i))
    ⟨⟨hp4.trans hp5, by omega, ⟨.slice none 0 0, by rw [hm5, ← hQe]; simp⟩, by rw [hm5, ← hQe]; simp, prefix_get hp5 f4, prefix_get hp5 f5, prefix_get hp5 f8, prefix_get hp5 e3, prefix_get hp5 e0, prefix_get hp5 e1⟩, by simp [s4, s8], by simp [kcnt, kall], by simp [s0], by simp⟩ ?_
  clear s0 s4 s5 s8 s9 s30 s31
  rintro i σ m6 hi ⟨⟨i1, i2, ⟨vs, i3⟩, i4, i5, i6, i7, i8, i9, i10⟩, ⟨s4, s8, s12, s13⟩, s14, s39, s40⟩
  by_cases hlt : i < a
  · have hwa : IntKind.i64.wrap ((i : Int) + 1) = i + 1 := wrapI (by omega) (by omega)
    simp -dsimp -implicitDefEqProofs [s4, s8, s12, s13, s14, s39, s40, hlt, withO_of i5, fun l => withO_of (get_old (l := l) i3), tinfM1, aggM1]
    refine need_intro (by omega) ?_
    obtain ⟨m7, hm7⟩ : ∃ m7, m7 = (m6 ++ [(⟨List.replicate b (.bool false), 4, 1, 1⟩ : AObj)]).set Q ⟨[.slice (some ⟨m6.length, 0, none⟩) b b], 90, 1, 1⟩ := ⟨_, rfl⟩
    rw [← hm7]
    have hl7 : m7.length = m6.length + 1 := by rw [hm7]; simp
    have old7 : ∀ (j : Nat) (o : AObj), j ≠ Q → m6[j]? = some o → m7[j]? = some o := fun j o hj hjo => by rw [hm7, List.getElem?_set_ne (Ne.symm hj)]; exact get_old hjo
    have y3 : m7[Q]? = some ⟨[.slice (some ⟨m6.length, 0, none⟩) b b], 90, 1, 1⟩ := by rw [hm7]; exact get_set (get_old i3) _
    have y4 := old7 _ _ (by omega) i4
    have y5 := old7 _ _ (by omega) i5
    have y6 := old7 _ _ (by omega) i6
    have y7 := old7 _ _ (by omega) i7
    have y8 := old7 _ _ (by omega) i8
    have y9 := old7 _ _ (by omega) i9
    have y10 := old7 _ _ (by omega) i10
    have yS : m7[m6.length]? = some ⟨(List.replicate b false).map Value.bool, 4, 1, 1⟩ := by rw [hm7, List.getElem?_set_ne (by omega)]; simp
    have i1' : m0 <+: m7 := by rw [hm7]; exact pre_set (pre_app i1 _) (by omega) _
    have hcap : MCapAt C a b gf caps L (L + 1) m6.length m7 := by rw [hC] at y4 ⊢; exact ⟨⟨_, y5⟩, ⟨_, y3⟩, ⟨_, y6⟩, ⟨_, y8⟩, ⟨_, y4⟩, ⟨_, y7⟩⟩
    have hcok : MCapOK C L (L + 1) m6.length := by rw [hC]; constructor <;> simp <;> omega
    obtain ⟨v, m8, hcall, rfl, ⟨z1, z2, z3⟩, hR8⟩ := findM_c may a b hk hnn C gf caps L (L + 1) m6.length hcok (fun m => m0 <+: m) hcl (fun m m' hr h => hr.base h (by intro j hj; simp at hj; have := i1.length_le; omega)) hmay (b + 1) i (kst may a b i) m7 (by simp only [kst]; rw [unseen_new]; omega) hlt (kst_ok may a b i (by omega)) i1' hcap ⟨y9, y10, yS⟩
    obtain ⟨e1, e2, e3⟩ := kst_succ may a b i
    rw [← e1] at z1
    rw [← e2] at z2
    have hcnt : kcnt may a b i ≤ i := kcnt_le may a b i
    have hq := hR8.get _ _ hcok.s (by rw [hC]; exact y3)
    have hout := hR8.len
    have hJ : m0 <+: m8 ∧ Q + 2 ≤ m8.length ∧ (∃ v, m8[Q]? = some ⟨[v], 90, 1, 1⟩) ∧ m8[Q + 1]? = some ⟨[.func (.func 84) #[] C.args.toArray], 89, 1, 1⟩ ∧ m8[m0.length]? = some ⟨[.int .i64 b], 3, 1, 1⟩ ∧ m8[m0.length + 1]? = some ⟨[.func (.func gf) #[] caps.toArray], 74, 1, 1⟩ ∧
      m8[L + 2]? = some ⟨[.slice (some ⟨L, 0, none⟩) a a], 71, 1, 1⟩ ∧ m8[L + 3]? = some ⟨[.slice (some ⟨L + 1, 0, none⟩) b b], 71, 1, 1⟩ ∧ m8[L]? = some ⟨(kst may a b (i + 1)).left.map (Value.int .i64), 3, 1, 1⟩ ∧ m8[L + 1]? = some ⟨(kst may a b (i + 1)).right.map (Value.int .i64), 3, 1, 1⟩ :=
      ⟨hR8.base i1' (by intro j hj; simp at hj; have := i1.length_le; omega), by omega, ⟨_, by rw [hC] at hq; exact hq⟩, hR8.get _ _ (by simp; omega) y4, hR8.get _ _ (by simp; omega) y5, hR8.get _ _ (by simp; omega) y6, hR8.get _ _ (by simp; omega) y7, hR8.get _ _ (by simp; omega) y8, z1, z2⟩
    simp -dsimp -implicitDefEqProofs [s4, s8, s12, s13, s14, s39, s40, hlt, withO_of i5, fun l => withO_of (get_old (l := l) i3), tinfM1, aggM1, withO_of y4]
    rw [← hm7]
    refine callsTo Try.cal84 hcall ?_
    cases hfd : (kfind may b (b + 1) i (kst may a b i)).1 with
    | false =>
      rw [hfd] at e3
      simp only [Bool.false_eq_true, if_false, Nat.add_zero] at e3
      simp -dsimp -implicitDefEqProofs [s4, s8, s12, s13, s14, s39, s40, hlt, withO_of i5, fun l => withO_of (get_old (l := l) i3), tinfM1, aggM1, withO_of y4]
      exact next_ hlt ⟨hJ, by simp [s4, s8, s12, s13], by simp [s14, e3], by simp [s39], by simp [hwa]⟩
    | true =>
      rw [hfd] at e3
      simp only [if_true] at e3
      have hwc : IntKind.i64.wrap ((kcnt may a b i : Int) + 1) = (kcnt may a b (i + 1) : Nat) := by rw [wrapI (by omega) (by omega), e3]; simp
      simp -dsimp -implicitDefEqProofs [s4, s8, s12, s13, s14, s39, s40, hlt, withO_of i5, fun l => withO_of (get_old (l := l) i3), tinfM1, aggM1, withO_of y4]
      exact next_ hlt ⟨hJ, by simp [s4, s8, s12, s13], by simp [hwc], by simp [s39], by simp [hwa]⟩
  obtain rfl : i = a := by omega
  simp -dsimp -implicitDefEqProofs [s4, s8, s12, s13, s14, s39, s40, withO_of i7]
  exact ⟨_, _, GC.refl _ _ _, L, by rw [kcnt_all], i1⟩
end Go.Proofs.Ytnipgigpjhalkaa
