/-
  Pots, part 9: the reference's search for a matching. Conditions: none.
-/
import Derived.Test.YtnipgigpjhalkaaNestH
import Derived.Test.YtnipgigpjhalkaaMatch
import Derived.Test.YtnipgigpjhalkaaNestF
set_option linter.unusedSimpArgs false
set_option linter.unusedVariables false
set_option linter.unusedSectionVars false
namespace Go.Proofs.Ytnipgigpjhalkaa
open Go.Abs Go.RowKit Go.Law

def seenV (b : Bool) : Value := .int .i64 (if b then 1 else 0)
/-- What is kept while one looks, in the memory. -/
structure StP (ir is : Nat) (m : Mem) (st : KSt) : Prop where
  r : m[ir]? = some ⟨st.right.map (Value.int .i64), 2, 1, 1⟩
  s : m[is]? = some ⟨st.seen.map seenV, 2, 1, 1⟩
def PlacePost (ir is : Nat) (m : Mem) (p : Bool × KSt) (v : Value) (m' : Mem) : Prop := v = .bool p.1 ∧ StP ir is m' p.2 ∧ RestS [ir, is] m m'

theorem place_c (xs : List I3) (la : Option Addr) (hx : xs.length ≤ 1048576) (ip ir is : Nat) (hp : ip ∉ [ir, is]) (hrs : ir ≠ is) (hla : ∀ x, la = some x → x.block ∉ [ir, is]) :
    ∀ (f a : Nat) (st : KSt) (m : Mem), unseen st.seen < f → a < xs.length → KOK xs.length xs.length st → RdG v3 3 m la xs → (∃ t, m[ip]? = some ⟨[.slice la xs.length xs.length, .slice (some ⟨ir, 0, none⟩) xs.length xs.length, .slice (some ⟨is, 0, none⟩) xs.length xs.length], t, 3, 1⟩) → StP ir is m st →
      ∃ v m', ACalls Try.prog 83 [.pointer (some ⟨ip, 0, none⟩), .int .i64 (a : Int)] m v m' ∧ PlacePost ir is m (kfind (fitF xs) xs.length f a st) v m' := by
  intro f
  induction f with
  | zero => intro a st m hu; omega
  | succ f ih =>
    intro a st m hu ha hst hr  hS hG
    obtain ⟨t1, h1⟩ := id hS
    show ∃ v m', _ ∧ PlacePost ir is m (kscan (kfind (fitF xs) xs.length f) (fitF xs) a (List.range xs.length) st) v m'
    refine ecalls_of_vc Try.func83 rfl Try.fol (by kernel_rfl) ?_
    simp only [Try.f83]
    simp -dsimp -implicitDefEqProofs
    refine loopN xs.length (fun b σ m' => ∃ st', (kscan (kfind (fitF xs) xs.length f) (fitF xs) a (List.range xs.length) st = kscan (kfind (fitF xs) xs.length f) (fitF xs) a ((List.range xs.length).drop b) st' ∧ KOK xs.length xs.length st' ∧ unseen st'.seen ≤ unseen st.seen ∧ StP ir is m' st' ∧ RestS [ir, is] m m') ∧
      (σ 0 = some (.pointer (some ⟨ip, 0, none⟩)) ∧ σ 1 = some (.int .i64 a)) ∧ σ 5 = some (.int .i64 b)) ⟨st, ⟨rfl, hst, Nat.le_refl _, hG, RestS.refl _ _⟩, by simp [frameOf], by simp⟩ ?_
    clear h1
    rintro b σ m' hb ⟨st', ⟨hks, hst', hun, ⟨g1, g2⟩, hrest⟩, ⟨s0, s1⟩, s5⟩
    have h1 := hrest.get _ _ hp (Classical.choose_spec hS)
    generalize Classical.choose hS = t1 at h1
    have hr' := hrest.rdG hla hr

    by_cases hlt : b < xs.length
    · rw [range_drop hlt] at hks
      have hwb : IntKind.i64.wrap ((b : Int) + 1) = b + 1 := wrapI (by omega) (by omega)
      have hbs : b < st'.seen.length := by rw [hst'.seen]; exact hlt
      have hbr : b < st'.right.length := by rw [hst'.right]; exact hlt
      have hsg : st'.seen.getD b false = st'.seen[b] := by simp [List.getD_eq_getElem?_getD, hbs]
      have hrg : st'.right.getD b 0 = st'.right[b] := by simp [List.getD_eq_getElem?_getD, hbr]
      have hsc : ∀ x, st'.seen[b] = x → (st'.seen.map seenV)[b]? = some (seenV x) := fun x hx => by simp [hbs, hx]
      obtain ⟨jid, joff, jo, hje, hjm, hjk, hjs, hjl, hjrow, hjc0, hjc1, hjc2⟩ := R3.at_ hr' hlt
      have hpb := IsP.row (hje ▸ hr') hlt
      have hpa := IsP.row (hje ▸ hr') ha
      have hfit := l19Fits_c xs[a] xs[b] m' _ _ _ _ hpa hpb
      rw [show fitB xs[a] xs[b] = fitF xs a b by rw [fitF, potAt_eq ha, potAt_eq hlt]] at hfit
      cases hsn : st'.seen[b] with
      | true =>
        have hs1 := hsc _ hsn
        simp only [seenV, if_true] at hs1
        simp -dsimp -implicitDefEqProofs [s0, s1, s5, hlt, withO_of h1, withO_of g2, withC_of hs1, hst'.seen, hwb]
        exact next_ hlt ⟨st', ⟨hks.trans (kscan_skip (by rw [hsg, hsn]; rfl)), hst', hun, ⟨g1, g2⟩, hrest⟩, by simp [s0, s1], by simp [hwb]⟩
      | false =>
        have hs1 := hsc _ hsn
        simp only [seenV, Bool.false_eq_true, if_false] at hs1
        simp -dsimp -implicitDefEqProofs [s0, s1, s5, hlt, ha, withO_of h1, withO_of g2, withC_of hs1, hst'.seen, hwb, hje, withO_of hjm, hjk, hjs, hjl]
        refine callsTo Try.cal55 hfit ?_
        cases hab : fitF xs a b with
        | false =>
          simp -dsimp -implicitDefEqProofs [s0, s1, s5, hlt, ha, withO_of h1, withO_of g2, withC_of hs1, hst'.seen, hwb, hje, withO_of hjm, hjk, hjs, hjl]
          exact next_ hlt ⟨st', ⟨hks.trans (kscan_skip (by simp only [hab]; simp)), hst', hun, ⟨g1, g2⟩, hrest⟩, by simp [s0, s1], by simp [hwb]⟩
        | true =>
          have hcond : (st'.seen.getD b false || !(fitF xs) a b) = false := by simp only [hab, hsg, hsn]; rfl
          simp -dsimp -implicitDefEqProofs [s0, s1, s5, hlt, ha, withO_of h1, withO_of g2, withC_of hs1, hst'.seen, hwb, hje, withO_of hjm, hjk, hjs, hjl]
          refine need_intro (by omega) ?_
          obtain ⟨mS, hmS⟩ : ∃ mS, mS = m'.set is ⟨(st'.seen.set b true).map seenV, 2, 1, 1⟩ := ⟨_, rfl⟩
          have hfold : m'.set is ⟨(st'.seen.map seenV).set b (.int .i64 1), 2, 1, 1⟩ = mS := by rw [hmS, List.map_set]; rfl
          simp only [hfold]
          have hRS : RestS [ir, is] m' mS := by rw [hmS]; exact RestS.set _ (by simp) _
          have k1 := hRS.get _ _ hp h1
          have q2 : mS[ir]? = some ⟨st'.right.map (Value.int .i64), 2, 1, 1⟩ := by rw [hmS, List.getElem?_set_ne (Ne.symm hrs)]; exact g1
          have q3 : mS[is]? = some ⟨(st'.seen.set b true).map seenV, 2, 1, 1⟩ := by rw [hmS]; exact get_set g2 _
          have hrc : (st'.right.map (Value.int .i64))[b]? = some (.int .i64 st'.right[b]) := by simp [hbr]
          have hus : unseen (st'.seen.set b true) + 1 = unseen st'.seen := unseen_set hbs (by rw [hsg]; exact hsn)
          have hst2 : KOK xs.length xs.length ⟨st'.left, st'.right, st'.seen.set b true⟩ := ⟨hst'.left, hst'.right, by simpa using hst'.seen, hst'.ix⟩
          by_cases hneg : st'.right[b] < 0
          · have hfree := hks.trans (kscan_free hcond (by rw [hrg]; exact hneg))
            simp -dsimp -implicitDefEqProofs [hfold, s0, s1, s5, hlt, withO_of k1, withO_of q2, withC_of hrc, hst'.right, hneg]
            refine need_intro (by omega) ?_
            rw [hfree]
            refine ⟨_, _, GC.refl _ _ _, rfl, ⟨?_, ?_⟩, (hrest.trans hRS).trans (RestS.set _ (by simp) _)⟩
            · rw [get_set q2, List.map_set]
            · rw [List.getElem?_set_ne hrs]; exact q3
          · have hx := hst'.ix b hlt
            rw [hrg] at hx
            have hx2 : ((st'.right[b]).toNat : Int) = st'.right[b] := by omega
            have hxw : IntKind.i64.wrap st'.right[b] = st'.right[b] := wrapI (by omega) (by omega)
            obtain ⟨v, m2, hcall, rfl, ⟨y1, y2⟩, hR2⟩ := ih (st'.right[b]).toNat ⟨st'.left, st'.right, st'.seen.set b true⟩ mS (by simp only; omega) (by omega) hst2 (hRS.rdG hla hr') ⟨_, k1⟩ ⟨q2, q3⟩
            rw [hx2] at hcall
            have hok2 := kfind_ok (fitF xs) f (st'.right[b]).toNat _ (show (st'.right[b]).toNat < xs.length by omega) hst2
            simp -dsimp -implicitDefEqProofs [hfold, s0, s1, s5, hlt, withO_of k1, withO_of q2, withC_of hrc, hst'.right, hneg, hxw]
            refine callsTo Try.cal83 hcall ?_
            cases hfd : (kfind (fitF xs) xs.length f (st'.right[b]).toNat ⟨st'.left, st'.right, st'.seen.set b true⟩).1 with
            | false =>
              have hmiss := hks.trans (kscan_miss hcond (by rw [hrg]; exact hneg) (by rw [hrg]; exact hfd))
              rw [hrg] at hmiss
              simp -dsimp -implicitDefEqProofs [hfold, s0, s1, s5, hlt, withO_of k1, withO_of q2, withC_of hrc, hst'.right, hneg, hxw]
              exact next_ hlt ⟨_, ⟨hmiss, hok2.1, Nat.le_trans hok2.2 (by simp only; omega), ⟨y1, y2⟩, (hrest.trans hRS).trans hR2⟩, by simp [s0, s1], by simp [hwb]⟩
            | true =>
              have hhit := hks.trans (kscan_hit hcond (by rw [hrg]; exact hneg) (by rw [hrg]; exact hfd))
              rw [hrg] at hhit
              have k2 := hR2.get _ _ hp k1
              generalize (kfind (fitF xs) xs.length f (st'.right[b]).toNat ⟨st'.left, st'.right, st'.seen.set b true⟩).2 = sf at *
              simp -dsimp -implicitDefEqProofs [s0, s1, s5, hlt, withO_of k2, withO_of y1, hok2.1.right]
              refine need_intro (by omega) ?_
              rw [hhit]
              refine ⟨_, _, GC.refl _ _ _, rfl, ⟨?_, ?_⟩, ((hrest.trans hRS).trans hR2).trans (RestS.set _ (by simp) _)⟩
              · rw [get_set y1, List.map_set]
              · rw [List.getElem?_set_ne hrs]; exact y2
    · obtain rfl : b = xs.length := by omega
      rw [range_drop_all] at hks
      simp -dsimp -implicitDefEqProofs [s0, s1, s5, withO_of h1]
      rw [hks]
      exact ⟨_, _, GC.refl _ _ _, rfl, ⟨g1, g2⟩, hrest⟩

end Go.Proofs.Ytnipgigpjhalkaa
namespace Go.Proofs.Ytnipgigpjhalkaa
open Go.Abs Go.RowKit Go.Law

def InPost (xs : List I3) (m : Mem) (v : Value) (m' : Mem) : Prop :=
  ∃ ir, v = .slice (some ⟨ir, 0, none⟩) xs.length xs.length ∧ m <+: m' ∧ m.length ≤ ir ∧ m'[ir]? = some ⟨(kst (fitF xs) xs.length xs.length xs.length).right.map (Value.int .i64), 2, 1, 1⟩
theorem l19In_c (xs : List I3) (la : Option Addr) (m : Mem) (hr : RdG v3 3 m la xs) (hx : xs.length ≤ 1048576) (hb : ∀ x, la = some x → x.block < m.length) :
    ∃ v m', ACalls Try.prog 61 [.slice la xs.length xs.length] m v m' ∧ InPost xs m v m' := by
  refine ecalls_of_vc Try.func61 rfl Try.fol (by kernel_rfl) ?_
  simp only [Try.f61]
  simp -dsimp -implicitDefEqProofs
  refine need_intro (by omega) ?_
  obtain ⟨m1, hm1⟩ : ∃ m1, m1 = m ++ [(⟨negL xs.length 0, 2, 1, 1⟩ : AObj), ⟨[.slice la xs.length xs.length, .slice (some ⟨m.length, 0, none⟩) xs.length xs.length, .slice none 0 0], 88, 3, 1⟩] := ⟨_, rfl⟩
  have hm1' := hm1
  rw [negL_zero] at hm1'
  rw [← hm1']
  have hp1 : m <+: m1 := by rw [hm1]; exact ⟨_, rfl⟩
  have hl1 : m1.length = m.length + 2 := by rw [hm1]; simp
  have c0 : m1[m.length]? = some ⟨negL xs.length 0, 2, 1, 1⟩ := by rw [hm1]; simp
  have c1 : m1[m.length + 1]? = some ⟨[.slice la xs.length xs.length, .slice (some ⟨m.length, 0, none⟩) xs.length xs.length, .slice none 0 0], 88, 3, 1⟩ := by rw [hm1]; simp
  obtain ⟨L, hL⟩ : ∃ L, m.length = L := ⟨_, rfl⟩
  rw [hL] at c0 c1 hl1 ⊢
  refine loopN xs.length (fun b σ m' => (m'[L]? = some ⟨negL xs.length b, 2, 1, 1⟩ ∧ RestS [L] m1 m') ∧ (σ 0 = some (.slice la xs.length xs.length) ∧ σ 3 = some (.pointer (some ⟨L + 1, 0, none⟩))) ∧ σ 4 = some (.int .i64 b)) ⟨⟨c0, RestS.refl _ _⟩, by simp, by simp⟩ ?_
  rintro b σ m' hbn ⟨⟨e0, hrest⟩, ⟨s0, s3⟩, s4⟩
  have e1 := hrest.get _ _ (show L + 1 ∉ [L] by simp) c1
  by_cases hlt : b < xs.length
  · have hwb : IntKind.i64.wrap ((b : Int) + 1) = b + 1 := wrapI (by omega) (by omega)
    simp -dsimp -implicitDefEqProofs [s0, s3, s4, hlt, withO_of e0, withO_of e1, hwb, negL_length hbn]
    refine need_intro (by omega) ?_
    exact next_ hlt ⟨⟨by rw [negL_set hlt]; exact get_set e0 _, hrest.trans (RestS.set _ (by simp) _)⟩, by simp [s0, s3], by simp [hwb]⟩
  obtain ⟨n, hn⟩ : ∃ n, n = xs.length := ⟨_, rfl⟩
  obtain rfl : b = xs.length := by omega
  rw [negL_all] at e0
  simp -dsimp -implicitDefEqProofs [s0, s3, s4]
  refine loopN xs.length (fun i σ m6 => (RestS [L, L + 1] m' m6 ∧ (∃ v, m6[L + 1]? = some ⟨[.slice la xs.length xs.length, .slice (some ⟨L, 0, none⟩) xs.length xs.length, v], 88, 3, 1⟩) ∧ m6[L]? = some ⟨(kst (fitF xs) xs.length xs.length i).right.map (Value.int .i64), 2, 1, 1⟩) ∧
      (σ 0 = some (.slice la xs.length xs.length) ∧ σ 3 = some (.pointer (some ⟨L + 1, 0, none⟩))) ∧ σ 5 = some (.int .i64 i)) ⟨⟨RestS.refl _ _, ⟨_, e1⟩, e0⟩, by simp [s0, s3], by simp⟩ ?_
  clear s0 s3 s4
  rintro i σ m6 hi ⟨⟨hr6, ⟨vs, i1⟩, i2⟩, ⟨s0, s3⟩, s5⟩
  have hbase : m <+: m6 := hr6.base (hrest.base hp1 (by intro j hj; simp at hj; omega)) (by intro j hj; simp at hj; omega)
  by_cases hlt : i < xs.length
  · have hwb : IntKind.i64.wrap ((i : Int) + 1) = i + 1 := wrapI (by omega) (by omega)
    simp -dsimp -implicitDefEqProofs [s0, s3, s5, hlt, hwb, withO_of i1, fun l => withO_of (get_old (l := l) i1)]
    refine need_intro (by omega) ?_
    have hlen6 : L + 2 ≤ m6.length := by have := hr6.len; have := hrest.len; omega
    obtain ⟨m7, hm7⟩ : ∃ m7, m7 = (m6 ++ [(⟨List.replicate xs.length (.int .i64 0), 2, 1, 1⟩ : AObj)]).set (L + 1) ⟨[.slice la xs.length xs.length, .slice (some ⟨L, 0, none⟩) xs.length xs.length, .slice (some ⟨m6.length, 0, none⟩) xs.length xs.length], 88, 3, 1⟩ := ⟨_, rfl⟩
    rw [← hm7]
    have hl7 : m7.length = m6.length + 1 := by rw [hm7]; simp
    have hr7 : RestS [L, L + 1] m6 m7 := by rw [hm7]; exact (RestS.app _ _ _).trans (RestS.set _ (by simp) _)
    have y1 : m7[L + 1]? = some ⟨[.slice la xs.length xs.length, .slice (some ⟨L, 0, none⟩) xs.length xs.length, .slice (some ⟨m6.length, 0, none⟩) xs.length xs.length], 88, 3, 1⟩ := by rw [hm7]; exact get_set (get_old i1) _
    have y2 : m7[L]? = some ⟨(kst (fitF xs) xs.length xs.length i).right.map (Value.int .i64), 2, 1, 1⟩ := by rw [hm7, List.getElem?_set_ne (by omega)]; exact get_old i2
    have y3 : m7[m6.length]? = some ⟨(List.replicate xs.length false).map seenV, 2, 1, 1⟩ := by rw [hm7, List.getElem?_set_ne (by omega)]; simp [seenV]
    have hlax : ∀ x, la = some x → x.block ∉ [L, m6.length] := fun x hx => by have := hb x hx; simp; omega
    have hbase7 : m <+: m7 := hr7.base hbase (by intro j hj; simp at hj; omega)
    obtain ⟨v, m8, hcall, rfl, ⟨z1, z2⟩, hR8⟩ := place_c xs la hx (L + 1) L m6.length (by simp; omega) (by omega) hlax (xs.length + 1) i (kst (fitF xs) xs.length xs.length i) m7 (by simp only [kst]; rw [unseen_new]; omega) hlt (kst_ok _ _ _ i (by omega)) (hr.pre hbase7) ⟨_, y1⟩ ⟨y2, y3⟩
    rw [← (kst_succ (fitF xs) xs.length xs.length i).2.1] at z1
    have hlen8 := hR8.len
    have hJ : RestS [L, L + 1] m' m8 ∧ (∃ v, m8[L + 1]? = some ⟨[.slice la xs.length xs.length, .slice (some ⟨L, 0, none⟩) xs.length xs.length, v], 88, 3, 1⟩) ∧ m8[L]? = some ⟨(kst (fitF xs) xs.length xs.length (i + 1)).right.map (Value.int .i64), 2, 1, 1⟩ :=
      ⟨⟨by have := hr6.len; omega, fun j o h1 h2 => hR8.get j o (by have := lt_of_get h2; have := hr6.len; simp at h1 ⊢; omega) (hr7.get j o h1 (hr6.get j o h1 h2))⟩, ⟨_, hR8.get _ _ (by simp; omega) y1⟩, z1⟩
    refine callsTo Try.cal83 hcall ?_
    simp -dsimp -implicitDefEqProofs [s0, s3, s5, hlt, hwb, withO_of i1, fun l => withO_of (get_old (l := l) i1)]
    exact next_ hlt ⟨hJ, by simp [s0, s3], by simp [hwb]⟩
  obtain rfl : i = xs.length := by omega
  simp -dsimp -implicitDefEqProofs [s0, s3, s5, withO_of i1]
  exact ⟨_, _, GC.refl _ _ _, L, rfl, hbase, by omega, i2⟩
/-! ### How many are taken -/
def takenTo (r : List Int) (k : Nat) : Nat := ((List.range k).filter fun b => decide (0 ≤ r.getD b 0)).length
theorem takenTo_succ (r : List Int) (k : Nat) : takenTo r (k + 1) = takenTo r k + if 0 ≤ r.getD k 0 then 1 else 0 := by
  unfold takenTo
  rw [List.range_succ, List.filter_append, List.length_append]
  by_cases h : 0 ≤ r.getD k 0 <;> simp [h, -List.getD_eq_getElem?_getD]
theorem takenTo_le (r : List Int) (k : Nat) : takenTo r k ≤ k := by
  unfold takenTo
  exact Nat.le_trans (List.length_filter_le _ _) (by simp)
theorem taken_most (may : Nat → Nat → Bool) (n k : Nat) : takenTo (kst may n k n).right k = mostK may k n := by
  have h := kall_inv may k n (List.replicate n (-1))
  have hl := h.len
  have ht := h.taken_length
  unfold taken at ht
  rw [hl] at ht
  exact ht
def fewI (xs : List I3) : Int := (xs.length : Int) - mostK (fitF xs) xs.length xs.length
def fewV (xs : List I3) : Value := .tuple #[.int .i64 (if potsB xs then fewI xs else 0), .int .i64 (potsC xs)]
theorem specFew_c (xs : List I3) (la : Option Addr) (m : Mem) (hr : RdG v3 3 m la xs) (hx : xs.length ≤ 1048576) (hb : ∀ x, la = some x → x.block < m.length) :
    ACalls Try.prog 30 [.slice la xs.length xs.length] m (fewV xs) m := by
  refine acalls_of_vc Try.func30 rfl Try.fol (by kernel_rfl) ?_
  simp only [Try.f30]
  simp -dsimp -implicitDefEqProofs
  refine callsTo Try.cal59 (l19Ok_c xs la _ hr hx) ?_
  simp -dsimp -implicitDefEqProofs
  refine sp2 (fun g => ?_) (fun g => ?_)
  · simp at g
    exact GC.eq (by simp [fewV, g, potsC])
  simp at g
  refine callsToE Try.cal61 (l19In_c xs la _ hr hx hb) ?_
  rintro _ m1 ⟨ir, rfl, hp1, hir, ho⟩
  simp -dsimp -implicitDefEqProofs
  have hok := (kst_ok (fitF xs) xs.length xs.length xs.length (Nat.le_refl _)).right
  have hmost := taken_most (fitF xs) xs.length xs.length
  generalize (kst (fitF xs) xs.length xs.length xs.length).right = r at *
  refine loopN xs.length (fun i σ m2 => m2 = m1 ∧ σ 4 = some (.slice (some ⟨ir, 0, none⟩) xs.length xs.length) ∧ σ 5 = some (.int .i64 ((xs.length : Int) - takenTo r i)) ∧ σ 6 = some (.int .i64 i)) ⟨rfl, by simp, by simp [takenTo], by simp⟩ ?_
  rintro i σ m2 hi ⟨rfl, s4, s5, s6⟩
  by_cases hlt : i < xs.length
  · have hwb : IntKind.i64.wrap ((i : Int) + 1) = i + 1 := wrapI (by omega) (by omega)
    have hir' : i < r.length := by omega
    have hrc : (r.map (Value.int .i64))[i]? = some (.int .i64 r[i]) := by simp [hir']
    have htl := takenTo_le r (i + 1)
    have hts := takenTo_succ r i
    have hgi : r.getD i 0 = r[i] := getI hir'
    rw [hgi] at hts
    simp -dsimp -implicitDefEqProofs [s4, s5, s6, hlt, withO_of ho, withC_of hrc, hwb, hok]
    refine sp2 (fun g => ?_) (fun g => ?_)
    · simp at g
      rw [if_pos g] at hts
      have hwd : IntKind.i64.wrap ((xs.length : Int) - (takenTo r i : Int) - 1) = (xs.length : Int) - (takenTo r (i + 1) : Nat) := by rw [wrapI (by omega) (by omega)]; omega
      exact next_ hlt ⟨rfl, by simp [s4], by simp [hwd], by simp [hwb]⟩
    · simp at g
      rw [if_neg (by omega)] at hts
      exact next_ hlt ⟨rfl, by simp [s4], by simp [s5, hts], by simp [hwb]⟩
  · obtain rfl : i = xs.length := by omega
    simp -dsimp -implicitDefEqProofs [s4, s5, s6]
    exact GC.dropP hp1 (by simp [fewV, g, potsC, fewI, hmost]) rfl
theorem fewMay_c (xs : List I3) (la : Option Addr) (bx : Nat) (ty : TypeId) (m : Mem) (hb : m[bx]? = some ⟨[.slice la xs.length xs.length], ty, 1, 1⟩) (hr : RdG v3 3 m la xs) (a b : Nat) (ha : a < xs.length) (hb2 : b < xs.length) :
    ACalls Try.prog 63 ([.int .i64 (a : Int), .int .i64 (b : Int)] ++ [.pointer (some ⟨bx, 0, none⟩)]) m (.bool (fitF xs b a)) m := by
  obtain ⟨id, off, o, rfl, hm, hkd, hsz, hl, hrow, _⟩ := R3.at_ hr ha
  obtain ⟨id', off', o', ha', hm', hkd', hsz', hl', hrow', _⟩ := R3.at_ hr hb2
  injection ha' with ha'
  injection ha' with e1 e2
  subst e1 e2
  rw [hm] at hm'
  injection hm' with hm'
  subst hm'
  have hf : fitB xs[b] xs[a] = fitF xs b a := by rw [fitF, potAt_eq ha, potAt_eq hb2]
  refine acalls_of_vc Try.func63 rfl Try.fol (by kernel_rfl) ?_
  simp only [Try.f63]
  simp -dsimp -implicitDefEqProofs
  simp -dsimp -implicitDefEqProofs [withO_of hb, ha, hb2, withO_of hm, hkd, hsz, hl, hrow, hl', hrow']
  refine callsTo Try.cal57 (fitsIn_c xs[b] xs[a] _) ?_
  simp -dsimp -implicitDefEqProofs [withO_of hb, ha, hb2, withO_of hm, hkd, hsz, hl, hrow, hl', hrow']
  rw [hf]
  exact GC.refl _ _ _
theorem implFew_c (xs : List I3) (la : Option Addr) (m : Mem) (hr : RdG v3 3 m la xs) (hx : xs.length ≤ 1048576) :
    ACalls Try.prog 31 [.slice la xs.length xs.length] m (fewV xs) m := by
  refine acalls_of_vc Try.func31 rfl Try.fol (by kernel_rfl) ?_
  simp only [Try.f31]
  simp -dsimp -implicitDefEqProofs
  obtain ⟨m1, hm1⟩ : ∃ m1, m1 = m ++ [(⟨[.slice la xs.length xs.length], 34, 1, 1⟩ : AObj)] := ⟨_, rfl⟩
  rw [← hm1]
  have hp1 : m <+: m1 := by rw [hm1]; exact ⟨_, rfl⟩
  have c0 : m1[m.length]? = some ⟨[.slice la xs.length xs.length], 34, 1, 1⟩ := by rw [hm1]; simp
  refine callsTo Try.cal22 (validPots_c xs la _ (hr.pre hp1) hx) ?_
  simp -dsimp -implicitDefEqProofs [withO_of c0]
  refine sp2 (fun g => ?_) (fun g => ?_)
  · simp at g
    exact GC.dropP hp1 (by simp [fewV, g, potsC]) rfl
  simp at g
  refine callsToE Try.cal62 (matchAll_c (fun a b => fitF xs b a) xs.length xs.length hx hx 63 [.pointer (some ⟨m.length, 0, none⟩)] m1 Try.cal63 (fun m' hp a b ha hb => fewMay_c xs la _ _ m' (prefix_get hp c0) (hr.pre (hp1.trans hp)) a b ha hb)) ?_
  rintro _ m2 ⟨id, rfl, hp2⟩
  have hsw : mostK (fun a b => fitF xs b a) xs.length xs.length = mostK (fitF xs) xs.length xs.length := (kall_swap (fitF xs) xs.length xs.length _ _).symm
  have hle := mostK_le_left (fitF xs) xs.length xs.length
  have hwd : IntKind.i64.wrap ((xs.length : Int) - (mostK (fitF xs) xs.length xs.length : Int)) = fewI xs := wrapI (by omega) (by omega)
  simp -dsimp -implicitDefEqProofs [withO_of (prefix_get hp2 c0), hsw, hwd]
  exact GC.dropP (hp1.trans hp2) (by simp [fewV, g, potsC]) rfl
end Go.Proofs.Ytnipgigpjhalkaa
namespace Go.Proofs.Ytnipgigpjhalkaa
open Go.Abs Go.RowKit Go.Law

theorem ownP_c (xs : List Int) (b : Option Addr) (m : Mem) (hs : RdI m b xs) (hn : xs.length ≤ 1048576) :
    ACalls Try.prog 79 [.slice b xs.length xs.length] m (.slice (some ⟨m.length, 0, none⟩) xs.length xs.length) (m ++ [⟨xs.map (Value.int .i64), 2, 1, 2⟩]) := by
  refine acalls_of_vc Try.func79 rfl Try.fol (by kernel_rfl) ?_
  simp only [Try.f79]
  simp -dsimp -implicitDefEqProofs
  refine appTo_grow (e := 2) (sz := 1) (by_ := 8) (z := .int .i64 0) (by kernel_rfl) (by kernel_rfl) ⟨by decide, rfl⟩ (o := ⟨[], 2, 1, 1⟩) (by simp) (by simp) ⟨rfl, rfl⟩ rfl (by omega) (Src.rdI (hs.ext _)) ?_
  intro m2 id2 hg
  simp -dsimp -implicitDefEqProofs
  have h1 := hg.new
  have h2 : m <+: m2 := hg.pre m ⟨_, rfl⟩ (Nat.le_refl _)
  have := GC.keepSP (m := m) (m' := m) (m1 := m2) (id := id2) (off := 0) (n := xs.length) (o2 := ⟨xs.map (Value.int .i64), 2, 1, 2⟩) (Fits.refl m) h2 h1 (by rw [hg.at_]; simp) rfl rfl (.inl rfl) (by simp) (by simp [litB])
  simpa using this
def OrdPost (xs : List I3) (m : Mem) (v : Value) (m' : Mem) : Prop := ∃ id, v = .slice (some ⟨id, 0, none⟩) xs.length xs.length ∧ m <+: m' ∧ m.length ≤ id ∧ RdI m' (some ⟨id, 0, none⟩) (orderP xs xs.length)
theorem l19Order_c (xs : List I3) (a : Option Addr) (m : Mem) (hr : RdG v3 3 m a xs) (hn : xs.length ≤ 1048576) :
    ∃ v m', ACalls Try.prog 71 [.slice a xs.length xs.length] m v m' ∧ OrdPost xs m v m' := by
  refine ecalls_of_vc Try.func71 rfl Try.fol (by kernel_rfl) ?_
  simp only [Try.f71]
  simp -dsimp -implicitDefEqProofs
  refine loopN xs.length (fun k σ m' => ∃ (id : Nat) (o : AObj), (m <+: m' ∧ m.length ≤ id) ∧ (m'[id]? = some o ∧ 1 ≤ o.kind ∧ o.kind ≤ 2 ∧ o.sz = 1 ∧ o.elem = 2 ∧ o.cells = iv (orderP xs k)) ∧
      (σ 0 = some (.slice a xs.length xs.length)) ∧ σ 3 = some (.slice (some ⟨id, 0, none⟩) k k) ∧ σ 4 = some (.int .i64 k))
    ⟨m.length, ⟨[], 2, 1, 1⟩, ⟨⟨_, rfl⟩, Nat.le_refl _⟩, ⟨by simp, by simp, by simp, rfl, rfl, rfl⟩, by simp, by simp, by simp⟩ ?_
  rintro k σ m' hk ⟨id, o, ⟨hp, hid⟩, ⟨ho, ho1, ho2, ho3, ho4, ho5⟩, s0, s7, s8⟩
  have hLl := orderP_length xs k
  have hrA := hr.pre hp
  by_cases hlt : k < xs.length
  · obtain ⟨L, hL⟩ : ∃ L, L = orderP xs k := ⟨_, rfl⟩
    rw [← hL] at hLl ho5
    have hlen5 : o.cells.length = k := by rw [ho5, iv_length, hLl]
    have ho1' : 1 ≤ o.kind ∧ o.kind ≤ 2 := ⟨ho1, ho2⟩
    simp -dsimp -implicitDefEqProofs [s0, s7, s8, hlt]
    refine loopN k (fun c σ m2 => m2 = m' ∧ (σ 0 = some (.slice a xs.length xs.length)) ∧ σ 3 = some (.slice (some ⟨id, 0, none⟩) k k) ∧ σ 4 = some (.int .i64 k) ∧ σ 5 = some (.int .i64 ((k - c : Nat) : Int)) ∧ keepN (potP xs k) L (k - c) = keepN (potP xs k) L L.length) ⟨rfl, by simp [s0], by simp [s7], by simp [s8], by simp, by rw [hLl]; rfl⟩ ?_
    clear s0 s7 s8
    rintro c σ m2 hc ⟨hmm, s0, s7, s8, s9, hkeep⟩
    have hmm := hmm.symm
    subst hmm
    obtain ⟨j, hj⟩ : ∃ j, j = k - c := ⟨_, rfl⟩
    rw [← hj] at s9 hkeep
    have hLr : RdI m' (some ⟨id, 0, none⟩) L := RdI.of_get ho ho2 ho3 ho5
    cases j with
    | zero =>
      have hJk : 0 ≤ k := by omega
      have hown := ownP_c (L.take 0) (some ⟨id, 0, none⟩) m' (hLr.take 0) (by simp)
      rw [List.length_take, hLl, Nat.min_eq_left hJk] at hown
      simp -dsimp -implicitDefEqProofs [s0, s7, s8, s9, hlt, withO_of ho, ho2, ho3, hlen5]
      refine callsTo Try.cal79 hown ?_
      simp -dsimp -implicitDefEqProofs [s0, s7, s8, s9]
      refine appTo_grow (e := 2) (sz := 1) (by_ := 8) (z := .int .i64 0) (by kernel_rfl) (by kernel_rfl) ⟨by decide, rfl⟩ (o := ⟨(L.take 0).map (Value.int .i64), 2, 1, 2⟩) (by simp) (by simp) ⟨rfl, rfl⟩ (by simp) (by omega) (Src.obj (o := ⟨[.int .i64 k], 2, 1, 1⟩) (by simp) (by simp) rfl rfl) ?_
      intro m4 id4 hg4
      have hp4 : m' <+: m4 := hg4.pre m' ⟨_, rfl⟩ (Nat.le_refl _)
      have ho4' := prefix_get hp4 ho
      simp -dsimp -implicitDefEqProofs [s0, s7, s8, s9, withO_of ho4', ho2, ho3, hlen5]
      have hLr4 : RdI m4 (some ⟨id, 0, none⟩) L := RdI.of_get ho4' ho2 ho3 ho5
      have hwk : IntKind.i64.wrap ((k : Int) + 1) = k + 1 := wrapI (by omega) (by omega)
      have hid4 : m.length ≤ id4 := by rw [hg4.at_]; simp; have := hp.length_le; omega
      have hnew : orderP xs (k + 1) = L.take 0 ++ (k : Int) :: L.drop 0 := by rw [orderP_succ, ← hL, insT, ← hkeep, keepN]
      refine appTo_grow (e := 2) (sz := 1) (by_ := 8) (z := .int .i64 0) (by kernel_rfl) (by kernel_rfl) ⟨by decide, rfl⟩ (o := ⟨(L.take 0).map (Value.int .i64) ++ [.int .i64 k], 2, 1, 2⟩) hg4.new (by simp) ⟨rfl, rfl⟩ (by simp) (by omega) (by rw [← hLl]; exact Src.rdI hLr4) ?_
      intro m5 id5 hg5
      simp -dsimp -implicitDefEqProofs [s0, s7, s8, s9, withO_of ho4', ho2, ho3, hlen5, hwk]
      exact next_ hlt ⟨id5, _, ⟨hg5.pre m (hp.trans hp4) hid4, by rw [hg5.at_]; have := hp.length_le; have := hp4.length_le; omega⟩, ⟨hg5.new, by simp, by simp, rfl, rfl, by rw [hnew]; simp [iv]⟩, by simp [s0], by simp; omega, by simp [hwk]⟩
    | succ j =>
      have hj1 : j < L.length := by omega
      have hjk : j < k := by omega
      obtain ⟨i, hi, hil⟩ := orderP_mem xs k L[j] (by rw [← hL]; exact List.getElem_mem hj1)
      have hik : i < xs.length := by omega
      obtain ⟨jid, joff, jo, hje, hjm, hjk1, hjs, hjl, hjrow, hjc0, hjc1, hjc2⟩ := R3.at_ hrA hlt
      obtain ⟨jid2, joff2, jo2, hje2, hjm2, hjk2, hxs2, hjl2, hjrow2, hjd0, hjd1, hjd2⟩ := R3.at_ hrA hik
      rw [hje] at hje2 s0
      injection hje2 with hje2
      injection hje2 with e1 e2
      subst e1 e2
      rw [hjm] at hjm2
      injection hjm2 with hjm2
      subst hjm2
      have w1 : IntKind.i64.wrap ((j : Int) + 1 - 1) = j := by rw [show ((j : Int) + 1 - 1) = j by omega]; exact wrapI (by omega) (by omega)
      have w2 : IntKind.i64.wrap (j : Int) = j := wrapI (by omega) (by omega)
      have b4 : ((0 : Int) < (j : Int) + 1) := by omega
      have hc1 : o.cells[j]? = some (.int .i64 i) := by rw [ho5, ← hi]; exact iv_get (List.getElem?_eq_getElem hj1)
      have hJk : (j + 1) ≤ k := by omega
      have hown := ownP_c (L.take (j + 1)) (some ⟨id, 0, none⟩) m' (hLr.take (j + 1)) (by simp; omega)
      rw [List.length_take, hLl, Nat.min_eq_left hJk] at hown
      simp -dsimp -implicitDefEqProofs [s0, s7, s8, s9, hlt, withO_of ho, ho2, ho3, hlen5, w1, w2, b4, hjk, withC_of hc1, hik, withO_of hjm, hjk1, hjs, withC_of hjc0, withC_of hjd0]
      have hpj : potP xs k L[j] = decide (xs[i].1 < xs[k].1) := by rw [hi]; simp [potP, potAt_eq hik, potAt_eq hlt]
      have hgd : L.getD j 0 = L[j] := by simp [List.getD_eq_getElem?_getD, hj1]
      refine sp2 (fun g1 => ?_) (fun g1 => ?_)
      · have hkp : keepN (potP xs k) L (j + 1) = keepN (potP xs k) L j := by rw [keepN, hgd, hpj, if_pos g1]
        have hjc : k - (c + 1) = j := by omega
        exact next_ (by omega) ⟨rfl, by simp [s0, hje], by simp [s7], by simp [s8], by rw [hjc]; simp [w1], by rw [hjc, ← hkp]; exact hkeep⟩
      have hkp : keepN (potP xs k) L (j + 1) = j + 1 := by rw [keepN, hgd, hpj, if_neg (by simp [g1])]
      refine need_intro (by omega) (need_intro (by omega) ?_)
      refine callsTo Try.cal79 hown ?_
      simp -dsimp -implicitDefEqProofs [s0, s7, s8, s9]
      refine appTo_grow (e := 2) (sz := 1) (by_ := 8) (z := .int .i64 0) (by kernel_rfl) (by kernel_rfl) ⟨by decide, rfl⟩ (o := ⟨(L.take (j + 1)).map (Value.int .i64), 2, 1, 2⟩) (by simp) (by simp) ⟨rfl, rfl⟩ (by simp; omega) (by omega) (Src.obj (o := ⟨[.int .i64 k], 2, 1, 1⟩) (by simp) (by simp) rfl rfl) ?_
      intro m4 id4 hg4
      have hp4 : m' <+: m4 := hg4.pre m' ⟨_, rfl⟩ (Nat.le_refl _)
      have ho4' := prefix_get hp4 ho
      simp -dsimp -implicitDefEqProofs [s0, s7, s8, s9, withO_of ho4', ho2, ho3, hlen5]
      have hLr4 : RdI m4 (some ⟨id, 0, none⟩) L := RdI.of_get ho4' ho2 ho3 ho5
      have hwk : IntKind.i64.wrap ((k : Int) + 1) = k + 1 := wrapI (by omega) (by omega)
      have hid4 : m.length ≤ id4 := by rw [hg4.at_]; simp; have := hp.length_le; omega
      have hnew : orderP xs (k + 1) = L.take (j + 1) ++ (k : Int) :: L.drop (j + 1) := by rw [orderP_succ, ← hL, insT, ← hkeep, hkp]
      refine need_intro (by omega) (need_intro (by omega) ⟨fun hj2 => ?_, fun hj2 => ?_⟩)
      · refine appTo_grow (e := 2) (sz := 1) (by_ := 8) (z := .int .i64 0) (by kernel_rfl) (by kernel_rfl) ⟨by decide, rfl⟩ (o := ⟨(L.take (j + 1)).map (Value.int .i64) ++ [.int .i64 k], 2, 1, 2⟩) hg4.new (by simp) ⟨rfl, rfl⟩ (by simp; omega) (by omega) (by rw [show k - (j + 1) = (L.drop (j + 1)).length by rw [List.length_drop, hLl]]; have := hLr4.drop (k := j + 1) (by omega); rw [Nat.zero_add] at this; exact Src.rdI this) ?_
        intro m5 id5 hg5
        simp -dsimp -implicitDefEqProofs [s0, s7, s8, s9, withO_of ho4', ho2, ho3, hlen5, hwk]
        exact next_ hlt ⟨id5, _, ⟨hg5.pre m (hp.trans hp4) hid4, by rw [hg5.at_]; have := hp.length_le; have := hp4.length_le; omega⟩, ⟨hg5.new, by simp, by simp, rfl, rfl, by rw [hnew]; simp [iv]⟩, by simp [s0, hje], by simp; omega, by simp [hwk]⟩
      · have hdn : L.drop (j + 1) = [] := List.drop_eq_nil_of_le (by omega)
        rw [hdn] at hnew
        refine appTo_grow (e := 2) (sz := 1) (by_ := 8) (z := .int .i64 0) (by kernel_rfl) (by kernel_rfl) ⟨by decide, rfl⟩ (o := ⟨(L.take (j + 1)).map (Value.int .i64) ++ [.int .i64 k], 2, 1, 2⟩) hg4.new (by simp) ⟨rfl, rfl⟩ (by simp; omega) (by omega) (Src.rdI (xs := []) (RdI.nil _ _)) ?_
        intro m5 id5 hg5
        simp -dsimp -implicitDefEqProofs [s0, s7, s8, s9, withO_of ho4', ho2, ho3, hlen5, hwk, hwk]
        exact next_ hlt ⟨id5, _, ⟨hg5.pre m (hp.trans hp4) hid4, by rw [hg5.at_]; have := hp.length_le; have := hp4.length_le; omega⟩, ⟨hg5.new, by simp, by simp, rfl, rfl, by rw [hnew]; simp [iv]⟩, by simp [s0, hje], by simp; omega, by simp [hwk]⟩
  · obtain rfl : k = xs.length := by omega
    simp -dsimp -implicitDefEqProofs [s0, s7, s8, hlt]
    exact ⟨_, _, GC.refl _ _ _, id, rfl, hp, hid, RdI.of_get ho ho2 ho3 ho5⟩
end Go.Proofs.Ytnipgigpjhalkaa
namespace Go.Proofs.Ytnipgigpjhalkaa
open Go.Abs Go.RowKit Go.Law

/-- An object of numbers. -/
def IntsAt (m : Mem) (id : Nat) (l : List Int) : Prop := ∃ o : AObj, m[id]? = some o ∧ 1 ≤ o.kind ∧ o.kind ≤ 2 ∧ o.sz = 1 ∧ o.elem = 2 ∧ o.cells = l.map (Value.int .i64)
theorem IntsAt.pre {m m' : Mem} {id : Nat} {l : List Int} (h : IntsAt m id l) (hp : m <+: m') : IntsAt m' id l := by
  obtain ⟨o, h1, h2⟩ := h; exact ⟨o, prefix_get hp h1, h2⟩
theorem IntsAt.rd {m : Mem} {id : Nat} {l : List Int} (h : IntsAt m id l) : RdI m (some ⟨id, 0, none⟩) l := by
  obtain ⟨o, h1, h2, h3, h4, h5, h6⟩ := h; exact RdI.of_get h1 h3 h4 h6
theorem IntsAt.lt {m : Mem} {id : Nat} {l : List Int} (h : IntsAt m id l) : id < m.length := lt_of_get h.choose_spec.1
theorem IntsAt.grown {m m2 : Mem} {id id2 j : Nat} {o : AObj} {l : List Int} (h : IntsAt m j l) (hg : Grown m id o m2 id2) (hne : j ≠ id) : IntsAt m2 j l := by
  obtain ⟨x, h1, h2⟩ := h; exact ⟨x, hg.old _ _ hne h1, h2⟩
theorem IntsAt.set {m : Mem} {id j : Nat} {o : AObj} {l : List Int} (h : IntsAt m j l) (hne : id ≠ j) : IntsAt (m.set id o) j l := by
  obtain ⟨x, h1, h2⟩ := h; exact ⟨x, by rw [List.getElem?_set_ne hne]; exact h1, h2⟩
/-- Slices of piles. -/
def slicesV : List Nat → List (List Int) → List Value
  | id :: ids, p :: ps => .slice (some ⟨id, 0, none⟩) p.length p.length :: slicesV ids ps
  | _, _ => []
theorem slicesV_length : ∀ {ids : List Nat} {ps : List (List Int)}, ids.length = ps.length → (slicesV ids ps).length = ps.length
  | [], [], _ => rfl
  | id :: ids, p :: ps, h => by simp only [slicesV, List.length_cons, slicesV_length (ids := ids) (ps := ps) (by simpa using h)]
  | [], _ :: _, h => by simp at h
  | _ :: _, [], h => by simp at h
theorem slicesV_get : ∀ {ids : List Nat} {ps : List (List Int)} {i : Nat} (h : i < ids.length) (h' : i < ps.length), (slicesV ids ps)[i]? = some (.slice (some ⟨ids[i], 0, none⟩) ps[i].length ps[i].length)
  | id :: ids, p :: ps, 0, _, _ => rfl
  | id :: ids, p :: ps, i + 1, h, h' => by
    simp only [slicesV, List.getElem?_cons_succ, List.getElem_cons_succ]
    exact slicesV_get (by simpa using h) (by simpa using h')
theorem slicesV_set : ∀ {ids : List Nat} {ps : List (List Int)} {i : Nat} (q : Nat) (p : List Int), ids.length = ps.length → (slicesV ids ps).set i (.slice (some ⟨q, 0, none⟩) p.length p.length) = slicesV (ids.set i q) (ps.set i p)
  | [], [], i, q, p, _ => by simp [slicesV]
  | id :: ids, r :: ps, 0, q, p, _ => rfl
  | id :: ids, r :: ps, i + 1, q, p, h => by
    simp only [slicesV, List.set_cons_succ]
    rw [slicesV_set q p (by simpa using h)]
  | [], _ :: _, _, _, _, h => by simp at h
  | _ :: _, [], _, _, _, h => by simp at h
theorem slicesV_snoc : ∀ {ids : List Nat} {ps : List (List Int)} (q : Nat) (p : List Int), ids.length = ps.length → slicesV ids ps ++ [.slice (some ⟨q, 0, none⟩) p.length p.length] = slicesV (ids ++ [q]) (ps ++ [p])
  | [], [], q, p, _ => rfl
  | id :: ids, r :: ps, q, p, h => by
    simp only [slicesV, List.cons_append]
    rw [slicesV_snoc q p (by simpa using h)]
  | [], _ :: _, _, _, h => by simp at h
  | _ :: _, [], _, _, h => by simp at h
/-- Piles, each an object of its own. -/
structure PAt (lo : Nat) (m : Mem) (ip : Nat) (o : AObj) (ids : List Nat) (ps : List (List Int)) : Prop where
  o_at : m[ip]? = some o
  k1 : 1 ≤ o.kind
  k2 : o.kind ≤ 2
  sz : o.sz = 1
  el : o.elem = 38
  len : ids.length = ps.length
  nd : ids.Nodup
  lo_ : lo ≤ ip
  los : ∀ i ∈ ids, lo ≤ i ∧ i ≠ ip
  cells : o.cells = slicesV ids ps
  each : ∀ i (h : i < ids.length) (h' : i < ps.length), IntsAt m ids[i] ps[i]
theorem PAt.pre {lo : Nat} {m m' : Mem} {ip : Nat} {o : AObj} {ids : List Nat} {ps : List (List Int)} (h : PAt lo m ip o ids ps) (hp : m <+: m') : PAt lo m' ip o ids ps :=
  ⟨prefix_get hp h.o_at, h.k1, h.k2, h.sz, h.el, h.len, h.nd, h.lo_, h.los, h.cells, fun i h1 h2 => (h.each i h1 h2).pre hp⟩
theorem nodup_get {l : List Nat} (h : l.Nodup) {i j : Nat} (hi : i < l.length) (hj : j < l.length) (hne : i ≠ j) : l[i] ≠ l[j] := by
  rcases Nat.lt_or_gt_of_ne hne with h1 | h1
  · exact List.pairwise_iff_getElem.1 h i j hi hj h1
  · exact Ne.symm (List.pairwise_iff_getElem.1 h j i hj hi h1)
/-- A pile more, empty. -/
theorem PAt.new {lo : Nat} {m m2 : Mem} {ip ip2 e : Nat} {o : AObj} {ids : List Nat} {ps : List (List Int)} (h : PAt lo m ip o ids ps) (he : IntsAt m e []) (hel : lo ≤ e) (hen : ∀ i ∈ ids, i ≠ e) (hep : e ≠ ip)
    (hg : Grown m ip ⟨o.cells ++ [.slice (some ⟨e, 0, none⟩) 0 0], 38, 1, 2⟩ m2 ip2) : PAt lo m2 ip2 ⟨o.cells ++ [.slice (some ⟨e, 0, none⟩) 0 0], 38, 1, 2⟩ (ids ++ [e]) (ps ++ [[]]) := by
  have hipl := lt_of_get h.o_at
  refine ⟨hg.new, by simp, by simp, rfl, rfl, by simp [h.len], ?_, by rw [hg.at_]; have := h.lo_; omega, fun i hi => ?_, ?_, fun i h1 h2 => ?_⟩
  · refine List.pairwise_append.2 ⟨h.nd, by simp, fun x hx y hy => ?_⟩
    simp at hy; subst hy; exact hen x hx
  · rcases List.mem_append.1 hi with hi | hi
    · obtain ⟨j, hj, rfl⟩ := List.getElem_of_mem hi
      have := (h.each j hj (by rw [← h.len]; exact hj)).lt
      exact ⟨(h.los _ (List.getElem_mem hj)).1, by rw [hg.at_]; omega⟩
    · simp at hi; subst hi; exact ⟨hel, by rw [hg.at_]; have := he.lt; omega⟩
  · rw [h.cells]; exact slicesV_snoc e [] h.len
  · by_cases hlt : i < ids.length
    · have h3 : i < ps.length := by rw [← h.len]; exact hlt
      rw [List.getElem_append_left hlt, List.getElem_append_left h3]
      exact (h.each i hlt h3).grown hg (h.los _ (List.getElem_mem hlt)).2
    · have e1 : i = ids.length := by simp at h1; omega
      subst e1
      have e2 : (ps ++ [[]])[ids.length] = ([] : List Int) := by simp [h.len]
      rw [e2]
      simp only [List.getElem_concat_length]
      exact he.grown hg hep
/-- A pot more in a pile. -/
theorem PAt.push {lo : Nat} {m m2 : Mem} {ip k q : Nat} {o : AObj} {ids : List Nat} {ps : List (List Int)} (h : PAt lo m ip o ids ps) (hk : k < ids.length) (hk' : k < ps.length) (x : Int)
    (hg : Grown m ids[k] ⟨ps[k].map (Value.int .i64) ++ [.int .i64 x], 2, 1, 2⟩ m2 q) :
    PAt lo (m2.set ip ⟨o.cells.set k (.slice (some ⟨q, 0, none⟩) (ps[k].length + 1) (ps[k].length + 1)), o.elem, o.sz, o.kind⟩) ip ⟨o.cells.set k (.slice (some ⟨q, 0, none⟩) (ps[k].length + 1) (ps[k].length + 1)), o.elem, o.sz, o.kind⟩ (ids.set k q) (ps.set k (ps[k] ++ [x])) := by
  have hipl := lt_of_get h.o_at
  have hol := hg.old _ _ (Ne.symm (h.los _ (List.getElem_mem hk)).2) h.o_at
  have hq : ∀ i ∈ ids, i < m.length := fun i hi => by
    obtain ⟨j, hj, rfl⟩ := List.getElem_of_mem hi
    exact (h.each j hj (by rw [← h.len]; exact hj)).lt
  refine ⟨get_set hol _, h.k1, h.k2, h.sz, h.el, by simp [h.len], ?_, h.lo_, fun i hi => ?_, ?_, fun i h1 h2 => ?_⟩
  · have hnd := h.nd
    unfold List.Nodup
    rw [List.pairwise_iff_getElem]
    intro i j hi hj hij
    simp only [List.length_set] at hi hj
    rw [List.getElem_set, List.getElem_set]
    have hi2 := hq _ (List.getElem_mem hi)
    have hj2 := hq _ (List.getElem_mem hj)
    have hat := hg.at_
    split <;> split
    · omega
    · omega
    · omega
    · exact nodup_get h.nd hi hj (by omega)
  · rcases List.mem_or_eq_of_mem_set hi with hi | rfl
    · exact h.los i hi
    · rw [hg.at_]; have := h.lo_; omega
  · have := slicesV_set (ids := ids) (ps := ps) (i := k) q (ps[k] ++ [x]) h.len
    simp only [List.length_append, List.length_singleton] at this
    rw [← this, h.cells]
  · simp only [List.length_set] at h1 h2
    rw [List.getElem_set, List.getElem_set]
    by_cases e : k = i
    · rw [if_pos e, if_pos e]
      refine IntsAt.set ⟨_, hg.new, by simp, by simp, rfl, rfl, by simp⟩ ?_
      rw [hg.at_]; omega
    · rw [if_neg e, if_neg e]
      exact ((h.each i h1 h2).grown hg (nodup_get h.nd h1 hk (Ne.symm e))).set (Ne.symm (h.los _ (List.getElem_mem h1)).2)
theorem PAt.rd {lo : Nat} {m : Mem} {ip : Nat} {o : AObj} {ids : List Nat} {ps : List (List Int)} (h : PAt lo m ip o ids ps) : RdSS m (some ⟨ip, 0, none⟩) ps := fun i hi => by
  have hi2 : i < ids.length := by rw [h.len]; exact hi
  exact ⟨ip, 0, o, _, rfl, h.o_at, h.k2, h.sz, by rw [h.cells, Nat.zero_add]; exact slicesV_get hi2 hi, (h.each i hi2 hi).rd⟩
end Go.Proofs.Ytnipgigpjhalkaa
namespace Go.Proofs.Ytnipgigpjhalkaa
open Go.Abs Go.RowKit Go.Law

theorem pileIx_at {xs : List I3} {x : Int} {ps : List (List Int)} {k : Nat} (hk : k < ps.length) (h : ∀ j, j < k → (hj : j < ps.length) → fitsPile xs x ps[j] = false) (hf : fitsPile xs x ps[k] = true) : pileIx xs x ps = k := by
  unfold pileIx
  rw [List.findIdx_eq hk]
  exact ⟨hf, fun j hj => h j hj (by omega)⟩
theorem pileIx_none {xs : List I3} {x : Int} {ps : List (List Int)} (h : ∀ j, (hj : j < ps.length) → fitsPile xs x ps[j] = false) : pileIx xs x ps = ps.length := by
  unfold pileIx
  rw [List.findIdx_eq_length]
  intro p hp
  obtain ⟨j, hj, rfl⟩ := List.getElem_of_mem hp
  exact h j hj
theorem placeP_at {xs : List I3} {x : Int} {ps : List (List Int)} {k : Nat} (hk : k < ps.length) (h : pileIx xs x ps = k) : placeP xs ps x = ps.set k (ps[k] ++ [x]) := by
  unfold placeP
  rw [h, if_pos hk]
  simp [List.getD_eq_getElem?_getD, hk]
theorem placeP_new {xs : List I3} {x : Int} {ps : List (List Int)} (h : pileIx xs x ps = ps.length) : placeP xs ps x = (ps ++ [[]]).set ps.length ([] ++ [x]) := by
  unfold placeP
  rw [h, if_neg (by omega)]
  simp
def pilesO (xs : List I3) : List (List Int) := if potsB xs then pilesP xs else []
def pilesA (xs : List I3) (i : Nat) : Option Addr := if potsB xs then some ⟨i, 0, none⟩ else none
def PilesPost (xs : List I3) (m : Mem) (v : Value) (m' : Mem) : Prop :=
  (potsB xs = false ∧ v = .tuple #[.slice none 0 0, .int .i64 1] ∧ m <+: m') ∨ (potsB xs = true ∧ ∃ ip o ids, v = .tuple #[.slice (some ⟨ip, 0, none⟩) (pilesP xs).length (pilesP xs).length, .int .i64 0] ∧ m <+: m' ∧ PAt m.length m' ip o ids (pilesP xs))
theorem pilesTo_le (xs : List I3) : ∀ k, k ≤ xs.length → (pilesTo xs k).length ≤ k
  | 0, _ => by simp [pilesTo]
  | k + 1, h => by
    have := pilesTo_le xs k (by omega)
    rw [pilesTo_succ xs (by omega)]
    unfold placeP
    split <;> simp <;> omega
theorem pileLen_le {xs : List I3} {k : Nat} (hk : k ≤ xs.length) : ∀ p ∈ pilesTo xs k, p.length ≤ k := fun p hp => by
  have h := (pilesTo_ok xs k hk).2.length_eq
  have h1 : p.length ≤ (pilesTo xs k).flatten.length := List.Sublist.length_le (List.sublist_flatten_of_mem hp)
  rw [h, List.length_take] at h1
  omega
theorem specPiles_c (xs : List I3) (a : Option Addr) (m : Mem) (hr : RdG v3 3 m a xs) (hn : xs.length ≤ 1048576) :
    ∃ v m', ACalls Try.prog 42 [.slice a xs.length xs.length] m v m' ∧ PilesPost xs m v m' := by
  refine ecalls_of_vcF [13] Try.func42 rfl Try.fol (by kernel_rfl) ?_
  simp only [Try.f42]
  simp -dsimp -implicitDefEqProofs
  refine callsTo Try.cal59 (l19Ok_c xs a _ hr hn) ?_
  simp -dsimp -implicitDefEqProofs
  refine sp2 (fun g => ?_) (fun g => ?_)
  · simp at g
    exact ⟨_, _, GC.refl _ _ _, .inl ⟨g, rfl, pre_refl m⟩⟩
  simp at g
  obtain ⟨m0, hm0⟩ : ∃ m0, m0 = m ++ [(⟨[], 38, 1, 1⟩ : AObj)] := ⟨_, rfl⟩
  rw [← hm0]
  have hp0 : m <+: m0 := by rw [hm0]; exact ⟨_, rfl⟩
  have c0 : m0[m.length]? = some ⟨[], 38, 1, 1⟩ := by rw [hm0]; simp
  refine callsToE Try.cal71 (l19Order_c xs a m0 (hr.pre hp0) hn) ?_
  rintro _ m1 ⟨io, rfl, hp1, hio, hO⟩
  obtain ⟨ood, hoo⟩ : ∃ u, u = orderP xs xs.length := ⟨_, rfl⟩
  have hol := orderP_length xs xs.length
  have hm0l : m0.length = m.length + 1 := by rw [hm0]; simp
  simp -dsimp -implicitDefEqProofs
  refine loopN xs.length (fun i σ m' => ∃ ip o ids, (m <+: m' ∧ RdI m' (some ⟨io, 0, none⟩) (orderP xs xs.length) ∧ PAt m.length m' ip o ids (pilesTo xs i) ∧ (∀ j ∈ ip :: ids, j ≠ io)) ∧ σ 0 = some (.slice a xs.length xs.length) ∧ σ 4 = some (.slice (some ⟨ip, 0, none⟩) (pilesTo xs i).length (pilesTo xs i).length) ∧ σ 5 = some (.slice (some ⟨io, 0, none⟩) xs.length xs.length) ∧ σ 6 = some (.int .i64 i))
    ⟨m.length, _, [], ⟨hp0.trans hp1, hO, ⟨prefix_get hp1 c0, by simp, by simp, rfl, rfl, rfl, by simp, Nat.le_refl _, by simp, rfl, by simp⟩, by simp; omega⟩, by simp, by simp [pilesTo], by simp, by simp⟩ ?_
  rintro i σ m' hi ⟨ip, o, ids, ⟨hp, hO', hP, hni⟩, s0, s4, s5, s6⟩
  by_cases hlt : i < xs.length
  · have hwi : IntKind.i64.wrap ((i : Int) + 1) = i + 1 := wrapI (by omega) (by omega)
    obtain ⟨oid, ooff, oob, hoe, hom, hok, hos, hoc⟩ := hO'.at_ (show i < (orderP xs xs.length).length by omega)
    injection hoe with hoe
    injection hoe with hoe1 hoe2
    subst hoe1; subst hoe2
    obtain ⟨x, hx, hxl⟩ := orderP_mem xs xs.length _ (List.getElem_mem (show i < (orderP xs xs.length).length by omega))
    rw [hx] at hoc
    have hple := pilesTo_le xs i (by omega)
    have hr' := hr.pre hp
    have hpl := pileLen_le (show i ≤ xs.length by omega)
    obtain ⟨hpok, _⟩ := pilesTo_ok xs i (by omega)
    have hsucc := pilesTo_succ xs hlt
    rw [hx] at hsucc
    obtain ⟨ps, hps⟩ : ∃ ps, ps = pilesTo xs i := ⟨_, rfl⟩
    rw [← hps] at hP s4 hple hpl hpok hsucc
    obtain ⟨pid, poff, po, hpe, hpm, hpk, hpsz, hpll, hprow, _⟩ := R3.at_ hr' hxl
    simp only [Nat.zero_add] at hoc
    simp -dsimp -implicitDefEqProofs [s0, s4, s5, s6, hlt]
    refine loopN ps.length (fun k σ m2 => (m2 = m' ∧ ∀ j, j < k → (hj : j < ps.length) → fitsPile xs x ps[j] = false) ∧ (σ 0 = some (.slice a xs.length xs.length) ∧ σ 4 = some (.slice (some ⟨ip, 0, none⟩) ps.length ps.length) ∧ σ 5 = some (.slice (some ⟨io, 0, none⟩) xs.length xs.length) ∧ σ 6 = some (.int .i64 i)) ∧ σ 7 = some (.int .i64 k))
      ⟨⟨rfl, fun j hj => by omega⟩, by simp [s0, s4, s5, s6], by simp⟩ ?_
    clear s0 s4 s5 s6
    rintro k σ m2 hk ⟨⟨hmm, hno⟩, ⟨s0, s4, s5, s6⟩, s7⟩
    have hmm := hmm.symm
    subst hmm
    by_cases hlk : k < ps.length
    · have hwk : IntKind.i64.wrap ((k : Int) + 1) = k + 1 := wrapI (by omega) (by omega)
      have hkid : k < ids.length := by rw [hP.len]; exact hlk
      have hpc : o.cells[k]? = some (.slice (some ⟨ids[k], 0, none⟩) ps[k].length ps[k].length) := by rw [hP.cells]; exact slicesV_get hkid hlk
      obtain ⟨qo, hqo, hqo1, hqo2, hqo3, hqo4, hqo5⟩ := hP.each k hkid hlk
      have hne := hpok.ne _ (List.getElem_mem hlk)
      have hlp : 0 < ps[k].length := List.length_pos_iff.2 hne
      have hlast : ps[k].length - 1 < ps[k].length := by omega
      have hix := hpok.ix _ (List.getElem_mem hlk) _ (List.getElem_mem hlast)
      obtain ⟨y, hy⟩ : ∃ y : Nat, ps[k][ps[k].length - 1] = (y : Int) := ⟨(ps[k][ps[k].length - 1]).toNat, by omega⟩
      rw [hy] at hix
      have hyl : y < xs.length := by omega
      have hqc : qo.cells[ps[k].length - 1]? = some (.int .i64 (y : Int)) := by rw [hqo5]; simp [hlast, hy]
      have hwl : IntKind.i64.wrap ((ps[k].length : Int) - 1) = ((ps[k].length - 1 : Nat) : Int) := by have := hpl _ (List.getElem_mem hlk); rw [wrapI (by omega) (by omega)]; omega
      have hpx := IsP.row (hpe ▸ hr') hxl
      have hpy := IsP.row (hpe ▸ hr') hyl
      have hfit := l19Fits_c xs[x] xs[y] m' _ _ _ _ hpx hpy
      have hfp : fitB xs[x] xs[y] = fitsPile xs x ps[k] := by unfold fitsPile; rw [getI hlast, hy]; simp only [Int.toNat_natCast, fitF, potAt_eq hxl, potAt_eq hyl]
      rw [hfp] at hfit
      simp -dsimp -implicitDefEqProofs [s0, s4, s5, s6, s7, hlt, hlk, withO_of hP.o_at, hP.k2, hP.sz, withC_of hpc, withO_of hom, hok, hos, withC_of hoc, hxl, withO_of hqo, hqo2, hqo3, withC_of hqc, hyl, hwl, hlast, hpe, withO_of hpm, hpk, hpsz, hwk]
      refine callsTo Try.cal55 hfit ?_
      cases hf : fitsPile xs x ps[k] with
      | false =>
        simp -dsimp -implicitDefEqProofs [s0, s4, s5, s6, s7, hlt, hlk, withO_of hP.o_at, hP.k2, hP.sz, withC_of hpc, withO_of hom, hok, hos, withC_of hoc, hxl, withO_of hqo, hqo2, hqo3, withC_of hqc, hyl, hwl, hlast, hpe, withO_of hpm, hpk, hpsz, hwk]
        exact next_ hlk ⟨⟨rfl, fun j hj hj2 => by
          by_cases e : j = k
          · subst e; exact hf
          · exact hno j (by omega) hj2⟩, by simp [s0, s4, s5, s6], by simp [hwk]⟩
      | true =>
        have hix2 := pileIx_at hlk hno hf
        have hpl2 := placeP_at hlk hix2
        have hkne : ((k : Int) == (ps.length : Int)) = false := by rw [beq_eq_false_iff_ne]; omega
        simp -dsimp -implicitDefEqProofs [s0, s4, s5, s6, s7, hlt, hlk, withO_of hP.o_at, hP.k2, hP.sz, withC_of hpc, withO_of hom, hok, hos, withC_of hoc, hxl, withO_of hqo, hqo2, hqo3, withC_of hqc, hyl, hwl, hlast, hpe, withO_of hpm, hpk, hpsz, hwk, hkne]
        refine regF [[], [], [], [], [], [], [], [], [], [], [4, 5], [], [], []] 1 (by kernel_rfl) (by kernel_rfl) ?_
        have hipl := lt_of_get hP.o_at
        have hkl := lt_of_get hqo
        have hol2 := lt_of_get hom
        have z1 : ¬ m'.length = ip := by omega
        have z2 : ¬ m'.length = ids[k] := by omega
        have z3 : ¬ m'.length = io := by omega
        have z4 : ¬ ids[k] = ip := (hP.los _ (List.getElem_mem hkid)).2
        have z5 : ¬ ids[k] = io := hni _ (by simp)
        simp -dsimp -implicitDefEqProofs [s0, s4, s5, s6, s7, hlt, hlk, withO_of hP.o_at, hP.k2, hP.sz, withC_of hpc, withO_of hom, hok, hos, withC_of hoc, hxl, withO_of hqo, hqo2, hqo3, withC_of hqc, hyl, hwl, hlast, hpe, withO_of hpm, hpk, hpsz, hwk, hkne, fun l => withO_of (get_old (l := l) hP.o_at), fun l => withO_of (get_old (l := l) hom), fun l => withO_of (get_old (l := l) hqo), z1, z2, z3, z4, z5]
        refine .inl (appTo_grow (e := 2) (sz := 1) (by_ := 8) (z := .int .i64 0) (by kernel_rfl) (by kernel_rfl) ⟨by decide, rfl⟩ (o := qo) (get_old hqo) ⟨hqo1, hqo2⟩ ⟨hqo3, hqo4⟩ (by rw [hqo5]; simp) (by have := hpl _ (List.getElem_mem hlk); omega) (Src.obj (o := ⟨[.int .i64 (x : Int)], 2, 1, 1⟩) (by simp) (by simp) rfl rfl) ?_)
        intro m4 q hg4
        rw [hqo5] at hg4
        have hPush := (hP.pre (m' := m' ++ [(⟨[.int .i64 (x : Int)], 2, 1, 1⟩ : AObj)]) ⟨_, rfl⟩).push hkid hlk x hg4
        have ho4 := hg4.old _ _ (Ne.symm z4) (get_old hP.o_at)
        have hz1 : ¬ q = ip := by rw [hg4.at_]; simp; omega
        simp -dsimp -implicitDefEqProofs [s0, s4, s5, s6, s7, hlt, hlk, withO_of hP.o_at, hP.k2, hP.sz, withC_of hpc, withO_of hom, hok, hos, withC_of hoc, hxl, withO_of hqo, hqo2, hqo3, withC_of hqc, hyl, hwl, hlast, hpe, withO_of hpm, hpk, hpsz, hwk, hkne, fun l => withO_of (get_old (l := l) hP.o_at), fun l => withO_of (get_old (l := l) hom), fun l => withO_of (get_old (l := l) hqo), z1, z2, z3, z4, z5, withO_of ho4, hz1]
        refine need_intro hP.k1 (need_intro (by rw [hP.cells, slicesV_length hP.len]; omega) ?_)
        have hRR : RestS [ids[k], ip] m' (m4.set ip ⟨o.cells.set k (.slice (some ⟨q, 0, none⟩) (ps[k].length + 1) (ps[k].length + 1)), o.elem, o.sz, o.kind⟩) := ⟨by have := hg4.len; simp at this ⊢; omega, fun j o' h1 h2 => by
          simp at h1
          rw [List.getElem?_set_ne (Ne.symm h1.2)]; exact hg4.old _ _ h1.1 (get_old h2)⟩
        have hlos := (hP.los _ (List.getElem_mem hkid)).1
        have hbase := hRR.base hp (by intro j hj; simp at hj; rcases hj with rfl | rfl; exact hlos; exact hP.lo_)
        have hO5 := hRR.rdI (by intro z hz; injection hz with hz; subst hz; simp; exact ⟨Ne.symm z5, Ne.symm (hni ip (by simp))⟩) hO'
        rw [hP.sz] at hPush hRR hbase hO5
        exact next_ hlt ⟨ip, _, ids.set k q, ⟨hbase, hO5, by rw [hsucc, hpl2]; exact hPush, fun j hj => by
          rcases List.mem_cons.1 hj with rfl | hj
          · exact hni _ (by simp)
          · rcases List.mem_or_eq_of_mem_set hj with hj | rfl
            · exact hni _ (by simp [hj])
            · rw [hg4.at_]; simp; omega⟩, by simp [s0], by rw [hsucc, hpl2]; simp [s4], by simp [s5], by simp [hwi]⟩
    obtain rfl : k = ps.length := by omega
    have hix2 := pileIx_none (xs := xs) (x := x) (ps := ps) (fun j hj => hno j (by omega) hj)
    have hplN := placeP_new hix2
    simp -dsimp -implicitDefEqProofs [s0, s4, s5, s6, s7]
    have hlo := hP.lo_
    have hidl : ∀ j ∈ ids, j < m'.length := fun j hj => by
      obtain ⟨c, hc, rfl⟩ := List.getElem_of_mem hj
      exact (hP.each c hc (by rw [← hP.len]; exact hc)).lt
    have hml := hp.length_le
    have hipl := lt_of_get hP.o_at
    refine appTo_grow (e := 38) (sz := 1) (by_ := 24) (z := .slice none 0 0) (by kernel_rfl) (by kernel_rfl) ⟨by decide, rfl⟩ (o := o) (get_old hP.o_at) ⟨hP.k1, hP.k2⟩ ⟨hP.sz, hP.el⟩ (by rw [hP.cells, slicesV_length hP.len]; simp) (by omega) (Src.obj (o := ⟨[.slice (some ⟨m'.length, 0, none⟩) 0 0], 38, 1, 1⟩) (by simp) (by simp) rfl rfl) ?_
    intro m3 ip3 hg3
    have hQ := (hP.pre ⟨_, rfl⟩).new (e := m'.length) ⟨⟨[], 2, 1, 1⟩, by simp, by simp, by simp, rfl, rfl, rfl⟩ (by omega) (fun j hj => by have := hidl j hj; omega) (by omega) hg3
    have hp3 : m <+: m3 := hg3.pre m (pre_app hp _) hlo
    have hO3 := hg3.old _ _ (Ne.symm (hni ip (by simp))) (get_old hom)
    simp -dsimp -implicitDefEqProofs [s0, s4, s5, s6, s7]
    refine regF [[], [], [], [], [], [], [], [], [], [], [4, 5], [], [], []] 1 (by kernel_rfl) (by kernel_rfl) ?_
    have hocl : o.cells.length = ps.length := by rw [hP.cells]; exact slicesV_length hP.len
    obtain ⟨oN, hoN⟩ : ∃ u, u = (⟨o.cells ++ [.slice (some ⟨m'.length, 0, none⟩) 0 0], 38, 1, 2⟩ : AObj) := ⟨_, rfl⟩
    have hpc3 : oN.cells[ps.length]? = some (.slice (some ⟨m'.length, 0, none⟩) 0 0) := by rw [hoN]; simp [← hocl]
    have hoNl : oN.cells.length = ps.length + 1 := by rw [hoN]; simp [hocl]
    rw [← hoN] at hQ
    have hkid : ps.length < (ids ++ [m'.length]).length := by simp [hP.len]
    have hlk3 : ps.length < (ps ++ [[]]).length := by simp
    have hid3 : (ids ++ [m'.length])[ps.length] = m'.length := by simp [← hP.len]
    have hps3 : (ps ++ [[]])[ps.length] = ([] : List Int) := by simp
    obtain ⟨qo, hqo, hqo1, hqo2, hqo3, hqo4, hqo5⟩ := hQ.each ps.length hkid hlk3
    rw [hid3] at hqo
    rw [hps3] at hqo5
    have hml3 : m3.length = m'.length + 3 := by have := hg3.len; simp at this; omega
    have hip3 : ip3 = m'.length + 2 := by rw [hg3.at_]; simp
    have hiol := lt_of_get hom
    have z1 : ¬ m3.length = ip3 := by omega
    have z2 : ¬ m3.length = m'.length := by omega
    have z3 : ¬ m3.length = io := by omega
    have z4 : ¬ m'.length = ip3 := by omega
    have z5 : ¬ m'.length = io := by omega
    simp -dsimp -implicitDefEqProofs [s0, s4, s5, s6, s7, hlt, withO_of hQ.o_at, hQ.k2, hQ.sz, withC_of hpc3, withO_of hO3, hok, hos, withC_of hoc, withO_of hqo, hqo2, hqo3, fun l => withO_of (get_old (l := l) hQ.o_at), fun l => withO_of (get_old (l := l) hO3), fun l => withO_of (get_old (l := l) hqo), z1, z2, z3, z4, z5]
    refine need_intro (by omega) (.inl ?_)
    refine (appTo_grow (e := 2) (sz := 1) (by_ := 8) (z := .int .i64 0) (by kernel_rfl) (by kernel_rfl) ⟨by decide, rfl⟩ (o := qo) (get_old hqo) ⟨hqo1, hqo2⟩ ⟨hqo3, hqo4⟩ (by rw [hqo5]; simp) (by omega) (Src.obj (o := ⟨[.int .i64 (x : Int)], 2, 1, 1⟩) (by simp) (by simp) rfl rfl) ?_)
    intro m4 q hg4
    rw [hqo5] at hg4
    have hPush := (hQ.pre (m' := m3 ++ [(⟨[.int .i64 (x : Int)], 2, 1, 1⟩ : AObj)]) ⟨_, rfl⟩).push hkid hlk3 x (by rw [hid3, hps3]; exact hg4)
    have ho4 := hg4.old _ _ (Ne.symm z4) (get_old hQ.o_at)
    have hz1 : ¬ q = ip3 := by rw [hg4.at_]; simp; omega
    simp -dsimp -implicitDefEqProofs [s0, s4, s5, s6, s7, hlt, withO_of hQ.o_at, hQ.k2, hQ.sz, withC_of hpc3, withO_of hO3, hok, hos, withC_of hoc, withO_of hqo, hqo2, hqo3, fun l => withO_of (get_old (l := l) hQ.o_at), fun l => withO_of (get_old (l := l) hO3), fun l => withO_of (get_old (l := l) hqo), z1, z2, z3, z4, z5, withO_of ho4, hz1]
    refine need_intro (by omega) (need_intro (by rw [hoN]; simp) (need_intro (by omega) ?_))
    have hRR : RestS [m'.length, ip3] m3 (m4.set ip3 ⟨oN.cells.set ps.length (.slice (some ⟨q, 0, none⟩) 1 1), oN.elem, 1, oN.kind⟩) := ⟨by have := hg4.len; simp at this ⊢; omega, fun j o' h1 h2 => by
      simp at h1
      rw [List.getElem?_set_ne (Ne.symm h1.2)]; exact hg4.old _ _ h1.1 (get_old h2)⟩
    have hbase := hRR.base hp3 (by intro j hj; simp at hj; omega)
    have hO33 : RdI m3 (some ⟨io, 0, none⟩) (orderP xs xs.length) := by
      obtain ⟨h1, h2, h3⟩ := hO'
      refine ⟨h1, h2, fun hn0 => ?_⟩
      obtain ⟨id', off', o', he', hm', g'⟩ := h3 hn0
      injection he' with he'
      injection he' with he1 he2
      subst he1; subst he2
      exact ⟨io, 0, o', rfl, hg3.old _ _ (Ne.symm (hni ip (by simp))) (get_old hm'), g'⟩
    have hO5 := hRR.rdI (by intro z hz; injection hz with hz; subst hz; simp; omega) hO33
    simp only [hps3, hQ.sz, List.length_nil, Nat.zero_add, List.nil_append] at hPush
    exact next_ hlt ⟨ip3, _, (ids ++ [m'.length]).set ps.length q, ⟨hbase, hO5, by rw [hsucc, hplN]; exact hPush, fun j hj => by
      rcases List.mem_cons.1 hj with rfl | hj
      · omega
      · rcases List.mem_or_eq_of_mem_set hj with hj | rfl
        · rcases List.mem_append.1 hj with hj | hj
          · exact hni _ (by simp [hj])
          · simp at hj; omega
        · rw [hg4.at_]; simp; omega⟩, by simp [s0], by rw [hsucc, hplN]; simp, by simp [s5], by simp [hwi]⟩
  · obtain rfl : i = xs.length := by omega
    simp -dsimp -implicitDefEqProofs [s0, s4, s5, s6]
    exact ⟨_, _, GC.refl _ _ _, .inr ⟨g, ip, o, ids, rfl, hp, hP⟩⟩
end Go.Proofs.Ytnipgigpjhalkaa
namespace Go.Proofs.Ytnipgigpjhalkaa
open Go.Abs Go.RowKit Go.Law

theorem potsB_all {xs : List I3} (h : potsB xs = true) {i : Nat} (hi : i < xs.length) : potB xs[i] = true := by
  simp only [potsB, Bool.and_eq_true] at h
  exact List.all_eq_true.1 h.1 _ (List.getElem_mem hi)
theorem pileCmp_c (xs : List I3) (hok : potsB xs = true) (a : Option Addr) (bj : Nat) (ty : TypeId) (x y : Nat) (hx : x < xs.length) (hy : y < xs.length) (m : Mem) (hb : m[bj]? = some ⟨[.slice a xs.length xs.length], ty, 1, 1⟩) (hr : RdG v3 3 m a xs) :
    ∃ z, ACalls Try.prog 73 ([.int .i64 (x : Int), .int .i64 (y : Int)] ++ [.pointer (some ⟨bj, 0, none⟩)]) m (.int .i64 z) m ∧ decide (z < 0) = potP xs x y := by
  have b1 := potsB_all hok hx
  have b2 := potsB_all hok hy
  simp only [potB, Bool.and_eq_true, inB, decide_eq_true_eq] at b1 b2
  have hw : IntKind.i64.wrap (xs[y].1 - xs[x].1) = xs[y].1 - xs[x].1 := wrapI (by omega) (by omega)
  refine ⟨xs[y].1 - xs[x].1, ?_, ?_⟩
  · obtain ⟨jid, joff, jo, hje, hjm, hjk1, hjs1, hjl, hjrow, hjc0, _⟩ := R3.at_ hr hx
    obtain ⟨jid2, joff2, jo2, hje2, hjm2, hjk2, hjs2, hjl2, hjrow2, hjd0, _⟩ := R3.at_ hr hy
    rw [hje] at hje2 hb
    injection hje2 with hje2
    injection hje2 with e1 e2
    subst e1 e2
    rw [hjm] at hjm2
    injection hjm2 with hjm2
    subst hjm2
    refine acalls_of_vc Try.func73 rfl Try.fol (by kernel_rfl) ?_
    simp only [Try.f73]
    simp -dsimp -implicitDefEqProofs
    simp -dsimp -implicitDefEqProofs [withO_of hb, withO_of hjm, hjk1, hjs1, withC_of hjc0, withC_of hjd0, hx, hy, hw]
    exact GC.refl _ _ _
  · simp only [potP, Int.toNat_natCast, potAt_eq hx, potAt_eq hy]
    rw [decide_eq_decide]; omega
theorem implPiles_c (xs : List I3) (a : Option Addr) (m : Mem) (hr : RdG v3 3 m a xs) (hn : xs.length ≤ 1048576) :
    ∃ v m', ACalls Try.prog 43 [.slice a xs.length xs.length] m v m' ∧ PilesPost xs m v m' := by
  refine ecalls_of_vc Try.func43 rfl Try.fol (by kernel_rfl) ?_
  simp only [Try.f43]
  simp -dsimp -implicitDefEqProofs
  refine callsTo Try.cal22 (validPots_c xs a _ (hr.ext _) hn) ?_
  simp -dsimp -implicitDefEqProofs
  refine sp2 (fun g => ?_) (fun g => ?_)
  · simp at g
    exact ⟨_, _, GC.refl _ _ _, .inl ⟨g, rfl, ⟨_, rfl⟩⟩⟩
  simp at g
  have hx12 : xs.length ≤ 12 := by
    simp only [potsB, Bool.and_eq_true, decide_eq_true_eq] at g
    exact g.2
  obtain ⟨m0, hm0⟩ : ∃ m0, m0 = m ++ [(⟨[.slice a xs.length xs.length], 34, 1, 1⟩ : AObj), ⟨[], 38, 1, 1⟩] := ⟨_, rfl⟩
  rw [← hm0]
  have hp0 : m <+: m0 := by rw [hm0]; exact ⟨_, rfl⟩
  have hm0l : m0.length = m.length + 2 := by rw [hm0]; simp
  have cb : m0[m.length]? = some ⟨[.slice a xs.length xs.length], 34, 1, 1⟩ := by rw [hm0]; simp
  have c0 : m0[m.length + 1]? = some ⟨[], 38, 1, 1⟩ := by rw [hm0]; simp
  have hix := indicesOf_c 73 [.pointer (some ⟨m.length, 0, none⟩)] (fun _ => True) (potP xs) xs.length m0 Try.cal73 (by omega) (fun m' hm' x y hx hy => pileCmp_c xs g a m.length _ x y hx hy m' (prefix_get hm' cb) (hr.pre (hp0.trans hm')))
  refine callsTo Try.cal72 hix ?_
  have hol := orderP_length xs xs.length
  obtain ⟨m1, hm1⟩ : ∃ m1, m1 = m0 ++ [(⟨(sortT (potP xs) (idxL xs.length)).map (Value.int .i64), 2, 1, 2⟩ : AObj)] := ⟨_, rfl⟩
  rw [← hm1]
  obtain ⟨io, hio⟩ : ∃ io, m0.length = io := ⟨_, rfl⟩
  have hp1 : m0 <+: m1 := by rw [hm1]; exact ⟨_, rfl⟩
  have hO : RdI m1 (some ⟨io, 0, none⟩) (orderP xs xs.length) := RdI.of_get (o := ⟨(sortT (potP xs) (idxL xs.length)).map (Value.int .i64), 2, 1, 2⟩) (by rw [hm1, ← hio]; simp) (by simp) rfl rfl
  rw [hio]
  simp -dsimp -implicitDefEqProofs
  refine loopN xs.length (fun i σ m' => ∃ ip o ids, (m <+: m' ∧ RdI m' (some ⟨io, 0, none⟩) (orderP xs xs.length) ∧ PAt (m.length + 1) m' ip o ids (pilesTo xs i) ∧ (∀ j ∈ ip :: ids, j ≠ io) ∧ m'[m.length]? = some ⟨[.slice a xs.length xs.length], 34, 1, 1⟩) ∧ σ 1 = some (.pointer (some ⟨m.length, 0, none⟩)) ∧ σ 4 = some (.slice (some ⟨ip, 0, none⟩) (pilesTo xs i).length (pilesTo xs i).length) ∧ (σ 15 = some (.slice (some ⟨io, 0, none⟩) xs.length xs.length) ∧ σ 16 = some (.int .i64 xs.length)) ∧ σ 17 = some (.int .i64 i))
    ⟨m.length + 1, _, [], ⟨hp0.trans hp1, hO, ⟨prefix_get hp1 c0, by simp, by simp, rfl, rfl, rfl, by simp, Nat.le_refl _, by simp, rfl, by simp⟩, by simp; omega, prefix_get hp1 cb⟩, by simp, by simp [pilesTo], by simp, by simp⟩ ?_
  rintro i σ m' hi ⟨ip, o, ids, ⟨hp, hO', hP, hni, hcb⟩, s1, s4, ⟨s15, s16⟩, s17⟩
  by_cases hlt : i < xs.length
  · have hwi : IntKind.i64.wrap ((i : Int) + 1) = i + 1 := wrapI (by omega) (by omega)
    obtain ⟨oid, ooff, oob, hoe, hom, hok, hos, hoc⟩ := hO'.at_ (show i < (orderP xs xs.length).length by omega)
    injection hoe with hoe
    injection hoe with hoe1 hoe2
    subst hoe1; subst hoe2
    obtain ⟨x, hx, hxl⟩ := orderP_mem xs xs.length _ (List.getElem_mem (show i < (orderP xs xs.length).length by omega))
    rw [hx] at hoc
    have hple := pilesTo_le xs i (by omega)
    have hr' := hr.pre hp
    have hpl := pileLen_le (show i ≤ xs.length by omega)
    obtain ⟨hpok, _⟩ := pilesTo_ok xs i (by omega)
    have hsucc := pilesTo_succ xs hlt
    rw [hx] at hsucc
    obtain ⟨ps, hps⟩ : ∃ ps, ps = pilesTo xs i := ⟨_, rfl⟩
    rw [← hps] at hP s4 hple hpl hpok hsucc
    obtain ⟨pid, poff, po, hpe, hpm, hpk, hpsz, hpll, hprow, _⟩ := R3.at_ hr' hxl
    simp only [Nat.zero_add] at hoc
    simp -dsimp -implicitDefEqProofs [s1, s4, s15, s16, s17, hlt, withO_of hom, hok, hos, withC_of hoc]
    refine loopN ps.length (fun k σ m2 => (m2 = m' ∧ ∀ j, j < k → (hj : j < ps.length) → fitsPile xs x ps[j] = false) ∧ (σ 1 = some (.pointer (some ⟨m.length, 0, none⟩)) ∧ σ 4 = some (.slice (some ⟨ip, 0, none⟩) ps.length ps.length) ∧ (σ 15 = some (.slice (some ⟨io, 0, none⟩) xs.length xs.length) ∧ σ 16 = some (.int .i64 xs.length)) ∧ σ 17 = some (.int .i64 i)) ∧ σ 6 = some (.int .i64 x) ∧ σ 7 = some (.int .i64 k))
      ⟨⟨rfl, fun j hj => by omega⟩, by simp [s1, s4, s15, s16, s17], by simp, by simp⟩ ?_
    clear s1 s4 s15 s16 s17
    rintro k σ m2 hk ⟨⟨hmm, hno⟩, ⟨s1, s4, ⟨s15, s16⟩, s17⟩, s6, s7⟩
    have hmm := hmm.symm
    subst hmm
    by_cases hlk : k < ps.length
    · have hwk : IntKind.i64.wrap ((k : Int) + 1) = k + 1 := wrapI (by omega) (by omega)
      have hkid : k < ids.length := by rw [hP.len]; exact hlk
      have hpc : o.cells[k]? = some (.slice (some ⟨ids[k], 0, none⟩) ps[k].length ps[k].length) := by rw [hP.cells]; exact slicesV_get hkid hlk
      obtain ⟨qo, hqo, hqo1, hqo2, hqo3, hqo4, hqo5⟩ := hP.each k hkid hlk
      have hne := hpok.ne _ (List.getElem_mem hlk)
      have hlp : 0 < ps[k].length := List.length_pos_iff.2 hne
      have hlast : ps[k].length - 1 < ps[k].length := by omega
      have hix := hpok.ix _ (List.getElem_mem hlk) _ (List.getElem_mem hlast)
      obtain ⟨y, hy⟩ : ∃ y : Nat, ps[k][ps[k].length - 1] = (y : Int) := ⟨(ps[k][ps[k].length - 1]).toNat, by omega⟩
      rw [hy] at hix
      have hyl : y < xs.length := by omega
      have hqc : qo.cells[ps[k].length - 1]? = some (.int .i64 (y : Int)) := by rw [hqo5]; simp [hlast, hy]
      have hwl : IntKind.i64.wrap ((ps[k].length : Int) - 1) = ((ps[k].length - 1 : Nat) : Int) := by have := hpl _ (List.getElem_mem hlk); rw [wrapI (by omega) (by omega)]; omega
      obtain ⟨pid2, poff2, po2, hpe2, hpm2, hpk2, hpsz2, hpll2, hprow2, _⟩ := R3.at_ hr' hyl
      rw [hpe] at hpe2
      injection hpe2 with hpe2
      injection hpe2 with e1 e2
      subst e1 e2
      rw [hpm] at hpm2
      injection hpm2 with hpm2
      subst hpm2
      have hfp : fitB xs[x] xs[y] = fitsPile xs x ps[k] := by unfold fitsPile; rw [getI hlast, hy]; simp only [Int.toNat_natCast, fitF, potAt_eq hxl, potAt_eq hyl]
      have hfit := fitsIn_c xs[x] xs[y] m'
      rw [hfp] at hfit
      simp -dsimp -implicitDefEqProofs [s1, s4, s15, s16, s17, s6, s7, hlt, hlk, withO_of hcb, withO_of hP.o_at, hP.k2, hP.sz, withC_of hpc, hxl, withO_of hqo, hqo2, hqo3, withC_of hqc, hyl, hwl, hlast, hpe, withO_of hpm, hpk, hpsz, hpll, hprow, hpll2, hprow2, hwk]
      refine callsTo Try.cal57 hfit ?_
      cases hf : fitsPile xs x ps[k] with
      | false =>
        simp -dsimp -implicitDefEqProofs [s1, s4, s15, s16, s17, s6, s7, hlt, hlk, withO_of hcb, withO_of hP.o_at, hP.k2, hP.sz, withC_of hpc, hxl, withO_of hqo, hqo2, hqo3, withC_of hqc, hyl, hwl, hlast, hpe, withO_of hpm, hpk, hpsz, hpll, hprow, hpll2, hprow2, hwk]
        exact next_ hlk ⟨⟨rfl, fun j hj hj2 => by
          by_cases e : j = k
          · subst e; exact hf
          · exact hno j (by omega) hj2⟩, by simp [s1, s4, s15, s16, s17], by simp [s6], by simp [hwk]⟩
      | true =>
        have hix2 := pileIx_at hlk hno hf
        have hpl2 := placeP_at hlk hix2
        have hkne : ((k : Int) == (ps.length : Int)) = false := by rw [beq_eq_false_iff_ne]; omega
        simp -dsimp -implicitDefEqProofs [s1, s4, s15, s16, s17, s6, s7, hlt, hlk, withO_of hcb, withO_of hP.o_at, hP.k2, hP.sz, withC_of hpc, hxl, withO_of hqo, hqo2, hqo3, withC_of hqc, hyl, hwl, hlast, hpe, withO_of hpm, hpk, hpsz, hpll, hprow, hpll2, hprow2, hwk, hkne]
        have hipl := lt_of_get hP.o_at
        have hkl := lt_of_get hqo
        have hol2 := lt_of_get hom
        have z4 : ¬ ids[k] = ip := (hP.los _ (List.getElem_mem hkid)).2
        have z5 : ¬ ids[k] = io := hni _ (by simp)
        refine (appTo_grow (e := 2) (sz := 1) (by_ := 8) (z := .int .i64 0) (by kernel_rfl) (by kernel_rfl) ⟨by decide, rfl⟩ (o := qo) (get_old hqo) ⟨hqo1, hqo2⟩ ⟨hqo3, hqo4⟩ (by rw [hqo5]; simp) (by have := hpl _ (List.getElem_mem hlk); omega) (Src.obj (o := ⟨[.int .i64 (x : Int)], 2, 1, 1⟩) (by simp) (by simp) rfl rfl) ?_)
        intro m4 q hg4
        rw [hqo5] at hg4
        have hPush := (hP.pre (m' := m' ++ [(⟨[.int .i64 (x : Int)], 2, 1, 1⟩ : AObj)]) ⟨_, rfl⟩).push hkid hlk x hg4
        have ho4 := hg4.old _ _ (Ne.symm z4) (get_old hP.o_at)
        have hz1 : ¬ q = ip := by rw [hg4.at_]; simp; omega
        simp -dsimp -implicitDefEqProofs [s1, s4, s15, s16, s17, s6, s7, hlt, hlk, withO_of hcb, withO_of hP.o_at, hP.k2, hP.sz, withC_of hpc, hxl, withO_of hqo, hqo2, hqo3, withC_of hqc, hyl, hwl, hlast, hpe, withO_of hpm, hpk, hpsz, hpll, hprow, hpll2, hprow2, hwk, hkne, withO_of ho4, hz1]
        refine need_intro hP.k1 (need_intro (by rw [hP.cells, slicesV_length hP.len]; omega) ?_)
        have hRR : RestS [ids[k], ip] m' (m4.set ip ⟨o.cells.set k (.slice (some ⟨q, 0, none⟩) (ps[k].length + 1) (ps[k].length + 1)), o.elem, o.sz, o.kind⟩) := ⟨by have := hg4.len; simp at this ⊢; omega, fun j o' h1 h2 => by
          simp at h1
          rw [List.getElem?_set_ne (Ne.symm h1.2)]; exact hg4.old _ _ h1.1 (get_old h2)⟩
        have hlos := (hP.los _ (List.getElem_mem hkid)).1
        have hbase := hRR.base hp (by intro j hj; simp at hj; have := hP.lo_; rcases hj with rfl | rfl <;> omega)
        have hO5 := hRR.rdI (by intro z hz; injection hz with hz; subst hz; simp; exact ⟨Ne.symm z5, Ne.symm (hni ip (by simp))⟩) hO'
        have hcb5 := hRR.get _ _ (by simp; have := hP.lo_; omega) hcb
        rw [hP.sz] at hPush hRR hbase hO5 hcb5
        exact next_ hlt ⟨ip, _, ids.set k q, ⟨hbase, hO5, by rw [hsucc, hpl2]; exact hPush, fun j hj => by
          rcases List.mem_cons.1 hj with rfl | hj
          · exact hni _ (by simp)
          · rcases List.mem_or_eq_of_mem_set hj with hj | rfl
            · exact hni _ (by simp [hj])
            · rw [hg4.at_]; simp; omega, hcb5⟩, by simp [s1], by rw [hsucc, hpl2]; simp [s4], by simp [s15, s16], by simp [hwi]⟩
    obtain rfl : k = ps.length := by omega
    have hix2 := pileIx_none (xs := xs) (x := x) (ps := ps) (fun j hj => hno j (by omega) hj)
    have hplN := placeP_new hix2
    simp -dsimp -implicitDefEqProofs [s1, s4, s15, s16, s17, s6, s7]
    have hlo := hP.lo_
    have hidl : ∀ j ∈ ids, j < m'.length := fun j hj => by
      obtain ⟨c, hc, rfl⟩ := List.getElem_of_mem hj
      exact (hP.each c hc (by rw [← hP.len]; exact hc)).lt
    have hml := hp.length_le
    have hipl := lt_of_get hP.o_at
    refine appTo_grow (e := 38) (sz := 1) (by_ := 24) (z := .slice none 0 0) (by kernel_rfl) (by kernel_rfl) ⟨by decide, rfl⟩ (o := o) (get_old hP.o_at) ⟨hP.k1, hP.k2⟩ ⟨hP.sz, hP.el⟩ (by rw [hP.cells, slicesV_length hP.len]; simp) (by omega) (Src.obj (o := ⟨[.slice (some ⟨m'.length, 0, none⟩) 0 0], 38, 1, 1⟩) (by simp) (by simp) rfl rfl) ?_
    intro m3 ip3 hg3
    have hQ := (hP.pre ⟨_, rfl⟩).new (e := m'.length) ⟨⟨[], 2, 1, 1⟩, by simp, by simp, by simp, rfl, rfl, rfl⟩ (by omega) (fun j hj => by have := hidl j hj; omega) (by omega) hg3
    have hp3 : m <+: m3 := hg3.pre m (pre_app hp _) (by omega)
    have hO3 := hg3.old _ _ (Ne.symm (hni ip (by simp))) (get_old hom)
    have hocl : o.cells.length = ps.length := by rw [hP.cells]; exact slicesV_length hP.len
    obtain ⟨oN, hoN⟩ : ∃ u, u = (⟨o.cells ++ [.slice (some ⟨m'.length, 0, none⟩) 0 0], 38, 1, 2⟩ : AObj) := ⟨_, rfl⟩
    have hpc3 : oN.cells[ps.length]? = some (.slice (some ⟨m'.length, 0, none⟩) 0 0) := by rw [hoN]; simp [← hocl]
    have hoNl : oN.cells.length = ps.length + 1 := by rw [hoN]; simp [hocl]
    rw [← hoN] at hQ
    have hkid : ps.length < (ids ++ [m'.length]).length := by simp [hP.len]
    have hlk3 : ps.length < (ps ++ [[]]).length := by simp
    have hid3 : (ids ++ [m'.length])[ps.length] = m'.length := by simp [← hP.len]
    have hps3 : (ps ++ [[]])[ps.length] = ([] : List Int) := by simp
    obtain ⟨qo, hqo, hqo1, hqo2, hqo3, hqo4, hqo5⟩ := hQ.each ps.length hkid hlk3
    rw [hid3] at hqo
    rw [hps3] at hqo5
    have hml3 : m3.length = m'.length + 3 := by have := hg3.len; simp at this; omega
    have hip3 : ip3 = m'.length + 2 := by rw [hg3.at_]; simp
    have hiol := lt_of_get hom
    have z1 : ¬ m3.length = ip3 := by omega
    have z2 : ¬ m3.length = m'.length := by omega
    have z3 : ¬ m3.length = io := by omega
    have z4 : ¬ m'.length = ip3 := by omega
    have z5 : ¬ m'.length = io := by omega
    simp -dsimp -implicitDefEqProofs [s1, s4, s15, s16, s17, s6, s7, hlt, withO_of hQ.o_at, hQ.k2, hQ.sz, withC_of hpc3, withO_of hO3, hok, hos, withC_of hoc, withO_of hqo, hqo2, hqo3, fun l => withO_of (get_old (l := l) hQ.o_at), fun l => withO_of (get_old (l := l) hO3), fun l => withO_of (get_old (l := l) hqo), z1, z2, z3, z4, z5]
    refine need_intro (by omega) ?_
    refine (appTo_grow (e := 2) (sz := 1) (by_ := 8) (z := .int .i64 0) (by kernel_rfl) (by kernel_rfl) ⟨by decide, rfl⟩ (o := qo) (get_old hqo) ⟨hqo1, hqo2⟩ ⟨hqo3, hqo4⟩ (by rw [hqo5]; simp) (by omega) (Src.obj (o := ⟨[.int .i64 (x : Int)], 2, 1, 1⟩) (by simp) (by simp) rfl rfl) ?_)
    intro m4 q hg4
    rw [hqo5] at hg4
    have hPush := (hQ.pre (m' := m3 ++ [(⟨[.int .i64 (x : Int)], 2, 1, 1⟩ : AObj)]) ⟨_, rfl⟩).push hkid hlk3 x (by rw [hid3, hps3]; exact hg4)
    have ho4 := hg4.old _ _ (Ne.symm z4) (get_old hQ.o_at)
    have hz1 : ¬ q = ip3 := by rw [hg4.at_]; simp; omega
    simp -dsimp -implicitDefEqProofs [s1, s4, s15, s16, s17, s6, s7, hlt, withO_of hQ.o_at, hQ.k2, hQ.sz, withC_of hpc3, withO_of hO3, hok, hos, withC_of hoc, withO_of hqo, hqo2, hqo3, fun l => withO_of (get_old (l := l) hQ.o_at), fun l => withO_of (get_old (l := l) hO3), fun l => withO_of (get_old (l := l) hqo), z1, z2, z3, z4, z5, withO_of ho4, hz1]
    refine need_intro (by omega) (need_intro (by rw [hoN]; simp) (need_intro (by omega) ?_))
    have hRR : RestS [m'.length, ip3] m3 (m4.set ip3 ⟨oN.cells.set ps.length (.slice (some ⟨q, 0, none⟩) 1 1), oN.elem, 1, oN.kind⟩) := ⟨by have := hg4.len; simp at this ⊢; omega, fun j o' h1 h2 => by
      simp at h1
      rw [List.getElem?_set_ne (Ne.symm h1.2)]; exact hg4.old _ _ h1.1 (get_old h2)⟩
    have hcb5 := hRR.get _ _ (by simp; omega) (hg3.old _ _ (by omega) (get_old hcb))
    have hbase := hRR.base hp3 (by intro j hj; simp at hj; omega)
    have hO33 : RdI m3 (some ⟨io, 0, none⟩) (orderP xs xs.length) := by
      obtain ⟨h1, h2, h3⟩ := hO'
      refine ⟨h1, h2, fun hn0 => ?_⟩
      obtain ⟨id', off', o', he', hm', g'⟩ := h3 hn0
      injection he' with he'
      injection he' with he1 he2
      subst he1; subst he2
      exact ⟨io, 0, o', rfl, hg3.old _ _ (Ne.symm (hni ip (by simp))) (get_old hm'), g'⟩
    have hO5 := hRR.rdI (by intro z hz; injection hz with hz; subst hz; simp; omega) hO33
    simp only [hps3, hQ.sz, List.length_nil, Nat.zero_add, List.nil_append] at hPush
    exact next_ hlt ⟨ip3, _, (ids ++ [m'.length]).set ps.length q, ⟨hbase, hO5, by rw [hsucc, hplN]; exact hPush, fun j hj => by
      rcases List.mem_cons.1 hj with rfl | hj
      · omega
      · rcases List.mem_or_eq_of_mem_set hj with hj | rfl
        · rcases List.mem_append.1 hj with hj | hj
          · exact hni _ (by simp [hj])
          · simp at hj; omega
        · rw [hg4.at_]; simp; omega, hcb5⟩, by simp [s1], by rw [hsucc, hplN]; simp, by simp [s15, s16], by simp [hwi]⟩
  · obtain rfl : i = xs.length := by omega
    simp -dsimp -implicitDefEqProofs [s1, s4, s15, s16, s17]
    exact ⟨_, _, GC.refl _ _ _, .inr ⟨g, ip, o, ids, rfl, hp, { hP with lo_ := by have := hP.lo_; omega, los := fun i hi => by have := hP.los i hi; omega }⟩⟩
end Go.Proofs.Ytnipgigpjhalkaa
