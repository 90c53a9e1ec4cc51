/-
  Pots, part 9: the reference's search for a matching. Conditions: none.
-/
import Derived.Test.YtnipgigpjhalkaaNestH
import Derived.Test.YtnipgigpjhalkaaMatch
set_option linter.unusedSimpArgs false
set_option linter.unusedVariables false
set_option linter.unusedSectionVars false
namespace Go.Proofs.Ytnipgigpjhalkaa
open Go.Abs Go.RowKit Go.Law

def seenV (b : Bool) : Value := .int .i64 (if b then 1 else 0)
/-- What is kept while one looks, in the memory. -/
structure StP (ir is : Nat) (m : Mem) (st : KSt) : Prop where
  r : m[ir]? = some ⟨st.right.map (Value.int .i64), 2, 1, 1⟩
  s : m[is]? = some ⟨st.seen.map seenV, 2, 1, 1⟩
def PlacePost (ir is : Nat) (m : Mem) (p : Bool × KSt) (v : Value) (m' : Mem) : Prop := v = .bool p.1 ∧ StP ir is m' p.2 ∧ RestS [ir, is] m m'

theorem place_c (xs : List I3) (la : Option Addr) (hx : xs.length ≤ 1048576) (ip ir is : Nat) (hp : ip ∉ [ir, is]) (hrs : ir ≠ is) (hla : ∀ x, la = some x → x.block ∉ [ir, is]) :
    ∀ (f a : Nat) (st : KSt) (m : Mem), unseen st.seen < f → a < xs.length → KOK xs.length xs.length st → RdG v3 3 m la xs → (∃ t, m[ip]? = some ⟨[.slice la xs.length xs.length, .slice (some ⟨ir, 0, none⟩) xs.length xs.length, .slice (some ⟨is, 0, none⟩) xs.length xs.length], t, 3, 1⟩) → StP ir is m st →
      ∃ v m', ACalls Try.prog 83 [.pointer (some ⟨ip, 0, none⟩), .int .i64 (a : Int)] m v m' ∧ PlacePost ir is m (kfind (fitF xs) xs.length f a st) v m' := by
  intro f
  induction f with
  | zero => intro a st m hu; omega
  | succ f ih =>
    intro a st m hu ha hst hr  hS hG
    obtain ⟨t1, h1⟩ := id hS
    show ∃ v m', _ ∧ PlacePost ir is m (kscan (kfind (fitF xs) xs.length f) (fitF xs) a (List.range xs.length) st) v m'
    refine ecalls_of_vc Try.func83 rfl Try.fol (by kernel_rfl) ?_
    simp only [Try.f83]
    simp -dsimp -implicitDefEqProofs
    refine loopN xs.length (fun b σ m' => ∃ st', (kscan (kfind (fitF xs) xs.length f) (fitF xs) a (List.range xs.length) st = kscan (kfind (fitF xs) xs.length f) (fitF xs) a ((List.range xs.length).drop b) st' ∧ KOK xs.length xs.length st' ∧ unseen st'.seen ≤ unseen st.seen ∧ StP ir is m' st' ∧ RestS [ir, is] m m') ∧
      (σ 0 = some (.pointer (some ⟨ip, 0, none⟩)) ∧ σ 1 = some (.int .i64 a)) ∧ σ 5 = some (.int .i64 b)) ⟨st, ⟨rfl, hst, Nat.le_refl _, hG, RestS.refl _ _⟩, by simp [frameOf], by simp⟩ ?_
    clear h1
    rintro b σ m' hb ⟨st', ⟨hks, hst', hun, ⟨g1, g2⟩, hrest⟩, ⟨s0, s1⟩, s5⟩
    have h1 := hrest.get _ _ hp (Classical.choose_spec hS)
    generalize Classical.choose hS = t1 at h1
    have hr' := hrest.rdG hla hr

    by_cases hlt : b < xs.length
    · rw [range_drop hlt] at hks
      have hwb : IntKind.i64.wrap ((b : Int) + 1) = b + 1 := wrapI (by omega) (by omega)
      have hbs : b < st'.seen.length := by rw [hst'.seen]; exact hlt
      have hbr : b < st'.right.length := by rw [hst'.right]; exact hlt
      have hsg : st'.seen.getD b false = st'.seen[b] := by simp [List.getD_eq_getElem?_getD, hbs]
      have hrg : st'.right.getD b 0 = st'.right[b] := by simp [List.getD_eq_getElem?_getD, hbr]
      have hsc : ∀ x, st'.seen[b] = x → (st'.seen.map seenV)[b]? = some (seenV x) := fun x hx => by simp [hbs, hx]
      obtain ⟨jid, joff, jo, hje, hjm, hjk, hjs, hjl, hjrow, hjc0, hjc1, hjc2⟩ := R3.at_ hr' hlt
      have hpb := IsP.row (hje ▸ hr') hlt
      have hpa := IsP.row (hje ▸ hr') ha
      have hfit := l19Fits_c xs[a] xs[b] m' _ _ _ _ hpa hpb
      rw [show fitB xs[a] xs[b] = fitF xs a b by rw [fitF, potAt_eq ha, potAt_eq hlt]] at hfit
      cases hsn : st'.seen[b] with
      | true =>
        have hs1 := hsc _ hsn
        simp only [seenV, if_true] at hs1
        simp -dsimp -implicitDefEqProofs [s0, s1, s5, hlt, withO_of h1, withO_of g2, withC_of hs1, hst'.seen, hwb]
        exact next_ hlt ⟨st', ⟨hks.trans (kscan_skip (by rw [hsg, hsn]; rfl)), hst', hun, ⟨g1, g2⟩, hrest⟩, by simp [s0, s1], by simp [hwb]⟩
      | false =>
        have hs1 := hsc _ hsn
        simp only [seenV, Bool.false_eq_true, if_false] at hs1
        simp -dsimp -implicitDefEqProofs [s0, s1, s5, hlt, ha, withO_of h1, withO_of g2, withC_of hs1, hst'.seen, hwb, hje, withO_of hjm, hjk, hjs, hjl]
        refine callsTo Try.cal55 hfit ?_
        cases hab : fitF xs a b with
        | false =>
          simp -dsimp -implicitDefEqProofs [s0, s1, s5, hlt, ha, withO_of h1, withO_of g2, withC_of hs1, hst'.seen, hwb, hje, withO_of hjm, hjk, hjs, hjl]
          exact next_ hlt ⟨st', ⟨hks.trans (kscan_skip (by simp only [hab]; simp)), hst', hun, ⟨g1, g2⟩, hrest⟩, by simp [s0, s1], by simp [hwb]⟩
        | true =>
          have hcond : (st'.seen.getD b false || !(fitF xs) a b) = false := by simp only [hab, hsg, hsn]; rfl
          simp -dsimp -implicitDefEqProofs [s0, s1, s5, hlt, ha, withO_of h1, withO_of g2, withC_of hs1, hst'.seen, hwb, hje, withO_of hjm, hjk, hjs, hjl]
          refine need_intro (by omega) ?_
          obtain ⟨mS, hmS⟩ : ∃ mS, mS = m'.set is ⟨(st'.seen.set b true).map seenV, 2, 1, 1⟩ := ⟨_, rfl⟩
          have hfold : m'.set is ⟨(st'.seen.map seenV).set b (.int .i64 1), 2, 1, 1⟩ = mS := by rw [hmS, List.map_set]; rfl
          simp only [hfold]
          have hRS : RestS [ir, is] m' mS := by rw [hmS]; exact RestS.set _ (by simp) _
          have k1 := hRS.get _ _ hp h1
          have q2 : mS[ir]? = some ⟨st'.right.map (Value.int .i64), 2, 1, 1⟩ := by rw [hmS, List.getElem?_set_ne (Ne.symm hrs)]; exact g1
          have q3 : mS[is]? = some ⟨(st'.seen.set b true).map seenV, 2, 1, 1⟩ := by rw [hmS]; exact get_set g2 _
          have hrc : (st'.right.map (Value.int .i64))[b]? = some (.int .i64 st'.right[b]) := by simp [hbr]
          have hus : unseen (st'.seen.set b true) + 1 = unseen st'.seen := unseen_set hbs (by rw [hsg]; exact hsn)
          have hst2 : KOK xs.length xs.length ⟨st'.left, st'.right, st'.seen.set b true⟩ := ⟨hst'.left, hst'.right, by simpa using hst'.seen, hst'.ix⟩
          by_cases hneg : st'.right[b] < 0
          · have hfree := hks.trans (kscan_free hcond (by rw [hrg]; exact hneg))
            simp -dsimp -implicitDefEqProofs [hfold, s0, s1, s5, hlt, withO_of k1, withO_of q2, withC_of hrc, hst'.right, hneg]
            refine need_intro (by omega) ?_
            rw [hfree]
            refine ⟨_, _, GC.refl _ _ _, rfl, ⟨?_, ?_⟩, (hrest.trans hRS).trans (RestS.set _ (by simp) _)⟩
            · rw [get_set q2, List.map_set]
            · rw [List.getElem?_set_ne hrs]; exact q3
          · have hx := hst'.ix b hlt
            rw [hrg] at hx
            have hx2 : ((st'.right[b]).toNat : Int) = st'.right[b] := by omega
            have hxw : IntKind.i64.wrap st'.right[b] = st'.right[b] := wrapI (by omega) (by omega)
            obtain ⟨v, m2, hcall, rfl, ⟨y1, y2⟩, hR2⟩ := ih (st'.right[b]).toNat ⟨st'.left, st'.right, st'.seen.set b true⟩ mS (by simp only; omega) (by omega) hst2 (hRS.rdG hla hr') ⟨_, k1⟩ ⟨q2, q3⟩
            rw [hx2] at hcall
            have hok2 := kfind_ok (fitF xs) f (st'.right[b]).toNat _ (show (st'.right[b]).toNat < xs.length by omega) hst2
            simp -dsimp -implicitDefEqProofs [hfold, s0, s1, s5, hlt, withO_of k1, withO_of q2, withC_of hrc, hst'.right, hneg, hxw]
            refine callsTo Try.cal83 hcall ?_
            cases hfd : (kfind (fitF xs) xs.length f (st'.right[b]).toNat ⟨st'.left, st'.right, st'.seen.set b true⟩).1 with
            | false =>
              have hmiss := hks.trans (kscan_miss hcond (by rw [hrg]; exact hneg) (by rw [hrg]; exact hfd))
              rw [hrg] at hmiss
              simp -dsimp -implicitDefEqProofs [hfold, s0, s1, s5, hlt, withO_of k1, withO_of q2, withC_of hrc, hst'.right, hneg, hxw]
              exact next_ hlt ⟨_, ⟨hmiss, hok2.1, Nat.le_trans hok2.2 (by simp only; omega), ⟨y1, y2⟩, (hrest.trans hRS).trans hR2⟩, by simp [s0, s1], by simp [hwb]⟩
            | true =>
              have hhit := hks.trans (kscan_hit hcond (by rw [hrg]; exact hneg) (by rw [hrg]; exact hfd))
              rw [hrg] at hhit
              have k2 := hR2.get _ _ hp k1
              generalize (kfind (fitF xs) xs.length f (st'.right[b]).toNat ⟨st'.left, st'.right, st'.seen.set b true⟩).2 = sf at *
              simp -dsimp -implicitDefEqProofs [s0, s1, s5, hlt, withO_of k2, withO_of y1, hok2.1.right]
              refine need_intro (by omega) ?_
              rw [hhit]
              refine ⟨_, _, GC.refl _ _ _, rfl, ⟨?_, ?_⟩, ((hrest.trans hRS).trans hR2).trans (RestS.set _ (by simp) _)⟩
              · rw [get_set y1, List.map_set]
              · rw [List.getElem?_set_ne hrs]; exact y2
    · obtain rfl : b = xs.length := by omega
      rw [range_drop_all] at hks
      simp -dsimp -implicitDefEqProofs [s0, s1, s5, withO_of h1]
      rw [hks]
      exact ⟨_, _, GC.refl _ _ _, rfl, ⟨g1, g2⟩, hrest⟩

end Go.Proofs.Ytnipgigpjhalkaa
