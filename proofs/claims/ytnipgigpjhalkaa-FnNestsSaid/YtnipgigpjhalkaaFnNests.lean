/-
  'FnNests': pots of the longest nest fit into one another, no fewer piles are possible than its own kind allows, and piles have all pots. Conditions: none.
-/
import Derived.Test.YtnipgigpjhalkaaNestQ
set_option linter.unusedSimpArgs false
set_option linter.unusedVariables false
set_option linter.unusedSectionVars false
namespace Go.Proofs.Ytnipgigpjhalkaa
open Go.Abs Go.RowKit Go.Law

def IsT (v : Value) (_ : Mem) : Prop := v = .bool true
/-- A slice that may be nil, as one reads it. -/
def optA (l : Nat) : Option (List Int) → Option Addr
  | none => none
  | some _ => some ⟨l, 0, none⟩
theorem optV_eq (l : Nat) (o : Option (List Int)) : optV l o = .slice (optA l o) (o.getD []).length (o.getD []).length := by cases o <;> rfl
theorem optRd (m : Mem) (e : TypeId) (o : Option (List Int)) : RdI (m ++ optM e o) (optA m.length o) (o.getD []) := by
  cases o with
  | none => exact RdI.nil _ _
  | some ys => exact RdI.of_get (o := ⟨ys.map (Value.int .i64), e, 1, 2⟩) (by simp [optM]) (by simp) rfl rfl
theorem rdPre {m m' : Mem} {a : Option Addr} {xs : List Int} (h : RdI m a xs) (hp : m <+: m') : RdI m' a xs := by obtain ⟨l, rfl⟩ := hp; exact h.ext l
theorem nest_full2 {xs : List I3} {zs : List Int} (e : zs = nestL xs) : zs.length = (topP xs xs.length).toNat ∧ (∀ i, (h : i + 1 < zs.length) → ∃ a b : Nat, zs[i + 1] = (a : Int) ∧ zs[i] = (b : Int) ∧ a < xs.length ∧ b < xs.length ∧ fitF xs a b = true) := by
  subst e; exact nest_full xs
theorem f6lists_c (xss : List (List Int)) (a b : Option Addr) (m : Mem) (hr : RdSS m a xss) (hs : RdSS m b xss) (hn : xss.length ≤ 1048576) (hn' : ∀ xs ∈ xss, xs.length ≤ 1048576) :
    ACalls Try.prog 53 [.slice a xss.length xss.length, .slice b xss.length xss.length] m (.bool true) m := by
  refine acalls_of_vc Try.func53 rfl Try.fol (by kernel_rfl) ?_
  simp only [Try.f53]
  simp -dsimp -implicitDefEqProofs
  refine loopN xss.length (fun k σ m' => m' = m ∧ σ 0 = some (.slice a xss.length xss.length) ∧ σ 1 = some (.slice b xss.length xss.length) ∧ σ 5 = some (.int .i64 k)) ⟨rfl, by simp⟩ ?_
  rintro k σ m' hk ⟨rfl, s0, s1, s5⟩
  by_cases hlt : k < xss.length
  · obtain ⟨id, off, o, ad, rfl, hm, hkd, hsz, hc, hrd⟩ := hr k hlt
    obtain ⟨id', off', o', ad', rfl, hm', hkd', hsz', hc', hrd'⟩ := hs k hlt
    have hw : IntKind.i64.wrap ((k : Int) + 1) = k + 1 := wrapI (by omega) (by omega)
    simp -dsimp -implicitDefEqProofs [s0, s1, s5, hlt, withO_of hm, hkd, hsz, withC_of hc, withO_of hm', hkd', hsz', withC_of hc', hw]
    refine callsTo Try.cal52 (f6ints_c xss[k] _ _ _ hrd hrd' (hn' _ (List.getElem_mem hlt))) ?_
    simp -dsimp -implicitDefEqProofs [s0, s1, s5, hlt, withO_of hm, hkd, hsz, withC_of hc, withO_of hm', hkd', hsz', withC_of hc', hw]
    exact next_ hlt ⟨rfl, by simp [s0, s1, hw]⟩
  · simp -dsimp -implicitDefEqProofs [s0, s1, s5, hlt]
    exact GC.refl _ _ _
set_option maxRecDepth 20000 in
set_option maxHeartbeats 3200000 in
theorem lawNests_c (code : List Int) (a : Option Addr) (m : Mem) (hr0 : RdB m a code) (hm0 : code.length ≤ maxLen) :
    ∃ v m', ACalls Try.prog 13 [.slice a code.length code.length] m v m' ∧ IsT v m' := by
  refine ecalls_of_vc Try.func13 rfl Try.fol (by kernel_rfl) ?_
  simp only [Try.f13]
  simp -dsimp -implicitDefEqProofs
  refine callsTo Try.cal46 (f6big_c a _ _) ?_
  simp -dsimp -implicitDefEqProofs
  by_cases hlong : (4096 : Int) < code.length
  · have h1 : decide ((4096 : Int) < code.length) = true := by simpa using hlong
    simp -dsimp -implicitDefEqProofs [h1]
    exact ⟨_, _, GC.refl _ _ _, rfl⟩
  have h1 : decide ((4096 : Int) < code.length) = false := by simp; omega
  simp -dsimp -implicitDefEqProofs [h1]
  obtain ⟨v1, m1, hc1, xs, i1, hx, rfl, hp1, hL1⟩ := drawNest_c a code m hr0 (by omega)
  refine callsTo Try.cal51 hc1 ?_
  simp -dsimp -implicitDefEqProofs [h1]
  have hnx : xs.length ≤ 1048576 := by omega
  have e1 := implNest_c xs (some ⟨i1, 0, none⟩) m1 hL1.rd hnx
  rw [optV_eq] at e1
  obtain ⟨zs, hzs⟩ : ∃ zs, zs = (nestO xs).getD [] := ⟨_, rfl⟩
  rw [← hzs] at e1
  refine callsTo Try.cal36 e1 ?_
  simp -dsimp -implicitDefEqProofs [h1]
  obtain ⟨m2, hm2⟩ : ∃ m2, m2 = m1 ++ optM 2 (nestO xs) := ⟨_, rfl⟩
  rw [← hm2]
  have hp2 : m1 <+: m2 := by rw [hm2]; exact ⟨_, rfl⟩
  have hz2 : RdI m2 (optA m1.length (nestO xs)) zs := by rw [hm2, hzs]; exact optRd _ _ _
  have e2 := specNest_c xs (some ⟨i1, 0, none⟩) m2 (hL1.pre hp2).rd hnx
  rw [optV_eq, ← hzs] at e2
  refine callsTo Try.cal35 e2 ?_
  simp -dsimp -implicitDefEqProofs [h1]
  obtain ⟨m3, hm3⟩ : ∃ m3, m3 = m2 ++ optM 2 (nestO xs) := ⟨_, rfl⟩
  rw [← hm3]
  have hp3 : m2 <+: m3 := by rw [hm3]; exact ⟨_, rfl⟩
  have hz3 : RdI m3 (optA m2.length (nestO xs)) zs := by rw [hm3, hzs]; exact optRd _ _ _
  have hL3 := hL1.pre (hp2.trans hp3)
  refine callsTo Try.cal31 (implFew_c xs (some ⟨i1, 0, none⟩) m3 hL3.rd hnx) ?_
  simp -dsimp -implicitDefEqProofs [h1, fewV]
  refine callsTo Try.cal30 (specFew_c xs (some ⟨i1, 0, none⟩) m3 hL3.rd hnx (fun x h => by injection h with h; subst h; exact hL3.lt)) ?_
  simp -dsimp -implicitDefEqProofs [h1, fewV]
  refine callsToE Try.cal43 (implPilesU_c xs _ m3 hL3.rd hnx) ?_
  rintro _ m4 ⟨B, jds, rfl, hp4, hG⟩
  simp -dsimp -implicitDefEqProofs [h1]
  refine callsToE Try.cal42 (specPilesU_c xs _ m4 (hL3.pre hp4).rd hnx) ?_
  rintro _ m5 ⟨A, ids, rfl, hp5, hW⟩
  simp -dsimp -implicitDefEqProofs [h1]
  have hL5 := hL3.pre (hp4.trans hp5)
  have e3 := implAlone_c xs (some ⟨i1, 0, none⟩) m5 hL5.rd hnx
  rw [optV_eq] at e3
  obtain ⟨rs, hrs⟩ : ∃ rs, rs = (aloneO xs).getD [] := ⟨_, rfl⟩
  rw [← hrs] at e3
  refine callsTo Try.cal25 e3 ?_
  simp -dsimp -implicitDefEqProofs [h1]
  obtain ⟨m6, hm6⟩ : ∃ m6, m6 = m5 ++ optM 2 (aloneO xs) := ⟨_, rfl⟩
  rw [← hm6]
  have hp6 : m5 <+: m6 := by rw [hm6]; exact ⟨_, rfl⟩
  have hq6 : RdI m6 (optA m5.length (aloneO xs)) rs := by rw [hm6, hrs]; exact optRd _ _ _
  have e4 := specAlone_c xs (some ⟨i1, 0, none⟩) m6 (hL5.pre hp6).rd hnx
  rw [optV_eq, ← hrs] at e4
  have hzl : zs.length ≤ 1048576 := by
    rw [hzs]
    cases hO : nestO xs with
    | none => simp
    | some ys => have := nestO_length hO; simp; omega
  have hrl : rs.length ≤ 1048576 := by
    rw [hrs]
    cases hO : aloneO xs with
    | none => simp
    | some ys => have := aloneO_length hO; simp; omega
  have hpl := pilesO_le xs hnx
  by_cases hok : potsB xs = true
  · have hpc : potsC xs = 0 := by simp [potsC, hok]
    rw [hpc] at e4
    have hzn : zs = nestL xs := by rw [hzs]; simp [nestO, hok]
    have hrn : rs = aloneTo xs xs.length := by rw [hrs]; simp [aloneO, hok]
    refine callsTo Try.cal24 e4 ?_
    simp -dsimp -implicitDefEqProofs [h1, hpc, hok]
    obtain ⟨m7, hm7⟩ : ∃ m7, m7 = m6 ++ optM 2 (aloneO xs) := ⟨_, rfl⟩
    rw [← hm7]
    have hp7 : m6 <+: m7 := by rw [hm7]; exact ⟨_, rfl⟩
    have hq7 : RdI m7 (optA m6.length (aloneO xs)) rs := by rw [hm7, hrs]; exact optRd _ _ _
    have hp57 := hp6.trans hp7
    have hp47 := hp5.trans hp57
    have hp37 := hp4.trans hp47
    have hL7 := hL3.pre hp37
    refine callsTo Try.cal52 (f6ints_c zs _ _ _ (rdPre hz2 (hp3.trans hp37)) (rdPre hz3 hp37) hzl) ?_
    simp -dsimp -implicitDefEqProofs [h1, hpc, hok]
    refine callsTo Try.cal53 (f6lists_c (pilesO xs) _ _ _ (hG.pre hp47).rd (hW.pre hp57).rd hpl.1 hpl.2) ?_
    simp -dsimp -implicitDefEqProofs [h1, hpc, hok]
    refine callsTo Try.cal52 (f6ints_c rs _ _ _ (rdPre hq6 hp7) hq7 hrl) ?_
    simp -dsimp -implicitDefEqProofs [h1, hpc, hok]
    refine callsTo Try.cal22 (validPots_c xs _ _ hL7.rd hnx) ?_
    simp -dsimp -implicitDefEqProofs [h1, hpc, hok]
    refine callsTo Try.cal20 (specValidPots_c xs _ _ hL7.rd hnx) ?_
    simp -dsimp -implicitDefEqProofs [h1, hpc, hok]
    have hpO : pilesO xs = pilesP xs := by simp [pilesO, hok]
    rw [hpO] at hW hpl
    have hW7 := (hW.pre hp57).rd
    have hz7 := rdPre hz3 hp37
    obtain ⟨hNl, hNf⟩ := nest_full2 hzn
    have hTb := topP_bounds xs xs.length
    have hfb := few_bounds xs
    rw [hpO]
    refine loopN (zs.length - 1) (fun k σ m' => m' = m7 ∧ ((σ 3 = some (.slice (some ⟨i1, 0, none⟩) xs.length xs.length) ∧ σ 6 = some (.slice (optA m2.length (nestO xs)) zs.length zs.length) ∧ σ 10 = some (.int .i64 (fewI xs))) ∧ σ 14 = some (.slice A (pilesP xs).length (pilesP xs).length) ∧ σ 18 = some (.slice (optA m6.length (aloneO xs)) rs.length rs.length)) ∧ σ 20 = some (.int .i64 (k + 1))) ⟨rfl, by simp [hok], by simp⟩ ?_
    rintro k σ m' hk ⟨hmm, ⟨⟨s3, s6, s10⟩, s14, s18⟩, s20⟩
    have hmm := hmm.symm
    subst hmm
    by_cases hlt : k + 1 < zs.length
    · obtain ⟨p, q, hzp, hzq, hpl2, hql, hF⟩ := hNf k hlt
      obtain ⟨zid, zoff, zo, hza, hzm, hzk, hzs2, hzc⟩ := hz7.at_ hlt
      obtain ⟨zid', zoff', zo', hza', hzm', hzk', hzs', hzc'⟩ := hz7.at_ (show k < zs.length by omega)
      rw [hza] at hza'
      injection hza' with hza'
      injection hza' with e1 e2
      subst e1 e2
      rw [hzm] at hzm'
      injection hzm' with hzm'
      subst hzm'
      rw [hzp] at hzc
      rw [hzq] at hzc'
      obtain ⟨lid, loff, lo, hla, hlm, hlk, hls, hll, hlrow, _⟩ := R3.at_ hL7.rd hpl2
      obtain ⟨lid', loff', lo', hla', hlm', hlk', hls', hll', hlrow', _⟩ := R3.at_ hL7.rd hql
      injection hla with hla
      injection hla with hla1 hla2
      subst hla1; subst hla2
      injection hla' with hla'
      injection hla' with hla1 hla2
      subst hla1; subst hla2
      rw [hlm] at hlm'
      injection hlm' with hlm'
      subst hlm'
      simp only [Nat.zero_add] at hll hlrow hll' hlrow'
      have hFt := implFits_c xs[p] xs[q] m7
      rw [fits_valid hok hpl2 hql hF] at hFt
      have w1 : IntKind.i64.wrap ((k : Int) + 1 - 1) = k := by rw [show ((k : Int) + 1 - 1) = k by omega]; exact wrapI (by omega) (by omega)
      have w2 : IntKind.i64.wrap ((k : Int) + 1 + 1) = k + 1 + 1 := wrapI (by omega) (by omega)
      have w3 : IntKind.i64.wrap (k : Int) = k := wrapI (by omega) (by omega)
      have g1 : (k : Int) + 1 < zs.length := by omega
      have g2 : ((k : Int) + 1).toNat = k + 1 := by omega
      have g3 : (0 : Int) ≤ (k : Int) + 1 := by omega
      have g4 : k < zs.length := by omega
      simp -dsimp -implicitDefEqProofs [s3, s6, s10, s14, s18, s20, hlt, g1, g2, g3, g4, hza, withO_of hzm, hzk, hzs2, withC_of hzc, withC_of hzc', w1, w2, w3, withO_of hlm, hlk, hls, hll, hlrow, hll', hlrow', hpl2, hql]
      refine callsTo Try.cal16 hFt ?_
      simp -dsimp -implicitDefEqProofs [s3, s6, s10, s14, s18, s20, hlt, g1, g2, g3, g4, hza, withO_of hzm, hzk, hzs2, withC_of hzc, withC_of hzc', w1, w2, w3, withO_of hlm, hlk, hls, hll, hlrow, hll', hlrow', hpl2, hql]
      exact next_ (by omega) ⟨rfl, by simp [s3, s6, s10, s14, s18], by simp [w2]⟩
    have g1 : ¬ ((k : Int) + 1 < zs.length) := by omega
    simp -dsimp -implicitDefEqProofs [s3, s6, s10, s14, s18, s20, g1]
    have hcount := piles_count xs
    have hsum : sumLen (pilesP xs) = xs.length := by unfold sumLen; rw [← List.length_flatten]; exact hcount
    refine loopN (pilesP xs).length (fun k σ m' => m' = m7 ∧ ((σ 3 = some (.slice (some ⟨i1, 0, none⟩) xs.length xs.length) ∧ σ 6 = some (.slice (optA m2.length (nestO xs)) zs.length zs.length) ∧ σ 10 = some (.int .i64 (fewI xs))) ∧ σ 14 = some (.slice A (pilesP xs).length (pilesP xs).length) ∧ σ 18 = some (.slice (optA m6.length (aloneO xs)) rs.length rs.length)) ∧ σ 23 = some (.int .i64 (sumLen ((pilesP xs).take k))) ∧ σ 24 = some (.int .i64 k)) ⟨rfl, by simp [s3, s6, s10, s14, s18], by simp [sumLen], by simp⟩ ?_
    clear s3 s6 s10 s14 s18 s20 g1 hk
    rintro k σ m' hk ⟨hmm, ⟨⟨s3, s6, s10⟩, s14, s18⟩, s23, s24⟩
    have hmm := hmm.symm
    subst hmm
    by_cases hlt : k < (pilesP xs).length
    · obtain ⟨pid, poff, po, pad, hpa, hpm, hpk, hps, hpc2, hprd⟩ := hW7 k hlt
      have hpin := List.getElem_mem hlt
      have hHt := implHigh_c xs (pilesP xs)[k] (some ⟨i1, 0, none⟩) pad m7 hL7.rd hprd hnx (hpl.2 _ hpin)
      have hPC := pile_valid hok hpin
      have hPL := pile_len hpin
      have hss := sumLen_succ hlt
      have hst := sumLen_take (pilesP xs) (k + 1)
      have w1 : IntKind.i64.wrap ((k : Int) + 1) = k + 1 := wrapI (by have := hpl.1; omega) (by have := hpl.1; omega)
      have w2 : IntKind.i64.wrap ((sumLen ((pilesP xs).take k) : Int) + ((pilesP xs)[k].length : Int)) = (sumLen ((pilesP xs).take (k + 1)) : Nat) := by rw [wrapI (by omega) (by omega), hss]; simp
      have g2 : ¬ zs.length < (pilesP xs)[k].length := by omega
      unfold highV at hHt
      rw [hPC] at hHt
      simp -dsimp -implicitDefEqProofs [s3, s6, s10, s14, s18, s23, s24, hlt, hpa, withO_of hpm, hpk, hps, withC_of hpc2, w1, w2, g2]
      refine callsTo Try.cal34 hHt ?_
      simp -dsimp -implicitDefEqProofs [s3, s6, s10, s14, s18, s23, s24, hlt, hpa, withO_of hpm, hpk, hps, withC_of hpc2, w1, w2, g2]
      exact next_ hlt ⟨rfl, by simp [s3, s6, s10, s14, s18, hpa], by simp [w2], by simp [w1]⟩
    obtain rfl : k = (pilesP xs).length := by omega
    rw [List.take_of_length_le (Nat.le_refl _), hsum] at s23
    have hge := few_ge xs
    have hle := few_le xs
    have hal := alone_le xs
    rw [← hrn] at hal
    have hzT : (zs.length : Int) = topP xs xs.length := by omega
    rw [← hzT] at hge
    have hw : IntKind.i64.wrap (fewI xs * (zs.length : Int)) = fewI xs * zs.length := by
      have h7 : fewI xs * (zs.length : Int) ≤ 13 * 13 := Int.le_trans (Int.mul_le_mul_of_nonneg_right (show fewI xs ≤ 13 by omega) (by omega)) (Int.mul_le_mul_of_nonneg_left (by omega) (by omega))
      have h8 : 0 ≤ fewI xs * (zs.length : Int) := Int.mul_nonneg hfb.1 (by omega)
      exact wrapI (by omega) (by omega)
    have g1 : ¬ ((pilesP xs).length : Int) < fewI xs := by omega
    have g2 : ¬ (fewI xs * (zs.length : Int) < xs.length) := by omega
    simp -dsimp -implicitDefEqProofs [s3, s6, s10, s14, s18, s23, s24, hw, g1, g2, hal]
    exact ⟨_, _, GC.refl _ _ _, rfl⟩
  · have hpc : potsC xs = 1 := by simp [potsC, hok]
    rw [hpc] at e4
    refine callsTo Try.cal24 e4 ?_
    simp -dsimp -implicitDefEqProofs [h1, hpc, hok]
    obtain ⟨m7, hm7⟩ : ∃ m7, m7 = m6 ++ optM 2 (aloneO xs) := ⟨_, rfl⟩
    rw [← hm7]
    have hp7 : m6 <+: m7 := by rw [hm7]; exact ⟨_, rfl⟩
    have hq7 : RdI m7 (optA m6.length (aloneO xs)) rs := by rw [hm7, hrs]; exact optRd _ _ _
    have hp57 := hp6.trans hp7
    have hp47 := hp5.trans hp57
    have hp37 := hp4.trans hp47
    have hL7 := hL3.pre hp37
    refine callsTo Try.cal52 (f6ints_c zs _ _ _ (rdPre hz2 (hp3.trans hp37)) (rdPre hz3 hp37) hzl) ?_
    simp -dsimp -implicitDefEqProofs [h1, hpc, hok]
    refine callsTo Try.cal53 (f6lists_c (pilesO xs) _ _ _ (hG.pre hp47).rd (hW.pre hp57).rd hpl.1 hpl.2) ?_
    simp -dsimp -implicitDefEqProofs [h1, hpc, hok]
    refine callsTo Try.cal52 (f6ints_c rs _ _ _ (rdPre hq6 hp7) hq7 hrl) ?_
    simp -dsimp -implicitDefEqProofs [h1, hpc, hok]
    refine callsTo Try.cal22 (validPots_c xs _ _ hL7.rd hnx) ?_
    simp -dsimp -implicitDefEqProofs [h1, hpc, hok]
    refine callsTo Try.cal20 (specValidPots_c xs _ _ hL7.rd hnx) ?_
    simp -dsimp -implicitDefEqProofs [h1, hpc, hok]
    exact ⟨_, _, GC.refl _ _ _, rfl⟩

set_option maxRecDepth 100000 in
theorem fnNestsLifted (os : Os) (started : os.Started) (H : Type) (enc : TypeId × Value → H) :
    ReturnsInHanded {} Try.checked os 13 .any (Rows.fnNestsSpec.pre6 enc Try.prog Try.f13 Rows.fnNestsRow.domain false) (Rows.fnNestsSpec.post enc Try.prog Try.f13 false true false false) :=
  lawLifted (C := Try.checked) [.one (.sl [.int .u8])] 3 4 (by kernel_rfl) started (by kernel_rfl) Try.func13
    (ChangeSpec.witness6 (enc := enc) (C := Try.checked) false ⟨#[], #[.slice none 0 0], []⟩ 8 (by kernel_rfl) (by kernel_rfl) (by kernel_rfl) (by kernel_rfl))
    (by kernel_rfl) (by kernel_rfl) (by kernel_rfl) rfl (by kernel_rfl) rfl (fun ds h => match ds, h with | [_], _ => rfl) fun m vs h => by
      obtain ⟨u0, rfl, hv0⟩ := h.one
      obtain ⟨a, xs, rfl, hl0, hr0⟩ := CV.slB hv0
      obtain ⟨v, m', hc, hv⟩ := lawNests_c xs a m hr0 hl0
      have hv' : v = .bool true := hv
      exact ⟨m', hv' ▸ hc⟩

theorem fnNestsHolds : Rows.FnNestsSaid :=
  OpenClaim.holds_of_wide 13 Try.f13 rfl rfl rfl rfl rfl rfl rfl ⟨rfl, rfl, rfl, rfl, rfl⟩ rfl rfl rfl rfl rfl (by kernel_rfl) Try.func13 (by kernel_rfl)
    (of_decide_eq_true (by kernel_rfl)) (by unfold Func.isWrapper; first | (rw [if_pos (by decide +kernel)]; kernel_rfl) | (rw [if_neg (by decide +kernel)]; exact ⟨rfl, rfl⟩))
    (fun os started H enc _ => fnNestsLifted os started H enc)
end Go.Proofs.Ytnipgigpjhalkaa
