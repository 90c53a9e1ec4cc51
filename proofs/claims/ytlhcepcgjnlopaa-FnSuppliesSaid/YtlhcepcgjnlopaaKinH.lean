/-
  Kinds, part 8: the best rods that can be taken. Conditions: none.
-/
import Derived.Test.YtlhcepcgjnlopaaKinG
set_option linter.unusedSimpArgs false
set_option linter.unusedVariables false
set_option linter.unusedSectionVars false
namespace Go.Proofs.Ytlhcepcgjnlopaa
open Go.Abs Go.RowKit Go.Law

/-- What the two searches tell. -/
def bestO (ks : List I2) (n : Int) (few : Bool) : Option (List Int) := if codeK ks n = 0 then (searchT ks n few).best else none
def bestC (ks : List I2) (n : Int) (few : Bool) : Int := if codeK ks n = 0 then (match (searchT ks n few).best with | none => 3 | some _ => 0) else codeK ks n
def bestN (ks : List I2) (n : Int) (few : Bool) : Int := match bestO ks n few with | none => 0 | some b => if few then sumT b else w64 (reachT ks b - n)
def bestV (l : Nat) (ks : List I2) (n : Int) (few : Bool) : Value := .tuple #[optV l (bestO ks n few), .int .i64 (bestN ks n few), .int .i64 (bestC ks n few)]

theorem specFew_c (ks : List I2) (la : Option Addr) (n : Int) (m : Mem) (hr : RdG v2 2 m la ks) (hn : ks.length ≤ 1048576) (hla : ∀ a, la = some a → a.block < m.length) :
    ACalls Try.prog 35 [.slice la ks.length ks.length, .int .i64 n] m (bestV m.length ks n true) (m ++ optM 2 (bestO ks n true)) := by
  refine acalls_of_vc Try.func35 rfl Try.fol (by kernel_rfl) ?_
  simp only [Try.f35]
  simp -dsimp -implicitDefEqProofs
  refine callsTo Try.cal57 (l18Code_c ks la n _ hr hn) ?_
  simp -dsimp -implicitDefEqProofs
  refine ⟨fun g => ?_, fun g => ?_⟩
  · simp at g
    exact GC.eq2 (by simp [bestO, g, optM]) (by simp [bestV, bestN, bestO, bestC, g, optV])
  simp at g
  obtain ⟨hks, _⟩ := codeK_zero g
  obtain ⟨v, m', hcall, iw, it, rfl, hp, hge, ty, b, r1, r2, hm, hb1, hb2, hb⟩ := l18Walk_c ks hks la n true m hr hla
  refine callsTo Try.cal58 hcall ?_
  simp -dsimp -implicitDefEqProofs [withO_of hm, wRow]
  cases hbest : (searchT ks n true).best with
  | none =>
    simp -dsimp -implicitDefEqProofs [withO_of hm, wRow, hbest]
    simp only [bestV, bestN, bestO, bestC, g, if_true, hbest, optV, optM, List.append_nil]
    exact GC.dropP hp rfl rfl
  | some xs =>
    obtain ⟨rfl, rfl, ib, rfl, ⟨hib, hlo⟩, _, hob⟩ := hb xs hbest
    simp -dsimp -implicitDefEqProofs [withO_of hm, wRow, hbest]
    simp only [bestV, bestN, bestO, bestC, g, if_true, hbest, optV, optM]
    exact GC.keepTP (Fits.refl m) hp hob hlo rfl rfl (.inl rfl) rfl (ints_lit _) rfl
theorem specOver_c (ks : List I2) (la : Option Addr) (n : Int) (m : Mem) (hr : RdG v2 2 m la ks) (hn : ks.length ≤ 1048576) (hla : ∀ a, la = some a → a.block < m.length) :
    ACalls Try.prog 38 [.slice la ks.length ks.length, .int .i64 n] m (bestV m.length ks n false) (m ++ optM 2 (bestO ks n false)) := by
  refine acalls_of_vc Try.func38 rfl Try.fol (by kernel_rfl) ?_
  simp only [Try.f38]
  simp -dsimp -implicitDefEqProofs
  refine callsTo Try.cal57 (l18Code_c ks la n _ hr hn) ?_
  simp -dsimp -implicitDefEqProofs
  refine ⟨fun g => ?_, fun g => ?_⟩
  · simp at g
    exact GC.eq2 (by simp [bestO, g, optM]) (by simp [bestV, bestN, bestO, bestC, g, optV])
  simp at g
  obtain ⟨hks, _⟩ := codeK_zero g
  obtain ⟨v, m', hcall, iw, it, rfl, hp, hge, ty, b, r1, r2, hm, hb1, hb2, hb⟩ := l18Walk_c ks hks la n false m hr hla
  refine callsTo Try.cal58 hcall ?_
  simp -dsimp -implicitDefEqProofs [withO_of hm, wRow]
  cases hbest : (searchT ks n false).best with
  | none =>
    simp -dsimp -implicitDefEqProofs [withO_of hm, wRow, hbest]
    simp only [bestV, bestN, bestO, bestC, g, if_true, hbest, optV, optM, List.append_nil]
    exact GC.dropP hp rfl rfl
  | some xs =>
    obtain ⟨rfl, rfl, ib, rfl, ⟨hib, hlo⟩, _, hob⟩ := hb xs hbest
    simp -dsimp -implicitDefEqProofs [withO_of hm, wRow, hbest]
    simp only [bestV, bestN, bestO, bestC, g, if_true, hbest, optV, optM]
    exact GC.keepTP (Fits.refl m) hp hob hlo rfl rfl (.inl rfl) rfl (ints_lit _) rfl

theorem sumF_c (xs : List Int) (a : Option Addr) (m : Mem) (hr : RdI m a xs) (hf : FewT xs) (hn : xs.length ≤ 1048576) : ACalls Try.prog 63 [.slice a xs.length xs.length] m (.int .i64 (sumT xs)) m := by
  refine acalls_of_vc Try.func63 rfl Try.fol (by kernel_rfl) ?_
  simp only [Try.f63]
  simp -dsimp -implicitDefEqProofs
  refine loopN xs.length (fun k σ m' => m' = m ∧ σ 6 = some (.slice a xs.length xs.length) ∧ σ 7 = some (.int .i64 xs.length) ∧ σ 3 = some (.int .i64 (sumT (xs.take k))) ∧ σ 8 = some (.int .i64 k)) ⟨rfl, by simp [sumT_nil]⟩ ?_
  rintro k σ m' hk ⟨rfl, s6, s7, s3, s8⟩
  by_cases hlt : k < xs.length
  · obtain ⟨id, off, o, rfl, hm, hkd, hsz, hc⟩ := hr.at_ hlt
    have hw : IntKind.i64.wrap ((k : Int) + 1) = k + 1 := wrapI (by omega) (by omega)
    have hs : sumT (xs.take (k + 1)) = sumT (xs.take k) + xs[k] := by rw [List.take_add_one, List.getElem?_eq_getElem hlt, Option.toList_some, sumT_append, sumT_cons, sumT_nil]; omega
    have hft : FewT (xs.take (k + 1)) := fun x hx => hf x (List.mem_of_mem_take hx)
    have hb := hft.sum
    have hl : (xs.take (k + 1)).length = k + 1 := by rw [List.length_take]; omega
    rw [hl] at hb
    have hw2 : IntKind.i64.wrap (sumT (xs.take k) + xs[k]) = sumT (xs.take (k + 1)) := by rw [← hs]; exact wrapI (by omega) (by omega)
    simp -dsimp -implicitDefEqProofs [s6, s7, s3, s8, hlt, withO_of hm, hkd, hsz, withC_of hc, hw]
    exact next_ hlt ⟨rfl, by simp [s6, s7, hw, hw2]⟩
  · simp -dsimp -implicitDefEqProofs [s6, s7, s3, s8, hlt]
    rw [List.take_of_length_le (by omega)]
    exact GC.refl _ _ _
theorem fewB_c (a b c d : Int) (m : Mem) : ACalls Try.prog 62 [.int .i64 a, .int .i64 b, .int .i64 c, .int .i64 d] m (.bool (betterT true a b c d)) m := by
  refine acalls_of_vc Try.func62 rfl Try.fol (by kernel_rfl) ?_
  simp only [Try.f62]
  simp -dsimp -implicitDefEqProofs
  refine sp2 (fun g => GC.eq (by simp at g; simp [betterT, g])) (fun g => sp2 (fun g' => ?_) (fun g' => ?_))
  · exact GC.eq (by simp at g g'; simp [betterT, g, g'])
  · exact GC.eq (by simp at g g'; simp [betterT, g, g'])
theorem overB_c (a b c d : Int) (m : Mem) : ACalls Try.prog 64 [.int .i64 a, .int .i64 b, .int .i64 c, .int .i64 d] m (.bool (betterT false a b c d)) m := by
  refine acalls_of_vc Try.func64 rfl Try.fol (by kernel_rfl) ?_
  simp only [Try.f64]
  simp -dsimp -implicitDefEqProofs
  refine sp2 (fun g => GC.eq (by simp at g; simp [betterT, g])) (fun g => sp2 (fun g' => ?_) (fun g' => ?_))
  · exact GC.eq (by simp at g g'; simp [betterT, g, g'])
  · exact GC.eq (by simp at g g'; simp [betterT, g, g'])
/-- The best so far, as a value. -/
def BestIs (m0 m' : Mem) (v : Value) : Option (List Int) → Prop
  | none => v = .slice none 0 0
  | some xs => ∃ ib, v = .slice (some ⟨ib, 0, none⟩) xs.length xs.length ∧ m0.length < ib ∧ m'[ib]? = some ⟨xs.map (Value.int .i64), 2, 1, 2⟩
def BestRes (m : Mem) (best : Option (List Int)) (v : Value) (m' : Mem) : Prop := m <+: m' ∧ BestIs m m' v best
theorem BestIs.noTup {m0 m : Mem} {v : Value} {o : Option (List Int)} (h : BestIs m0 m v o) : Abs.noTup v = true := by
  cases o with
  | none => rw [show v = .slice none 0 0 from h]; rfl
  | some xs => obtain ⟨ib, rfl, _⟩ := h; rfl
theorem BestIs.keep {m0 m m' : Mem} {v : Value} {o : Option (List Int)} (h : BestIs m0 m v o) (hk : ∀ (i : Nat) ob, m0.length < i → m[i]? = some ob → m'[i]? = some ob) : BestIs m0 m' v o := by
  cases o with
  | none => exact h
  | some xs => obtain ⟨ib, h1, h2, h3⟩ := h; exact ⟨ib, h1, h2, hk ib _ h2 h3⟩
theorem bestTaken_c (ks : List I2) (hks : kinB ks = true) (la : Option Addr) (wanted : Int) (few : Bool) (gf : FuncId) (hcl : callable Try.prog gf = true) (hg : ∀ a b c d m, ACalls Try.prog gf [.int .i64 a, .int .i64 b, .int .i64 c, .int .i64 d] m (.bool (betterT few a b c d)) m)
    (m : Mem) (hr : RdG v2 2 m la ks) (hla : ∀ a, la = some a → a.block < m.length) :
    ∃ v m', ACalls Try.prog 61 [.slice la ks.length ks.length, .int .i64 wanted, .func (.func gf) #[] #[]] m v m' ∧ BestRes m (searchT ks wanted few).best v m' := by
  have hk4 := kinB_len hks
  refine ecalls_of_vc Try.func61 rfl Try.fol (by kernel_rfl) ?_
  simp only [Try.f61]
  simp -dsimp -implicitDefEqProofs
  refine need_intro (by omega) ?_
  refine loopT (fun c σ m' => ∃ (seen : List (List Int)) (more : Bool) (xs : List Int) (b : Value), c = (tuples (hv ks)).length - seen.length ∧ Odo ks seen more xs ∧ m <+: m' ∧ m'[m.length]? = some ⟨xs.map (Value.int .i64), 2, 1, 1⟩ ∧
      BestIs m m' b (seen.foldl (leafT ks wanted few) ⟨none, 0⟩).best ∧ (∀ ys, (seen.foldl (leafT ks wanted few) ⟨none, 0⟩).best = some ys → FewT ys ∧ ys.length = ks.length) ∧
      σ 0 = some (.slice la ks.length ks.length) ∧ σ 1 = some (.int .i64 wanted) ∧ σ 2 = some (.func (.func gf) #[] #[]) ∧ σ 7 = some b ∧ σ 8 = some (.slice (some ⟨m.length, 0, none⟩) ks.length ks.length) ∧ σ 9 = some (.bool more)) _
    ⟨[], true, zerosT (hv ks), .slice none 0 0, rfl, Odo.zero hks, ⟨_, rfl⟩, ?_, rfl, (fun ys h => by cases h), by simp, by simp, by simp, by simp, by simp, by simp⟩ ?_
  · simp [zerosT, hv, Function.comp_def]
    exact List.map_const'.symm
  rintro _ σ m' ⟨seen, more, xs, b, rfl, hO, hp, ho, hb, hfew, s0, s1, s2, s7, s8, s9⟩
  cases more with
  | false =>
    simp -dsimp -implicitDefEqProofs [s0, s1, s2, s7, s8, s9]
    refine ⟨hb.noTup, _, _, GC.refl _ _ _, hp, ?_⟩
    rw [show searchT ks wanted few = (tuples (hv ks)).foldl (leafT ks wanted few) ⟨none, 0⟩ from rfl, hO.stop rfl]
    exact hb
  | true =>
    have hla' : ∀ a, la = some a → a.block ≠ m.length := fun a ha => by have := hla a ha; omega
    have hxs : RdI m' (some ⟨m.length, 0, none⟩) xs := RdI.of_get (o := ⟨xs.map (Value.int .i64), 2, 1, 1⟩) ho (by simp) rfl rfl
    have hreach := reachOf_c ks xs la (some ⟨m.length, 0, none⟩) _ (hr.pre hp) hxs (by rw [hO.len]; omega) (by rw [hO.len]; exact Nat.le_refl _)
    rw [reachW_eq hks hO.len hO.few, hO.len] at hreach
    have hsum := sumF_c xs _ _ hxs hO.few (by rw [hO.len]; omega)
    rw [hO.len] at hsum
    have hstep := hO.next hks
    have hlt : seen.length < (tuples (hv ks)).length := by
      have := hO.go rfl
      rw [fromT_eq (fun h hh => (hv_nonneg hks h hh).1) (by rw [hv_length, hO.len])] at this
      rw [this]; simp
    -- what is left behind the choice of the best
    have hnx := fun (mm : Mem) (h1 : m <+: mm) (h2 : mm[m.length]? = some ⟨xs.map (Value.int .i64), 2, 1, 1⟩) => nextTaken_c ks hks la xs m.length 2 mm hO.len hO.few (hr.pre h1) h2 hla'
    simp only [hO.len] at hnx
    have hfold : ∀ st, (leafT ks wanted few (seen.foldl (leafT ks wanted few) ⟨none, 0⟩) xs) = st → (seen ++ [xs]).foldl (leafT ks wanted few) ⟨none, 0⟩ = st := fun st h => by rw [List.foldl_append]; exact h
    have hkeep : ∀ (mm : Mem) (x : AObj) (b' : Value) (o : Option (List Int)), BestIs m mm b' o → BestIs m (mm.set m.length x) b' o := fun mm x b' o h => h.keep fun i ob hi hg => by rw [List.getElem?_set_ne (by omega)]; exact hg
    have hgrow : ∀ (m2 : Mem) (id2 : Nat), Grown (m' ++ [(⟨[], 2, 1, 1⟩ : AObj)]) m'.length ⟨([] : List Value) ++ xs.map (Value.int .i64), 2, 1, 2⟩ m2 id2 → m <+: m2 ∧ m2[m.length]? = some ⟨xs.map (Value.int .i64), 2, 1, 1⟩ ∧ BestIs m m2 (.slice (some ⟨id2, 0, none⟩) ks.length ks.length) (some xs) := by
      intro m2 id2 hg
      have hml := lt_of_get ho
      refine ⟨hp.trans (hg.pre m' ⟨_, rfl⟩ (Nat.le_refl _)), hg.old _ _ (by omega) (get_old ho), id2, by rw [hO.len], by rw [hg.at_]; simp; omega, hg.new⟩
    cases hst : (seen.foldl (leafT ks wanted few) ⟨none, 0⟩).best with
    | none =>
      rw [hst] at hb
      have hb' : b = .slice none 0 0 := hb
      subst hb'
      simp -dsimp -implicitDefEqProofs [s0, s1, s2, s7, s8, s9]
      refine callsTo Try.cal55 hreach ?_
      simp -dsimp -implicitDefEqProofs [s0, s1, s2, s7, s8, s9]
      refine sp2 (fun g => ?_) (fun g => ?_)
      · refine appTo_grow (e := 2) (sz := 1) (by_ := 8) (z := .int .i64 0) (by kernel_rfl) (by kernel_rfl) ⟨by decide, rfl⟩ (o := ⟨[], 2, 1, 1⟩) (by simp) (by simp) ⟨rfl, rfl⟩ rfl (by omega) (by rw [← hO.len]; exact Src.rdI (hxs.ext _)) ?_
        intro m2 id2 hgr
        simp -dsimp -implicitDefEqProofs [s0, s1, s2, s7, s8, s9]
        obtain ⟨q1, q2, q3⟩ := hgrow m2 id2 hgr
        refine callsTo Try.cal60 (hnx m2 q1 q2) ?_
        simp -dsimp -implicitDefEqProofs [s0, s1, s2, s7, s8, s9]
        refine invT _ ?_ ⟨seen ++ [xs], _, _, _, rfl, hstep, pre_set q1 (Nat.le_refl _) _, get_set q2 _, hkeep _ _ _ _ (by rw [show ((seen ++ [xs]).foldl (leafT ks wanted few) ⟨none, 0⟩).best = some xs from hfold _ rfl ▸ (by simp at g; simp [leafT, hst, g])]; exact q3), fun zs hz => ?_, by simp [s0], by simp [s1], by simp [s2], by simp, by simp [s8], by simp⟩
        · simp; omega
        · rw [show ((seen ++ [xs]).foldl (leafT ks wanted few) ⟨none, 0⟩).best = some xs from hfold _ rfl ▸ (by simp at g; simp [leafT, hst, g])] at hz
          injection hz with hz
          subst hz
          exact ⟨hO.few, hO.len⟩
      · refine callsTo Try.cal60 (hnx m' hp ho) ?_
        simp -dsimp -implicitDefEqProofs [s0, s1, s2, s7, s8, s9]
        have hno : ((seen ++ [xs]).foldl (leafT ks wanted few) ⟨none, 0⟩).best = (seen.foldl (leafT ks wanted few) ⟨none, 0⟩).best := hfold _ rfl ▸ (by simp at g; simp [leafT, hst]; omega)
        refine invT _ ?_ ⟨seen ++ [xs], _, _, _, rfl, hstep, pre_set hp (Nat.le_refl _) _, get_set ho _, hkeep _ _ _ _ (by rw [hno, hst]; exact rfl), fun zs hz => hfew zs (by rw [← hno]; exact hz), by simp [s0], by simp [s1], by simp [s2], by simp [s7], by simp [s8], by simp⟩
        simp; omega
    | some ys =>
      rw [hst] at hb
      obtain ⟨ib, rfl, hib, hob⟩ := hb
      obtain ⟨hfy, hly⟩ := hfew ys hst
      have hys : RdI m' (some ⟨ib, 0, none⟩) ys := RdI.of_get (o := ⟨ys.map (Value.int .i64), 2, 1, 2⟩) hob (by simp) rfl rfl
      have hsumy := sumF_c ys _ _ hys hfy (by rw [hly]; omega)
      have hreachy := reachOf_c ks ys la (some ⟨ib, 0, none⟩) _ (hr.pre hp) hys (by rw [hly]; omega) (by rw [hly]; exact Nat.le_refl _)
      rw [reachW_eq hks hly hfy] at hreachy
      simp -dsimp -implicitDefEqProofs [s0, s1, s2, s7, s8, s9]
      refine callsTo Try.cal55 hreach ?_
      simp -dsimp -implicitDefEqProofs [s0, s1, s2, s7, s8, s9]
      refine sp2 (fun g => ?_) (fun g => ?_)
      · refine callsTo Try.cal63 hsum ?_
        simp -dsimp -implicitDefEqProofs [s0, s1, s2, s7, s8, s9]
        refine callsTo Try.cal63 hsumy ?_
        simp -dsimp -implicitDefEqProofs [s0, s1, s2, s7, s8, s9]
        refine callsTo Try.cal55 hreachy ?_
        simp -dsimp -implicitDefEqProofs [s0, s1, s2, s7, s8, s9]
        refine callsTo hcl (hg _ _ _ _ _) ?_
        simp -dsimp -implicitDefEqProofs [s0, s1, s2, s7, s8, s9]
        refine sp2 (fun g' => ?_) (fun g' => ?_)
        · refine appTo_grow (e := 2) (sz := 1) (by_ := 8) (z := .int .i64 0) (by kernel_rfl) (by kernel_rfl) ⟨by decide, rfl⟩ (o := ⟨[], 2, 1, 1⟩) (by simp) (by simp) ⟨rfl, rfl⟩ rfl (by omega) (by rw [← hO.len]; exact Src.rdI (hxs.ext _)) ?_
          intro m2 id2 hgr
          simp -dsimp -implicitDefEqProofs [s0, s1, s2, s7, s8, s9]
          obtain ⟨q1, q2, q3⟩ := hgrow m2 id2 hgr
          refine callsTo Try.cal60 (hnx m2 q1 q2) ?_
          simp -dsimp -implicitDefEqProofs [s0, s1, s2, s7, s8, s9]
          refine invT _ ?_ ⟨seen ++ [xs], _, _, _, rfl, hstep, pre_set q1 (Nat.le_refl _) _, get_set q2 _, hkeep _ _ _ _ (by rw [show ((seen ++ [xs]).foldl (leafT ks wanted few) ⟨none, 0⟩).best = some xs from hfold _ rfl ▸ (by simp at g g'; simp [leafT, hst, g, g'])]; exact q3), fun zs hz => ?_, by simp [s0], by simp [s1], by simp [s2], by simp, by simp [s8], by simp⟩
          · simp; omega
          · rw [show ((seen ++ [xs]).foldl (leafT ks wanted few) ⟨none, 0⟩).best = some xs from hfold _ rfl ▸ (by simp at g g'; simp [leafT, hst, g, g'])] at hz
            injection hz with hz
            subst hz
            exact ⟨hO.few, hO.len⟩
        · refine callsTo Try.cal60 (hnx m' hp ho) ?_
          simp -dsimp -implicitDefEqProofs [s0, s1, s2, s7, s8, s9]
          have hno : ((seen ++ [xs]).foldl (leafT ks wanted few) ⟨none, 0⟩).best = (seen.foldl (leafT ks wanted few) ⟨none, 0⟩).best := hfold _ rfl ▸ (by simp [leafT, hst, g'])
          refine invT _ ?_ ⟨seen ++ [xs], _, _, _, rfl, hstep, pre_set hp (Nat.le_refl _) _, get_set ho _, hkeep _ _ _ _ (by rw [hno, hst]; exact ⟨ib, rfl, hib, hob⟩), fun zs hz => hfew zs (by rw [← hno]; exact hz), by simp [s0], by simp [s1], by simp [s2], by simp [s7], by simp [s8], by simp⟩
          simp; omega
      · refine callsTo Try.cal60 (hnx m' hp ho) ?_
        simp -dsimp -implicitDefEqProofs [s0, s1, s2, s7, s8, s9]
        have hno : ((seen ++ [xs]).foldl (leafT ks wanted few) ⟨none, 0⟩).best = (seen.foldl (leafT ks wanted few) ⟨none, 0⟩).best := hfold _ rfl ▸ (by simp at g; simp [leafT, hst]; omega)
        refine invT _ ?_ ⟨seen ++ [xs], _, _, _, rfl, hstep, pre_set hp (Nat.le_refl _) _, get_set ho _, hkeep _ _ _ _ (by rw [hno, hst]; exact ⟨ib, rfl, hib, hob⟩), fun zs hz => hfew zs (by rw [← hno]; exact hz), by simp [s0], by simp [s1], by simp [s2], by simp [s7], by simp [s8], by simp⟩
        simp; omega
theorem reach_found {ks : List I2} (hks : kinB ks = true) {n : Int} {few : Bool} {ys : List Int} (h : (searchT ks n few).best = some ys) : FewT ys ∧ ys.length = ks.length ∧ n ≤ reachT ks ys := by
  obtain ⟨h1, h2, _⟩ := (searchT_found ks n few).some_ ys h
  have := (mem_tuples (fun h hh => (hv_nonneg hks h hh).1)).1 (show ys ∈ tuples (hv ks) from h1)
  exact ⟨Within.few this fun h hh => (hv_nonneg hks h hh).2, by rw [within_length this, hv_length], h2⟩
theorem implFew_c (ks : List I2) (la : Option Addr) (n : Int) (m : Mem) (hr : RdG v2 2 m la ks) (hn : ks.length ≤ 1048576) (hla : ∀ a, la = some a → a.block < m.length) :
    ACalls Try.prog 36 [.slice la ks.length ks.length, .int .i64 n] m (bestV m.length ks n true) (m ++ optM 2 (bestO ks n true)) := by
  refine acalls_of_vc Try.func36 rfl Try.fol (by kernel_rfl) ?_
  simp only [Try.f36]
  simp -dsimp -implicitDefEqProofs
  refine callsTo Try.cal59 (kindsCode_c ks la n _ hr hn) ?_
  simp -dsimp -implicitDefEqProofs
  refine ⟨fun g => ?_, fun g => ?_⟩
  · simp at g
    exact GC.eq2 (by simp [bestO, g, optM]) (by simp [bestV, bestN, bestO, bestC, g, optV])
  simp at g
  obtain ⟨hks, _⟩ := codeK_zero g
  obtain ⟨v, m', hcall, hp, hb⟩ := bestTaken_c ks hks la n true 62 Try.cal62 (fun a b c d m => fewB_c a b c d m) m hr hla
  have hk4 := kinB_len hks
  cases hbest : (searchT ks n true).best with
  | none =>
    rw [hbest] at hb
    have hv : v = .slice none 0 0 := hb
    subst hv
    refine callsTo Try.cal61 hcall ?_
    simp -dsimp -implicitDefEqProofs
    simp only [bestV, bestN, bestO, bestC, g, if_true, hbest, optV, optM, List.append_nil]
    exact GC.dropP hp rfl rfl
  | some ys =>
    rw [hbest] at hb
    obtain ⟨ib, rfl, hib, hob⟩ := hb
    obtain ⟨hfy, hly, _⟩ := reach_found hks hbest
    have hys : RdI m' (some ⟨ib, 0, none⟩) ys := RdI.of_get (o := ⟨ys.map (Value.int .i64), 2, 1, 2⟩) hob (by simp) rfl rfl
    refine callsTo Try.cal61 hcall ?_
    simp -dsimp -implicitDefEqProofs
    refine callsTo Try.cal63 (sumF_c ys _ _ hys hfy (by omega)) ?_
    simp -dsimp -implicitDefEqProofs
    simp only [bestV, bestN, bestO, bestC, g, if_true, hbest, optV, optM]
    exact GC.keepTP (Fits.refl m) hp hob (by omega) rfl rfl (.inl rfl) rfl (ints_lit _) rfl
theorem implOver_c (ks : List I2) (la : Option Addr) (n : Int) (m : Mem) (hr : RdG v2 2 m la ks) (hn : ks.length ≤ 1048576) (hla : ∀ a, la = some a → a.block < m.length) :
    ACalls Try.prog 39 [.slice la ks.length ks.length, .int .i64 n] m (bestV m.length ks n false) (m ++ optM 2 (bestO ks n false)) := by
  refine acalls_of_vc Try.func39 rfl Try.fol (by kernel_rfl) ?_
  simp only [Try.f39]
  simp -dsimp -implicitDefEqProofs
  refine callsTo Try.cal59 (kindsCode_c ks la n _ hr hn) ?_
  simp -dsimp -implicitDefEqProofs
  refine ⟨fun g => ?_, fun g => ?_⟩
  · simp at g
    exact GC.eq2 (by simp [bestO, g, optM]) (by simp [bestV, bestN, bestO, bestC, g, optV])
  simp at g
  obtain ⟨hks, _⟩ := codeK_zero g
  obtain ⟨v, m', hcall, hp, hb⟩ := bestTaken_c ks hks la n false 64 Try.cal64 (fun a b c d m => overB_c a b c d m) m hr hla
  have hk4 := kinB_len hks
  cases hbest : (searchT ks n false).best with
  | none =>
    rw [hbest] at hb
    have hv : v = .slice none 0 0 := hb
    subst hv
    refine callsTo Try.cal61 hcall ?_
    simp -dsimp -implicitDefEqProofs
    simp only [bestV, bestN, bestO, bestC, g, if_true, hbest, optV, optM, List.append_nil]
    exact GC.dropP hp rfl rfl
  | some ys =>
    rw [hbest] at hb
    obtain ⟨ib, rfl, hib, hob⟩ := hb
    obtain ⟨hfy, hly, _⟩ := reach_found hks hbest
    have hys : RdI m' (some ⟨ib, 0, none⟩) ys := RdI.of_get (o := ⟨ys.map (Value.int .i64), 2, 1, 2⟩) hob (by simp) rfl rfl
    have hreachy := reachOf_c ks ys la (some ⟨ib, 0, none⟩) _ (hr.pre hp) hys (by rw [hly]; omega) (by rw [hly]; exact Nat.le_refl _)
    rw [reachW_eq hks hly hfy] at hreachy
    refine callsTo Try.cal61 hcall ?_
    simp -dsimp -implicitDefEqProofs
    refine callsTo Try.cal55 hreachy ?_
    simp -dsimp -implicitDefEqProofs
    simp only [bestV, bestN, bestO, bestC, g, if_true, hbest, optV, optM]
    exact GC.keepTP (Fits.refl m) hp hob (by omega) rfl rfl (.inl rfl) rfl (ints_lit _) rfl
theorem bestO_length {ks : List I2} {n : Int} {few : Bool} {ys : List Int} (h : bestO ks n few = some ys) : ys.length = ks.length := by
  unfold bestO at h
  split at h
  · rename_i g; exact (reach_found (codeK_zero g).1 h).2.1
  · cases h
end Go.Proofs.Ytlhcepcgjnlopaa
