/-
  Kinds, part 5: the reference's search through all rods that can be taken. Conditions: none.
-/
import Derived.Test.YtlhcepcgjnlopaaKinC
set_option linter.unusedSimpArgs false
set_option linter.unusedVariables false
set_option linter.unusedSectionVars false
namespace Go.Proofs.Ytlhcepcgjnlopaa
open Go.Abs Go.RowKit Go.Law

/-- What stands in the search's own object. -/
def wRow (la : Option Addr) (n : Nat) (wanted : Int) (few found : Bool) (b : Value) (rods reach ways : Int) : List Value :=
  [.slice la n n, .int .i64 wanted, .bool few, .bool found, b, .int .i64 rods, .int .i64 reach, .int .i64 ways]
/-- The best rods so far, in the memory. -/
def BestAt (lo iw it : Nat) (m : Mem) (b : Value) (xs : List Int) : Prop := ∃ ib, b = .slice (some ⟨ib, 0, none⟩) xs.length xs.length ∧ (ib ≠ iw ∧ lo ≤ ib) ∧ ib ≠ it ∧ m[ib]? = some ⟨xs.map (Value.int .i64), 2, 1, 2⟩
def WSt (lo : Nat) (ks : List I2) (la : Option Addr) (wanted : Int) (few : Bool) (iw it : Nat) (m : Mem) (st : RodSt) : Prop :=
  ∃ ty b rods reach, m[iw]? = some ⟨wRow la ks.length wanted few st.best.isSome b rods reach (w64 st.ways), ty, 8, 1⟩ ∧ noTup b = true ∧ (∀ cs, b ≠ .agg cs) ∧
    ∀ xs, st.best = some xs → rods = sumT xs ∧ reach = reachT ks xs ∧ BestAt lo iw it m b xs
/-- What has been taken, at the beginning of a row of four. -/
def TakeAt (it : Nat) (m : Mem) (taken : List Int) : Prop := ∃ o, m[it]? = some o ∧ o.kind = 1 ∧ o.sz = 1 ∧ o.elem = 2 ∧ o.cells.length = 4 ∧ o.cells.take taken.length = taken.map (Value.int .i64)
/-- All else stands. -/
structure Rest (iw it : Nat) (m m' : Mem) : Prop where
  len : m.length ≤ m'.length
  get : ∀ (i : Nat) o, i ≠ iw → i ≠ it → m[i]? = some o → m'[i]? = some o
theorem Rest.refl (iw it : Nat) (m : Mem) : Rest iw it m m := ⟨Nat.le_refl _, fun _ _ _ _ h => h⟩
theorem Rest.trans {iw it : Nat} {m m' m'' : Mem} (h : Rest iw it m m') (h' : Rest iw it m' m'') : Rest iw it m m'' := ⟨Nat.le_trans h.len h'.len, fun i o h1 h2 h3 => h'.get i o h1 h2 (h.get i o h1 h2 h3)⟩
theorem Rest.app (iw it : Nat) (m l : Mem) : Rest iw it m (m ++ l) := ⟨by simp, fun i o _ _ h => get_old h⟩
theorem Rest.setW {iw it : Nat} (m : Mem) (o : AObj) : Rest iw it m (m.set iw o) := ⟨by simp, fun i o' h1 _ h => by rw [List.getElem?_set_ne (Ne.symm h1)]; exact h⟩
theorem Rest.setT {iw it : Nat} (m : Mem) (o : AObj) : Rest iw it m (m.set it o) := ⟨by simp, fun i o' _ h1 h => by rw [List.getElem?_set_ne (Ne.symm h1)]; exact h⟩
theorem Rest.kinds {iw it : Nat} {m m' : Mem} (h : Rest iw it m m') {ks : List I2} {la : Option Addr} (hl : ∀ a, la = some a → a.block ≠ iw ∧ a.block ≠ it) (hr : RdG v2 2 m la ks) : RdG v2 2 m' la ks := by
  obtain ⟨h1, h2, h3⟩ := hr
  refine ⟨h1, h2, fun hn => ?_⟩
  obtain ⟨id, off, o, rfl, hm, g⟩ := h3 hn
  exact ⟨id, off, o, rfl, h.get id o (hl _ rfl).1 (hl _ rfl).2 hm, g⟩

theorem kinB_at {ks : List I2} (h : kinB ks = true) {k : Nat} (hk : k < ks.length) : 1 ≤ ks[k].1 ∧ ks[k].1 ≤ 200 ∧ 0 ≤ ks[k].2 ∧ ks[k].2 ≤ 12 := by
  simp only [kinB, Bool.and_eq_true] at h
  have h1 := List.all_eq_true.1 h.1 k (by simpa using hk)
  simp only [kinAt, List.getElem?_eq_getElem hk, Bool.and_eq_true, inB, decide_eq_true_eq] at h1
  omega
theorem kinB_len {ks : List I2} (h : kinB ks = true) : ks.length ≤ 4 := by
  simp only [kinB, Bool.and_eq_true, decide_eq_true_eq] at h; exact h.2
theorem reachT_snoc : ∀ (ks : List I2) (xs : List Int) (n : Int) (hk : xs.length < ks.length), reachT ks (xs ++ [n]) = reachT ks xs + n * ks[xs.length].1
  | k :: ks, [], n, _ => by simp [reachT]
  | k :: ks, x :: xs, n, hk => by
    have := reachT_snoc ks xs n (by simpa using hk)
    simp only [List.cons_append, reachT, this, List.length_cons, List.getElem_cons_succ]; omega
  | [], xs, n, hk => by simp at hk
/-- Taken rods are few enough. -/
def FewT (xs : List Int) : Prop := ∀ x ∈ xs, 0 ≤ x ∧ x ≤ 12
theorem FewT.sum : ∀ {xs : List Int}, FewT xs → 0 ≤ sumT xs ∧ sumT xs ≤ 12 * (xs.length : Int)
  | [], _ => by simp [sumT_nil]
  | x :: xs, h => by
    have h1 := h x (by simp)
    have h2 := FewT.sum (xs := xs) fun y hy => h y (by simp [hy])
    rw [sumT_cons, List.length_cons]; omega
theorem FewT.reach : ∀ {ks : List I2} {xs : List Int}, FewT xs → (∀ k ∈ ks, 1 ≤ k.1 ∧ k.1 ≤ 200) → 0 ≤ reachT ks xs ∧ reachT ks xs ≤ 2400 * (xs.length : Int)
  | [], xs, _, _ => by cases xs <;> simp [reachT] <;> omega
  | k :: ks, [], _, _ => by simp [reachT]
  | k :: ks, x :: xs, h, hk => by
    have h1 := h x (by simp)
    have h2 := hk k (by simp)
    have h3 := FewT.reach (ks := ks) (xs := xs) (fun y hy => h y (by simp [hy])) (fun y hy => hk y (by simp [hy]))
    have h4 : 0 ≤ x * k.1 := Int.mul_nonneg h1.1 (by omega)
    have h5 : x * k.1 ≤ 12 * 200 := Int.mul_le_mul h1.2 h2.2 (by omega) (by omega)
    simp only [reachT, List.length_cons]; omega

/-- Is it better than the best so far? -/
def betO (ks : List I2) (few : Bool) (st : RodSt) (rods reach : Int) : Bool := match st.best with | none => true | some b => betterT few rods reach (sumT b) (reachT ks b)
theorem better_c (lo : Nat) (ks : List I2) (la : Option Addr) (wanted : Int) (few : Bool) (iw it : Nat) (st : RodSt) (rods reach : Int) (m : Mem) (h : WSt lo ks la wanted few iw it m st) :
    ACalls Try.prog 71 [.pointer (some ⟨iw, 0, none⟩), .int .i64 rods, .int .i64 reach] m (.bool (betO ks few st rods reach)) m := by
  obtain ⟨ty, b, rods', reach', hw, _, _, hb⟩ := h
  refine acalls_of_vc Try.func71 rfl Try.fol (by kernel_rfl) ?_
  simp only [Try.f71]
  simp -dsimp -implicitDefEqProofs
  simp -dsimp -implicitDefEqProofs [withO_of hw, wRow]
  cases hbest : st.best with
  | none =>
    simp -dsimp -implicitDefEqProofs [withO_of hw, wRow, hbest]
    exact GC.eq (by simp [betO, hbest])
  | some xs =>
    obtain ⟨rfl, rfl, _⟩ := hb xs hbest
    simp -dsimp -implicitDefEqProofs [withO_of hw, wRow, hbest]
    cases few with
    | true =>
      simp -dsimp -implicitDefEqProofs [withO_of hw, wRow]
      refine sp2 (fun g => ?_) (fun g => ?_)
      · exact GC.eq (by simp at g; simp [betO, hbest, betterT, g])
      · refine sp2 (fun g' => ?_) (fun g' => ?_)
        · exact GC.eq (by simp at g g'; simp [betO, hbest, betterT, g, g'])
        · exact GC.eq (by simp at g g'; simp [betO, hbest, betterT, g, g'])
    | false =>
      simp -dsimp -implicitDefEqProofs [withO_of hw, wRow]
      refine sp2 (fun g => ?_) (fun g => ?_)
      · exact GC.eq (by simp at g; simp [betO, hbest, betterT, g])
      · refine sp2 (fun g' => ?_) (fun g' => ?_)
        · exact GC.eq (by simp at g g'; simp [betO, hbest, betterT, g, g'])
        · exact GC.eq (by simp at g g'; simp [betO, hbest, betterT, g, g'])
theorem own_c (xs : List Int) (b : Option Addr) (m : Mem) (hs : RdI m b xs) (hn : xs.length ≤ 1048576) :
    ACalls Try.prog 72 [.slice b xs.length xs.length] m (.slice (some ⟨m.length, 0, none⟩) xs.length xs.length) (m ++ [⟨xs.map (Value.int .i64), 2, 1, 2⟩]) := by
  refine acalls_of_vc Try.func72 rfl Try.fol (by kernel_rfl) ?_
  simp only [Try.f72]
  simp -dsimp -implicitDefEqProofs
  refine appTo_grow (e := 2) (sz := 1) (by_ := 8) (z := .int .i64 0) (by kernel_rfl) (by kernel_rfl) ⟨by decide, rfl⟩ (o := ⟨[], 2, 1, 1⟩) (by simp) (by simp) ⟨rfl, rfl⟩ rfl (by omega) (Src.rdI (hs.ext _)) ?_
  intro m2 id2 hg
  simp -dsimp -implicitDefEqProofs
  have h1 := hg.new
  have h2 : m <+: m2 := hg.pre m ⟨_, rfl⟩ (Nat.le_refl _)
  have := GC.keepSP (m := m) (m' := m) (m1 := m2) (id := id2) (off := 0) (n := xs.length) (o2 := ⟨xs.map (Value.int .i64), 2, 1, 2⟩) (Fits.refl m) h2 h1 (by rw [hg.at_]; simp) rfl rfl (.inl rfl) (by simp) (by simp [litB])
  simpa using this

theorem takeRd {it : Nat} {m : Mem} {taken : List Int} (m' : Mem) (h : ∀ o, m[it]? = some o → m'[it]? = some o) (ht : TakeAt it m taken) : RdI m' (some ⟨it, 0, none⟩) taken := by
  obtain ⟨o, h1, h2, h3, h4, h5, h6⟩ := ht
  refine ⟨by simp, by intro r hr; obtain ⟨x, _, rfl⟩ := List.mem_map.1 hr; rfl, fun _ => ⟨it, 0, o, rfl, h o h1, by omega, h3, ?_⟩⟩
  rw [Nat.zero_mul, List.drop_zero, Nat.mul_one, h6, flatten_vI]
theorem TakeAt.setW {iw it : Nat} {m : Mem} {taken : List Int} (h : TakeAt it m taken) (hne : iw ≠ it) (o : AObj) : TakeAt it (m.set iw o) taken := by
  obtain ⟨o', h1, h2⟩ := h
  exact ⟨o', by rw [List.getElem?_set_ne hne]; exact h1, h2⟩
theorem TakeAt.app {it : Nat} {m : Mem} {taken : List Int} (h : TakeAt it m taken) (l : Mem) : TakeAt it (m ++ l) taken := by
  obtain ⟨o', h1, h2⟩ := h
  exact ⟨o', get_old h1, h2⟩
theorem leafT_yes {ks : List I2} {wanted : Int} {few : Bool} {st : RodSt} {xs : List Int} {w : Int} (h1 : wanted ≤ reachT ks xs) (h2 : betO ks few st (sumT xs) (reachT ks xs) = true)
    (hw : (if reachT ks xs = wanted then st.ways + 1 else st.ways) = w) : leafT ks wanted few st xs = ⟨some xs, w⟩ := by
  cases hb : st.best <;> simp only [betO, hb] at h2 <;> simp [leafT, hb, h1, h2, hw]
theorem leafT_no {ks : List I2} {wanted : Int} {few : Bool} {st : RodSt} {xs : List Int} {w : RodSt} (h : (¬ wanted ≤ reachT ks xs) ∨ betO ks few st (sumT xs) (reachT ks xs) = false)
    (hw : (⟨st.best, if reachT ks xs = wanted then st.ways + 1 else st.ways⟩ : RodSt) = w) : leafT ks wanted few st xs = w := by
  rw [← hw]
  rcases h with h | h
  · simp [leafT, h]
  · cases hb : st.best <;> simp only [betO, hb] at h <;> simp_all [leafT]

def WalkPost (lo : Nat) (ks : List I2) (la : Option Addr) (wanted : Int) (few : Bool) (iw it : Nat) (m : Mem) (taken : List Int) (st : RodSt) (m' : Mem) : Prop :=
  WSt lo ks la wanted few iw it m' st ∧ Rest iw it m m' ∧ TakeAt it m' taken

theorem WSt.post {lo : Nat} {ks : List I2} {la : Option Addr} {wanted : Int} {few : Bool} {iw it : Nat} {m m' : Mem} {taken : List Int} {st : RodSt} (h : WSt lo ks la wanted few iw it m' st) (h1 : Rest iw it m m') (h2 : TakeAt it m' taken) : WalkPost lo ks la wanted few iw it m taken st m' := ⟨h, h1, h2⟩
theorem leafPost (lo : Nat) (ks : List I2) (la : Option Addr) (wanted : Int) (few : Bool) (iw it : Nat) (hne : iw ≠ it) {m : Mem} {taken : List Int} {o : AObj} (hm : m[iw]? = some o) (ht : TakeAt it m taken) {ty : TypeId} (w : Int) {x : AObj} (hx : x = ⟨taken.map (Value.int .i64), 2, 1, 2⟩) (hlo : lo ≤ m.length) :
    WalkPost lo ks la wanted few iw it m taken ⟨some taken, w⟩ (m.set iw ⟨wRow la ks.length wanted few true (.slice (some ⟨m.length, 0, none⟩) taken.length taken.length) (sumT taken) (reachT ks taken) (w64 w), ty, 8, 1⟩ ++ [x]) := by
  have hiw : iw < m.length := (List.getElem?_eq_some_iff.1 hm).1
  obtain ⟨o', h1, h2⟩ := id ht
  have hit : it < m.length := (List.getElem?_eq_some_iff.1 h1).1
  refine ⟨⟨ty, _, _, _, get_old (get_set hm _), rfl, fun _ => by simp, fun xs hxs => ?_⟩, (Rest.setW m _).trans (Rest.app _ _ _ _), (ht.setW hne _).app _⟩
  injection hxs with hxs
  subst hxs
  refine ⟨rfl, rfl, m.length, rfl, ⟨by omega, hlo⟩, by omega, ?_⟩
  subst hx
  simp

/-- The state behind the first j choices of the next kind. -/
def stepW (ks : List I2) (wanted : Int) (few : Bool) (taken : List Int) (st : RodSt) (j : Nat) : RodSt :=
  (List.range j).foldl (fun (st : RodSt) (n : Nat) => walkT ks wanted few (ks.drop (taken.length + 1)) (taken ++ [(n : Int)]) st) st
theorem stepW_succ (ks : List I2) (wanted : Int) (few : Bool) (taken : List Int) (st : RodSt) (j : Nat) :
    stepW ks wanted few taken st (j + 1) = walkT ks wanted few (ks.drop (taken.length + 1)) (taken ++ [(j : Int)]) (stepW ks wanted few taken st j) := by
  simp only [stepW, List.range_succ, List.foldl_append, List.foldl_cons, List.foldl_nil]
theorem stepW_all (ks : List I2) (wanted : Int) (few : Bool) (taken : List Int) (st : RodSt) (h : taken.length < ks.length) :
    stepW ks wanted few taken st (ks[taken.length].2.toNat + 1) = walkT ks wanted few (ks.drop taken.length) taken st := by
  rw [List.drop_eq_getElem_cons h]
  simp only [walkT, upTo, List.foldl_map, stepW]

theorem walk_c (lo : Nat) (ks : List I2) (hks : kinB ks = true) (la : Option Addr) (wanted : Int) (few : Bool) (iw it : Nat) (hne : iw ≠ it) (hla : ∀ a, la = some a → a.block ≠ iw ∧ a.block ≠ it) :
    ∀ (d : Nat) (taken : List Int) (st : RodSt) (m : Mem), ks.length - taken.length = d → taken.length ≤ ks.length → FewT taken → RdG v2 2 m la ks → WSt lo ks la wanted few iw it m st → TakeAt it m taken → lo ≤ m.length →
      ∃ v m', ACalls Try.prog 69 [.pointer (some ⟨iw, 0, none⟩), .slice (some ⟨it, 0, none⟩) taken.length taken.length, .int .i64 (sumT taken), .int .i64 (reachT ks taken)] m v m' ∧
        WalkPost lo ks la wanted few iw it m taken (walkT ks wanted few (ks.drop taken.length) taken st) m' := by
  intro d
  induction d with
  | zero =>
    intro taken st m hd hle hfew hr hw ht hlo
    obtain ⟨ty, b, rods', reach', hm, hb1, hb2, hb⟩ := id hw
    have hk4 := kinB_len hks
    have hlen : taken.length = ks.length := by omega
    have hdrop : ks.drop taken.length = [] := List.drop_eq_nil_of_le (by omega)
    refine ecalls_of_vcF [12] Try.func69 rfl Try.fol (by kernel_rfl) ?_
    simp only [Try.f69]
    simp -dsimp -implicitDefEqProofs
    have hlenB : ((taken.length : Int) == (ks.length : Int)) = true := by simp; omega
    have hway : IntKind.i64.wrap (w64 st.ways + 1) = w64 (st.ways + 1) := by simp [w64, IntKind.wrap_i64]; omega
    have hiw : iw < m.length := (List.getElem?_eq_some_iff.1 hm).1
    have hsa : ∀ (a b : AObj) (l : Mem), (m.set iw a ++ l).set iw b = m.set iw b ++ l := fun a b l => by rw [List.set_append_left _ _ (by simpa using hiw), List.set_set]
    have hsb : ∀ (b : AObj) (l : Mem), (m ++ l).set iw b = m.set iw b ++ l := fun b l => by rw [List.set_append_left _ _ hiw]
    simp -dsimp -implicitDefEqProofs [withO_of hm, wRow, hlenB, hdrop, fun x => withO_of (get_set hm x), fun x l => withO_of (get_old (l := l) (get_set hm x)), hsa, hsb]
    refine sp2 (fun g0 => ?_) (fun g0 => ?_)
    · have hw1 : WSt lo ks la wanted few iw it (m.set iw ⟨wRow la ks.length wanted few st.best.isSome b rods' reach' (w64 (st.ways + 1)), ty, 8, 1⟩) ⟨st.best, st.ways + 1⟩ :=
        ⟨ty, b, rods', reach', get_set hm _, hb1, hb2, fun xs hx => let ⟨h1, h2, ib, h3, h4, h5, h6⟩ := hb xs hx; ⟨h1, h2, ib, h3, h4, h5, by rw [List.getElem?_set_ne (Ne.symm h4.1)]; exact h6⟩⟩
      simp -dsimp -implicitDefEqProofs [withO_of hm, wRow, hlenB, hdrop, fun x => withO_of (get_set hm x), fun x l => withO_of (get_old (l := l) (get_set hm x)), hsa, hsb, hway]
      refine sp2 (fun g1 => ?_) (fun g1 => ?_)
      · refine callsTo Try.cal71 (better_c lo ks la wanted few iw it (⟨st.best, st.ways + 1⟩ : RodSt) _ _ _ hw1) ?_
        simp -dsimp -implicitDefEqProofs [withO_of hm, wRow, hlenB, hdrop, fun x => withO_of (get_set hm x), fun x l => withO_of (get_old (l := l) (get_set hm x)), hsa, hsb, hway]
        refine sp2 (fun g2 => ?_) (fun g2 => ?_)
        · refine callsTo Try.cal72 (own_c taken (some ⟨it, 0, none⟩) _ (takeRd _ (fun _ h => h) (ht.setW hne _)) (by omega)) ?_
          simp -dsimp -implicitDefEqProofs [withO_of hm, wRow, hlenB, hdrop, fun x => withO_of (get_set hm x), fun x l => withO_of (get_old (l := l) (get_set hm x)), hsa, hsb, hway]
          refine ⟨_, _, GC.refl _ _ _, ?_⟩
          rw [show walkT ks wanted few [] taken st = leafT ks wanted few st taken from rfl, show leafT ks wanted few st taken = ⟨some taken, (⟨st.best, st.ways + 1⟩ : RodSt).ways⟩ from leafT_yes (by simpa using g1) (by simpa [betO] using g2) (by simp at g0; simp [g0])]
          exact leafPost lo ks la wanted few iw it hne hm ht (⟨st.best, st.ways + 1⟩ : RodSt).ways rfl hlo
        · refine ⟨_, _, GC.refl _ _ _, ?_⟩
          rw [show walkT ks wanted few [] taken st = leafT ks wanted few st taken from rfl, show leafT ks wanted few st taken = (⟨st.best, st.ways + 1⟩ : RodSt) from leafT_no (.inr (by simpa [betO] using g2)) (by simp at g0; simp [g0])]
          exact hw1.post (Rest.setW m _) (ht.setW hne _)
      · refine ⟨_, _, GC.refl _ _ _, ?_⟩
        rw [show walkT ks wanted few [] taken st = leafT ks wanted few st taken from rfl, show leafT ks wanted few st taken = (⟨st.best, st.ways + 1⟩ : RodSt) from leafT_no (.inl (by simpa using g1)) (by simp at g0; simp [g0])]
        exact hw1.post (Rest.setW m _) (ht.setW hne _)
    · have hst : st = ⟨st.best, st.ways⟩ := rfl
      refine sp2 (fun g1 => ?_) (fun g1 => ?_)
      · refine callsTo Try.cal71 (better_c lo ks la wanted few iw it st _ _ _ hw) ?_
        simp -dsimp -implicitDefEqProofs [withO_of hm, wRow, hlenB, hdrop, fun x => withO_of (get_set hm x), fun x l => withO_of (get_old (l := l) (get_set hm x)), hsa, hsb, hway]
        refine sp2 (fun g2 => ?_) (fun g2 => ?_)
        · refine callsTo Try.cal72 (own_c taken (some ⟨it, 0, none⟩) _ (takeRd _ (fun _ h => h) (ht.setW hne _)) (by omega)) ?_
          simp -dsimp -implicitDefEqProofs [withO_of hm, wRow, hlenB, hdrop, fun x => withO_of (get_set hm x), fun x l => withO_of (get_old (l := l) (get_set hm x)), hsa, hsb, hway]
          refine ⟨_, _, GC.refl _ _ _, ?_⟩
          rw [show walkT ks wanted few [] taken st = leafT ks wanted few st taken from rfl, show leafT ks wanted few st taken = ⟨some taken, st.ways⟩ from leafT_yes (by simpa using g1) (by simpa [betO] using g2) (by simp at g0; simp [g0])]
          exact leafPost lo ks la wanted few iw it hne hm ht st.ways rfl hlo
        · refine ⟨_, _, GC.refl _ _ _, ?_⟩
          rw [show walkT ks wanted few [] taken st = leafT ks wanted few st taken from rfl, show leafT ks wanted few st taken = st from leafT_no (.inr (by simpa [betO] using g2)) (by simp at g0; simp [g0])]
          exact hw.post (Rest.refl iw it m) ht
      · refine ⟨_, _, GC.refl _ _ _, ?_⟩
        rw [show walkT ks wanted few [] taken st = leafT ks wanted few st taken from rfl, show leafT ks wanted few st taken = st from leafT_no (.inl (by simpa using g1)) (by simp at g0; simp [g0])]
        exact hw.post (Rest.refl iw it m) ht
  | succ d ih =>
    intro taken st m hd hle hfew hr hw ht hlo
    have hk4 := kinB_len hks
    have hlt : taken.length < ks.length := by omega
    have hlenB : ((taken.length : Int) == (ks.length : Int)) = false := by simp; omega
    obtain ⟨hR1, hR2, hH0, hH1⟩ := kinB_at hks hlt
    have hw0 := hw
    obtain ⟨ty, b, rods', reach', hm, hb1, hb2, hb⟩ := hw
    refine ecalls_of_vcF [12] Try.func69 rfl Try.fol (by kernel_rfl) ?_
    simp only [Try.f69]
    simp -dsimp -implicitDefEqProofs
    simp -dsimp -implicitDefEqProofs [withO_of hm, wRow, hlenB]
    refine loopN (ks[taken.length].2.toNat + 1) (fun j σ m' => (σ 0 = some (.pointer (some ⟨iw, 0, none⟩)) ∧ σ 1 = some (.slice (some ⟨it, 0, none⟩) taken.length taken.length) ∧ σ 2 = some (.int .i64 (sumT taken)) ∧ σ 3 = some (.int .i64 (reachT ks taken)) ∧ σ 8 = some (.int .i64 taken.length) ∧ σ 9 = some (.int .i64 j)) ∧
      WalkPost lo ks la wanted few iw it m taken (stepW ks wanted few taken st j) m') ⟨by simp, hw0, Rest.refl _ _ _, ht⟩ ?_
    clear hm hb1 hb2 hb
    rintro j σ m' hj ⟨⟨s0, s1, s2, s3, s8, s9⟩, ⟨ty, b, rods', reach', hm, hb1, hb2, hb⟩, hrest, ht'⟩
    have hr' := hrest.kinds hla hr
    obtain ⟨id, off, o, rfl, hmk, hkd, hsz, hl, hrow, hc0, hc1⟩ := R2.at_ hr' hlt
    simp -dsimp -implicitDefEqProofs [withO_of hm, wRow, s0, s1, s2, s3, s8, s9, hlt, withO_of hmk, hkd, hsz, withC_of hc0, withC_of hc1]
    refine sp2 (fun g => ?_) (fun g => ?_)
    · refine regF [[], [], [], [], [], [], [], [], [], [], [], [], [], [3, 4], [], [3, 4], [], [3, 4], [], [], []] 1 (by kernel_rfl) (by kernel_rfl) ?_
      obtain ⟨ot, ht1, ht2, ht3, ht4, ht5, ht6⟩ := ht'
      have hitl : it < m'.length := (List.getElem?_eq_some_iff.1 ht1).1
      have hiwl : iw < m'.length := (List.getElem?_eq_some_iff.1 hm).1
      obtain ⟨hid1, hid2⟩ := hla _ rfl
      simp only at hid1 hid2
      have hJ : (j : Int) ≤ 12 := by simp at g; omega
      have hW2 : ∀ (l : Mem) (x : AObj), ((m' ++ l).set it x)[iw]? = some _ := fun l x => by rw [List.getElem?_set_ne (Ne.symm hne)]; exact get_old hm
      have hK2 : ∀ (l : Mem) (x : AObj), ((m' ++ l).set it x)[id]? = some _ := fun l x => by rw [List.getElem?_set_ne (Ne.symm hid2)]; exact get_old hmk
      simp -dsimp -implicitDefEqProofs [withO_of hm, wRow, s0, s1, s2, s3, s8, s9, hlt, withO_of hmk, hkd, hsz, withC_of hc0, withC_of hc1, hne, Ne.symm hne, hid1, hid2, Ne.symm hid1, Ne.symm hid2, fun l x => withO_of (hW2 l x), fun l x => withO_of (hK2 l x)]
      refine .inr (appTo_in (e := 2) (sz := 1) (by_ := 8) (z := .int .i64 0) (by kernel_rfl) (by kernel_rfl) ⟨by decide, rfl⟩ (o := ot) (get_old ht1) ht2 ⟨ht3, ht4⟩ (by omega) (by omega) (Src.obj (o := ⟨[.int .i64 j], 2, 1, 1⟩) (by simp) (by simp) rfl rfl) ?_)
      refine ⟨by simp, by simp; omega, ?_⟩
      have hfew' : FewT (taken ++ [(j : Int)]) := fun x hx => by
        rcases List.mem_append.1 hx with hx | hx
        · exact hfew x hx
        · simp at hx; subst hx; omega
      have hkk : ∀ k ∈ ks, 1 ≤ k.1 ∧ k.1 ≤ 200 := fun k hk => by
        obtain ⟨i, hi, rfl⟩ := List.getElem_of_mem hk
        exact ⟨(kinB_at hks hi).1, (kinB_at hks hi).2.1⟩
      have e1 : sumT (taken ++ [(j : Int)]) = sumT taken + j := by rw [sumT_append, sumT_cons, sumT_nil]; omega
      have e2 : reachT ks (taken ++ [(j : Int)]) = reachT ks taken + j * ks[taken.length].1 := reachT_snoc ks taken j hlt
      have b1 := hfew'.sum
      have b2 := hfew'.reach hkk
      have b3 := hfew.reach hkk
      have w1 : IntKind.i64.wrap (sumT taken + (j : Int)) = sumT (taken ++ [(j : Int)]) := by rw [e1]; exact wrapI (by simp at b1; omega) (by simp at b1; omega)
      have w2 : IntKind.i64.wrap (reachT ks taken + IntKind.i64.wrap ((j : Int) * ks[taken.length].1)) = reachT ks (taken ++ [(j : Int)]) := by
        simp only [List.length_append, List.length_singleton] at b2
        rw [wrapI (x := (j : Int) * ks[taken.length].1) (by omega) (by omega), e2]; exact wrapI (by omega) (by omega)
      have n1 : ¬ m'.length = iw := by omega
      have n2 : ¬ m'.length = id := by have := lt_of_get hmk; omega
      simp -dsimp -implicitDefEqProofs [withO_of hm, wRow, s0, s1, s2, s3, s8, s9, hlt, withO_of hmk, hkd, hsz, withC_of hc0, withC_of hc1, hne, Ne.symm hne, hid1, hid2, Ne.symm hid1, Ne.symm hid2, fun l x => withO_of (hW2 l x), fun l x => withO_of (hK2 l x), n1, n2, w1, w2]
      have hR := (Rest.app iw it m' [(⟨[.int .i64 j], 2, 1, 1⟩ : AObj)]).trans (Rest.setT (iw := iw) (it := it) _ ⟨ot.cells.set taken.length (.int .i64 j), ot.elem, ot.sz, ot.kind⟩)
      have hA := (hrest.trans hR).kinds hla hr
      have hB : WSt lo ks (some ⟨id, off, none⟩) wanted few iw it ((m' ++ [(⟨[.int .i64 j], 2, 1, 1⟩ : AObj)]).set it ⟨ot.cells.set taken.length (.int .i64 j), ot.elem, ot.sz, ot.kind⟩) (stepW ks wanted few taken st j) :=
        ⟨ty, b, rods', reach', hW2 _ _, hb1, hb2, fun xs hx => let ⟨h1, h2, ib, h3, h4, h5, h6⟩ := hb xs hx; ⟨h1, h2, ib, h3, h4, h5, hR.get ib _ h4.1 h5 h6⟩⟩
      have hC : TakeAt it ((m' ++ [(⟨[.int .i64 j], 2, 1, 1⟩ : AObj)]).set it ⟨ot.cells.set taken.length (.int .i64 j), ot.elem, ot.sz, ot.kind⟩) (taken ++ [(j : Int)]) := by
        refine ⟨_, get_set (get_old ht1) _, ht2, ht3, ht4, by simp [ht5], ?_⟩
        simp only [List.length_append, List.length_singleton, List.map_append, List.map_cons, List.map_nil]
        rw [List.take_add_one, List.getElem?_set_self (by omega), List.take_set_of_le (Nat.le_refl _), ht6]
        rfl
      obtain ⟨v, m2, hcall, hp1, hp2, hp3⟩ := ih (taken ++ [(j : Int)]) (stepW ks wanted few taken st j) _ (by simp; omega) (by simp; omega) hfew' hA hB hC (by have := hrest.len; simp; omega)
      simp only [List.length_append, List.length_singleton] at hcall hp1
      refine callsTo Try.cal69 hcall ?_
      have hw9 : IntKind.i64.wrap ((j : Int) + 1) = j + 1 := wrapI (by omega) (by omega)
      simp -dsimp -implicitDefEqProofs [withO_of hm, wRow, s0, s1, s2, s3, s8, s9, hlt, withO_of hmk, hkd, hsz, withC_of hc0, withC_of hc1, hne, Ne.symm hne, hid1, hid2, Ne.symm hid1, Ne.symm hid2, fun l x => withO_of (hW2 l x), fun l x => withO_of (hK2 l x), n1, n2, w1, w2, hw9]
      refine next_ (by simp at g; omega) ⟨by simp [s0, s1, s2, s3, s8, hw9], ?_⟩
      rw [stepW_succ]
      refine ⟨hp1, (hrest.trans hR).trans hp2, ?_⟩
      obtain ⟨o', k1, k2, k3, k4, k5, k6⟩ := hp3
      refine ⟨o', k1, k2, k3, k4, k5, ?_⟩
      have := congrArg (List.take taken.length) k6
      simpa [List.take_take, List.map_append] using this
    · rw [← stepW_all ks wanted few taken st hlt]
      have hjn : j = ks[taken.length].2.toNat + 1 := by simp at g; omega
      subst hjn
      exact ⟨_, _, GC.refl _ _ _, ⟨ty, b, rods', reach', hm, hb1, hb2, hb⟩, hrest, ht'⟩
end Go.Proofs.Ytlhcepcgjnlopaa
