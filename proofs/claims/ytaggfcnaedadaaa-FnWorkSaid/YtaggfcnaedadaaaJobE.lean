/-
  Jobs, part 5: the reference's search for the earliest end. Conditions: none.
-/
import Derived.Test.YtaggfcnaedadaaaJobD
import Derived.Test.YtaggfcnaedadaaaAbsByte
set_option linter.unusedSimpArgs false
set_option linter.unusedVariables false
set_option linter.unusedSectionVars false
namespace Go.Proofs.Ytaggfcnaedadaaa
open Go.Abs Go.RowKit

/-- The workers tried for the baskets that are left: the best choice and its end, negative before there is one. -/
def giveT (ss : List Int) : List I2 → List Int → List Int → Int → List Int × Int → List Int × Int
  | [], who, _, en, st => if 0 ≤ st.2 ∧ st.2 ≤ en then st else (who, en)
  | j :: js, who, loads, en, st => if 0 ≤ st.2 ∧ st.2 ≤ en then st else
    (List.range ss.length).foldl (fun (st : List Int × Int) (w : Nat) => if j.2 ≤ ss.getD w 0 then giveT ss js (who ++ [(w : Int)]) (loads.set w (w64 (loads.getD w 0 + j.1))) (max en (w64 (loads.getD w 0 + j.1))) st else st) st
/-- The state behind the first workers. -/
def stepJ (ss : List Int) (j : I2) (js : List I2) (who loads : List Int) (en : Int) (st : List Int × Int) (i : Nat) : List Int × Int :=
  (List.range i).foldl (fun (st : List Int × Int) (w : Nat) => if j.2 ≤ ss.getD w 0 then giveT ss js (who ++ [(w : Int)]) (loads.set w (w64 (loads.getD w 0 + j.1))) (max en (w64 (loads.getD w 0 + j.1))) st else st) st
theorem stepJ_zero (ss : List Int) (j : I2) (js : List I2) (who loads : List Int) (en : Int) (st : List Int × Int) : stepJ ss j js who loads en st 0 = st := rfl
theorem stepJ_yes {ss : List Int} {j : I2} {js : List I2} {who loads : List Int} {en : Int} {st : List Int × Int} {i : Nat} (hi : i < ss.length) (hl : i < loads.length) (h : j.2 ≤ ss[i]) :
    stepJ ss j js who loads en st (i + 1) = giveT ss js (who ++ [(i : Int)]) (loads.set i (w64 (loads[i] + j.1))) (max en (w64 (loads[i] + j.1))) (stepJ ss j js who loads en st i) := by
  have e1 : ss.getD i 0 = ss[i] := by simp [List.getD_eq_getElem?_getD, hi]
  have e2 : loads.getD i 0 = loads[i] := by simp [List.getD_eq_getElem?_getD, hl]
  unfold stepJ
  rw [List.range_succ, List.foldl_append]
  simp only [List.foldl_cons, List.foldl_nil, e1, e2, if_pos h]
theorem stepJ_no {ss : List Int} {j : I2} {js : List I2} {who loads : List Int} {en : Int} {st : List Int × Int} {i : Nat} (hi : i < ss.length) (h : ¬ j.2 ≤ ss[i]) :
    stepJ ss j js who loads en st (i + 1) = stepJ ss j js who loads en st i := by
  have e1 : ss.getD i 0 = ss[i] := by simp [List.getD_eq_getElem?_getD, hi]
  unfold stepJ
  rw [List.range_succ, List.foldl_append]
  simp only [List.foldl_cons, List.foldl_nil, e1, if_neg h]
theorem giveT_cut {ss : List Int} {js : List I2} {who loads : List Int} {en : Int} {st : List Int × Int} (h : 0 ≤ st.2 ∧ st.2 ≤ en) : giveT ss js who loads en st = st := by
  cases js <;> simp [giveT, h]
theorem giveT_nil {ss : List Int} {who loads : List Int} {en : Int} {st : List Int × Int} (h : ¬ (0 ≤ st.2 ∧ st.2 ≤ en)) : giveT ss [] who loads en st = (who, en) := by
  rw [giveT, if_neg h]
theorem giveT_cons {ss : List Int} {j : I2} {js : List I2} {who loads : List Int} {en : Int} {st : List Int × Int} (h : ¬ (0 ≤ st.2 ∧ st.2 ≤ en)) : giveT ss (j :: js) who loads en st = stepJ ss j js who loads en st ss.length := by
  rw [giveT, if_neg h]; rfl
/-- The search ends with an end where there was one, or where each basket can be made. -/
theorem giveT_found (ss : List Int) : ∀ (js : List I2) (who loads : List Int) (en : Int) (st : List Int × Int), 0 ≤ en → (0 ≤ st.2 ∨ ∀ j ∈ js, ∃ w, ∃ h : w < ss.length, j.2 ≤ ss[w]) → 0 ≤ (giveT ss js who loads en st).2
  | [], who, loads, en, st, he, _ => by
    by_cases h : 0 ≤ st.2 ∧ st.2 ≤ en
    · rw [giveT_cut h]; exact h.1
    · rw [giveT_nil h]; exact he
  | j :: js, who, loads, en, st, he, hs => by
    by_cases h : 0 ≤ st.2 ∧ st.2 ≤ en
    · rw [giveT_cut h]; exact h.1
    · rw [giveT, if_neg h]
      have keep : ∀ (ws : List Nat) (st : List Int × Int), 0 ≤ st.2 → 0 ≤ (ws.foldl (fun (st : List Int × Int) (w : Nat) => if j.2 ≤ ss.getD w 0 then giveT ss js (who ++ [(w : Int)]) (loads.set w (w64 (loads.getD w 0 + j.1))) (max en (w64 (loads.getD w 0 + j.1))) st else st) st).2 := by
        intro ws
        induction ws with
        | nil => intro st h; exact h
        | cons w ws ih =>
          intro st h
          rw [List.foldl_cons]
          refine ih _ ?_
          split
          · exact giveT_found ss js _ _ _ _ (by omega) (.inl h)
          · exact h
      rcases hs with hs | hs
      · exact keep _ _ hs
      · have go : ∀ (ws : List Nat) (st : List Int × Int), (∃ w ∈ ws, j.2 ≤ ss.getD w 0) → 0 ≤ (ws.foldl (fun (st : List Int × Int) (w : Nat) => if j.2 ≤ ss.getD w 0 then giveT ss js (who ++ [(w : Int)]) (loads.set w (w64 (loads.getD w 0 + j.1))) (max en (w64 (loads.getD w 0 + j.1))) st else st) st).2 := by
          intro ws
          induction ws with
          | nil => intro st h; simp at h
          | cons w ws ih =>
            intro st h
            rw [List.foldl_cons]
            by_cases hw : j.2 ≤ ss.getD w 0
            · rw [if_pos hw]
              exact keep _ _ (giveT_found ss js _ _ _ _ (by omega) (.inr fun x hx => hs x (by simp [hx])))
            · rw [if_neg hw]
              refine ih _ ?_
              obtain ⟨x, hx, hx'⟩ := h
              rcases List.mem_cons.1 hx with rfl | hx
              · exact absurd hx' hw
              · exact ⟨x, hx, hx'⟩
        refine go _ _ ?_
        obtain ⟨w, hw, hle⟩ := hs j (by simp)
        exact ⟨w, by simpa using hw, by simpa [List.getD_eq_getElem?_getD, hw] using hle⟩

/-! ### The memory -/
/-- All else stands. -/
structure RestS (S : List Nat) (m m' : Mem) : Prop where
  len : m.length ≤ m'.length
  get : ∀ (i : Nat) o, i ∉ S → m[i]? = some o → m'[i]? = some o
theorem RestS.refl (S : List Nat) (m : Mem) : RestS S m m := ⟨Nat.le_refl _, fun _ _ _ h => h⟩
theorem RestS.trans {S : List Nat} {m m' m'' : Mem} (h : RestS S m m') (h' : RestS S m' m'') : RestS S m m'' := ⟨Nat.le_trans h.len h'.len, fun i o h1 h2 => h'.get i o h1 (h.get i o h1 h2)⟩
theorem RestS.app (S : List Nat) (m l : Mem) : RestS S m (m ++ l) := ⟨by simp, fun i o _ h => get_old h⟩
theorem RestS.set {S : List Nat} (m : Mem) {k : Nat} (hk : k ∈ S) (o : AObj) : RestS S m (m.set k o) := ⟨by simp, fun i o' h1 h => by rw [List.getElem?_set_ne (by intro e; subst e; exact h1 hk)]; exact h⟩
theorem RestS.pre {S : List Nat} {m m' m'' : Mem} (h : RestS S m m') (h' : m' <+: m'') : RestS S m m'' := ⟨Nat.le_trans h.len h'.length_le, fun i o h1 h2 => prefix_get h' (h.get i o h1 h2)⟩
theorem RestS.rd2 {S : List Nat} {m m' : Mem} (h : RestS S m m') {ks : List I2} {la : Option Addr} (hl : ∀ a, la = some a → a.block ∉ S) (hr : RdG v2 2 m la ks) : RdG v2 2 m' la ks := by
  obtain ⟨h1, h2, h3⟩ := hr
  refine ⟨h1, h2, fun hn => ?_⟩
  obtain ⟨id, off, o, rfl, hm, g⟩ := h3 hn
  exact ⟨id, off, o, rfl, h.get id o (hl _ rfl) hm, g⟩
theorem RestS.rdI {S : List Nat} {m m' : Mem} (h : RestS S m m') {ks : List Int} {la : Option Addr} (hl : ∀ a, la = some a → a.block ∉ S) (hr : RdI m la ks) : RdI m' la ks := by
  obtain ⟨h1, h2, h3⟩ := hr
  refine ⟨h1, h2, fun hn => ?_⟩
  obtain ⟨id, off, o, rfl, hm, g⟩ := h3 hn
  exact ⟨id, off, o, rfl, h.get id o (hl _ rfl) hm, g⟩
/-- The best choice so far, in the memory. -/
def BestJ (lo : Nat) (S : List Nat) (m : Mem) (b : Value) (st : List Int × Int) : Prop :=
  (st.2 < 0 ∧ st.1 = [] ∧ b = .slice none 0 0) ∨ ∃ (ib : Nat) (o : AObj), b = .slice (some ⟨ib, 0, none⟩) st.1.length st.1.length ∧ lo ≤ ib ∧ ib ∉ S ∧ m[ib]? = some o ∧ 1 ≤ o.kind ∧ o.kind ≤ 2 ∧ o.sz = 1 ∧ o.elem = 2 ∧ o.cells = st.1.map (Value.int .i64)
theorem BestJ.rest {lo : Nat} {S : List Nat} {m m' : Mem} {b : Value} {st : List Int × Int} (h : BestJ lo S m b st) (hr : RestS S m m') : BestJ lo S m' b st := by
  rcases h with h | ⟨ib, o, h1, h2, h3, h4, h5⟩
  · exact .inl h
  · exact .inr ⟨ib, o, h1, h2, h3, hr.get ib o h3 h4, h5⟩
def jRow (ja sa : Option Addr) (n k il : Nat) (b : Value) (least : Int) : List Value :=
  [.slice ja n n, .slice sa k k, .slice (some ⟨il, 0, none⟩) k k, b, .int .i64 least]
def WJ (lo : Nat) (js : List I2) (ss : List Int) (ja sa : Option Addr) (iw it il : Nat) (m : Mem) (st : List Int × Int) : Prop :=
  ∃ ty b, m[iw]? = some ⟨jRow ja sa js.length ss.length il b st.2, ty, 5, 1⟩ ∧ BestJ lo [iw, it, il] m b st
/-- What has been chosen, at the beginning of a row. -/
def ChoAt (it n : Nat) (m : Mem) (who : List Int) : Prop := ∃ o, m[it]? = some o ∧ o.kind = 1 ∧ o.sz = 1 ∧ o.elem = 2 ∧ o.cells.length = n ∧ o.cells.take who.length = who.map (Value.int .i64)
def LoadAt (il : Nat) (m : Mem) (loads : List Int) : Prop := m[il]? = some ⟨loads.map (Value.int .i64), 2, 1, 1⟩
def JPost (lo : Nat) (js : List I2) (ss : List Int) (ja sa : Option Addr) (iw it il : Nat) (m : Mem) (who loads : List Int) (st : List Int × Int) (m' : Mem) : Prop :=
  WJ lo js ss ja sa iw it il m' st ∧ RestS [iw, it, il] m m' ∧ ChoAt it js.length m' who ∧ LoadAt il m' loads
theorem ownJ_c (xs : List Int) (b : Option Addr) (m : Mem) (hs : RdI m b xs) (hn : xs.length ≤ 1048576) :
    ACalls Try.prog 65 [.slice b xs.length xs.length] m (.slice (some ⟨m.length, 0, none⟩) xs.length xs.length) (m ++ [⟨xs.map (Value.int .i64), 2, 1, 2⟩]) := by
  refine acalls_of_vc Try.func65 rfl Try.fol (by kernel_rfl) ?_
  simp only [Try.f65]
  simp -dsimp -implicitDefEqProofs
  refine appTo_grow (e := 2) (sz := 1) (by_ := 8) (z := .int .i64 0) (by kernel_rfl) (by kernel_rfl) ⟨by decide, rfl⟩ (o := ⟨[], 2, 1, 1⟩) (by simp) (by simp) ⟨rfl, rfl⟩ rfl (by omega) (Src.rdI (hs.ext _)) ?_
  intro m2 id2 hg
  simp -dsimp -implicitDefEqProofs
  have h1 := hg.new
  have h2 : m <+: m2 := hg.pre m ⟨_, rfl⟩ (Nat.le_refl _)
  have := GC.keepSP (m := m) (m' := m) (m1 := m2) (id := id2) (off := 0) (n := xs.length) (o2 := ⟨xs.map (Value.int .i64), 2, 1, 2⟩) (Fits.refl m) h2 h1 (by rw [hg.at_]; simp) rfl rfl (.inl rfl) (by simp) (by simp [litB])
  simpa using this
theorem choRd {it n : Nat} {m : Mem} {who : List Int} (ht : ChoAt it n m who) : RdI m (some ⟨it, 0, none⟩) who := by
  obtain ⟨o, h1, h2, h3, h4, h5, h6⟩ := ht
  refine ⟨by simp, by intro r hr; obtain ⟨x, _, rfl⟩ := List.mem_map.1 hr; rfl, fun _ => ⟨it, 0, o, rfl, h1, by omega, h3, ?_⟩⟩
  rw [Nat.zero_mul, List.drop_zero, Nat.mul_one, h6, flatten_vI]
theorem w64_back {x y : Int} (h : w64 x = x) : w64 (w64 (x + y) - y) = x := by
  simp only [w64, IntKind.wrap_i64] at *
  omega
theorem w64_idem (x : Int) : w64 (w64 x) = w64 x := by
  simp only [w64, IntKind.wrap_i64] at *; omega
end Go.Proofs.Ytaggfcnaedadaaa
