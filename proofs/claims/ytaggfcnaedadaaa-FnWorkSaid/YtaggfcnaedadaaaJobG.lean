/-
  Jobs, part 7: the program's search for the earliest end, its code. Conditions: none.
-/
import Derived.Test.YtaggfcnaedadaaaJobF
set_option linter.unusedSimpArgs false
set_option linter.unusedVariables false
set_option linter.unusedSectionVars false
namespace Go.Proofs.Ytaggfcnaedadaaa
open Go.Abs Go.RowKit

theorem cloneJ_c (xs : List Int) (a : Addr) (m : Mem) (hs : RdI m (some a) xs) (hn : xs.length ≤ 1048576) :
    ACalls Try.prog 64 [.slice (some a) xs.length xs.length] m (.slice (some ⟨m.length, 0, none⟩) xs.length xs.length) (m ++ [⟨xs.map (Value.int .i64), 2, 1, 2⟩]) := by
  refine acalls_of_vc Try.func64 rfl Try.fol (by kernel_rfl) ?_
  simp only [Try.f64]
  simp -dsimp -implicitDefEqProofs
  refine appTo_grow (e := 2) (sz := 1) (by_ := 8) (z := .int .i64 0) (by kernel_rfl) (by kernel_rfl) ⟨by decide, rfl⟩ (o := ⟨[], 2, 1, 1⟩) (by simp) (by simp) ⟨rfl, rfl⟩ rfl (by omega) (Src.rdI (hs.ext _)) ?_
  intro m2 id2 hg
  simp -dsimp -implicitDefEqProofs
  have h1 := hg.new
  have h2 : m <+: m2 := hg.pre m ⟨_, rfl⟩ (Nat.le_refl _)
  have := GC.keepSP (m := m) (m' := m) (m1 := m2) (id := id2) (off := 0) (n := xs.length) (o2 := ⟨xs.map (Value.int .i64), 2, 1, 2⟩) (Fits.refl m) h2 h1 (by rw [hg.at_]; simp) rfl rfl (.inl rfl) (by simp) (by simp [litB])
  simpa using this
/-- Where the search keeps what it has captured. -/
structure Caps where
  l : Nat
  j : Nat
  w : Nat
  b : Nat
  s : Nat
  o : Nat
  g : Nat
def Caps.args (c : Caps) : List Value := [.pointer (some ⟨c.l, 0, none⟩), .pointer (some ⟨c.j, 0, none⟩), .pointer (some ⟨c.w, 0, none⟩), .pointer (some ⟨c.b, 0, none⟩), .pointer (some ⟨c.s, 0, none⟩), .pointer (some ⟨c.o, 0, none⟩), .pointer (some ⟨c.g, 0, none⟩)]
structure CapAt (c : Caps) (n k : Nat) (ja sa : Option Addr) (it il : Nat) (m : Mem) : Prop where
  j : ∃ t, m[c.j]? = some ⟨[.slice ja n n], t, 1, 1⟩
  w : ∃ t, m[c.w]? = some ⟨[.slice (some ⟨it, 0, none⟩) n n], t, 1, 1⟩
  s : ∃ t, m[c.s]? = some ⟨[.slice sa k k], t, 1, 1⟩
  o : ∃ t, m[c.o]? = some ⟨[.slice (some ⟨il, 0, none⟩) k k], t, 1, 1⟩
  g : ∃ t, m[c.g]? = some ⟨[.func (.func 63) #[] c.args.toArray], t, 1, 1⟩
/-- What changes, and what does not. -/
def Caps.out (c : Caps) (it il : Nat) : List Nat := [c.l, c.b, it, il]
structure CapOK (c : Caps) (it il : Nat) : Prop where
  j : c.j ∉ c.out it il
  w : c.w ∉ c.out it il
  s : c.s ∉ c.out it il
  o : c.o ∉ c.out it il
  g : c.g ∉ c.out it il
  lb : c.l ≠ c.b
  lt : c.l ≠ it
  ll : c.l ≠ il
  bt : c.b ≠ it
  bl : c.b ≠ il
  tl : it ≠ il
theorem CapAt.rest {c : Caps} {n k : Nat} {ja sa : Option Addr} {it il : Nat} {m m' : Mem} (h : CapAt c n k ja sa it il m) (ok : CapOK c it il) (hr : RestS (c.out it il) m m') : CapAt c n k ja sa it il m' := by
  obtain ⟨⟨t1, h1⟩, ⟨t2, h2⟩, ⟨t3, h3⟩, ⟨t4, h4⟩, ⟨t5, h5⟩⟩ := h
  exact ⟨⟨t1, hr.get _ _ ok.j h1⟩, ⟨t2, hr.get _ _ ok.w h2⟩, ⟨t3, hr.get _ _ ok.s h3⟩, ⟨t4, hr.get _ _ ok.o h4⟩, ⟨t5, hr.get _ _ ok.g h5⟩⟩
def GJ (lo : Nat) (c : Caps) (it il : Nat) (m : Mem) (st : List Int × Int) : Prop :=
  ∃ t t' b, m[c.l]? = some ⟨[.int .i64 st.2], t, 1, 1⟩ ∧ m[c.b]? = some ⟨[b], t', 1, 1⟩ ∧ BestJ lo (c.out it il) m b st
def GPost (lo : Nat) (c : Caps) (n : Nat) (it il : Nat) (m : Mem) (who loads : List Int) (st : List Int × Int) (m' : Mem) : Prop :=
  GJ lo c it il m' st ∧ RestS (c.out it il) m m' ∧ ChoAt it n m' who ∧ LoadAt il m' loads
theorem tinfF : tinf Try.prog 68 = some (1, 8, some .nilFunc) := by kernel_rfl
theorem aggF : aggB Try.prog 68 = some false := by kernel_rfl
theorem giveJ_c (lo : Nat) (js : List I2) (ss : List Int) (hjs : jobsB js ss = true) (ja sa : Option Addr) (c : Caps) (it il : Nat) (ok : CapOK c it il) (hja : ∀ a, ja = some a → a.block ∉ c.out it il) (hsa : ∀ a, sa = some a → a.block ∉ c.out it il) :
    ∀ (d : Nat) (who loads : List Int) (en : Int) (st : List Int × Int) (m : Mem), js.length - who.length = d → who.length ≤ js.length → loads.length = ss.length → (∀ x ∈ loads, w64 x = x) → RdG v2 2 m ja js → RdI m sa ss → CapAt c js.length ss.length ja sa it il m → GJ lo c it il m st → ChoAt it js.length m who → LoadAt il m loads → lo ≤ m.length →
      ∃ v m', ACalls Try.prog 63 (.int .i64 who.length :: .int .i64 en :: c.args) m v m' ∧ GPost lo c js.length it il m who loads (giveT ss (js.drop who.length) who loads en st) m' := by
  obtain ⟨hjo, hso, hj7, hs1, hs4⟩ := jobsB_parts hjs
  intro d
  induction d with
  | zero =>
    intro who loads en st m hd hle hll hlw hr hs hc hw ht hl hlo
    obtain ⟨t, t', b, hm, hmb, hb⟩ := id hw
    obtain ⟨⟨t1, h1⟩, ⟨t2, h2⟩, ⟨t3, h3⟩, ⟨t4, h4⟩, ⟨t5, h5⟩⟩ := id hc
    have hlen : who.length = js.length := by omega
    have hdrop : js.drop who.length = [] := List.drop_eq_nil_of_le (by omega)
    rw [hdrop]
    refine ecalls_of_vc Try.func63 rfl Try.fol (by kernel_rfl) ?_
    simp only [Try.f63]
    simp -dsimp -implicitDefEqProofs
    have hlenB : ((who.length : Int) == (js.length : Int)) = true := by simp; omega
    simp -dsimp -implicitDefEqProofs [Caps.args, withO_of hm, withO_of hmb, withO_of h1, withO_of h2, hlenB]
    have hit := choRd ht
    have hcl := cloneJ_c who ⟨it, 0, none⟩ m hit (by omega)
    rw [hlen] at hcl
    have hG := fun (l : Mem) (x : AObj) => (show ((m ++ l).set c.b x)[c.l]? = (m ++ l)[c.l]? by rw [List.getElem?_set_ne (Ne.symm ok.lb)]).trans (get_old hm)
    have hleaf : ¬ (0 ≤ st.2 ∧ st.2 ≤ en) → GPost lo c js.length it il m who loads (giveT ss [] who loads en st) (((m ++ [(⟨who.map (Value.int .i64), 2, 1, 2⟩ : AObj)]).set c.b ⟨[.slice (some ⟨m.length, 0, none⟩) js.length js.length], t', 1, 1⟩).set c.l ⟨[.int .i64 en], t, 1, 1⟩) := fun h => by
      rw [giveT_nil h]
      obtain ⟨ot, ht1, ht2⟩ := id ht
      have b1 := lt_of_get hm
      have b2 := lt_of_get hmb
      have b3 := lt_of_get hl
      have b4 := lt_of_get ht1
      have hR : RestS (c.out it il) m (((m ++ [(⟨who.map (Value.int .i64), 2, 1, 2⟩ : AObj)]).set c.b ⟨[.slice (some ⟨m.length, 0, none⟩) js.length js.length], t', 1, 1⟩).set c.l ⟨[.int .i64 en], t, 1, 1⟩) :=
        ((RestS.app _ _ _).trans (RestS.set _ (by simp [Caps.out]) _)).trans (RestS.set _ (by simp [Caps.out]) _)
      refine ⟨⟨t, t', _, get_set (hG _ _) _, by rw [List.getElem?_set_ne ok.lb]; exact get_set (get_old hmb) _, .inr ⟨m.length, _, by rw [hlen], hlo, by simp [Caps.out]; omega, by rw [List.getElem?_set_ne (by omega), List.getElem?_set_ne (by omega)]; simp; rfl, by simp, by simp, rfl, rfl, rfl⟩⟩, hR, ⟨ot, ?_, ht2⟩, ?_⟩
      · rw [List.getElem?_set_ne ok.lt, List.getElem?_set_ne ok.bt]; exact get_old ht1
      · unfold LoadAt; rw [List.getElem?_set_ne ok.ll, List.getElem?_set_ne ok.bl]; exact get_old hl
    refine sp2 (fun g0 => sp2 (fun g1 => ?_) (fun g1 => ?_)) (fun g0 => ?_)
    · simp at g0 g1
      rw [giveT_cut ⟨g0, g1⟩]
      exact ⟨_, _, GC.refl _ _ _, hw, RestS.refl _ _, ht, hl⟩
    · simp at g1
      refine callsTo Try.cal64 hcl ?_
      simp -dsimp -implicitDefEqProofs [Caps.args, withO_of hm, withO_of hmb, withO_of h1, withO_of h2, hlenB, fun l => withO_of (get_old (l := l) hmb), fun l x => withO_of (hG l x), fun l => withO_of (get_old (l := l) hm), fun l => withO_of (get_old (l := l) h1)]
      exact ⟨_, _, GC.refl _ _ _, hleaf (by omega)⟩
    · simp at g0
      refine callsTo Try.cal64 hcl ?_
      simp -dsimp -implicitDefEqProofs [Caps.args, withO_of hm, withO_of hmb, withO_of h1, withO_of h2, hlenB, fun l => withO_of (get_old (l := l) hmb), fun l x => withO_of (hG l x), fun l => withO_of (get_old (l := l) hm), fun l => withO_of (get_old (l := l) h1)]
      exact ⟨_, _, GC.refl _ _ _, hleaf (by omega)⟩
  | succ d ih =>
    intro who loads en st m hd hle hll hlw hr hs hc hw ht hl hlo
    have hlt : who.length < js.length := by omega
    have hlenB : ((who.length : Int) == (js.length : Int)) = false := by simp; omega
    have hdrop : js.drop who.length = js[who.length] :: js.drop (who.length + 1) := List.drop_eq_getElem_cons hlt
    rw [hdrop]
    obtain ⟨t, t', b, hm, hmb, hb⟩ := id hw
    obtain ⟨⟨t1, h1⟩, ⟨t2, h2⟩, ⟨t3, h3⟩, ⟨t4, h4⟩, ⟨t5, h5⟩⟩ := id hc
    refine ecalls_of_vc Try.func63 rfl Try.fol (by kernel_rfl) ?_
    simp only [Try.f63]
    simp -dsimp -implicitDefEqProofs
    simp -dsimp -implicitDefEqProofs [Caps.args, withO_of hm, withO_of hmb, withO_of h1, withO_of h2, withO_of h3, hlenB, hlt]
    refine sp2 (fun g0 => sp2 (fun g1 => ?_) (fun g1 => ?_)) (fun g0 => ?_)
    · simp at g0 g1
      rw [giveT_cut ⟨g0, g1⟩]
      exact ⟨_, _, GC.refl _ _ _, hw, RestS.refl _ _, ht, hl⟩
    have hno : ¬ (0 ≤ st.2 ∧ st.2 ≤ en) := by simp at g1; omega
    rotate_left
    have hno : ¬ (0 ≤ st.2 ∧ st.2 ≤ en) := by simp at g0; omega
    all_goals
      rw [giveT_cons hno]
      have hbx : ∀ i, i ∈ c.out it il → i < m.length := fun i hi => by
        obtain ⟨ot, ht1, _⟩ := id ht
        simp [Caps.out] at hi
        rcases hi with rfl | rfl | rfl | rfl
        · exact lt_of_get hm
        · exact lt_of_get hmb
        · exact lt_of_get ht1
        · exact lt_of_get hl
      refine loopN ss.length (fun i σ m' => (σ 0 = some (.int .i64 who.length) ∧ σ 1 = some (.int .i64 en) ∧ σ 2 = some (.pointer (some ⟨c.l, 0, none⟩)) ∧ σ 3 = some (.pointer (some ⟨c.j, 0, none⟩)) ∧ σ 4 = some (.pointer (some ⟨c.w, 0, none⟩)) ∧ σ 5 = some (.pointer (some ⟨c.b, 0, none⟩)) ∧
          σ 6 = some (.pointer (some ⟨c.s, 0, none⟩)) ∧ σ 7 = some (.pointer (some ⟨c.o, 0, none⟩)) ∧ σ 8 = some (.pointer (some ⟨c.g, 0, none⟩))) ∧ (σ 27 = some (.slice sa ss.length ss.length) ∧ σ 28 = some (.int .i64 ss.length) ∧ σ 29 = some (.int .i64 i)) ∧
        GPost lo c js.length it il m who loads (stepJ ss js[who.length] (js.drop (who.length + 1)) who loads en st i) m') ⟨by simp [frameOf, Caps.args], by simp, hw, RestS.refl _ _, ht, hl⟩ ?_
      clear hm hmb hb h1 h2 h3 h4 h5
      rintro i σ m' hi ⟨⟨s0, s1, s2, s3, s4, s5, s6, s7, s8⟩, ⟨s27, s28, s29⟩, ⟨t, t', b, hm, hmb, hb⟩, hrest, ht', hl'⟩
      by_cases hil : i < ss.length
      · have hc' := hc.rest ok hrest
        obtain ⟨⟨t1, h1⟩, ⟨t2, h2⟩, ⟨t3, h3⟩, ⟨t4, h4⟩, ⟨t5, h5⟩⟩ := id hc'
        have hs' := hrest.rdI hsa hs
        have hr' := hrest.rd2 hja hr
        have hill : i < loads.length := by omega
        obtain ⟨id1, off1, o1, rfl, hmk, hkd, hsz, hl1, hrow, hc0, hc1⟩ := R2.at_ hr' hlt
        obtain ⟨id2, off2, o2, rfl, hm2, hkd2, hsz2, hc2⟩ := hs'.at_ hil
        have hid1 := hja _ rfl
        have hid2 := hsa _ rfl
        have hwi : IntKind.i64.wrap ((i : Int) + 1) = i + 1 := wrapI (by omega) (by omega)
        have hwk : IntKind.i64.wrap ((who.length : Int) + 1) = ((who.length + 1 : Nat) : Int) := by rw [wrapI (by omega) (by omega)]; simp
        simp -dsimp -implicitDefEqProofs [s0, s1, s2, s3, s4, s5, s6, s7, s8, s27, s28, s29, hil, withO_of hm2, hkd2, hsz2, withC_of hc2, hlt, withO_of h1, withO_of hmk, hkd, hsz, hl1, withC_of hc1, hwi, hwk]
        refine sp2 (fun g => ?_) (fun g => ?_)
        · simp at g
          obtain ⟨⟨cells, el, sz, kd⟩, ht1, ht2, ht3, ht4, ht5, ht6⟩ := ht'
          simp only at ht2 ht3 ht4 ht5 ht6
          subst ht2 ht3 ht4
          have hkl : who.length < cells.length := by omega
          simp -dsimp -implicitDefEqProofs [s0, s1, s2, s3, s4, s5, s6, s7, s8, s27, s28, s29, hil, withO_of hm2, hkd2, hsz2, withC_of hc2, hlt, withO_of h1, withO_of hmk, hkd, hsz, hl1, withC_of hc1, hwi, hwk, withO_of h2, withO_of ht1, hkl]
          refine need_intro (by omega) ?_
          obtain ⟨mW, hmW⟩ : ∃ mW, mW = m'.set it ⟨cells.set who.length (.int .i64 i), 2, 1, 1⟩ := ⟨_, rfl⟩
          rw [← hmW]
          have hRW : RestS (c.out it il) m' mW := by rw [hmW]; exact RestS.set _ (by simp [Caps.out]) _
          obtain ⟨⟨u1, k1⟩, ⟨u2, k2⟩, ⟨u3, k3⟩, ⟨u4, k4⟩, ⟨u5, k5⟩⟩ := hc'.rest ok hRW
          have hlW : LoadAt il mW loads := by unfold LoadAt; rw [hmW, List.getElem?_set_ne ok.tl]; exact hl'
          have hmkW := hRW.get _ _ hid1 hmk
          obtain ⟨l2, hl2⟩ : ∃ l2, l2 = IntKind.i64.wrap (loads[i] + js[who.length].1) := ⟨_, rfl⟩
          simp -dsimp -implicitDefEqProofs [tinfF, aggF, s0, s1, s2, s3, s4, s5, s6, s7, s8, s27, s28, s29, hil, hlt, hkd, hsz, hl1, withC_of hc0, hwi, hwk, withO_of k1, withO_of k4, withO_of hlW, withO_of hmkW, hill, withC_of (ints_get hill), hl2.symm]
          refine need_intro (by omega) (need_intro (.inr (by kernel_rfl)) ?_)
          obtain ⟨mS, hmS⟩ : ∃ mS, mS = mW.set il ⟨(loads.set i l2).map (Value.int .i64), 2, 1, 1⟩ := ⟨_, rfl⟩
          rw [ints_set, ← hmS]
          have hRS : RestS (c.out it il) mW mS := by rw [hmS]; exact RestS.set _ (by simp [Caps.out]) _
          have hcS := (hc'.rest ok hRW).rest ok hRS
          obtain ⟨⟨v1, q1⟩, ⟨v2', q2⟩, ⟨v3, q3⟩, ⟨v4, q4⟩, ⟨v5, q5⟩⟩ := id hcS
          have hlS : LoadAt il mS (loads.set i l2) := by rw [hmS]; exact get_set hlW _
          have hlg : ((loads.map (Value.int .i64)).set i (.int .i64 l2))[i]? = some (.int .i64 l2) := by simp [hill]
          simp -dsimp -implicitDefEqProofs [tinfF, aggF, s0, s1, s2, s3, s4, s5, s6, s7, s8, s27, s28, s29, hil, hlt, hwi, hwk, withO_of q5, withO_of q4, withO_of hlS, hill, withC_of hlg]
          have hR := hRW.trans hRS
          have hA := (hrest.trans hR).rd2 hja hr
          have hS := (hrest.trans hR).rdI hsa hs
          have hB : GJ lo c it il mS (stepJ ss js[who.length] (js.drop (who.length + 1)) who loads en st i) :=
            ⟨t, t', b, by rw [hmS, hmW, List.getElem?_set_ne (Ne.symm ok.ll), List.getElem?_set_ne (Ne.symm ok.lt)]; exact hm, by rw [hmS, hmW, List.getElem?_set_ne (Ne.symm ok.bl), List.getElem?_set_ne (Ne.symm ok.bt)]; exact hmb, hb.rest hR⟩
          have hC : ChoAt it js.length mS (who ++ [(i : Int)]) := by
            refine ⟨⟨cells.set who.length (.int .i64 i), 2, 1, 1⟩, ?_, rfl, rfl, rfl, by simp [ht5], ?_⟩
            · rw [hmS, List.getElem?_set_ne (Ne.symm ok.tl), hmW]; exact get_set ht1 _
            · simp only [List.length_append, List.length_singleton, List.map_append, List.map_cons, List.map_nil]
              rw [List.take_add_one, List.getElem?_set_self hkl, List.take_set_of_le (Nat.le_refl _), ht6]
              rfl
          have hlw' : ∀ x ∈ loads.set i l2, w64 x = x := fun x hx => by
            rcases List.mem_or_eq_of_mem_set hx with hx | hx
            · exact hlw x hx
            · rw [hx, hl2]; exact w64_idem _
          obtain ⟨v, m2, hcall, ⟨ty1, ty2, b2, hm2l, hm2b, hb2⟩, hrest2, hcho2, hload2⟩ := ih (who ++ [(i : Int)]) (loads.set i l2) (max en l2) _ _ (by simp; omega) (by simp; omega) (by simp [hll]) hlw' hA hS hcS hB hC hlS (by have := hrest.len; have := hR.len; omega)
          simp only [List.length_append, List.length_singleton] at hcall hm2l hb2
          rw [show (((who.length + 1 : Nat)) : Int) = (who.length : Int) + 1 by simp] at hcall
          refine callsTo Try.cal63 hcall ?_
          have hback : IntKind.i64.wrap (l2 - js[who.length].1) = loads[i] := by rw [hl2]; exact w64_back (hlw _ (List.getElem_mem hill))
          have hself : (loads.map (Value.int .i64)).set i (.int .i64 loads[i]) = loads.map (Value.int .i64) := by rw [← List.map_set, List.set_getElem_self]
          obtain ⟨⟨x1, y1⟩, ⟨x2, y2⟩, ⟨x3, y3⟩, ⟨x4, y4⟩, ⟨x5, y5⟩⟩ := hcS.rest ok hrest2
          have hmk2 := (hR.trans hrest2).get _ _ hid1 hmk
          simp -dsimp -implicitDefEqProofs [s0, s1, s2, s3, s4, s5, s6, s7, s8, s27, s28, s29, hil, hlt, hkd, hsz, hl1, withC_of hc0, hwi, hwk, withO_of y1, withO_of y4, withO_of hload2, withO_of hmk2, hill, withC_of hlg, hback, hself]
          refine need_intro (.inr (by kernel_rfl)) (need_intro (by omega) (need_intro (.inr (by kernel_rfl)) ?_))
          refine next_ hil ⟨by simp [s0, s1, s2, s3, s4, s5, s6, s7, s8], by simp [s27, s28, hwi], ?_⟩
          rw [stepJ_yes hil hill (by omega), show w64 (loads[i] + js[who.length].1) = l2 from hl2.symm]
          have hR3 : RestS (c.out it il) m2 (m2.set il ⟨loads.map (Value.int .i64), 2, 1, 1⟩) := RestS.set _ (by simp [Caps.out]) _
          obtain ⟨o', z1, z2, z3, z4, z5, z6⟩ := hcho2
          refine ⟨⟨ty1, ty2, b2, by rw [List.getElem?_set_ne (Ne.symm ok.ll)]; exact hm2l, by rw [List.getElem?_set_ne (Ne.symm ok.bl)]; exact hm2b, hb2.rest hR3⟩, ((hrest.trans hR).trans hrest2).trans hR3, ⟨o', by rw [List.getElem?_set_ne (Ne.symm ok.tl)]; exact z1, z2, z3, z4, z5, ?_⟩, get_set hload2 _⟩
          have := congrArg (List.take who.length) z6
          simpa [List.take_take, List.map_append] using this
        · simp at g
          exact next_ hil ⟨by simp [s0, s1, s2, s3, s4, s5, s6, s7, s8], by simp [s27, s28, hwi], by rw [stepJ_no hil (by omega)]; exact ⟨⟨t, t', b, hm, hmb, hb⟩, hrest, ht', hl'⟩⟩
      · simp -dsimp -implicitDefEqProofs [s0, s1, s2, s3, s4, s5, s6, s7, s8, s27, s28, s29, hil]
        obtain rfl : i = ss.length := by omega
        exact ⟨_, _, GC.refl _ _ _, ⟨t, t', b, hm, hmb, hb⟩, hrest, ht', hl'⟩
end Go.Proofs.Ytaggfcnaedadaaa
