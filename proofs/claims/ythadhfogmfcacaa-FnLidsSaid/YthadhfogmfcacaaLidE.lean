/-
  Lids, part 5: how many widths can have lids at once. Conditions: none.
-/
import Derived.Test.YthadhfogmfcacaaLidD
set_option linter.unusedSimpArgs false
set_option linter.unusedVariables false
set_option linter.unusedSectionVars false
namespace Go.Proofs.Ythadhfogmfcacaa
open Go.Abs Go.RowKit Go.Law

/-- A lid that has not been given and fits. -/
def mayG (xs : List I3) (ws : List Int) (s : Int) (g : List Bool) (a b : Nat) : Bool := !g.getD b false && fitL xs ws s a b
def Bools (m : Mem) (a : Option Addr) (g : List Bool) : Prop := ∃ (id : Nat) (o : AObj), a = some ⟨id, 0, none⟩ ∧ m[id]? = some o ∧ o.kind ≤ 2 ∧ o.sz = 1 ∧ o.cells = g.map Value.bool
theorem Bools.pre {m m' : Mem} {a : Option Addr} {g : List Bool} (h : Bools m a g) (hp : m <+: m') : Bools m' a g := by
  obtain ⟨id, o, h1, h2, h3⟩ := h
  exact ⟨id, o, h1, prefix_get hp h2, h3⟩
theorem mostMay_c (xs : List I3) (ws : List Int) (s : Int) (g : List Bool) (la wa ga : Option Addr) (q : Nat) (m : Mem) (hg : g.length = xs.length)
    (c0 : m[q]? = some ⟨[.slice la xs.length xs.length], 35, 1, 1⟩) (c1 : m[q + 1]? = some ⟨[.slice wa ws.length ws.length], 41, 1, 1⟩) (c2 : m[q + 2]? = some ⟨[.slice ga xs.length xs.length], 71, 1, 1⟩) (c3 : m[q + 3]? = some ⟨[.int .i64 s], 2, 1, 1⟩)
    (hr : RdG v3 3 m la xs) (hs : RdI m wa ws) (hgb : Bools m ga g) (a b : Nat) (ha : a < ws.length) (hb : b < xs.length) :
    ACalls Try.prog 60 ([.int .i64 (a : Int), .int .i64 (b : Int)] ++ [.pointer (some ⟨q + 2, 0, none⟩), .pointer (some ⟨q, 0, none⟩), .pointer (some ⟨q + 1, 0, none⟩), .pointer (some ⟨q + 3, 0, none⟩)]) m (.bool (mayG xs ws s g a b)) m := by
  obtain ⟨id, off, o, rfl, hm, hkd, hsz, hl, hrow, _⟩ := R3.at_ hr hb
  obtain ⟨wid, woff, wo, rfl, hwm, hwk, hws, hwc⟩ := hs.at_ ha
  obtain ⟨gid, go, rfl, hgm, hgk, hgs, hgc⟩ := hgb
  have hbg : b < g.length := by omega
  have hgl : go.cells.length = xs.length := by rw [hgc]; simp [hg]
  have hgv : g.getD b false = g[b] := by simp [List.getD_eq_getElem?_getD, hbg]
  have hfit : inB (slk xs[b] ws[a]) 0 s = fitL xs ws s a b := by rw [fitL, getD3 hb, getI ha]
  cases hv : g[b] with
  | true =>
    have hgc2 : go.cells[b]? = some (.bool true) := by rw [hgc]; simp [hbg, hv]
    refine acalls_of_vc Try.func60 rfl Try.fol (by kernel_rfl) ?_
    simp only [Try.f60]
    simp -dsimp -implicitDefEqProofs
    simp -dsimp -implicitDefEqProofs [ha, hb, withO_of c0, withO_of c1, withO_of c2, withO_of c3, withO_of hm, hkd, hsz, hl, hrow, withO_of hwm, hwk, hws, withC_of hwc, withO_of hgm, hgk, hgs, hgl, withC_of hgc2]
    rw [mayG, hgv, hv]
    exact GC.refl _ _ _
  | false =>
    have hgc2 : go.cells[b]? = some (.bool false) := by rw [hgc]; simp [hbg, hv]
    refine acalls_of_vc Try.func60 rfl Try.fol (by kernel_rfl) ?_
    simp only [Try.f60]
    simp -dsimp -implicitDefEqProofs
    simp -dsimp -implicitDefEqProofs [ha, hb, withO_of c0, withO_of c1, withO_of c2, withO_of c3, withO_of hm, hkd, hsz, hl, hrow, withO_of hwm, hwk, hws, withC_of hwc, withO_of hgm, hgk, hgs, hgl, withC_of hgc2]
    refine callsTo Try.cal45 (lidFits_c xs[b] ws[a] s _) ?_
    simp -dsimp -implicitDefEqProofs [ha, hb, withO_of c0, withO_of c1, withO_of c2, withO_of c3, withO_of hm, hkd, hsz, hl, hrow, withO_of hwm, hwk, hws, withC_of hwc, withO_of hgm, hgk, hgs, hgl, withC_of hgc2]
    rw [mayG, hgv, hv, ← hfit]
    exact GC.refl _ _ _
def MostPost (xs : List I3) (ws : List Int) (s : Int) (g : List Bool) (m : Mem) (v : Value) (m' : Mem) : Prop := v = .int .i64 (mostK (mayG xs ws s g) xs.length ws.length) ∧ m <+: m'
theorem mostLids_c (xs : List I3) (ws : List Int) (s : Int) (g : List Bool) (la wa ga : Option Addr) (m : Mem) (hg : g.length = xs.length) (hr : RdG v3 3 m la xs) (hs : RdI m wa ws) (hgb : Bools m ga g) (hn : xs.length ≤ 1048576) (hn' : ws.length ≤ 1048576) :
    ∃ v m', ACalls Try.prog 52 [.slice la xs.length xs.length, .slice wa ws.length ws.length, .slice ga xs.length xs.length, .int .i64 s] m v m' ∧ MostPost xs ws s g m v m' := by
  refine ecalls_of_vc Try.func52 rfl Try.fol (by kernel_rfl) ?_
  simp only [Try.f52]
  simp -dsimp -implicitDefEqProofs
  obtain ⟨m1, hm1⟩ : ∃ m1, m1 = m ++ [(⟨[.slice la xs.length xs.length], 35, 1, 1⟩ : AObj), ⟨[.slice wa ws.length ws.length], 41, 1, 1⟩, ⟨[.slice ga xs.length xs.length], 71, 1, 1⟩, ⟨[.int .i64 s], 2, 1, 1⟩] := ⟨_, rfl⟩
  rw [← hm1]
  have hp1 : m <+: m1 := by rw [hm1]; exact ⟨_, rfl⟩
  have c0 : m1[m.length]? = some ⟨[.slice la xs.length xs.length], 35, 1, 1⟩ := by rw [hm1]; simp
  have c1 : m1[m.length + 1]? = some ⟨[.slice wa ws.length ws.length], 41, 1, 1⟩ := by rw [hm1]; simp
  have c2 : m1[m.length + 2]? = some ⟨[.slice ga xs.length xs.length], 71, 1, 1⟩ := by rw [hm1]; simp
  have c3 : m1[m.length + 3]? = some ⟨[.int .i64 s], 2, 1, 1⟩ := by rw [hm1]; simp
  have hs1 : RdI m1 wa ws := by obtain ⟨l, rfl⟩ := hp1; exact hs.ext l
  refine callsToE Try.cal59 (matchAll_c (mayG xs ws s g) ws.length xs.length hn hn' 60 [.pointer (some ⟨m.length + 2, 0, none⟩), .pointer (some ⟨m.length, 0, none⟩), .pointer (some ⟨m.length + 1, 0, none⟩), .pointer (some ⟨m.length + 3, 0, none⟩)] m1 Try.cal60
    (fun m' hp a b ha hb => mostMay_c xs ws s g la wa ga m.length m' hg (prefix_get hp c0) (prefix_get hp c1) (prefix_get hp c2) (prefix_get hp c3) (hr.pre (hp1.trans hp)) (by obtain ⟨l, rfl⟩ := hp; exact hs1.ext l) (hgb.pre (hp1.trans hp)) a b ha hb)) ?_
  rintro _ m2 ⟨id, rfl, hp2⟩
  simp -dsimp -implicitDefEqProofs
  exact ⟨_, _, GC.refl _ _ _, rfl, hp1.trans hp2⟩
def MostPost2 (may : Nat → Nat → Bool) (k n : Nat) (m : Mem) (v : Value) (m' : Mem) : Prop := v = .int .i64 (mostK may k n) ∧ m <+: m'
theorem l22Most_c (xs : List I3) (ws : List Int) (sl : Int) (la wa : Option Addr) (m : Mem) (hr : RdG v3 3 m la xs) (hs : RdI m wa ws) (hx : xs.length ≤ 1048576) (hw1 : ws.length ≤ 1048576) (hb : ∀ x, la = some x → x.block < m.length) (hb2 : ∀ x, wa = some x → x.block < m.length) :
    ∃ v m', ACalls Try.prog 51 [.slice la xs.length xs.length, .slice wa ws.length ws.length, .int .i64 sl] m v m' ∧ MostPost2 (fitL xs ws sl) xs.length ws.length m v m' := by
  refine ecalls_of_vc Try.func51 rfl Try.fol (by kernel_rfl) ?_
  simp only [Try.f51]
  simp -dsimp -implicitDefEqProofs
  refine need_intro (by omega) ?_
  obtain ⟨m1, hm1⟩ : ∃ m1, m1 = m ++ [(⟨negL xs.length 0, 2, 1, 1⟩ : AObj), ⟨[.slice la xs.length xs.length, .slice wa ws.length ws.length, .int .i64 sl, .slice (some ⟨m.length, 0, none⟩) xs.length xs.length, .slice none 0 0], 76, 5, 1⟩] := ⟨_, rfl⟩
  have hm1' := hm1
  rw [negL_zero] at hm1'
  rw [← hm1']
  have hp1 : m <+: m1 := by rw [hm1]; exact ⟨_, rfl⟩
  have hl1 : m1.length = m.length + 2 := by rw [hm1]; simp
  have c0 : m1[m.length]? = some ⟨negL xs.length 0, 2, 1, 1⟩ := by rw [hm1]; simp
  have c1 : m1[m.length + 1]? = some ⟨[.slice la xs.length xs.length, .slice wa ws.length ws.length, .int .i64 sl, .slice (some ⟨m.length, 0, none⟩) xs.length xs.length, .slice none 0 0], 76, 5, 1⟩ := by rw [hm1]; simp
  obtain ⟨L, hL⟩ : ∃ L, m.length = L := ⟨_, rfl⟩
  rw [hL] at c0 c1 hl1 ⊢
  refine loopN xs.length (fun b σ m' => (m'[L]? = some ⟨negL xs.length b, 2, 1, 1⟩ ∧ RestS [L] m1 m') ∧ (σ 0 = some (.slice la xs.length xs.length) ∧ σ 1 = some (.slice wa ws.length ws.length) ∧ σ 7 = some (.pointer (some ⟨L + 1, 0, none⟩))) ∧ σ 8 = some (.int .i64 b)) ⟨⟨c0, RestS.refl _ _⟩, by simp, by simp⟩ ?_
  rintro b σ m' hbn ⟨⟨e0, hrest⟩, ⟨s0, s1, s7⟩, s8⟩
  have e1 := hrest.get _ _ (show L + 1 ∉ [L] by simp) c1
  by_cases hlt : b < xs.length
  · have hwb : IntKind.i64.wrap ((b : Int) + 1) = b + 1 := wrapI (by omega) (by omega)
    simp -dsimp -implicitDefEqProofs [s0, s1, s7, s8, hlt, withO_of e0, withO_of e1, hwb, negL_length hbn]
    refine need_intro (by omega) ?_
    exact next_ hlt ⟨⟨by rw [negL_set hlt]; exact get_set e0 _, hrest.trans (RestS.set _ (by simp) _)⟩, by simp [s0, s1, s7], by simp [hwb]⟩
  obtain rfl : b = xs.length := by omega
  rw [negL_all] at e0
  simp -dsimp -implicitDefEqProofs [s0, s1, s7, s8]
  refine loopN ws.length (fun i σ m6 => (RestS [L, L + 1] m' m6 ∧ (∃ v, m6[L + 1]? = some ⟨[.slice la xs.length xs.length, .slice wa ws.length ws.length, .int .i64 sl, .slice (some ⟨L, 0, none⟩) xs.length xs.length, v], 76, 5, 1⟩) ∧ m6[L]? = some ⟨(kst (fitL xs ws sl) ws.length xs.length i).right.map (Value.int .i64), 2, 1, 1⟩) ∧
      (σ 0 = some (.slice la xs.length xs.length) ∧ σ 1 = some (.slice wa ws.length ws.length) ∧ σ 7 = some (.pointer (some ⟨L + 1, 0, none⟩))) ∧ σ 9 = some (.int .i64 (kcnt (fitL xs ws sl) ws.length xs.length i)) ∧ σ 10 = some (.int .i64 i)) ⟨⟨RestS.refl _ _, ⟨_, e1⟩, e0⟩, by simp [s0, s1, s7], by simp [kcnt, kall], by simp⟩ ?_
  clear s0 s1 s7 s8
  rintro i σ m6 hi ⟨⟨hr6, ⟨vs, i1⟩, i2⟩, ⟨s0, s1, s7⟩, s9, s10⟩
  have hbase : m <+: m6 := hr6.base (hrest.base hp1 (by intro j hj; simp at hj; omega)) (by intro j hj; simp at hj; omega)
  by_cases hlt : i < ws.length
  · have hwb : IntKind.i64.wrap ((i : Int) + 1) = i + 1 := wrapI (by omega) (by omega)
    simp -dsimp -implicitDefEqProofs [s0, s1, s7, s9, s10, hlt, hwb, withO_of i1, fun l => withO_of (get_old (l := l) i1)]
    refine need_intro (by omega) ?_
    have hlen6 : L + 2 ≤ m6.length := by have := hr6.len; have := hrest.len; omega
    obtain ⟨m7, hm7⟩ : ∃ m7, m7 = (m6 ++ [(⟨List.replicate xs.length (.int .i64 0), 2, 1, 1⟩ : AObj)]).set (L + 1) ⟨[.slice la xs.length xs.length, .slice wa ws.length ws.length, .int .i64 sl, .slice (some ⟨L, 0, none⟩) xs.length xs.length, .slice (some ⟨m6.length, 0, none⟩) xs.length xs.length], 76, 5, 1⟩ := ⟨_, rfl⟩
    rw [← hm7]
    have hl7 : m7.length = m6.length + 1 := by rw [hm7]; simp
    have hr7 : RestS [L, L + 1] m6 m7 := by rw [hm7]; exact (RestS.app _ _ _).trans (RestS.set _ (by simp) _)
    have y1 : m7[L + 1]? = some ⟨[.slice la xs.length xs.length, .slice wa ws.length ws.length, .int .i64 sl, .slice (some ⟨L, 0, none⟩) xs.length xs.length, .slice (some ⟨m6.length, 0, none⟩) xs.length xs.length], 76, 5, 1⟩ := by rw [hm7]; exact get_set (get_old i1) _
    have y2 : m7[L]? = some ⟨(kst (fitL xs ws sl) ws.length xs.length i).right.map (Value.int .i64), 2, 1, 1⟩ := by rw [hm7, List.getElem?_set_ne (by omega)]; exact get_old i2
    have y3 : m7[m6.length]? = some ⟨(List.replicate xs.length false).map seenV, 2, 1, 1⟩ := by rw [hm7, List.getElem?_set_ne (by omega)]; simp [seenV]
    have hlax : ∀ x, la = some x → x.block ∉ [L, m6.length] := fun x hx => by have := hb x hx; simp; omega
    have hwax : ∀ x, wa = some x → x.block ∉ [L, m6.length] := fun x hx => by have := hb2 x hx; simp; omega
    have hbase7 : m <+: m7 := hr7.base hbase (by intro j hj; simp at hj; omega)
    have hs7 : RdI m7 wa ws := by obtain ⟨l, rfl⟩ := hbase7; exact hs.ext l
    obtain ⟨v, m8, hcall, rfl, ⟨z1, z2⟩, hR8⟩ := place_c xs ws sl la wa hw1 hx (L + 1) L m6.length (by simp; omega) (by omega) hlax hwax (xs.length + 1) i (kst (fitL xs ws sl) ws.length xs.length i) m7 (by simp only [kst]; rw [unseen_new]; omega) hlt (kst_ok _ _ _ i (by omega)) (hr.pre hbase7) hs7 ⟨_, y1⟩ ⟨y2, y3⟩
    obtain ⟨e1, e2, e3⟩ := kst_succ (fitL xs ws sl) ws.length xs.length i
    rw [← e2] at z1
    have hlen8 := hR8.len
    have hcnt := kcnt_le (fitL xs ws sl) ws.length xs.length i
    have hJ : RestS [L, L + 1] m' m8 ∧ (∃ v, m8[L + 1]? = some ⟨[.slice la xs.length xs.length, .slice wa ws.length ws.length, .int .i64 sl, .slice (some ⟨L, 0, none⟩) xs.length xs.length, v], 76, 5, 1⟩) ∧ m8[L]? = some ⟨(kst (fitL xs ws sl) ws.length xs.length (i + 1)).right.map (Value.int .i64), 2, 1, 1⟩ :=
      ⟨⟨by have := hr6.len; omega, fun j o h1 h2 => hR8.get j o (by have := lt_of_get h2; have := hr6.len; simp at h1 ⊢; omega) (hr7.get j o h1 (hr6.get j o h1 h2))⟩, ⟨_, hR8.get _ _ (by simp; omega) y1⟩, z1⟩
    refine callsTo Try.cal58 hcall ?_
    cases hfd : (kfind (fitL xs ws sl) xs.length (xs.length + 1) i (kst (fitL xs ws sl) ws.length xs.length i)).1 with
    | false =>
      rw [hfd] at e3
      simp only [Bool.false_eq_true, if_false, Nat.add_zero] at e3
      simp -dsimp -implicitDefEqProofs [s0, s1, s7, s9, s10, hlt, hwb, withO_of i1, fun l => withO_of (get_old (l := l) i1)]
      exact next_ hlt ⟨hJ, by simp [s0, s1, s7], by simp [s9, e3], by simp [hwb]⟩
    | true =>
      rw [hfd] at e3
      simp only [if_true] at e3
      have hwc : IntKind.i64.wrap ((kcnt (fitL xs ws sl) ws.length xs.length i : Int) + 1) = (kcnt (fitL xs ws sl) ws.length xs.length (i + 1) : Nat) := by rw [wrapI (by omega) (by omega), e3]; simp
      simp -dsimp -implicitDefEqProofs [s0, s1, s7, s9, s10, hlt, hwb, withO_of i1, fun l => withO_of (get_old (l := l) i1)]
      exact next_ hlt ⟨hJ, by simp [s0, s1, s7], by simp [hwc], by simp [hwb]⟩
  obtain rfl : i = ws.length := by omega
  simp -dsimp -implicitDefEqProofs [s0, s1, s7, s9, s10]
  exact ⟨_, _, GC.refl _ _ _, by rw [kcnt_all], hbase⟩

/-! ### The least slack -/
/-- The first slack of which all widths have lids. -/
def slackTo (xs : List I3) (ws : List Int) : Nat → Option Nat
  | 0 => none
  | k + 1 => match slackTo xs ws k with
    | some j => some j
    | none => if mostK (fitL xs ws k) xs.length ws.length = ws.length then some k else none
theorem slackTo_hit {xs : List I3} {ws : List Int} {k : Nat} (h : slackTo xs ws k = none) (h' : mostK (fitL xs ws k) xs.length ws.length = ws.length) : ∀ n, k < n → slackTo xs ws n = some k
  | 0, h0 => by omega
  | n + 1, h0 => by
    unfold slackTo
    by_cases e : k = n
    · subst e; rw [h]; simp [h']
    · rw [slackTo_hit h h' n (by omega)]
theorem slackTo_skip {xs : List I3} {ws : List Int} {k : Nat} (h : slackTo xs ws k = none) (h' : ¬ mostK (fitL xs ws k) xs.length ws.length = ws.length) : slackTo xs ws (k + 1) = none := by
  unfold slackTo; rw [h]; simp [h']
def leastSI (xs : List I3) (ws : List Int) : Int := if codeL xs ws 0 = 0 then (match slackTo xs ws 101 with | some k => (k : Int) | none => 0) else 0
def leastSC (xs : List I3) (ws : List Int) : Int := if codeL xs ws 0 = 0 then (match slackTo xs ws 101 with | some _ => 0 | none => 3) else codeL xs ws 0
def leastSV (xs : List I3) (ws : List Int) : Value := .tuple #[.int .i64 (leastSI xs ws), .int .i64 (leastSC xs ws)]
theorem specLeastS_c (xs : List I3) (ws : List Int) (la wa : Option Addr) (m : Mem) (hr : RdG v3 3 m la xs) (hs : RdI m wa ws) (hn : xs.length ≤ 1048576) (hn' : ws.length ≤ 1048576) (hb : ∀ x, la = some x → x.block < m.length) (hb2 : ∀ x, wa = some x → x.block < m.length) :
    ACalls Try.prog 30 [.slice la xs.length xs.length, .slice wa ws.length ws.length] m (leastSV xs ws) m := by
  refine acalls_of_vc Try.func30 rfl Try.fol (by kernel_rfl) ?_
  simp only [Try.f30]
  simp -dsimp -implicitDefEqProofs
  refine callsTo Try.cal50 (l22Code_c xs ws la wa 0 _ hr hs hn hn') ?_
  simp -dsimp -implicitDefEqProofs
  refine sp2 (fun g => ?_) (fun g => ?_)
  · simp at g
    exact GC.eq (by simp [leastSV, leastSI, leastSC, g])
  simp at g
  refine loopN 101 (fun k σ m' => (m <+: m' ∧ slackTo xs ws k = none) ∧ (σ 0 = some (.slice la xs.length xs.length) ∧ σ 1 = some (.slice wa ws.length ws.length)) ∧ σ 7 = some (.int .i64 k)) ⟨⟨pre_refl m, rfl⟩, by simp, by simp⟩ ?_
  rintro k σ m' hk ⟨⟨hp, hno⟩, ⟨s0, s1⟩, s7⟩
  by_cases hlt : k < 101
  · have hwk : IntKind.i64.wrap ((k : Int) + 1) = k + 1 := wrapI (by omega) (by omega)
    have n1 : (k : Int) ≤ 100 := by omega
    have n2 : k ≤ 100 := by omega
    have hs1 : RdI m' wa ws := by obtain ⟨l, rfl⟩ := hp; exact hs.ext l
    have hl := hp.length_le
    simp -dsimp -implicitDefEqProofs [s0, s1, s7, n1, n2, hwk]
    refine callsToE Try.cal51 (l22Most_c xs ws k la wa m' (hr.pre hp) hs1 hn hn' (fun x h => by have := hb x h; omega) (fun x h => by have := hb2 x h; omega)) ?_
    rintro _ m2 ⟨rfl, hp2⟩
    simp -dsimp -implicitDefEqProofs [s0, s1, s7, n1, n2, hwk]
    refine sp2 (fun g1 => ?_) (fun g1 => ?_)
    · simp at g1
      exact GC.dropP (hp.trans hp2) (by simp [leastSV, leastSI, leastSC, g, slackTo_hit hno (by omega) 101 hlt]) rfl
    · simp at g1
      exact next_ hlt ⟨⟨hp.trans hp2, slackTo_skip hno (by omega)⟩, by simp [s0, s1], by simp [hwk]⟩
  · obtain rfl : k = 101 := by omega
    simp -dsimp -implicitDefEqProofs [s0, s1, s7]
    exact GC.dropP hp (by simp [leastSV, leastSI, leastSC, g, hno]) rfl
theorem implLeastS_c (xs : List I3) (ws : List Int) (la wa : Option Addr) (m : Mem) (hr : RdG v3 3 m la xs) (hs : RdI m wa ws) (hn : xs.length ≤ 1048576) (hn' : ws.length ≤ 1048576) :
    ACalls Try.prog 31 [.slice la xs.length xs.length, .slice wa ws.length ws.length] m (leastSV xs ws) m := by
  refine acalls_of_vc Try.func31 rfl Try.fol (by kernel_rfl) ?_
  simp only [Try.f31]
  simp -dsimp -implicitDefEqProofs
  refine callsTo Try.cal19 (validLids_c xs la _ hr hn) ?_
  simp -dsimp -implicitDefEqProofs
  refine sp2 (fun g => ?_) (fun g => ?_)
  · simp at g
    exact GC.eq (by simp [leastSV, leastSI, leastSC, g, codeL])
  simp at g
  refine callsTo Try.cal44 (areWidths_c ws wa 0 _ hs (Nat.le_trans hn' (by decide))) ?_
  simp -dsimp -implicitDefEqProofs
  refine sp2 (fun g0 => ?_) (fun g0 => ?_)
  · have hc : codeL xs ws 0 = 2 := by
      unfold codeL
      rw [if_pos g, if_neg]
      intro h
      rw [Bool.and_eq_true, Bool.and_eq_true] at h
      simp [h.1.1, h.1.2, h.2] at g0
    exact GC.eq (by simp [leastSV, leastSI, leastSC, hc])
  have hc : codeL xs ws 0 = 0 := by
    unfold codeL
    rw [if_pos g, if_pos]
    simp only [Bool.or_eq_false_iff, Bool.not_eq_false'] at g0
    rw [Bool.and_eq_true, Bool.and_eq_true]
    exact ⟨⟨g0.1.1, g0.1.2⟩, g0.2⟩
  refine loopN 101 (fun k σ m' => (m <+: m' ∧ slackTo xs ws k = none) ∧ (σ 0 = some (.slice la xs.length xs.length) ∧ σ 1 = some (.slice wa ws.length ws.length)) ∧ σ 13 = some (.int .i64 k)) ⟨⟨pre_refl m, rfl⟩, by simp, by simp⟩ ?_
  rintro k σ m' hk ⟨⟨hp, hno⟩, ⟨s0, s1⟩, s13⟩
  by_cases hlt : k < 101
  · have hwk : IntKind.i64.wrap ((k : Int) + 1) = k + 1 := wrapI (by omega) (by omega)
    have n1 : (k : Int) < 101 := by omega
    have hs1 : RdI m' wa ws := by obtain ⟨l, rfl⟩ := hp; exact hs.ext l
    simp -dsimp -implicitDefEqProofs [s0, s1, s13, n1, hlt, hwk]
    refine need_intro (by omega) ?_
    obtain ⟨m1, hm1⟩ : ∃ m1, m1 = m' ++ [(⟨List.replicate xs.length (.bool false), 4, 1, 1⟩ : AObj)] := ⟨_, rfl⟩
    rw [← hm1]
    have hp1 : m' <+: m1 := by rw [hm1]; exact ⟨_, rfl⟩
    have hgb : Bools m1 (some ⟨m'.length, 0, none⟩) (List.replicate xs.length false) := ⟨m'.length, ⟨List.replicate xs.length (.bool false), 4, 1, 1⟩, rfl, by rw [hm1]; simp, by simp, rfl, by simp⟩
    have hs2 : RdI m1 wa ws := by obtain ⟨l, rfl⟩ := hp1; exact hs1.ext l
    refine callsToE Try.cal52 (mostLids_c xs ws k (List.replicate xs.length false) la wa _ m1 (by simp) (hr.pre (hp.trans hp1)) hs2 hgb hn hn') ?_
    rintro _ m2 ⟨rfl, hp2⟩
    rw [show mostK (mayG xs ws k (List.replicate xs.length false)) xs.length ws.length = mostK (fitL xs ws k) xs.length ws.length from mostK_congr fun a b _ hb => by simp [mayG, List.getD_eq_getElem?_getD, hb]]
    simp -dsimp -implicitDefEqProofs [s0, s1, s13, n1, hlt, hwk]
    have hp3 := hp.trans (hp1.trans hp2)
    refine sp2 (fun g1 => ?_) (fun g1 => ?_)
    · simp at g1
      exact GC.dropP hp3 (by simp [leastSV, leastSI, leastSC, hc, slackTo_hit hno (by omega) 101 hlt]) rfl
    · simp at g1
      exact next_ hlt ⟨⟨hp3, slackTo_skip hno (by omega)⟩, by simp [s0, s1], by simp [hwk]⟩
  · obtain rfl : k = 101 := by omega
    simp -dsimp -implicitDefEqProofs [s0, s1, s13]
    exact GC.dropP hp (by simp [leastSV, leastSI, leastSC, hc, hno]) rfl
end Go.Proofs.Ythadhfogmfcacaa
