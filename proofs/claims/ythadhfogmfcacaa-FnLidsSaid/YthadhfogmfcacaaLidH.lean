/-
  Lids, part 8: lids given out, the reference's code. Conditions: none.
-/
import Derived.Test.YthadhfogmfcacaaLidG
set_option linter.unusedSimpArgs false
set_option linter.unusedVariables false
set_option linter.unusedSectionVars false
namespace Go.Proofs.Ythadhfogmfcacaa
open Go.Abs Go.RowKit Go.Law

theorem ownL_c (xs : List Int) (b : Option Addr) (m : Mem) (hs : RdI m b xs) (hn : xs.length ≤ 1048576) :
    ACalls Try.prog 53 [.slice b xs.length xs.length] m (.slice (some ⟨m.length, 0, none⟩) xs.length xs.length) (m ++ [⟨xs.map (Value.int .i64), 2, 1, 2⟩]) := by
  refine acalls_of_vc Try.func53 rfl Try.fol (by kernel_rfl) ?_
  simp only [Try.f53]
  simp -dsimp -implicitDefEqProofs
  refine appTo_grow (e := 2) (sz := 1) (by_ := 8) (z := .int .i64 0) (by kernel_rfl) (by kernel_rfl) ⟨by decide, rfl⟩ (o := ⟨[], 2, 1, 1⟩) (by simp) (by simp) ⟨rfl, rfl⟩ rfl (by omega) (Src.rdI (hs.ext _)) ?_
  intro m2 id2 hg
  simp -dsimp -implicitDefEqProofs
  have h1 := hg.new
  have h2 : m <+: m2 := hg.pre m ⟨_, rfl⟩ (Nat.le_refl _)
  have := GC.keepSP (m := m) (m' := m) (m1 := m2) (id := id2) (off := 0) (n := xs.length) (o2 := ⟨xs.map (Value.int .i64), 2, 1, 2⟩) (Fits.refl m) h2 h1 (by rw [hg.at_]; simp) rfl rfl (.inl rfl) (by simp) (by simp [litB])
  simpa using this
def ixL (n : Nat) : List Int := (List.range n).map fun (i : Nat) => (i : Int)
theorem ixL_length (n : Nat) : (ixL n).length = n := by simp [ixL]
theorem ixL_succ (n : Nat) : ixL (n + 1) = ixL n ++ [(n : Int)] := by simp [ixL, List.range_succ]
theorem rowsOf_length (xs : List I3) (g : List Bool) : (rowsOf xs g).length = (avail xs.length g).length := by simp [rowsOf]
def atsOf (n : Nat) (g : List Bool) : List Int := (avail n g).map fun (b : Nat) => (b : Int)
theorem rowsOf_all (xs : List I3) : rowsOf xs (List.replicate xs.length false) = xs := by
  unfold rowsOf
  rw [avail_all]
  refine List.ext_getElem (by simp) fun i h1 h2 => ?_
  simp [List.getD_eq_getElem?_getD, h2]
theorem avail_le (n : Nat) (g : List Bool) : (avail n g).length ≤ n := by
  unfold avail
  exact Nat.le_trans (List.length_filter_le _ _) (by simp)
theorem pick_none2 {xs : List I3} {ws : List Int} {sl : Int} {w : Nat} {g : List Bool} {nd : Int} (hg : g = (lidW xs ws sl w).2) (hnd : nd = needL xs ws sl (lidW xs ws sl w).1)
    (h : ∀ k, (hk : k < (avail xs.length g).length) → qPick xs ws sl g w nd ((avail xs.length g)[k]) = false) : lidW xs ws sl (w + 1) = ((lidW xs ws sl w).1 ++ [-1], g) := by
  subst hg; subst hnd; exact pick_none h
theorem pick_some2 {xs : List I3} {ws : List Int} {sl : Int} {w k : Nat} {g : List Bool} {nd : Int} (hg : g = (lidW xs ws sl w).2) (hnd : nd = needL xs ws sl (lidW xs ws sl w).1) (hk : k < (avail xs.length g).length)
    (h : ∀ j, (hj : j < k) → (hjN : j < (avail xs.length g).length) → qPick xs ws sl g w nd ((avail xs.length g)[j]) = false) (hq : qPick xs ws sl g w nd ((avail xs.length g)[k]) = true) :
    lidW xs ws sl (w + 1) = ((lidW xs ws sl w).1 ++ [((avail xs.length g)[k] : Int)], g.set ((avail xs.length g)[k]) true) := by
  subst hg; subst hnd; exact pick_some hk (fun j hj => h j hj (by omega)) hq
/-- An object of numbers, and one of lids. -/
def IntsAt (m : Mem) (id : Nat) (l : List Int) : Prop := ∃ o : AObj, m[id]? = some o ∧ 1 ≤ o.kind ∧ o.kind ≤ 2 ∧ o.sz = 1 ∧ o.elem = 2 ∧ o.cells = l.map (Value.int .i64)
def LidsAt (m : Mem) (id : Nat) (l : List I3) : Prop := ∃ o : AObj, m[id]? = some o ∧ 1 ≤ o.kind ∧ o.kind ≤ 2 ∧ o.sz = 3 ∧ o.elem = 26 ∧ o.cells = (l.map v3).flatten
theorem IntsAt.pre {m m' : Mem} {id : Nat} {l : List Int} (h : IntsAt m id l) (hp : m <+: m') : IntsAt m' id l := by
  obtain ⟨o, h1, h2⟩ := h; exact ⟨o, prefix_get hp h1, h2⟩
theorem LidsAt.pre {m m' : Mem} {id : Nat} {l : List I3} (h : LidsAt m id l) (hp : m <+: m') : LidsAt m' id l := by
  obtain ⟨o, h1, h2⟩ := h; exact ⟨o, prefix_get hp h1, h2⟩
theorem IntsAt.rd {m : Mem} {id : Nat} {l : List Int} (h : IntsAt m id l) : RdI m (some ⟨id, 0, none⟩) l := by
  obtain ⟨o, h1, h2, h3, h4, h5, h6⟩ := h; exact RdI.of_get h1 h3 h4 h6
theorem LidsAt.rd {m : Mem} {id : Nat} {l : List I3} (h : LidsAt m id l) : RdG v3 3 m (some ⟨id, 0, none⟩) l := by
  obtain ⟨o, h1, h2, h3, h4, h5, h6⟩ := h; exact RdG.of_get (g := v3) (sz := 3) (fun _ => rfl) l h1 h3 h4 h6
theorem IntsAt.lt {m : Mem} {id : Nat} {l : List Int} (h : IntsAt m id l) : id < m.length := lt_of_get h.choose_spec.1
theorem LidsAt.lt {m : Mem} {id : Nat} {l : List I3} (h : LidsAt m id l) : id < m.length := lt_of_get h.choose_spec.1
theorem IntsAt.grown {m m2 : Mem} {id id2 j : Nat} {o : AObj} {l : List Int} (h : IntsAt m j l) (hg : Grown m id o m2 id2) (hne : j ≠ id) : IntsAt m2 j l := by
  obtain ⟨x, h1, h2⟩ := h; exact ⟨x, hg.old _ _ hne h1, h2⟩
theorem LidsAt.grown {m m2 : Mem} {id id2 j : Nat} {o : AObj} {l : List I3} (h : LidsAt m j l) (hg : Grown m id o m2 id2) (hne : j ≠ id) : LidsAt m2 j l := by
  obtain ⟨x, h1, h2⟩ := h; exact ⟨x, hg.old _ _ hne h1, h2⟩
set_option maxRecDepth 20000 in
set_option maxHeartbeats 1600000 in
theorem specLidsFor_c (xs : List I3) (ws : List Int) (la wa : Option Addr) (sl : Int) (m : Mem) (hr : RdG v3 3 m la xs) (hs : RdI m wa ws) (hn : xs.length ≤ 1048576) (hn' : ws.length ≤ 1048576) (hb : ∀ x, la = some x → x.block < m.length) (hb2 : ∀ x, wa = some x → x.block < m.length) :
    ACalls Try.prog 32 [.slice la xs.length xs.length, .slice wa ws.length ws.length, .int .i64 sl] m (.tuple #[optV m.length (lidsO xs ws sl), .int .i64 (lidsI xs ws sl), .int .i64 (codeL xs ws sl)]) (m ++ optM 2 (lidsO xs ws sl)) := by
  have hg3 : ∀ x, (v3 x).length = 3 := fun _ => rfl
  refine acalls_of_vc Try.func32 rfl Try.fol (by kernel_rfl) ?_
  simp only [Try.f32]
  simp -dsimp -implicitDefEqProofs
  refine callsTo Try.cal50 (l22Code_c xs ws la wa sl _ hr hs hn hn') ?_
  simp -dsimp -implicitDefEqProofs
  refine sp2 (fun g => ?_) (fun g => ?_)
  · simp at g
    simp [lidsO, lidsI, g, optV, optM]
    exact GC.refl _ _ _
  simp at g
  obtain ⟨hx12, hw12⟩ : xs.length ≤ 12 ∧ ws.length ≤ 12 := by
    unfold codeL at g
    split at g
    · rename_i h1
      split at g
      · rename_i h2
        simp only [lidsB, Bool.and_eq_true, decide_eq_true_eq] at h1 h2
        omega
      · omega
    · omega
  refine callsToE Try.cal51 (l22Most_c xs ws sl la wa m hr hs hn hn' hb hb2) ?_
  rintro _ m1 ⟨rfl, hp1⟩
  rw [show mostK (fitL xs ws sl) xs.length ws.length = mostL xs ws sl from rfl]
  have hml : mostL xs ws sl ≤ ws.length := mostK_le_left _ _ _
  simp -dsimp -implicitDefEqProofs
  obtain ⟨mA, hmA⟩ : ∃ mA, mA = m1 ++ [(⟨[], 2, 1, 1⟩ : AObj), ⟨[], 26, 3, 1⟩] := ⟨_, rfl⟩
  rw [← hmA]
  have hpA : m1 <+: mA := by rw [hmA]; exact ⟨_, rfl⟩
  have hlA : mA.length = m1.length + 2 := by rw [hmA]; simp
  have hl1 := hp1.length_le
  have hoA : IntsAt mA m1.length [] := ⟨⟨[], 2, 1, 1⟩, by rw [hmA]; simp, by simp, by simp, rfl, rfl, rfl⟩
  refine appTo_grow (e := 26) (sz := 3) (by_ := 24) (z := .agg #[.int .i64 0, .int .i64 0, .int .i64 0]) (by kernel_rfl) (by kernel_rfl) ⟨by decide, rfl⟩ (o := ⟨[], 26, 3, 1⟩) (by rw [hmA]; simp) (by simp) ⟨rfl, rfl⟩ rfl (by omega) (by have := Src.rd (hr.pre (hp1.trans hpA)); exact this) ?_
  intro mB idB hgB
  have hpB : m <+: mB := hgB.pre m (hp1.trans hpA) (by omega)
  have hlB : LidsAt mB idB xs := ⟨_, hgB.new, by simp, by simp, rfl, rfl, rfl⟩
  have hoB : IntsAt mB m1.length [] := hoA.grown hgB (by omega)
  have hidB : idB = m1.length + 2 := by rw [hgB.at_, hlA]
  simp -dsimp -implicitDefEqProofs
  refine loopN xs.length (fun i σ m' => ∃ ia, (m <+: m' ∧ IntsAt m' m1.length [] ∧ LidsAt m' idB xs ∧ IntsAt m' ia (ixL i) ∧ m1.length < ia ∧ ia ≠ idB) ∧
      (σ 0 = some (.slice la xs.length xs.length) ∧ σ 1 = some (.slice wa ws.length ws.length) ∧ σ 2 = some (.int .i64 sl) ∧ σ 10 = some (.int .i64 (mostL xs ws sl)) ∧ σ 11 = some (.slice (some ⟨m1.length, 0, none⟩) 0 0) ∧ σ 12 = some (.slice (some ⟨idB, 0, none⟩) xs.length xs.length)) ∧ σ 13 = some (.slice (some ⟨ia, 0, none⟩) i i) ∧ σ 14 = some (.int .i64 i))
    ⟨mB.length, ⟨pre_app hpB _, hoB.pre ⟨_, rfl⟩, hlB.pre ⟨_, rfl⟩, ⟨⟨[], 2, 1, 1⟩, by simp, by simp, by simp, rfl, rfl, rfl⟩, by have := hlB.lt; omega, by have := hlB.lt; omega⟩, by simp, by simp, by simp⟩ ?_
  rintro i σ m' hi ⟨ia, ⟨q1, q2, q3, q4, q5, q6⟩, ⟨s0, s1, s2, s10, s11, s12⟩, s13, s14⟩
  by_cases hlt : i < xs.length
  · have hwi : IntKind.i64.wrap ((i : Int) + 1) = i + 1 := wrapI (by omega) (by omega)
    obtain ⟨o, ho, ho1, ho2, ho3, ho4, ho5⟩ := id q4
    simp -dsimp -implicitDefEqProofs [s0, s1, s2, s10, s11, s12, s13, s14, hlt, hwi]
    refine appTo_grow (e := 2) (sz := 1) (by_ := 8) (z := .int .i64 0) (by kernel_rfl) (by kernel_rfl) ⟨by decide, rfl⟩ (o := o) (get_old ho) ⟨ho1, ho2⟩ ⟨ho3, ho4⟩ (by rw [ho5]; simp [ixL_length]) (by omega) (Src.obj (o := ⟨[.int .i64 i], 2, 1, 1⟩) (by simp) (by simp) rfl rfl) ?_
    intro m4 id4 hg4
    simp -dsimp -implicitDefEqProofs [s0, s1, s2, s10, s11, s12, s13, s14, hlt, hwi]
    have hlo := lt_of_get ho
    exact next_ hlt ⟨id4, ⟨hg4.pre m (pre_app q1 _) (by omega), (q2.pre ⟨_, rfl⟩).grown hg4 (by omega), (q3.pre ⟨_, rfl⟩).grown hg4 (Ne.symm q6), ⟨_, hg4.new, by simp, by simp, rfl, rfl, by simp [ho5, ixL_succ]⟩, by rw [hg4.at_]; simp; omega, by rw [hg4.at_]; simp; have := q3.lt; omega⟩, by simp [s0, s1, s2, s10, s11, s12], by simp, by simp [hwi]⟩
  obtain rfl : i = xs.length := by omega
  simp -dsimp -implicitDefEqProofs [s0, s1, s2, s10, s11, s12, s13, s14]
  refine loopN ws.length (fun w σ m' => ∃ io il ia, (m <+: m' ∧ m.length ≤ io ∧ io ≠ il ∧ io ≠ ia) ∧ (IntsAt m' io (lidW xs ws sl w).1 ∧ LidsAt m' il (rowsOf xs (lidW xs ws sl w).2) ∧ IntsAt m' ia (atsOf xs.length (lidW xs ws sl w).2)) ∧
      (σ 0 = some (.slice la xs.length xs.length) ∧ σ 1 = some (.slice wa ws.length ws.length) ∧ σ 2 = some (.int .i64 sl) ∧ σ 10 = some (.int .i64 (mostL xs ws sl))) ∧ (σ 11 = some (.slice (some ⟨io, 0, none⟩) w w) ∧ σ 12 = some (.slice (some ⟨il, 0, none⟩) (avail xs.length (lidW xs ws sl w).2).length (avail xs.length (lidW xs ws sl w).2).length) ∧ σ 13 = some (.slice (some ⟨ia, 0, none⟩) (avail xs.length (lidW xs ws sl w).2).length (avail xs.length (lidW xs ws sl w).2).length)) ∧
      σ 15 = some (.int .i64 (needL xs ws sl (lidW xs ws sl w).1)) ∧ σ 16 = some (.int .i64 w))
    ⟨m1.length, idB, ia, ⟨q1, hl1, by omega, by omega⟩, ⟨q2, by rw [show (lidW xs ws sl 0).2 = List.replicate xs.length false from rfl, rowsOf_all]; exact q3, by rw [show (lidW xs ws sl 0).2 = List.replicate xs.length false from rfl, atsOf, avail_all]; exact q4⟩, by simp [s0, s1, s2, s10], by simp [s11, s12, s13, show (lidW xs ws sl 0).2 = List.replicate xs.length false from rfl, avail_all], by simp [needL, hasN, show (lidW xs ws sl 0).1 = [] from rfl], by simp⟩ ?_
  clear s0 s1 s2 s10 s11 s12 s13 s14 q1 q2 q3 q4 q5 q6
  rintro w σ m' hw ⟨io, il, ia, ⟨hp, hio, hne1, hne2⟩, ⟨hO, hL, hA⟩, ⟨s0, s1, s2, s10⟩, ⟨s11, s12, s13⟩, s15, s16⟩
  obtain ⟨hlo, hlg⟩ := lidW_length (xs := xs) (ws := ws) (sl := sl) w
  obtain ⟨nd, hnd⟩ : ∃ nd, nd = needL xs ws sl (lidW xs ws sl w).1 := ⟨_, rfl⟩
  have hndb : -12 ≤ nd ∧ nd ≤ 12 := by have := hasN_le (lidW xs ws sl w).1; rw [hnd]; unfold needL; omega
  rw [← hnd] at s15
  have hrl := rowsOf_length xs (lidW xs ws sl w).2
  by_cases hlt : w < ws.length
  · have hww : IntKind.i64.wrap ((w : Int) + 1) = w + 1 := wrapI (by omega) (by omega)
    obtain ⟨g, hg⟩ : ∃ g, g = (lidW xs ws sl w).2 := ⟨_, rfl⟩
    obtain ⟨N, hN⟩ : ∃ N, N = (avail xs.length g).length := ⟨_, rfl⟩
    have hNx : N ≤ 12 := by have := avail_le xs.length g; omega
    rw [← hg] at hlg hL hA hrl s12 s13
    rw [← hN] at s12 s13 hrl
    simp -dsimp -implicitDefEqProofs [s0, s1, s2, s10, s11, s12, s13, s15, s16, hlt]
    refine loopN N (fun k σ m4 => (m' <+: m4 ∧ ∀ j, (hj : j < k) → (hjN : j < N) → qPick xs ws sl g w nd ((avail xs.length g)[j]'(by omega)) = false) ∧
        (σ 0 = some (.slice la xs.length xs.length) ∧ σ 1 = some (.slice wa ws.length ws.length) ∧ σ 2 = some (.int .i64 sl) ∧ σ 10 = some (.int .i64 (mostL xs ws sl))) ∧ (σ 11 = some (.slice (some ⟨io, 0, none⟩) w w) ∧ σ 12 = some (.slice (some ⟨il, 0, none⟩) N N) ∧ σ 13 = some (.slice (some ⟨ia, 0, none⟩) N N)) ∧
        (σ 15 = some (.int .i64 nd) ∧ σ 16 = some (.int .i64 w)) ∧ σ 17 = some (.int .i64 (-1)) ∧ σ 18 = some (.int .i64 k))
      ⟨⟨pre_refl _, fun j hj => by omega⟩, by simp [s0, s1, s2, s10], by simp [s11, s12, s13], by simp [s15, s16], by simp, by simp⟩ ?_
    clear s0 s1 s2 s10 s11 s12 s13 s15 s16
    rintro k σ m4 hk ⟨⟨hp4, hno⟩, ⟨s0, s1, s2, s10⟩, ⟨s11, s12, s13⟩, ⟨s15, s16⟩, s17, s18⟩
    by_cases hlk : k < N
    · have hwk : IntKind.i64.wrap ((k : Int) + 1) = k + 1 := wrapI (by omega) (by omega)
      have hs4 : RdI m4 wa ws := by obtain ⟨l, rfl⟩ := hp.trans hp4; exact hs.ext l
      obtain ⟨wid, woff, wo, hwe, hwm, hwk2, hws, hwc⟩ := hs4.at_ hlt
      have hL4 := (hL.pre hp4).rd
      obtain ⟨ol, hol, hol1, hol2, hol3, hol4, hol5⟩ := hL.pre hp4
      have hkr : k < (rowsOf xs g).length := by omega
      have hpb := IsP.row hL4 hkr
      have hfit := l22Fits_c (rowsOf xs g)[k] ws[w] sl m4 _ _ hpb
      have hka : k < (avail xs.length g).length := by omega
      have hbx := (mem_avail.1 (List.getElem_mem hka))
      rw [show inB (slk (rowsOf xs g)[k] ws[w]) 0 sl = fitL xs ws sl w ((avail xs.length g)[k]) by rw [fitL, getI hlt]; simp [rowsOf]] at hfit
      have hll : ol.cells.length = N * 3 := by rw [hol5, flatten_length (sz := 3) (by intro r hr; obtain ⟨x, _, rfl⟩ := List.mem_map.1 hr; rfl), List.length_map, hrl]
      simp -dsimp -implicitDefEqProofs [s0, s1, s2, s10, s11, s12, s13, s15, s16, s17, s18, hlk, hlt, withO_of hol, hol2, hol3, hll, hwe, withO_of hwm, hwk2, hws, withC_of hwc]
      rw [Nat.zero_add] at hfit
      refine callsTo Try.cal42 hfit ?_
      cases hf : fitL xs ws sl w ((avail xs.length g)[k]) with
      | false =>
        have hq : qPick xs ws sl g w nd ((avail xs.length g)[k]) = false := by rw [qPick, hf]; rfl
        simp -dsimp -implicitDefEqProofs [s0, s1, s2, s10, s11, s12, s13, s15, s16, s17, s18, hlk, hlt, withO_of hol, hol2, hol3, hll, hwe, withO_of hwm, hwk2, hws, withC_of hwc]
        exact next_ hlk ⟨⟨hp4, fun j hj hjN => by
          by_cases e : j = k
          · subst e; exact hq
          · exact hno j (by omega) hjN⟩, by simp [s0, s1, s2, s10], by simp [s11, s12, s13], by simp [s15, s16], by simp [s17], by simp [hwk]⟩
      | true =>
        have htl : ((rowsOf xs g).take k).length = k := by simp; omega
        have hsrc : ∀ l : Mem, Src (m4 ++ l) (some ⟨il, 0, none⟩) k 3 (((rowsOf xs g).take k).map v3).flatten := fun l => by
          have := Src.rd ((hL4.pre (⟨l, rfl⟩ : m4 <+: m4 ++ l)).take k)
          rwa [htl] at this
        simp -dsimp -implicitDefEqProofs [s0, s1, s2, s10, s11, s12, s13, s15, s16, s17, s18, hlk, hlt, withO_of hol, hol2, hol3, hll, hwe, withO_of hwm, hwk2, hws, withC_of hwc, fun l => withO_of (get_old (l := l) hol)]
        refine need_intro (by omega) ?_
        refine appTo_grow (e := 26) (sz := 3) (by_ := 24) (z := .agg #[.int .i64 0, .int .i64 0, .int .i64 0]) (by kernel_rfl) (by kernel_rfl) ⟨by decide, rfl⟩ (o := ⟨[], 26, 3, 1⟩) (by simp) (by simp) ⟨rfl, rfl⟩ rfl (by omega) (hsrc _) ?_
        intro m5 id5 hg5
        have hp5 : m4 <+: m5 := hg5.pre m4 ⟨_, rfl⟩ (by simp)
        have hol5' := prefix_get hp5 hol
        have hnw : IntKind.i64.wrap (nd - 1) = nd - 1 := wrapI (by omega) (by omega)
        have f1 : (0 : Int) ≤ (k : Int) + 1 := by omega
        have f2 : k + 1 ≤ N := by omega
        have f3 : (0 : Int) ≤ (w : Int) + 1 := by omega
        have f4 : w + 1 ≤ ws.length := by omega
        obtain ⟨x, hx⟩ : ∃ x, x = (avail xs.length g)[k] := ⟨_, rfl⟩
        obtain ⟨g', hg'⟩ : ∃ g', g' = g.set x true := ⟨_, rfl⟩
        have hav : (avail xs.length g).take k ++ (avail xs.length g).drop (k + 1) = avail xs.length g' := by rw [hg', hx]; exact avail_erase hlg hka
        have hrow' : (rowsOf xs g).take k ++ (rowsOf xs g).drop (k + 1) = rowsOf xs g' := by unfold rowsOf; rw [← hav, List.map_append, List.map_take, List.map_drop]
        have hat' : (atsOf xs.length g).take k ++ (atsOf xs.length g).drop (k + 1) = atsOf xs.length g' := by unfold atsOf; rw [← hav, List.map_append, List.map_take, List.map_drop]
        have hN' : (avail xs.length g').length + 1 = N := by rw [← hav]; simp; omega
        have hrl' : (rowsOf xs g').length + 1 = N := by rw [rowsOf_length]; exact hN'
        have hql : qPick xs ws sl g w nd x = decide ((restL xs ws sl g' (w + 1) : Int) = nd - 1) := by rw [qPick, hx, hf, hg', hx]; simp
        have hM : ∀ (m6 : Mem) (j N1 W1 : Nat) (A : Option Addr), (rowsOf xs g').length = N1 → (ws.drop (w + 1)).length = W1 → RdG v3 3 m6 (some ⟨j, 0, none⟩) (rowsOf xs g') → j < m6.length → RdI m6 A (ws.drop (w + 1)) → (∀ x, A = some x → x.block < m6.length) →
            ∃ v m', ACalls Try.prog 51 [.slice (some ⟨j, 0, none⟩) N1 N1, .slice A W1 W1, .int .i64 sl] m6 v m' ∧ v = .int .i64 (restL xs ws sl g' (w + 1)) ∧ m6 <+: m' := fun m6 j N1 W1 A e1 e2 h1 h2 h3 h4 => by
          have := l22Most_c (rowsOf xs g') (ws.drop (w + 1)) sl (some ⟨j, 0, none⟩) A m6 h1 h3 (by omega) (by simp; omega) (fun x h => by injection h with h; subst h; exact h2) h4
          simp only [MostPost2, rest_spec] at this
          rwa [e1, e2] at this
        have hat : (atsOf xs.length g).length = N := by simp [atsOf, hN]
        have hca : ∀ o : AObj, o.cells = (atsOf xs.length g).map (Value.int .i64) → o.cells[k]? = some (.int .i64 (x : Int)) := fun o ho => by rw [ho, hx]; simp [atsOf, hka]
        have hx0 : ¬ ((x : Int) < 0) := by omega
        have hx1 : (0 : Int) ≤ (x : Int) := by omega
        have hwlt : wid < m4.length := lt_of_get hwm
        simp -dsimp -implicitDefEqProofs [s0, s1, s2, s10, s11, s12, s13, s15, s16, s17, s18, hlk, hlt, withO_of hol5', hol2, hol3, hll, hwk, hww, f1, f2]
        by_cases hkn : k + 1 < N
        · refine ⟨fun _ => ?_, fun hj => absurd (by omega) hj⟩
          have hL5 := ((hL.pre (hp4.trans hp5)).rd.drop (k := k + 1) (by omega))
          refine appTo_grow (e := 26) (sz := 3) (by_ := 24) (z := .agg #[.int .i64 0, .int .i64 0, .int .i64 0]) (by kernel_rfl) (by kernel_rfl) ⟨by decide, rfl⟩ (o := ⟨((((rowsOf xs g).take k).map v3).flatten), 26, 3, 2⟩) (by have := hg5.new; simpa using this) (by simp) ⟨rfl, rfl⟩ (by rw [flatten_length (sz := 3) (by intro r hr; obtain ⟨x, _, rfl⟩ := List.mem_map.1 hr; rfl), List.length_map, htl]) (by omega) (by have := Src.rd hL5; rwa [List.length_drop, hrl, Nat.zero_add] at this) ?_
          intro m6 id6 hg6
          have hp6 : m5 <+: m6 ∨ True := .inr trivial
          have hid5 : m4.length ≤ id5 := by rw [hg5.at_]; simp
          have hq6 : m4 <+: m6 := hg6.pre m4 hp5 hid5
          have hL6 : LidsAt m6 id6 (rowsOf xs g') := ⟨_, hg6.new, by simp, by simp, rfl, rfl, by rw [← hrow', List.map_append, List.flatten_append]⟩
          have hs6 : RdI m6 (some ⟨wid, woff, none⟩) ws := by rw [hwe] at hs4; obtain ⟨l, rfl⟩ := hq6; exact hs4.ext l
          have hwm6 := prefix_get hq6 hwm
          have hl46 := hq6.length_le
          simp -dsimp -implicitDefEqProofs [s0, s1, s2, s10, s11, s12, s13, s15, s16, s17, s18, hlk, hlt, hwk, hww, f3, f4, hwe, withO_of hwm6, hwk2, hws]
          by_cases hwn : w + 1 < ws.length
          · refine ⟨fun _ => ?_, fun hj => absurd (by omega) hj⟩
            have hD := hs6.drop (k := w + 1) (by omega)
            refine callsToE Try.cal51 (hM m6 id6 (k + (N - (k + 1))) (ws.length - (w + 1)) (some ⟨wid, woff + (w + 1), none⟩) (by omega) (by have := List.length_drop (i := w + 1) (l := ws); omega) hL6.rd hL6.lt hD (fun x h => by injection h with h; subst h; simp only; omega)) ?_
            rintro _ m7 ⟨rfl, hp7⟩
            have hA7 := hA.pre (hp4.trans (hq6.trans hp7))
            have hO7 := hO.pre (hp4.trans (hq6.trans hp7))
            have hL7 := hL6.pre hp7
            obtain ⟨oa, hoa, hoa1, hoa2, hoa3, hoa4, hoa5⟩ := id hA7
            have hoal : oa.cells.length = N := by rw [hoa5, List.length_map, hat]
            simp -dsimp -implicitDefEqProofs [s0, s1, s2, s10, s11, s12, s13, s15, s16, s17, s18, hlk, hlt, hnw, hwk, hww, withO_of hoa, hoa2, hoa3, hoal, withC_of (hca _ hoa5)]
            refine sp2 (fun g1 => ?_) (fun g1 => ?_)
            · have hq : qPick xs ws sl g w nd ((avail xs.length g)[k]) = true := by rw [← hx, hql]; simpa using g1
              have hstep := pick_some2 (xs := xs) (ws := ws) (sl := sl) (w := w) (k := k) hg hnd hka (fun j hj hjN => hno j hj (by omega)) hq
              rw [← hx, ← hg'] at hstep
              have hown := ownL_c ((atsOf xs.length g).take k) (some ⟨ia, 0, none⟩) m7 (hA7.rd.take k) (by simp; omega)
              rw [show ((atsOf xs.length g).take k).length = k by simp; omega] at hown
              refine need_intro (by omega) ?_
              refine callsTo Try.cal53 hown ?_
              obtain ⟨m8, hm8⟩ : ∃ m8, m8 = m7 ++ [(⟨((atsOf xs.length g).take k).map (Value.int .i64), 2, 1, 2⟩ : AObj)] := ⟨_, rfl⟩
              rw [← hm8]
              have hp8 : m7 <+: m8 := by rw [hm8]; exact ⟨_, rfl⟩
              have ho8 : m8[m7.length]? = some ⟨((atsOf xs.length g).take k).map (Value.int .i64), 2, 1, 2⟩ := by rw [hm8]; simp
              have hA8 := hA7.pre hp8
              have hoa8 := prefix_get hp8 hoa
              simp -dsimp -implicitDefEqProofs [s0, s1, s2, s10, s11, s12, s13, s15, s16, s17, s18, hlk, hlt, hnw, hwk, hww, withO_of hoa8, hoa2, hoa3, hoal, withC_of (hca _ hoa5), f1, f2, hx0, hx1]
              refine ⟨fun _ => ?_, fun hj => absurd (by omega) hj⟩
              refine appTo_grow (e := 2) (sz := 1) (by_ := 8) (z := .int .i64 0) (by kernel_rfl) (by kernel_rfl) ⟨by decide, rfl⟩ (o := ⟨((atsOf xs.length g).take k).map (Value.int .i64), 2, 1, 2⟩) ho8 (by simp) ⟨rfl, rfl⟩ (by simp <;> omega) (by omega) (by have := Src.rdI (hA8.rd.drop (k := k + 1) (by omega)); rwa [List.length_drop, hat, Nat.zero_add] at this) ?_
              intro m9 id9 hg9
              have hp9 : m8 <+: m9 ∨ True := .inr trivial
              have hid7 : m7.length ≠ io := by have := hO7.lt; omega
              have hO9 := (hO7.pre hp8).grown hg9 (Ne.symm hid7)
              have hL9 := (hL7.pre hp8).grown hg9 (by have := hL7.lt; omega)
              have hA9 : IntsAt m9 id9 (atsOf xs.length g') := ⟨_, hg9.new, by simp, by simp, rfl, rfl, by rw [← hat', List.map_append]⟩
              have hb9 : m <+: m9 := hg9.pre m (hp.trans (hp4.trans (hq6.trans (hp7.trans hp8)))) (by have := hp.length_le; have := hp4.length_le; have := hp7.length_le; omega)
              obtain ⟨oo, hoo, hoo1, hoo2, hoo3, hoo4, hoo5⟩ := id hO9
              simp -dsimp -implicitDefEqProofs [s0, s1, s2, s10, s11, s12, s13, s15, s16, s17, s18, hlk, hlt, hnw, hwk, hww, f1, f2, hx0, hx1]
              refine appTo_grow (e := 2) (sz := 1) (by_ := 8) (z := .int .i64 0) (by kernel_rfl) (by kernel_rfl) ⟨by decide, rfl⟩ (o := oo) (get_old hoo) ⟨hoo1, hoo2⟩ ⟨hoo3, hoo4⟩ (by rw [hoo5]; simp [hlo]) (by omega) (Src.obj (o := ⟨[.int .i64 (x : Int)], 2, 1, 1⟩) (by simp) (by simp) rfl rfl) ?_
              intro mZ idZ hgZ
              have hid9 : m9.length ≤ idZ := by rw [hgZ.at_]; simp
              have hneed : needL xs ws sl (lidW xs ws sl (w + 1)).1 = nd - 1 := by rw [hstep, hnd]; unfold needL; rw [hasN_snoc, if_pos hx1]; omega
              have hlio := hO9.lt
              have hnA : id9 ≠ io := by rw [hg9.at_]; have := hO7.lt; have := hp8.length_le; omega
              have hnL : id6 ≠ io := by rw [hg6.at_]; have := (hO.pre (hp4.trans hp5)).lt; omega
              simp -dsimp -implicitDefEqProofs [s0, s1, s2, s10, s11, s12, s13, s15, s16, s17, s18, hlk, hlt, hnw, hwk, hww, f1, f2, hx0, hx1]
              exact next_ hlt ⟨idZ, id6, id9, ⟨hgZ.pre m (pre_app hb9 _) (by omega), by have := hb9.length_le; omega, by have := hL9.lt; omega, by have := hA9.lt; omega⟩, ⟨by rw [hstep]; exact ⟨_, hgZ.new, by simp, by simp, rfl, rfl, by simp [hoo5]⟩, by rw [hstep]; exact (hL9.pre ⟨_, rfl⟩).grown hgZ hnL, by rw [hstep]; exact (hA9.pre ⟨_, rfl⟩).grown hgZ hnA⟩, by simp [s0, s1, s2, s10], by rw [hstep]; simp; omega, by rw [hneed]; simp [hnw], by simp [hww]⟩
            · have hq : qPick xs ws sl g w nd ((avail xs.length g)[k]) = false := by rw [← hx, hql]; simpa using g1
              exact next_ hlk ⟨⟨hp4.trans (hq6.trans hp7), fun j hj hjN => by
                by_cases e : j = k
                · subst e; exact hq
                · exact hno j (by omega) hjN⟩, by simp [s0, s1, s2, s10], by simp [s11, s12, s13], by simp [s15, s16], by simp [s17], by simp [hwk]⟩
          · refine ⟨fun hj => absurd hj (by omega), fun _ => ?_⟩
            have hD : RdI m6 (some ⟨0, 0, some 0⟩) (ws.drop (w + 1)) := by rw [List.drop_eq_nil_of_le (by omega)]; exact RdI.nil _ _
            refine callsToE Try.cal51 (hM m6 id6 (k + (N - (k + 1))) (0) (some ⟨0, 0, some 0⟩) (by omega) (by have := List.length_drop (i := w + 1) (l := ws); omega) hL6.rd hL6.lt hD (fun x h => by injection h with h; subst h; simp only; omega)) ?_
            rintro _ m7 ⟨rfl, hp7⟩
            have hA7 := hA.pre (hp4.trans (hq6.trans hp7))
            have hO7 := hO.pre (hp4.trans (hq6.trans hp7))
            have hL7 := hL6.pre hp7
            obtain ⟨oa, hoa, hoa1, hoa2, hoa3, hoa4, hoa5⟩ := id hA7
            have hoal : oa.cells.length = N := by rw [hoa5, List.length_map, hat]
            simp -dsimp -implicitDefEqProofs [s0, s1, s2, s10, s11, s12, s13, s15, s16, s17, s18, hlk, hlt, hnw, hwk, hww, withO_of hoa, hoa2, hoa3, hoal, withC_of (hca _ hoa5)]
            refine sp2 (fun g1 => ?_) (fun g1 => ?_)
            · have hq : qPick xs ws sl g w nd ((avail xs.length g)[k]) = true := by rw [← hx, hql]; simpa using g1
              have hstep := pick_some2 (xs := xs) (ws := ws) (sl := sl) (w := w) (k := k) hg hnd hka (fun j hj hjN => hno j hj (by omega)) hq
              rw [← hx, ← hg'] at hstep
              have hown := ownL_c ((atsOf xs.length g).take k) (some ⟨ia, 0, none⟩) m7 (hA7.rd.take k) (by simp; omega)
              rw [show ((atsOf xs.length g).take k).length = k by simp; omega] at hown
              refine need_intro (by omega) ?_
              refine callsTo Try.cal53 hown ?_
              obtain ⟨m8, hm8⟩ : ∃ m8, m8 = m7 ++ [(⟨((atsOf xs.length g).take k).map (Value.int .i64), 2, 1, 2⟩ : AObj)] := ⟨_, rfl⟩
              rw [← hm8]
              have hp8 : m7 <+: m8 := by rw [hm8]; exact ⟨_, rfl⟩
              have ho8 : m8[m7.length]? = some ⟨((atsOf xs.length g).take k).map (Value.int .i64), 2, 1, 2⟩ := by rw [hm8]; simp
              have hA8 := hA7.pre hp8
              have hoa8 := prefix_get hp8 hoa
              simp -dsimp -implicitDefEqProofs [s0, s1, s2, s10, s11, s12, s13, s15, s16, s17, s18, hlk, hlt, hnw, hwk, hww, withO_of hoa8, hoa2, hoa3, hoal, withC_of (hca _ hoa5), f1, f2, hx0, hx1]
              refine ⟨fun _ => ?_, fun hj => absurd (by omega) hj⟩
              refine appTo_grow (e := 2) (sz := 1) (by_ := 8) (z := .int .i64 0) (by kernel_rfl) (by kernel_rfl) ⟨by decide, rfl⟩ (o := ⟨((atsOf xs.length g).take k).map (Value.int .i64), 2, 1, 2⟩) ho8 (by simp) ⟨rfl, rfl⟩ (by simp <;> omega) (by omega) (by have := Src.rdI (hA8.rd.drop (k := k + 1) (by omega)); rwa [List.length_drop, hat, Nat.zero_add] at this) ?_
              intro m9 id9 hg9
              have hp9 : m8 <+: m9 ∨ True := .inr trivial
              have hid7 : m7.length ≠ io := by have := hO7.lt; omega
              have hO9 := (hO7.pre hp8).grown hg9 (Ne.symm hid7)
              have hL9 := (hL7.pre hp8).grown hg9 (by have := hL7.lt; omega)
              have hA9 : IntsAt m9 id9 (atsOf xs.length g') := ⟨_, hg9.new, by simp, by simp, rfl, rfl, by rw [← hat', List.map_append]⟩
              have hb9 : m <+: m9 := hg9.pre m (hp.trans (hp4.trans (hq6.trans (hp7.trans hp8)))) (by have := hp.length_le; have := hp4.length_le; have := hp7.length_le; omega)
              obtain ⟨oo, hoo, hoo1, hoo2, hoo3, hoo4, hoo5⟩ := id hO9
              simp -dsimp -implicitDefEqProofs [s0, s1, s2, s10, s11, s12, s13, s15, s16, s17, s18, hlk, hlt, hnw, hwk, hww, f1, f2, hx0, hx1]
              refine appTo_grow (e := 2) (sz := 1) (by_ := 8) (z := .int .i64 0) (by kernel_rfl) (by kernel_rfl) ⟨by decide, rfl⟩ (o := oo) (get_old hoo) ⟨hoo1, hoo2⟩ ⟨hoo3, hoo4⟩ (by rw [hoo5]; simp [hlo]) (by omega) (Src.obj (o := ⟨[.int .i64 (x : Int)], 2, 1, 1⟩) (by simp) (by simp) rfl rfl) ?_
              intro mZ idZ hgZ
              have hid9 : m9.length ≤ idZ := by rw [hgZ.at_]; simp
              have hneed : needL xs ws sl (lidW xs ws sl (w + 1)).1 = nd - 1 := by rw [hstep, hnd]; unfold needL; rw [hasN_snoc, if_pos hx1]; omega
              have hlio := hO9.lt
              have hnA : id9 ≠ io := by rw [hg9.at_]; have := hO7.lt; have := hp8.length_le; omega
              have hnL : id6 ≠ io := by rw [hg6.at_]; have := (hO.pre (hp4.trans hp5)).lt; omega
              simp -dsimp -implicitDefEqProofs [s0, s1, s2, s10, s11, s12, s13, s15, s16, s17, s18, hlk, hlt, hnw, hwk, hww, f1, f2, hx0, hx1]
              exact next_ hlt ⟨idZ, id6, id9, ⟨hgZ.pre m (pre_app hb9 _) (by omega), by have := hb9.length_le; omega, by have := hL9.lt; omega, by have := hA9.lt; omega⟩, ⟨by rw [hstep]; exact ⟨_, hgZ.new, by simp, by simp, rfl, rfl, by simp [hoo5]⟩, by rw [hstep]; exact (hL9.pre ⟨_, rfl⟩).grown hgZ hnL, by rw [hstep]; exact (hA9.pre ⟨_, rfl⟩).grown hgZ hnA⟩, by simp [s0, s1, s2, s10], by rw [hstep]; simp; omega, by rw [hneed]; simp [hnw], by simp [hww]⟩
            · have hq : qPick xs ws sl g w nd ((avail xs.length g)[k]) = false := by rw [← hx, hql]; simpa using g1
              exact next_ hlk ⟨⟨hp4.trans (hq6.trans hp7), fun j hj hjN => by
                by_cases e : j = k
                · subst e; exact hq
                · exact hno j (by omega) hjN⟩, by simp [s0, s1, s2, s10], by simp [s11, s12, s13], by simp [s15, s16], by simp [s17], by simp [hwk]⟩
        · refine ⟨fun hj => absurd hj (by omega), fun _ => ?_⟩
          refine appTo_grow (e := 26) (sz := 3) (by_ := 24) (z := .agg #[.int .i64 0, .int .i64 0, .int .i64 0]) (by kernel_rfl) (by kernel_rfl) ⟨by decide, rfl⟩ (o := ⟨((((rowsOf xs g).take k).map v3).flatten), 26, 3, 2⟩) (by have := hg5.new; simpa using this) (by simp) ⟨rfl, rfl⟩ (by rw [flatten_length (sz := 3) (by intro r hr; obtain ⟨x, _, rfl⟩ := List.mem_map.1 hr; rfl), List.length_map, htl]) (by omega) (Src.rd (rows := []) (Rd.nil _ _ _)) ?_
          intro m6 id6 hg6
          have hp6 : m5 <+: m6 ∨ True := .inr trivial
          have hid5 : m4.length ≤ id5 := by rw [hg5.at_]; simp
          have hq6 : m4 <+: m6 := hg6.pre m4 hp5 hid5
          have hL6 : LidsAt m6 id6 (rowsOf xs g') := ⟨_, hg6.new, by simp, by simp, rfl, rfl, by rw [← hrow', List.map_append, List.flatten_append, List.drop_eq_nil_of_le (show (rowsOf xs g).length ≤ k + 1 by omega)]; simp⟩
          have hs6 : RdI m6 (some ⟨wid, woff, none⟩) ws := by rw [hwe] at hs4; obtain ⟨l, rfl⟩ := hq6; exact hs4.ext l
          have hwm6 := prefix_get hq6 hwm
          have hl46 := hq6.length_le
          simp -dsimp -implicitDefEqProofs [s0, s1, s2, s10, s11, s12, s13, s15, s16, s17, s18, hlk, hlt, hwk, hww, f3, f4, hwe, withO_of hwm6, hwk2, hws]
          by_cases hwn : w + 1 < ws.length
          · refine ⟨fun _ => ?_, fun hj => absurd (by omega) hj⟩
            have hD := hs6.drop (k := w + 1) (by omega)
            refine callsToE Try.cal51 (hM m6 id6 (k) (ws.length - (w + 1)) (some ⟨wid, woff + (w + 1), none⟩) (by omega) (by have := List.length_drop (i := w + 1) (l := ws); omega) hL6.rd hL6.lt hD (fun x h => by injection h with h; subst h; simp only; omega)) ?_
            rintro _ m7 ⟨rfl, hp7⟩
            have hA7 := hA.pre (hp4.trans (hq6.trans hp7))
            have hO7 := hO.pre (hp4.trans (hq6.trans hp7))
            have hL7 := hL6.pre hp7
            obtain ⟨oa, hoa, hoa1, hoa2, hoa3, hoa4, hoa5⟩ := id hA7
            have hoal : oa.cells.length = N := by rw [hoa5, List.length_map, hat]
            simp -dsimp -implicitDefEqProofs [s0, s1, s2, s10, s11, s12, s13, s15, s16, s17, s18, hlk, hlt, hnw, hwk, hww, withO_of hoa, hoa2, hoa3, hoal, withC_of (hca _ hoa5)]
            refine sp2 (fun g1 => ?_) (fun g1 => ?_)
            · have hq : qPick xs ws sl g w nd ((avail xs.length g)[k]) = true := by rw [← hx, hql]; simpa using g1
              have hstep := pick_some2 (xs := xs) (ws := ws) (sl := sl) (w := w) (k := k) hg hnd hka (fun j hj hjN => hno j hj (by omega)) hq
              rw [← hx, ← hg'] at hstep
              have hown := ownL_c ((atsOf xs.length g).take k) (some ⟨ia, 0, none⟩) m7 (hA7.rd.take k) (by simp; omega)
              rw [show ((atsOf xs.length g).take k).length = k by simp; omega] at hown
              refine need_intro (by omega) ?_
              refine callsTo Try.cal53 hown ?_
              obtain ⟨m8, hm8⟩ : ∃ m8, m8 = m7 ++ [(⟨((atsOf xs.length g).take k).map (Value.int .i64), 2, 1, 2⟩ : AObj)] := ⟨_, rfl⟩
              rw [← hm8]
              have hp8 : m7 <+: m8 := by rw [hm8]; exact ⟨_, rfl⟩
              have ho8 : m8[m7.length]? = some ⟨((atsOf xs.length g).take k).map (Value.int .i64), 2, 1, 2⟩ := by rw [hm8]; simp
              have hA8 := hA7.pre hp8
              have hoa8 := prefix_get hp8 hoa
              simp -dsimp -implicitDefEqProofs [s0, s1, s2, s10, s11, s12, s13, s15, s16, s17, s18, hlk, hlt, hnw, hwk, hww, withO_of hoa8, hoa2, hoa3, hoal, withC_of (hca _ hoa5), f1, f2, hx0, hx1]
              refine ⟨fun hj => absurd hj (by omega), fun _ => ?_⟩
              refine appTo_grow (e := 2) (sz := 1) (by_ := 8) (z := .int .i64 0) (by kernel_rfl) (by kernel_rfl) ⟨by decide, rfl⟩ (o := ⟨((atsOf xs.length g).take k).map (Value.int .i64), 2, 1, 2⟩) ho8 (by simp) ⟨rfl, rfl⟩ (by simp <;> omega) (by omega) (Src.rdI (xs := []) (RdI.nil _ _)) ?_
              intro m9 id9 hg9
              have hp9 : m8 <+: m9 ∨ True := .inr trivial
              have hid7 : m7.length ≠ io := by have := hO7.lt; omega
              have hO9 := (hO7.pre hp8).grown hg9 (Ne.symm hid7)
              have hL9 := (hL7.pre hp8).grown hg9 (by have := hL7.lt; omega)
              have hA9 : IntsAt m9 id9 (atsOf xs.length g') := ⟨_, hg9.new, by simp, by simp, rfl, rfl, by rw [← hat', List.map_append, List.drop_eq_nil_of_le (show (atsOf xs.length g).length ≤ k + 1 by omega)]⟩
              have hb9 : m <+: m9 := hg9.pre m (hp.trans (hp4.trans (hq6.trans (hp7.trans hp8)))) (by have := hp.length_le; have := hp4.length_le; have := hp7.length_le; omega)
              obtain ⟨oo, hoo, hoo1, hoo2, hoo3, hoo4, hoo5⟩ := id hO9
              simp -dsimp -implicitDefEqProofs [s0, s1, s2, s10, s11, s12, s13, s15, s16, s17, s18, hlk, hlt, hnw, hwk, hww, f1, f2, hx0, hx1]
              refine appTo_grow (e := 2) (sz := 1) (by_ := 8) (z := .int .i64 0) (by kernel_rfl) (by kernel_rfl) ⟨by decide, rfl⟩ (o := oo) (get_old hoo) ⟨hoo1, hoo2⟩ ⟨hoo3, hoo4⟩ (by rw [hoo5]; simp [hlo]) (by omega) (Src.obj (o := ⟨[.int .i64 (x : Int)], 2, 1, 1⟩) (by simp) (by simp) rfl rfl) ?_
              intro mZ idZ hgZ
              have hid9 : m9.length ≤ idZ := by rw [hgZ.at_]; simp
              have hneed : needL xs ws sl (lidW xs ws sl (w + 1)).1 = nd - 1 := by rw [hstep, hnd]; unfold needL; rw [hasN_snoc, if_pos hx1]; omega
              have hlio := hO9.lt
              have hnA : id9 ≠ io := by rw [hg9.at_]; have := hO7.lt; have := hp8.length_le; omega
              have hnL : id6 ≠ io := by rw [hg6.at_]; have := (hO.pre (hp4.trans hp5)).lt; omega
              simp -dsimp -implicitDefEqProofs [s0, s1, s2, s10, s11, s12, s13, s15, s16, s17, s18, hlk, hlt, hnw, hwk, hww, f1, f2, hx0, hx1]
              exact next_ hlt ⟨idZ, id6, id9, ⟨hgZ.pre m (pre_app hb9 _) (by omega), by have := hb9.length_le; omega, by have := hL9.lt; omega, by have := hA9.lt; omega⟩, ⟨by rw [hstep]; exact ⟨_, hgZ.new, by simp, by simp, rfl, rfl, by simp [hoo5]⟩, by rw [hstep]; exact (hL9.pre ⟨_, rfl⟩).grown hgZ hnL, by rw [hstep]; exact (hA9.pre ⟨_, rfl⟩).grown hgZ hnA⟩, by simp [s0, s1, s2, s10], by rw [hstep]; simp; omega, by rw [hneed]; simp [hnw], by simp [hww]⟩
            · have hq : qPick xs ws sl g w nd ((avail xs.length g)[k]) = false := by rw [← hx, hql]; simpa using g1
              exact next_ hlk ⟨⟨hp4.trans (hq6.trans hp7), fun j hj hjN => by
                by_cases e : j = k
                · subst e; exact hq
                · exact hno j (by omega) hjN⟩, by simp [s0, s1, s2, s10], by simp [s11, s12, s13], by simp [s15, s16], by simp [s17], by simp [hwk]⟩
          · refine ⟨fun hj => absurd hj (by omega), fun _ => ?_⟩
            have hD : RdI m6 (some ⟨0, 0, some 0⟩) (ws.drop (w + 1)) := by rw [List.drop_eq_nil_of_le (by omega)]; exact RdI.nil _ _
            refine callsToE Try.cal51 (hM m6 id6 (k) (0) (some ⟨0, 0, some 0⟩) (by omega) (by have := List.length_drop (i := w + 1) (l := ws); omega) hL6.rd hL6.lt hD (fun x h => by injection h with h; subst h; simp only; omega)) ?_
            rintro _ m7 ⟨rfl, hp7⟩
            have hA7 := hA.pre (hp4.trans (hq6.trans hp7))
            have hO7 := hO.pre (hp4.trans (hq6.trans hp7))
            have hL7 := hL6.pre hp7
            obtain ⟨oa, hoa, hoa1, hoa2, hoa3, hoa4, hoa5⟩ := id hA7
            have hoal : oa.cells.length = N := by rw [hoa5, List.length_map, hat]
            simp -dsimp -implicitDefEqProofs [s0, s1, s2, s10, s11, s12, s13, s15, s16, s17, s18, hlk, hlt, hnw, hwk, hww, withO_of hoa, hoa2, hoa3, hoal, withC_of (hca _ hoa5)]
            refine sp2 (fun g1 => ?_) (fun g1 => ?_)
            · have hq : qPick xs ws sl g w nd ((avail xs.length g)[k]) = true := by rw [← hx, hql]; simpa using g1
              have hstep := pick_some2 (xs := xs) (ws := ws) (sl := sl) (w := w) (k := k) hg hnd hka (fun j hj hjN => hno j hj (by omega)) hq
              rw [← hx, ← hg'] at hstep
              have hown := ownL_c ((atsOf xs.length g).take k) (some ⟨ia, 0, none⟩) m7 (hA7.rd.take k) (by simp; omega)
              rw [show ((atsOf xs.length g).take k).length = k by simp; omega] at hown
              refine need_intro (by omega) ?_
              refine callsTo Try.cal53 hown ?_
              obtain ⟨m8, hm8⟩ : ∃ m8, m8 = m7 ++ [(⟨((atsOf xs.length g).take k).map (Value.int .i64), 2, 1, 2⟩ : AObj)] := ⟨_, rfl⟩
              rw [← hm8]
              have hp8 : m7 <+: m8 := by rw [hm8]; exact ⟨_, rfl⟩
              have ho8 : m8[m7.length]? = some ⟨((atsOf xs.length g).take k).map (Value.int .i64), 2, 1, 2⟩ := by rw [hm8]; simp
              have hA8 := hA7.pre hp8
              have hoa8 := prefix_get hp8 hoa
              simp -dsimp -implicitDefEqProofs [s0, s1, s2, s10, s11, s12, s13, s15, s16, s17, s18, hlk, hlt, hnw, hwk, hww, withO_of hoa8, hoa2, hoa3, hoal, withC_of (hca _ hoa5), f1, f2, hx0, hx1]
              refine ⟨fun hj => absurd hj (by omega), fun _ => ?_⟩
              refine appTo_grow (e := 2) (sz := 1) (by_ := 8) (z := .int .i64 0) (by kernel_rfl) (by kernel_rfl) ⟨by decide, rfl⟩ (o := ⟨((atsOf xs.length g).take k).map (Value.int .i64), 2, 1, 2⟩) ho8 (by simp) ⟨rfl, rfl⟩ (by simp <;> omega) (by omega) (Src.rdI (xs := []) (RdI.nil _ _)) ?_
              intro m9 id9 hg9
              have hp9 : m8 <+: m9 ∨ True := .inr trivial
              have hid7 : m7.length ≠ io := by have := hO7.lt; omega
              have hO9 := (hO7.pre hp8).grown hg9 (Ne.symm hid7)
              have hL9 := (hL7.pre hp8).grown hg9 (by have := hL7.lt; omega)
              have hA9 : IntsAt m9 id9 (atsOf xs.length g') := ⟨_, hg9.new, by simp, by simp, rfl, rfl, by rw [← hat', List.map_append, List.drop_eq_nil_of_le (show (atsOf xs.length g).length ≤ k + 1 by omega)]⟩
              have hb9 : m <+: m9 := hg9.pre m (hp.trans (hp4.trans (hq6.trans (hp7.trans hp8)))) (by have := hp.length_le; have := hp4.length_le; have := hp7.length_le; omega)
              obtain ⟨oo, hoo, hoo1, hoo2, hoo3, hoo4, hoo5⟩ := id hO9
              simp -dsimp -implicitDefEqProofs [s0, s1, s2, s10, s11, s12, s13, s15, s16, s17, s18, hlk, hlt, hnw, hwk, hww, f1, f2, hx0, hx1]
              refine appTo_grow (e := 2) (sz := 1) (by_ := 8) (z := .int .i64 0) (by kernel_rfl) (by kernel_rfl) ⟨by decide, rfl⟩ (o := oo) (get_old hoo) ⟨hoo1, hoo2⟩ ⟨hoo3, hoo4⟩ (by rw [hoo5]; simp [hlo]) (by omega) (Src.obj (o := ⟨[.int .i64 (x : Int)], 2, 1, 1⟩) (by simp) (by simp) rfl rfl) ?_
              intro mZ idZ hgZ
              have hid9 : m9.length ≤ idZ := by rw [hgZ.at_]; simp
              have hneed : needL xs ws sl (lidW xs ws sl (w + 1)).1 = nd - 1 := by rw [hstep, hnd]; unfold needL; rw [hasN_snoc, if_pos hx1]; omega
              have hlio := hO9.lt
              have hnA : id9 ≠ io := by rw [hg9.at_]; have := hO7.lt; have := hp8.length_le; omega
              have hnL : id6 ≠ io := by rw [hg6.at_]; have := (hO.pre (hp4.trans hp5)).lt; omega
              simp -dsimp -implicitDefEqProofs [s0, s1, s2, s10, s11, s12, s13, s15, s16, s17, s18, hlk, hlt, hnw, hwk, hww, f1, f2, hx0, hx1]
              exact next_ hlt ⟨idZ, id6, id9, ⟨hgZ.pre m (pre_app hb9 _) (by omega), by have := hb9.length_le; omega, by have := hL9.lt; omega, by have := hA9.lt; omega⟩, ⟨by rw [hstep]; exact ⟨_, hgZ.new, by simp, by simp, rfl, rfl, by simp [hoo5]⟩, by rw [hstep]; exact (hL9.pre ⟨_, rfl⟩).grown hgZ hnL, by rw [hstep]; exact (hA9.pre ⟨_, rfl⟩).grown hgZ hnA⟩, by simp [s0, s1, s2, s10], by rw [hstep]; simp; omega, by rw [hneed]; simp [hnw], by simp [hww]⟩
            · have hq : qPick xs ws sl g w nd ((avail xs.length g)[k]) = false := by rw [← hx, hql]; simpa using g1
              exact next_ hlk ⟨⟨hp4.trans (hq6.trans hp7), fun j hj hjN => by
                by_cases e : j = k
                · subst e; exact hq
                · exact hno j (by omega) hjN⟩, by simp [s0, s1, s2, s10], by simp [s11, s12, s13], by simp [s15, s16], by simp [s17], by simp [hwk]⟩
    obtain rfl : k = N := by omega
    have hstep := pick_none2 (xs := xs) (ws := ws) (sl := sl) (w := w) hg hnd (fun j hj => hno j (by omega) (by omega))
    obtain ⟨oo, hoo, hoo1, hoo2, hoo3, hoo4, hoo5⟩ := hO.pre hp4
    have hL4 := hL.pre hp4
    have hA4 := hA.pre hp4
    have hb4 := hp.trans hp4
    simp -dsimp -implicitDefEqProofs [s0, s1, s2, s10, s11, s12, s13, s15, s16, s17, s18, hlt, hww]
    refine appTo_grow (e := 2) (sz := 1) (by_ := 8) (z := .int .i64 0) (by kernel_rfl) (by kernel_rfl) ⟨by decide, rfl⟩ (o := oo) (get_old hoo) ⟨hoo1, hoo2⟩ ⟨hoo3, hoo4⟩ (by rw [hoo5]; simp [hlo]) (by omega) (Src.obj (o := ⟨[.int .i64 (-1)], 2, 1, 1⟩) (by simp) (by simp) rfl rfl) ?_
    intro mZ idZ hgZ
    have hid9 : m4.length ≤ idZ := by rw [hgZ.at_]; simp
    have hneed : needL xs ws sl (lidW xs ws sl (w + 1)).1 = nd := by rw [hstep, hnd]; unfold needL; rw [hasN_snoc, if_neg (by omega)]; rfl
    simp -dsimp -implicitDefEqProofs [s0, s1, s2, s10, s11, s12, s13, s15, s16, s17, s18, hlt, hww]
    exact next_ hlt ⟨idZ, il, ia, ⟨hgZ.pre m (pre_app hb4 _) (by omega), by have := hb4.length_le; omega, by have := hL4.lt; omega, by have := hA4.lt; omega⟩, ⟨by rw [hstep]; exact ⟨_, hgZ.new, by simp, by simp, rfl, rfl, by simp [hoo5]⟩, by rw [hstep]; exact (hL4.pre ⟨_, rfl⟩).grown hgZ (Ne.symm hne1), by rw [hstep]; exact (hA4.pre ⟨_, rfl⟩).grown hgZ (Ne.symm hne2)⟩, by simp [s0, s1, s2, s10], by rw [hstep]; simp [s12, s13, hN], by rw [hneed]; simp [s15], by simp [hww]⟩
  obtain rfl : w = ws.length := by omega
  obtain ⟨oo, hoo, hoo1, hoo2, hoo3, hoo4, hoo5⟩ := hO
  simp -dsimp -implicitDefEqProofs [s0, s1, s2, s10, s11, s12, s13, s15, s16]
  simp only [lidsO, lidsI, g, if_true, optV, optM, hlo]
  exact GC.keepTP (Fits.refl m) hp hoo hio hoo3.symm hoo4.symm (by simp; omega) hoo5.symm (by rw [hoo5]; exact ints_lit _) rfl
end Go.Proofs.Ythadhfogmfcacaa
