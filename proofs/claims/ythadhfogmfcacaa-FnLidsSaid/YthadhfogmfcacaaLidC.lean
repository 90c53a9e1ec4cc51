/-
  Lids, part 3: the lids that fit on no width. Conditions: none.
-/
import Derived.Test.YthadhfogmfcacaaLidB
set_option linter.unusedSimpArgs false
set_option linter.unusedVariables false
set_option linter.unusedSectionVars false
namespace Go.Proofs.Ythadhfogmfcacaa
open Go.Abs Go.RowKit

def codeL (xs : List I3) (ws : List Int) (s : Int) : Int := if lidsB xs then (if decide (ws.length ≤ 12) && ws.all (inB · 1 2000) && inB s 0 100 then 0 else 2) else 1
theorem l22Code_c (xs : List I3) (ws : List Int) (a b : Option Addr) (s : Int) (m : Mem) (hr : RdG v3 3 m a xs) (hs : RdI m b ws) (hn : xs.length ≤ 1048576) (hn' : ws.length ≤ 1048576) :
    ACalls Try.prog 50 [.slice a xs.length xs.length, .slice b ws.length ws.length, .int .i64 s] m (.int .i64 (codeL xs ws s)) m := by
  refine acalls_of_vc Try.func50 rfl Try.fol (by kernel_rfl) ?_
  simp only [Try.f50]
  simp -dsimp -implicitDefEqProofs
  refine callsTo Try.cal48 (l22Ok_c xs a _ hr hn) ?_
  simp -dsimp -implicitDefEqProofs
  refine ⟨fun g => GC.eq (by simp at g; simp [codeL, g]), fun g0 => ?_⟩
  simp at g0
  refine loopN ws.length (fun k σ m' => m' = m ∧ (σ 1 = some (.slice b ws.length ws.length) ∧ σ 2 = some (.int .i64 s) ∧ σ 7 = some (.int .i64 k)) ∧ (ws.take k).all (inB · 1 2000) = true) ⟨rfl, by simp, by simp⟩ ?_
  rintro k σ m' hk ⟨rfl, ⟨s1, s2, s7⟩, hok⟩
  by_cases hlt : k < ws.length
  · obtain ⟨id, off, o, rfl, hm, hkd, hsz, hc⟩ := hs.at_ hlt
    have hw : IntKind.i64.wrap ((k : Int) + 1) = k + 1 := wrapI (by omega) (by omega)
    simp -dsimp -implicitDefEqProofs [s1, s2, s7, hlt, withO_of hm, hkd, hsz, withC_of hc, hw]
    refine callsTo Try.cal40 (l22Width_c _ _) ?_
    simp -dsimp -implicitDefEqProofs [s1, s2, s7, hlt, withO_of hm, hkd, hsz, withC_of hc, hw]
    refine ⟨fun g => GC.eq ?_, fun g => next_ hlt ⟨rfl, by simp [s1, s2, hw], all_take_succ hlt hok (by simpa using g)⟩⟩
    have : ws.all (inB · 1 2000) = false := all_false_of hlt (by simpa using g)
    simp only [codeL, g0, this]; simp
  · simp -dsimp -implicitDefEqProofs [s1, s2, s7, hlt]
    rw [List.take_of_length_le (by omega)] at hok
    refine ⟨fun g => GC.eq ?_, fun g => ?_⟩
    · simp at g
      simp [codeL, g0, show ¬ ws.length ≤ 12 by omega]
    · simp at g
      refine callsTo Try.cal41 (l22Loose_c _ _) ?_
      simp -dsimp -implicitDefEqProofs [s1, s2, s7, hlt]
      refine ⟨fun g' => GC.eq ?_, fun g' => GC.eq ?_⟩ <;> simp at g' <;> simp only [codeL, g0, hok, g'] <;> simp <;> omega

/-- Whether a lid fits on some width, and the lids of the first k that fit on none. -/
def fitsAny (p : I3) (ws : List Int) (s : Int) : Bool := ws.any fun w => inB (slk p w) 0 s
def leftTo (xs : List I3) (ws : List Int) (s : Int) (k : Nat) : List Int := ((List.range k).filter fun i => !fitsAny (xs.getD i (0, 0, 0)) ws s).map fun (i : Nat) => (i : Int)
def leftO (xs : List I3) (ws : List Int) (s : Int) : Option (List Int) := if codeL xs ws s = 0 then some (leftTo xs ws s xs.length) else none
theorem leftTo_succ {xs : List I3} {ws : List Int} {s : Int} {k : Nat} (h : k < xs.length) : leftTo xs ws s (k + 1) = if fitsAny xs[k] ws s then leftTo xs ws s k else leftTo xs ws s k ++ [(k : Int)] := by
  unfold leftTo
  rw [List.range_succ, List.filter_append, List.map_append]
  cases hf : fitsAny xs[k] ws s <;> simp [List.getElem?_eq_getElem h, hf]
theorem leftTo_length (xs : List I3) (ws : List Int) (s : Int) (k : Nat) : (leftTo xs ws s k).length ≤ k := by
  unfold leftTo
  rw [List.length_map]
  exact Nat.le_trans (List.length_filter_le _ _) (by simp)
theorem any_take_succ {α : Type} {p : α → Bool} {xs : List α} {k : Nat} (h : k < xs.length) : (xs.take (k + 1)).any p = ((xs.take k).any p || p xs[k]) := by
  rw [List.take_add_one, List.getElem?_eq_getElem h, List.any_append]; simp

theorem specLeft_c (xs : List I3) (ws : List Int) (a b : Option Addr) (s : Int) (m : Mem) (hr : RdG v3 3 m a xs) (hs : RdI m b ws) (hn : xs.length ≤ 1048576) (hn' : ws.length ≤ 1048576) :
    ACalls Try.prog 23 [.slice a xs.length xs.length, .slice b ws.length ws.length, .int .i64 s] m (.tuple #[optV m.length (leftO xs ws s), .int .i64 (codeL xs ws s)]) (m ++ optM 2 (leftO xs ws s)) := by
  refine acalls_of_vc Try.func23 rfl Try.fol (by kernel_rfl) ?_
  simp only [Try.f23]
  simp -dsimp -implicitDefEqProofs
  refine callsTo Try.cal50 (l22Code_c xs ws a b s _ hr hs hn hn') ?_
  simp -dsimp -implicitDefEqProofs
  refine ⟨fun g => ?_, fun g0 => ?_⟩
  · simp at g
    simp [leftO, g, optV, optM]
    exact GC.refl _ _ _
  simp at g0
  refine loopN xs.length (fun k σ m' => ∃ id ob, m <+: m' ∧ m.length ≤ id ∧ m'[id]? = some ob ∧ (ob.cells = (leftTo xs ws s k).map (Value.int .i64) ∧ ob.elem = 2 ∧ ob.sz = 1 ∧ 1 ≤ ob.kind ∧ ob.kind ≤ 2) ∧
      σ 0 = some (.slice a xs.length xs.length) ∧ σ 1 = some (.slice b ws.length ws.length) ∧ σ 2 = some (.int .i64 s) ∧ σ 9 = some (.slice (some ⟨id, 0, none⟩) (leftTo xs ws s k).length (leftTo xs ws s k).length) ∧ σ 10 = some (.int .i64 k))
    ⟨m.length, ⟨[], 2, 1, 1⟩, pre_app (pre_refl m) _, Nat.le_refl _, by simp, by simp [leftTo], by simp [leftTo]⟩ ?_
  rintro k σ m' hk ⟨id, ob, hp, hid, hob, ⟨ob1, ob2, ob3, ob4, ob5⟩, s0, s1, s2, s9, s10⟩
  by_cases hlt : k < xs.length
  · have hw : IntKind.i64.wrap ((k : Int) + 1) = k + 1 := wrapI (by omega) (by omega)
    simp -dsimp -implicitDefEqProofs [s0, s1, s2, s9, s10, hlt]
    refine loopN ws.length (fun i σ1 m1 => m1 = m' ∧ σ1 0 = some (.slice a xs.length xs.length) ∧ σ1 1 = some (.slice b ws.length ws.length) ∧ σ1 2 = some (.int .i64 s) ∧ σ1 9 = some (.slice (some ⟨id, 0, none⟩) (leftTo xs ws s k).length (leftTo xs ws s k).length) ∧ σ1 10 = some (.int .i64 k) ∧
      σ1 11 = some (.bool (fitsAny xs[k] (ws.take i) s)) ∧ σ1 12 = some (.int .i64 i)) ⟨rfl, by simp [s0, s1, s2, s9, s10, fitsAny]⟩ ?_
    rintro i σ1 m1 hi ⟨rfl, t0, t1, t2, t9, t10, t11, t12⟩
    by_cases hli : i < ws.length
    · obtain ⟨idx, offx, ox, rfl, hm, hkd, hsz, hl, hrow, _⟩ := R3.at_ hr hlt
      obtain ⟨idw, offw, ow, rfl, hmw, hkdw, hszw, hcw⟩ := hs.at_ hli
      have hm' := prefix_get hp hm
      have hmw' := prefix_get hp hmw
      have hwi : IntKind.i64.wrap ((i : Int) + 1) = i + 1 := wrapI (by omega) (by omega)
      cases hf : fitsAny xs[k] (ws.take i) s with
      | true =>
        simp -dsimp -implicitDefEqProofs [t0, t1, t2, t9, t10, t11, t12, hli, hlt, hf, hwi]
        refine next_ hli ⟨rfl, by simp [t0, t1, t2, t9, t10, hwi, fitsAny, any_take_succ hli]; left; simpa [fitsAny] using hf⟩
      | false =>
        simp -dsimp -implicitDefEqProofs [t0, t1, t2, t9, t10, t11, t12, hli, hlt, hf, hwi, withO_of hm', hkd, hsz, withO_of hmw', hkdw, hszw, withC_of hcw]
        refine callsTo Try.cal42 (l22Fits_c xs[k] ws[i] s _ _ _ ((IsP.row hr hlt).ext hp)) ?_
        simp -dsimp -implicitDefEqProofs [t0, t1, t2, t9, t10, t11, t12, hli, hlt, hf, hwi, withO_of hm', hkd, hsz, withO_of hmw', hkdw, hszw, withC_of hcw]
        refine next_ hli ⟨rfl, by simp [t0, t1, t2, t9, t10, hwi, fitsAny, any_take_succ hli]; intro x hx hx'; have : fitsAny xs[k] (ws.take i) s = true := List.any_eq_true.2 ⟨x, hx, hx'⟩; rw [hf] at this; cases this⟩
    · obtain rfl : i = ws.length := by omega
      rw [List.take_length] at t11
      simp -dsimp -implicitDefEqProofs [t0, t1, t2, t9, t10, t11, t12, hli, hlt, hw]
      cases hf : fitsAny xs[k] ws s with
      | true =>
        simp -dsimp -implicitDefEqProofs [t0, t1, t2, t9, t10, t11, t12, hli, hlt, hw]
        exact next_ hlt ⟨id, ob, hp, hid, hob, by rw [leftTo_succ hlt, if_pos hf]; exact ⟨ob1, ob2, ob3, ob4, ob5⟩, by simp [t0, t1, t2, t9, t10, leftTo_succ hlt, hf, hw]⟩
      | false =>
        have hlen := leftTo_length xs ws s k
        simp -dsimp -implicitDefEqProofs [t0, t1, t2, t9, t10, t11, t12, hli, hlt, hw]
        refine appTo_grow Try.sl41 Try.inf2 ⟨by decide, rfl⟩ (o := ob) (get_old hob) ⟨ob4, ob5⟩ ⟨ob3, ob2⟩ (by rw [ob1]; simp) ⟨by omega, by omega⟩ (Src.obj (o := ⟨[.int .i64 k], _, 1, 1⟩) (by simp; rfl) (by simp) rfl rfl) ?_
        intro m2 id2 hg
        simp -dsimp -implicitDefEqProofs [t0, t1, t2, t9, t10, t11, t12, hli, hlt, hw]
        refine next_ hlt ⟨id2, _, hg.pre m (pre_app hp _) hid, by rw [hg.at_]; simp; have := hp.length_le; omega, hg.new, ?_, ?_⟩
        · rw [leftTo_succ hlt]; simp [hf, ob1]
        · simp [t0, t1, t2, t10, leftTo_succ hlt, hf, hw]
  · simp -dsimp -implicitDefEqProofs [s0, s1, s2, s9, s10, hlt]
    obtain rfl : k = xs.length := by omega
    simp only [leftO, g0, if_true, optV, optM]
    exact GC.keepTP (Fits.refl m) hp hob hid ob3.symm ob2.symm (by simp; omega) ob1.symm (by rw [ob1]; exact ints_lit _) rfl
theorem codeL_parts {xs : List I3} {ws : List Int} {s : Int} (h : codeL xs ws s = 0) : lidsB xs = true ∧ ws.length ≤ 12 := by
  unfold codeL at h
  split at h
  · split at h
    · rename_i h1 h2
      simp at h2
      exact ⟨h1, h2.1.1⟩
    · omega
  · omega
theorem implLeft_c (xs : List I3) (ws : List Int) (a b : Option Addr) (s : Int) (m : Mem) (hr : RdG v3 3 m a xs) (hs : RdI m b ws) (hn : xs.length ≤ 1048576) (hn' : ws.length ≤ 1048576) :
    ACalls Try.prog 25 [.slice a xs.length xs.length, .slice b ws.length ws.length, .int .i64 s] m (.tuple #[optV m.length (leftO xs ws s), .int .i64 (codeL xs ws s)]) (m ++ optM 2 (leftO xs ws s)) := by
  refine acalls_of_vc Try.func25 rfl Try.fol (by kernel_rfl) ?_
  simp only [Try.f25]
  simp -dsimp -implicitDefEqProofs
  refine callsTo Try.cal19 (validLids_c xs a _ hr hn) ?_
  simp -dsimp -implicitDefEqProofs
  refine ⟨fun g => ?_, fun g0 => ?_⟩
  · simp at g
    simp [leftO, codeL, g, optV, optM]
    exact GC.refl _ _ _
  simp at g0
  refine callsTo Try.cal44 (areWidths_c ws b s _ hs (Nat.le_trans hn' (by decide))) ?_
  simp -dsimp -implicitDefEqProofs
  refine ⟨fun g => ?_, fun g1 => ?_⟩
  · have : codeL xs ws s = 2 := by
      simp only [codeL, g0, if_true]
      rw [if_neg]
      intro h
      simp only [Bool.and_eq_true, decide_eq_true_eq, List.all_eq_true] at h
      simp at g
      rcases g with (g | ⟨x, hx, g⟩) | g
      · omega
      · rw [h.1.2 x hx] at g; cases g
      · rw [h.2] at g; cases g
    simp [leftO, this, optV, optM]
    exact GC.refl _ _ _
  have g0 : codeL xs ws s = 0 := by
    simp only [codeL, g0, if_true]
    rw [if_pos]
    simpa using g1
  refine loopN xs.length (fun k σ m' => ∃ id ob, m <+: m' ∧ m.length ≤ id ∧ m'[id]? = some ob ∧ (ob.cells = (leftTo xs ws s k).map (Value.int .i64) ∧ ob.elem = 2 ∧ ob.sz = 1 ∧ 1 ≤ ob.kind ∧ ob.kind ≤ 2) ∧
      σ 1 = some (.slice b ws.length ws.length) ∧ σ 2 = some (.int .i64 s) ∧ σ 22 = some (.slice a xs.length xs.length) ∧ σ 23 = some (.int .i64 xs.length) ∧ σ 8 = some (.slice (some ⟨id, 0, none⟩) (leftTo xs ws s k).length (leftTo xs ws s k).length) ∧ σ 24 = some (.int .i64 k))
    ⟨m.length, ⟨[], 2, 1, 1⟩, pre_app (pre_refl m) _, Nat.le_refl _, by simp, by simp [leftTo], by simp [leftTo]⟩ ?_
  rintro k σ m' hk ⟨id, ob, hp, hid, hob, ⟨ob1, ob2, ob3, ob4, ob5⟩, s1, s2, s22, s23, s8, s24⟩
  by_cases hlt : k < xs.length
  · have hw : IntKind.i64.wrap ((k : Int) + 1) = k + 1 := wrapI (by omega) (by omega)
    obtain ⟨idx, offx, ox, rfl, hm, hkd, hsz, hl, hrow, _⟩ := R3.at_ hr hlt
    have hm' := prefix_get hp hm
    simp -dsimp -implicitDefEqProofs [s1, s2, s22, s23, s8, s24, hlt, withO_of hm', fun l => withO_of (get_old (l := l) hm'), hkd, hsz, hl, hrow, v3]
    refine loopN ws.length (fun i σ1 m1 => m1 = m' ++ [⟨v3 xs[k], 26, 3, 1⟩] ∧ σ1 1 = some (.slice b ws.length ws.length) ∧ σ1 2 = some (.int .i64 s) ∧ σ1 22 = some (.slice (some ⟨idx, offx, none⟩) xs.length xs.length) ∧ σ1 23 = some (.int .i64 xs.length) ∧
      σ1 8 = some (.slice (some ⟨id, 0, none⟩) (leftTo xs ws s k).length (leftTo xs ws s k).length) ∧ σ1 24 = some (.int .i64 k) ∧ σ1 9 = some (.int .i64 k) ∧ σ1 10 = some (.pointer (some ⟨m'.length, 0, none⟩)) ∧
      σ1 11 = some (.bool (fitsAny xs[k] (ws.take i) s)) ∧ σ1 29 = some (.slice b ws.length ws.length) ∧ σ1 30 = some (.int .i64 ws.length) ∧ σ1 31 = some (.int .i64 i)) ⟨rfl, by simp [s1, s2, s22, s23, s8, s24, fitsAny]⟩ ?_
    rintro i σ1 m1 hi ⟨rfl, t1, t2, t22, t23, t8, t24, t9, t10, t11, t29, t30, t31⟩
    by_cases hli : i < ws.length
    · obtain ⟨idw, offw, ow, rfl, hmw, hkdw, hszw, hcw⟩ := hs.at_ hli
      have hmw' := prefix_get hp hmw
      have hwi : IntKind.i64.wrap ((i : Int) + 1) = i + 1 := wrapI (by omega) (by omega)
      cases hf : fitsAny xs[k] (ws.take i) s with
      | true =>
        simp -dsimp -implicitDefEqProofs [t1, t2, t22, t23, t8, t24, t9, t10, t11, t29, t30, t31, hli, hlt, hwi, fun l => withO_of (get_old (l := l) hmw'), hkdw, hszw, withC_of hcw, v3, hf]
        refine next_ hli ⟨rfl, by simp [t1, t2, t22, t23, t8, t24, t9, t10, t29, t30, hwi, fitsAny, any_take_succ hli]; left; simpa [fitsAny] using hf⟩
      | false =>
        simp -dsimp -implicitDefEqProofs [t1, t2, t22, t23, t8, t24, t9, t10, t11, t29, t30, t31, hli, hlt, hwi, fun l => withO_of (get_old (l := l) hmw'), hkdw, hszw, withC_of hcw, v3, hf]
        refine callsTo Try.cal45 (lidFits_c xs[k] ws[i] s _) ?_
        simp -dsimp -implicitDefEqProofs [t1, t2, t22, t23, t8, t24, t9, t10, t11, t29, t30, t31, hli, hlt, hwi, fun l => withO_of (get_old (l := l) hmw'), hkdw, hszw, withC_of hcw, v3, hf]
        refine next_ hli ⟨rfl, by simp [t1, t2, t22, t23, t8, t24, t9, t10, t29, t30, hwi, fitsAny, any_take_succ hli]; intro x hx hx'; have : fitsAny xs[k] (ws.take i) s = true := List.any_eq_true.2 ⟨x, hx, hx'⟩; rw [hf] at this; cases this⟩
    · obtain rfl : i = ws.length := by omega
      rw [List.take_length] at t11
      simp -dsimp -implicitDefEqProofs [t1, t2, t22, t23, t8, t24, t9, t10, t11, t29, t30, t31, hli, hlt, hw]
      cases hf : fitsAny xs[k] ws s with
      | true =>
        simp -dsimp -implicitDefEqProofs [t1, t2, t22, t23, t8, t24, t9, t10, t11, t29, t30, t31, hli, hlt, hw]
        exact next_ hlt ⟨id, ob, pre_app hp _, hid, get_old hob, by rw [leftTo_succ hlt, if_pos hf]; exact ⟨ob1, ob2, ob3, ob4, ob5⟩, by simp [t1, t2, t22, t23, t8, leftTo_succ hlt, hf, hw]⟩
      | false =>
        have hlen := leftTo_length xs ws s k
        simp -dsimp -implicitDefEqProofs [t1, t2, t22, t23, t8, t24, t9, t10, t11, t29, t30, t31, hli, hlt, hw]
        refine appTo_grow Try.sl41 Try.inf2 ⟨by decide, rfl⟩ (o := ob) (get_old hob) ⟨ob4, ob5⟩ ⟨ob3, ob2⟩ (by rw [ob1]; simp) ⟨by omega, by omega⟩ (Src.obj (o := ⟨[.int .i64 k], _, 1, 1⟩) (by simp; rfl) (by simp) rfl rfl) ?_
        intro m2 id2 hg
        simp -dsimp -implicitDefEqProofs [t1, t2, t22, t23, t8, t24, t9, t10, t11, t29, t30, t31, hli, hlt, hw]
        refine next_ hlt ⟨id2, _, hg.pre m (pre_app hp _) hid, by rw [hg.at_]; simp; have := hp.length_le; omega, hg.new, ?_, ?_⟩
        · rw [leftTo_succ hlt]; simp [hf, ob1]
        · simp [t1, t2, t22, t23, leftTo_succ hlt, hf, hw]
  · simp -dsimp -implicitDefEqProofs [s1, s2, s22, s23, s8, s24, hlt]
    obtain rfl : k = xs.length := by omega
    simp only [leftO, g0, if_true, optV, optM]
    exact GC.keepTP (Fits.refl m) hp hob hid ob3.symm ob2.symm (by simp; omega) ob1.symm (by rw [ob1]; exact ints_lit _) rfl
theorem leftO_length {xs : List I3} {ws zs : List Int} {s : Int} (h : leftO xs ws s = some zs) : zs.length ≤ xs.length := by
  unfold leftO at h
  split at h
  · injection h with h; subst h; exact leftTo_length _ _ _ _
  · cases h
end Go.Proofs.Ythadhfogmfcacaa
