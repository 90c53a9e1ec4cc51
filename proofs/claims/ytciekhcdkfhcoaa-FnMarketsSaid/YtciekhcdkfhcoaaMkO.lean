/-
  Markets, part 15: drawn markets and stocks. Conditions: none.
-/
import Derived.Test.YtciekhcdkfhcoaaMkN
set_option linter.unusedSimpArgs false
set_option linter.unusedVariables false
set_option linter.unusedSectionVars false
namespace Go.Proofs.Ytciekhcdkfhcoaa
open Go.Abs Go.RowKit

theorem restOf {is : Nat} {S : List Nat} {m m' : Mem} (h : But is m m') (hi : is ∈ S) : RestS S m m' := ⟨h.len, fun i o h1 h2 => h.get i o (fun e => h1 (e ▸ hi)) h2⟩
theorem butRest {is id : Nat} {m m1 m' : Mem} (h : But is m m1) (hr : RestS [is, id] m1 m') (hid : m.length ≤ id) : But is m m' :=
  ⟨by have := h.len; have := hr.len; omega, fun i o h1 h2 => hr.get i o (by have := lt_of_get h2; simp; omega) (h.get i o h1 h2)⟩
theorem IntsAt.but {is : Nat} {m m' : Mem} {id : Nat} {l : List Int} (h : IntsAt m id l) (hb : But is m m') (hne : id ≠ is) : IntsAt m' id l := h.rest (restOf (S := [is]) hb (by simp)) (by simpa using hne)
theorem MAt.but {B lo is : Nat} {m m' : Mem} {im : Nat} {o : AObj} {ss ps : List Nat} {n : Nat} (h : MAt B lo m im o ss ps n) (hb : But is m m') (hl : is < lo) : MAt B lo m' im o ss ps n := by
  have := h.lo_
  exact h.rest (restOf (S := [is]) hb (by simp)) (by simp; omega) (fun i hi => by have := (h.los i hi).1; simp; omega)
theorem MAt.mono {B B' lo : Nat} {m : Mem} {im : Nat} {o : AObj} {ss ps : List Nat} {n : Nat} (h : MAt B lo m im o ss ps n) (hB : B ≤ B') : MAt B' lo m im o ss ps n :=
  ⟨h.o_at, h.k1, h.k2, h.sz, h.el, h.clen, h.ls, h.lp, h.nd, h.lo_, h.los, fun i h1 h2 => by
    obtain ⟨d, st, a, b, q1, q2, q3, q4, q5, q6, q7, q8, q9, q10⟩ := h.row i h1 h2
    exact ⟨d, st, a, b, q1, q2, q3, q4, q5, q6, q7, by omega, q9, by omega⟩⟩
def NewInts (is : Nat) (a : Option Addr) (code : List Int) (k : Int) (n : Nat) (m : Mem) (v : Value) (m' : Mem) : Prop :=
  ∃ l id, l.length = n ∧ v = .slice (some ⟨id, 0, none⟩) n n ∧ But is m m' ∧ SrcA is a code k m' ∧ m.length ≤ id ∧ IntsAt m' id l
theorem l21New_c (is : Nat) (a : Option Addr) (code : List Int) (k : Int) (hk : k < 800000000) (kinds most : Int) (hkn : kinds ≤ 9) (m : Mem) (h : SrcA is a code k m) :
    ∃ v m', ACalls Try.prog 85 [.pointer (some ⟨is, 0, none⟩), .int .i64 kinds, .int .i64 most] m v m' ∧ NewInts is a code (k + 18) kinds.toNat m v m' := by
  have his : is < m.length := lt_of_get h.obj.choose_spec.choose_spec.1
  refine ecalls_of_vc Try.func85 rfl Try.fol (by kernel_rfl) ?_
  simp only [Try.f85]
  simp -dsimp -implicitDefEqProofs
  refine loopN kinds.toNat (fun j σ m' => ∃ l id, (l.length = j ∧ But is m m' ∧ SrcA is a code (k + 2 * j) m' ∧ m.length ≤ id ∧ IntsAt m' id l) ∧ σ 0 = some (.pointer (some ⟨is, 0, none⟩)) ∧ σ 1 = some (.int .i64 kinds) ∧ σ 2 = some (.int .i64 most) ∧ σ 7 = some (.slice (some ⟨id, 0, none⟩) j j) ∧ σ 8 = some (.int .i64 j))
    ⟨[], m.length, ⟨rfl, But.app _ _ _, (h.app _).mono (by omega), Nat.le_refl _, ⟨⟨[], 2, 1, 1⟩, by simp, by simp, by simp, rfl, rfl, rfl⟩⟩, by simp, by simp, by simp, by simp, by simp⟩ ?_
  rintro j σ m' hj ⟨l, id, ⟨rfl, hbut, hsrc, hid, hL⟩, s0, s1, s2, s7, s8⟩
  by_cases hlt : l.length < kinds.toNat
  · have g1 : (l.length : Int) < kinds := by omega
    have hwj : IntKind.i64.wrap ((l.length : Int) + 1) = l.length + 1 := wrapI (by omega) (by omega)
    obtain ⟨v4, m4, hc4, x4, rfl, hx4, hb4, hs4, hl4⟩ := pick_c is a code (k + 2 * l.length) most (by omega) m' hsrc
    obtain ⟨o, ho, ho1, ho2, ho3, ho4, ho5⟩ := hL
    have ho' := hb4.get _ _ (show id ≠ is by omega) ho
    simp -dsimp -implicitDefEqProofs [s0, s1, s2, s7, s8, g1, hwj]
    refine callsTo Try.cal83 hc4 ?_
    simp -dsimp -implicitDefEqProofs [s0, s1, s2, s7, s8, g1, hwj]
    refine appTo_grow (e := 2) (sz := 1) (by_ := 8) (z := .int .i64 0) (by kernel_rfl) (by kernel_rfl) ⟨by decide, rfl⟩ (o := o) (get_old ho') ⟨ho1, ho2⟩ ⟨ho3, ho4⟩ (by rw [ho5]; simp) (by omega) (Src.obj (o := ⟨[.int .i64 x4], 2, 1, 1⟩) (by simp) (by simp) rfl rfl) ?_
    intro m5 id5 hg
    have hb5 : But id (m4 ++ [⟨[.int .i64 x4], 2, 1, 1⟩]) m5 := ⟨by have := hg.len; omega, fun i o' h1 h2 => hg.old i o' h1 h2⟩
    have hbb := hbut.trans hb4
    simp -dsimp -implicitDefEqProofs [s0, s1, s2, s7, s8, g1, hwj]
    refine next_ hlt ⟨l ++ [x4], id5, ⟨by simp, ⟨by have := hb5.len; have := hbb.len; simp at *; omega, fun i o' h1 h2 => hb5.get _ _ (by have := lt_of_get h2; omega) (get_old (hbb.get i o' h1 h2))⟩, ((hs4.app _).keep hb5 (by omega) (fun h0 x hx => by have := hsrc.off h0 x hx; omega)).mono (by simp; omega), by rw [hg.at_]; simp; have := hbb.len; omega, ⟨_, hg.new, by simp, by simp, rfl, rfl, by simp [ho5]⟩⟩, by simp [s0], by simp [s1], by simp [s2], by simp, by simp [hwj]⟩
  · have g1 : ¬ (l.length : Int) < kinds := by omega
    simp -dsimp -implicitDefEqProofs [s0, s1, s2, s7, s8, g1]
    have hle : l.length = kinds.toNat := by omega
    exact ⟨_, _, GC.refl _ _ _, l, id, hle, by rw [hle], hbut, hsrc.mono (by omega), hid, hL⟩
def DrawnM (is : Nat) (a : Option Addr) (code : List Int) (k : Int) (m : Mem) (v : Value) (m' : Mem) : Prop :=
  ∃ kinds n im o ss ps, v = .tuple #[.int .i64 kinds, .slice (some ⟨im, 0, none⟩) n n] ∧ n ≤ 12 ∧ But is m m' ∧ SrcA is a code k m' ∧ MAt 4 m.length m' im o ss ps n
set_option maxRecDepth 20000 in
set_option maxHeartbeats 1600000 in
theorem l21Draw_c (is : Nat) (a : Option Addr) (code : List Int) (k : Int) (hk : k < 600000000) (m : Mem) (h : SrcA is a code k m) :
    ∃ v m', ACalls Try.prog 70 [.pointer (some ⟨is, 0, none⟩)] m v m' ∧ DrawnM is a code (k + 2000) m v m' := by
  have his : is < m.length := lt_of_get h.obj.choose_spec.choose_spec.1
  obtain ⟨v1, m1, hc1, x1, rfl, hx1, hb1, hs1, hl1⟩ := pick_c is a code k 3 (by omega) m h
  obtain ⟨v2, m2, hc2, x2, rfl, hx2, hb2, hs2, hl2⟩ := pick_c is a code (k + 2) 20 (by omega) (m1 ++ [⟨[], 35, 4, 1⟩]) (hs1.app _)
  obtain ⟨v3', m3, hc3, x3, rfl, hx3, hb3, hs3, hl3⟩ := pick_c is a code (k + 2 + 2) 6 (by omega) m2 hs2
  obtain ⟨v4, m4, hc4, b4, rfl, hb4, hs4, hl4⟩ := one_c is a code (k + 2 + 2 + 2) 24 (by omega) m3 hs3
  obtain ⟨v5, m5, hc5, x5, rfl, hx5, hb5, hs5, hl5⟩ := pick_c is a code (k + 2 + 2 + 2 + 2) 2 (by omega) m4 hs4
  simp at hx1 hx2 hx3 hx5 hl2
  obtain ⟨kd, hkd⟩ : ∃ kd, kd = 1 + x1 := ⟨_, rfl⟩
  have hw1 : IntKind.i64.wrap (1 + x1) = kd := by rw [wrapI (by omega) (by omega), hkd]
  have hw5 : IntKind.i64.wrap (10 + x5) = 10 + x5 := wrapI (by omega) (by omega)
  have hkb : 1 ≤ kd ∧ kd ≤ 3 := by omega
  refine ecalls_of_vcF [23, 25] Try.func70 rfl Try.fol (by kernel_rfl) ?_
  simp only [Try.f70]
  simp -dsimp -implicitDefEqProofs [hw1]
  refine callsTo Try.cal83 hc1 ?_
  simp -dsimp -implicitDefEqProofs [hw1]
  refine callsTo Try.cal83 hc2 ?_
  simp -dsimp -implicitDefEqProofs [hw1]
  refine callsTo Try.cal83 hc3 ?_
  simp -dsimp -implicitDefEqProofs [hw1]
  refine callsTo Try.cal84 hc4 ?_
  simp -dsimp -implicitDefEqProofs [hw1]
  have hbm3 : But is m m3 := ((hb1.trans (But.app is m1 _)).trans hb2).trans hb3
  have hbm4 := hbm3.trans hb4
  have q1 : m2[m1.length]? = some ⟨[], 35, 4, 1⟩ := hb2.get _ _ (by omega) (by simp)
  have hM3 : MAt 3 m.length m3 m1.length ⟨[], 35, 4, 1⟩ [] [] 0 := ⟨hb3.get _ _ (by omega) q1, by simp, by simp, rfl, rfl, rfl, rfl, rfl, by simp, by omega, by simp, fun i h1 => by simp at h1⟩
  have hM4 := hM3.but hb4 his
  refine sp2 (fun g => ?_) (fun g => ?_)
  · refine callsTo Try.cal83 hc5 ?_
    simp -dsimp -implicitDefEqProofs [hw1]
    obtain ⟨n, hn⟩ : ∃ n, n = 10 + x5 := ⟨_, rfl⟩
    rw [hw5, ← hn]
    have hn0 : 0 ≤ n ∧ n ≤ 11 := by omega
    obtain ⟨mX, hmX⟩ : ∃ mX, mX = m5 := ⟨_, rfl⟩
    rw [← hmX]
    have hbX : But is m mX := by rw [hmX]; exact hbm4.trans hb5
    have hsX : SrcA is a code (k + 10) mX := by rw [hmX]; exact hs5.mono (by omega)
    have hMX : MAt 3 m.length mX m1.length ⟨[], 35, 4, 1⟩ [] [] 0 := by rw [hmX]; exact hM4.but hb5 his
    clear hmX hn hw5 hx5 hb5 hs5 hl5 hc5
    refine loopN n.toNat (fun j σ m' => ∃ im o ss ps day, (But is m m' ∧ SrcA is a code (k + 20 + 40 * j) m' ∧ MAt 3 m.length m' im o ss ps j) ∧ σ 0 = some (.pointer (some ⟨is, 0, none⟩)) ∧ σ 4 = some (.int .i64 kd) ∧ σ 5 = some (.slice (some ⟨im, 0, none⟩) j j) ∧ σ 6 = some (.int .i64 day) ∧ σ 7 = some (.int .i64 n) ∧ σ 8 = some (.int .i64 (n - j)))
      ⟨m1.length, _, [], [], x2, ⟨hbX, hsX.mono (by omega), hMX⟩, by simp, by simp, by simp, by simp, by simp, by simp⟩ ?_
    rintro j σ m' hj ⟨im, o, ss, ps, day, ⟨hbut, hsrc, hM⟩, s0, s4, s5, s6, s7, s8⟩
    by_cases hlt : j < n.toNat
    · have g1 : (j : Int) < n := by omega
      have hml := hbut.len
      have hwd : IntKind.i64.wrap (n - (j : Int) - 1) = n - ((j : Int) + 1) := by rw [wrapI (by omega) (by omega)]; omega
      obtain ⟨v6, m6, hc6, x6, rfl, hx6, hb6, hs6, hl6⟩ := pick_c is a code (k + 20 + 40 * j) 40 (by omega) m' hsrc
      obtain ⟨st, hst⟩ : ∃ st, st = IntKind.i64.wrap (10 * x6) := ⟨_, rfl⟩
      obtain ⟨v7, m7, hc7, sl, sid, hsl, rfl, hb7, hs7, hsid, hSI⟩ := l21New_c is a code (k + 20 + 40 * j + 2) (by omega) kd 12 (by omega) (m6 ++ [⟨[.int .i64 day, .int .i64 st, .slice none 0 0, .slice none 0 0], 35, 4, 1⟩]) (hs6.app _)
      simp at hsid
      have t7 : m7[m6.length]? = some ⟨[.int .i64 day, .int .i64 st, .slice none 0 0, .slice none 0 0], 35, 4, 1⟩ := hb7.get _ _ (by omega) (by simp)
      obtain ⟨m8, hm8⟩ : ∃ m8, m8 = m7.set m6.length ⟨[.int .i64 day, .int .i64 st, .slice (some ⟨sid, 0, none⟩) kd.toNat kd.toNat, .slice none 0 0], 35, 4, 1⟩ := ⟨_, rfl⟩
      have hb8 : But m6.length m7 m8 := by rw [hm8]; exact But.set _ _
      have hs8 : SrcA is a code (k + 20 + 40 * j + 20) m8 := (hs7.keep hb8 (by omega) (fun h0 z hz => by have := hsrc.off h0 z hz; omega)).mono (by omega)
      have t8 : m8[m6.length]? = some ⟨[.int .i64 day, .int .i64 st, .slice (some ⟨sid, 0, none⟩) kd.toNat kd.toNat, .slice none 0 0], 35, 4, 1⟩ := by rw [hm8]; exact get_set t7 _
      obtain ⟨v9, m9, hc9, pl, pid, hpl, rfl, hb9, hs9, hpid, hPI⟩ := l21New_c is a code (k + 20 + 40 * j + 20) (by omega) kd 90 (by omega) m8 hs8
      have t9 : m9[m6.length]? = some ⟨[.int .i64 day, .int .i64 st, .slice (some ⟨sid, 0, none⟩) kd.toNat kd.toNat, .slice none 0 0], 35, 4, 1⟩ := hb9.get _ _ (by omega) t8
      obtain ⟨mA, hmA⟩ : ∃ mA, mA = m9.set m6.length ⟨[.int .i64 day, .int .i64 st, .slice (some ⟨sid, 0, none⟩) kd.toNat kd.toNat, .slice (some ⟨pid, 0, none⟩) kd.toNat kd.toNat], 35, 4, 1⟩ := ⟨_, rfl⟩
      have hmade : madeCells #[.int .i64 0, .int .i64 0, .slice none 0 0, .slice none 0 0] 4 = #[.int .i64 0, .int .i64 0, .slice none 0 0, .slice none 0 0] := by
        have := made_rows #[.int .i64 0, .int .i64 0, .slice none 0 0, .slice none 0 0] 1 (by simp)
        exact Array.toList_inj.1 (by simpa using this)
      simp -dsimp -implicitDefEqProofs [s0, s4, s5, s6, s7, s8, g1, hwd, hmade, hst.symm]
      refine callsTo Try.cal83 hc6 ?_
      simp -dsimp -implicitDefEqProofs [s0, s4, s5, s6, s7, s8, g1, hwd, hmade, hst.symm]
      refine callsTo Try.cal85 hc7 ?_
      simp -dsimp -implicitDefEqProofs [s0, s4, s5, s6, s7, s8, g1, hwd, hmade, hst.symm, withO_of t7, hm8.symm]
      refine callsTo Try.cal85 hc9 ?_
      simp -dsimp -implicitDefEqProofs [s0, s4, s5, s6, s7, s8, g1, hwd, hmade, hst.symm, withO_of t9, hmA.symm]
      have hrA : RestS [is, m6.length] m' mA := by
        have r1 : RestS [is, m6.length] m' m6 := restOf hb6 (by simp)
        have r2 : RestS [is, m6.length] m6 m7 := (RestS.app _ _ _).trans (restOf hb7 (by simp))
        have r3 : RestS [is, m6.length] m7 m8 := by rw [hm8]; exact RestS.set _ (by simp) _
        have r4 : RestS [is, m6.length] m8 m9 := restOf hb9 (by simp)
        have r5 : RestS [is, m6.length] m9 mA := by rw [hmA]; exact RestS.set _ (by simp) _
        exact (((r1.trans r2).trans r3).trans r4).trans r5
      have hidl := hM.ids_lt
      have himl := lt_of_get hM.o_at
      have hlo := hM.lo_
      have hMA := hM.rest hrA (by simp; omega) (fun i hi => by have := hidl i hi; have := (hM.los i hi).1; simp; omega)
      have l78 : m8.length = m7.length := by rw [hm8]; simp
      have l67 := hb7.len
      simp at l67
      have l89 := hb9.len
      have l9A : mA.length = m9.length := by rw [hmA]; simp
      have hsl7 := hSI.lt
      have hpl9 := hPI.lt
      have hSA : IntsAt mA sid sl := by
        have r3 : RestS [is, m6.length] m7 m8 := by rw [hm8]; exact RestS.set _ (by simp) _
        have r4 : RestS [is, m6.length] m8 m9 := restOf hb9 (by simp)
        have r5 : RestS [is, m6.length] m9 mA := by rw [hmA]; exact RestS.set _ (by simp) _
        exact hSI.rest ((r3.trans r4).trans r5) (by simp; omega)
      have hPA : IntsAt mA pid pl := hPI.rest (show RestS [m6.length] m9 mA by rw [hmA]; exact RestS.set _ (by simp) _) (by simp; omega)
      have tA : mA[m6.length]? = some ⟨[.int .i64 day, .int .i64 st, .slice (some ⟨sid, 0, none⟩) kd.toNat kd.toNat, .slice (some ⟨pid, 0, none⟩) kd.toNat kd.toNat], 35, 4, 1⟩ := by rw [hmA]; exact get_set t9 _
      have hsA : SrcA is a code (k + 20 + 40 * j + 38) mA := by
        rw [hmA]; exact (hs9.keep (But.set (is := m6.length) m9 _) (by omega) (fun h0 z hz => by have := hsrc.off h0 z hz; omega)).mono (by omega)
      have hbA : But is m mA := butRest hbut hrA (by omega)
      simp -dsimp -implicitDefEqProofs [s0, s4, s5, s6, s7, s8, g1, hwd, hmade, hmA.symm, withO_of tA]
      refine appTo_grow (e := 35) (sz := 4) (by_ := 64) (z := .agg #[.int .i64 0, .int .i64 0, .slice none 0 0, .slice none 0 0]) (by kernel_rfl) (by kernel_rfl) ⟨by decide, rfl⟩ (o := o) (get_old hMA.o_at) ⟨hM.k1, hM.k2⟩ ⟨hM.sz, hM.el⟩ (by rw [hM.clen]) (by omega) (Src.obj (o := ⟨[.int .i64 day, .int .i64 st, .slice (some ⟨sid, 0, none⟩) kd.toNat kd.toNat, .slice (some ⟨pid, 0, none⟩) kd.toNat kd.toNat], 35, 4, 1⟩) (by simp) (by simp) rfl rfl) ?_
      intro mB imB hgB
      have hbB : But im (mA ++ [⟨[.int .i64 day, .int .i64 st, .slice (some ⟨sid, 0, none⟩) kd.toNat kd.toNat, .slice (some ⟨pid, 0, none⟩) kd.toNat kd.toNat], 35, 4, 1⟩]) mB := ⟨by have := hgB.len; omega, fun i o' h1 h2 => hgB.old i o' h1 h2⟩
      have hsB : SrcA is a code (k + 20 + 40 * j + 38) mB := (hsA.app _).keep hbB (by omega) (fun h0 z hz => by have := hsrc.off h0 z hz; omega)
      have hsn : sid ∉ ss ++ ps := fun hi => by have := hidl _ hi; omega
      have hpn : pid ∉ ss ++ ps := fun hi => by have := hidl _ hi; omega
      have hMA2 : MAt 3 m.length (mA ++ [⟨[.int .i64 day, .int .i64 st, .slice (some ⟨sid, 0, none⟩) kd.toNat kd.toNat, .slice (some ⟨pid, 0, none⟩) kd.toNat kd.toNat], 35, 4, 1⟩]) im o ss ps j := hMA.rest (S := []) (RestS.of_pre ⟨_, rfl⟩) (by simp) (by simp)
      have hMB := hMA2.push day st sl pl (hSA.pre ⟨_, rfl⟩) (hPA.pre ⟨_, rfl⟩) (by omega) (by omega) (by omega) (by omega) (by omega) hsn hpn (by omega) (by omega) (by rw [hsl, hpl]; exact hgB)
      obtain ⟨vC, mC, hcC, xC, rfl, hxC, hbC, hsC, hlC⟩ := pick_c is a code (k + 20 + 40 * j + 38) 20 (by omega) mB hsB
      simp -dsimp -implicitDefEqProofs [s0, s4, s5, s6, s7, s8, g1, hwd, hmade, hmA.symm, withO_of tA]
      refine callsTo Try.cal83 hcC ?_
      simp -dsimp -implicitDefEqProofs [s0, s4, s5, s6, s7, s8, g1, hwd, hmade, hmA.symm, withO_of tA]
      refine next_ hlt ⟨imB, _, ss ++ [sid], ps ++ [pid], _, ⟨?_, hsC.mono (by omega), hMB.but hbC his⟩, by simp [s0], by simp [s4], by simp, by simp; rfl, by simp [s7], by simp [hwd]⟩
      refine But.trans ⟨by have := hgB.len; have := hbA.len; simp at *; omega, fun i o' h1 h2 => hgB.old i o' (by have := lt_of_get h2; omega) (get_old (hbA.get i o' h1 h2))⟩ hbC
    · have hjn : j = n.toNat := by omega
      have g1 : ¬ ((j : Int) < n) := by omega
      simp -dsimp -implicitDefEqProofs [s0, s4, s5, s6, s7, s8, g1]
      by_cases hpos : 0 < n
      · obtain ⟨vP, mP, hcP, xP, rfl, hxP, hbP, hsP, hlP⟩ := pick_c is a code (k + 1400) n (by omega) m' (hsrc.mono (by omega))
        obtain ⟨q, rfl⟩ : ∃ q : Nat, xP = q := ⟨xP.toNat, by omega⟩
        have hqn : q < j := by split at hxP <;> omega
        obtain ⟨vR, mR, hcR, xR, rfl, hxR, hbR', hsR, hlR⟩ := pick_c is a code (k + 1402) 24 (by omega) mP (hsP.mono (by omega))
        have hbR := hbP.trans hbR'
        have hMR := hM.but hbR his
        have hMP := hM.but hbP his
        simp -dsimp -implicitDefEqProofs [s0, s4, s5, s6, s7, s8, g1, hpos]
        refine callsTo Try.cal83 hcP ?_
        simp -dsimp -implicitDefEqProofs [s0, s4, s5, s6, s7, s8, g1, hpos, hqn, withO_of hMP.o_at, hM.k2, hM.sz]
        refine callsTo Try.cal83 hcR ?_
        simp -dsimp -implicitDefEqProofs [s0, s4, s5, s6, s7, s8, g1, hpos, hqn, withO_of hMP.o_at, hM.k2, hM.sz]
        refine sp2 (fun w0 => ?_) (fun w0 => sp2 (fun w1 => ?_) (fun w1 => sp2 (fun w2 => ?_) (fun w2 => sp2 (fun w3 => ?_) (fun w3 => sp2 (fun w4 => ?_) (fun w4 => ?_)))))
        ·
          obtain ⟨v2, m2', hc2', x2', rfl, hb2', hs2', hl2'⟩ := amongLit_c is a code (k + 1404) (by omega) [-1, 0, 1000, 1001, -9223372036854775808] 5 rfl mR (hsR.mono (by omega)) (by decide)
          have hM2 := hMR.but hb2' his
          refine callsTo Try.cal86 hc2' ?_
          simp -dsimp -implicitDefEqProofs [s0, s4, s5, s6, s7, s8, g1, hpos, hqn, withO_of hMP.o_at, hM.k2, hM.sz]
          simp -dsimp -implicitDefEqProofs [s0, s4, s5, s6, s7, s8, g1, hpos, hqn, withO_of hMP.o_at, hM.k2, hM.sz, withO_of hM2.o_at, hM.k1, hM.k2, hM.sz, hM.clen]
          refine need_intro (by have := hM.clen; omega) ?_
          obtain ⟨mF, hmF⟩ : ∃ mF, mF = m2'.set im ⟨o.cells.set (q * 4 + 0) (.int .i64 x2'), o.elem, 4, o.kind⟩ := ⟨_, rfl⟩
          have hfold := hmF.symm
          simp only [Nat.add_zero] at hfold
          have hMF : MAt 4 m.length mF im ⟨o.cells.set (q * 4 + 0) (.int .i64 x2'), o.elem, 4, o.kind⟩ ss ps j := by rw [hmF]; exact (hM2.setInt (by omega) x2').mono (by omega)
          have hbF : But is m mF := by rw [hmF]; exact butRest ((hbut.trans hbR).trans hb2') (RestS.set _ (by simp) _) hM.lo_
          have hsF : SrcA is a code (k + 1500) mF := by rw [hmF]; exact (hs2'.keep (But.set (is := im) m2' _) (by have := hM.lo_; omega) (fun h0 z hz => by have := hsrc.off h0 z hz; have := hM.lo_; omega)).mono (by omega)
          simp only [hfold]
          obtain ⟨vG, mG, hcG, bG, rfl, hbG, hsG, hlG⟩ := one_c is a code (k + 1500) 24 (by omega) mF hsF
          refine callsTo Try.cal84 hcG ?_
          simp -dsimp -implicitDefEqProofs [s0, s4, s5, s6, s7, s8, g1]
          refine sp2 (fun gg => ?_) (fun gg => ?_)
          · obtain ⟨vH, mH, hcH, xH, rfl, hbH, hsH, hlH⟩ := amongLit_c is a code (k + 1502) (by omega) [-1, 0, 6, 7] 4 rfl mG (hsG.mono (by omega)) (by decide)
            refine callsTo Try.cal86 hcH ?_
            simp -dsimp -implicitDefEqProofs [s0, s4, s5, s6, s7, s8, g1]
            have hbZ := (hbF.trans hbG).trans hbH
            have hlZ := hbZ.len
            exact ⟨_, _, GC.refl _ _ _, xH, 0, mH.length, _, [], [], rfl, by omega, hbZ.trans (But.app _ _ _), (hsH.app _).mono (by omega), ⟨by simp; rfl, by simp, by simp, rfl, rfl, rfl, rfl, rfl, by simp, by omega, by simp, fun i h1 => by simp at h1⟩⟩
          · exact ⟨_, _, GC.refl _ _ _, kd, j, im, _, _, _, rfl, by omega, hbF.trans hbG, hsG.mono (by omega), hMF.but hbG his⟩
        ·
          obtain ⟨v2, m2', hc2', x2', rfl, hb2', hs2', hl2'⟩ := amongLit_c is a code (k + 1404) (by omega) [-1, 0, 100000, 100001] 4 rfl mR (hsR.mono (by omega)) (by decide)
          have hM2 := hMR.but hb2' his
          refine callsTo Try.cal86 hc2' ?_
          simp -dsimp -implicitDefEqProofs [s0, s4, s5, s6, s7, s8, g1]
          simp -dsimp -implicitDefEqProofs [s0, s4, s5, s6, s7, s8, g1, withO_of hM2.o_at, hM.k1, hM.k2, hM.sz, hM.clen]
          refine need_intro (by have := hM.clen; omega) ?_
          obtain ⟨mF, hmF⟩ : ∃ mF, mF = m2'.set im ⟨o.cells.set (q * 4 + 1) (.int .i64 x2'), o.elem, 4, o.kind⟩ := ⟨_, rfl⟩
          have hfold := hmF.symm
          have _hf := hfold
          have hMF : MAt 4 m.length mF im ⟨o.cells.set (q * 4 + 1) (.int .i64 x2'), o.elem, 4, o.kind⟩ ss ps j := by rw [hmF]; exact (hM2.setInt (by omega) x2').mono (by omega)
          have hbF : But is m mF := by rw [hmF]; exact butRest ((hbut.trans hbR).trans hb2') (RestS.set _ (by simp) _) hM.lo_
          have hsF : SrcA is a code (k + 1500) mF := by rw [hmF]; exact (hs2'.keep (But.set (is := im) m2' _) (by have := hM.lo_; omega) (fun h0 z hz => by have := hsrc.off h0 z hz; have := hM.lo_; omega)).mono (by omega)
          simp only [hfold]
          obtain ⟨vG, mG, hcG, bG, rfl, hbG, hsG, hlG⟩ := one_c is a code (k + 1500) 24 (by omega) mF hsF
          refine callsTo Try.cal84 hcG ?_
          simp -dsimp -implicitDefEqProofs [s0, s4, s5, s6, s7, s8, g1]
          refine sp2 (fun gg => ?_) (fun gg => ?_)
          · obtain ⟨vH, mH, hcH, xH, rfl, hbH, hsH, hlH⟩ := amongLit_c is a code (k + 1502) (by omega) [-1, 0, 6, 7] 4 rfl mG (hsG.mono (by omega)) (by decide)
            refine callsTo Try.cal86 hcH ?_
            simp -dsimp -implicitDefEqProofs [s0, s4, s5, s6, s7, s8, g1]
            have hbZ := (hbF.trans hbG).trans hbH
            have hlZ := hbZ.len
            exact ⟨_, _, GC.refl _ _ _, xH, 0, mH.length, _, [], [], rfl, by omega, hbZ.trans (But.app _ _ _), (hsH.app _).mono (by omega), ⟨by simp; rfl, by simp, by simp, rfl, rfl, rfl, rfl, rfl, by simp, by omega, by simp, fun i h1 => by simp at h1⟩⟩
          · exact ⟨_, _, GC.refl _ _ _, kd, j, im, _, _, _, rfl, by omega, hbF.trans hbG, hsG.mono (by omega), hMF.but hbG his⟩
        ·
          obtain ⟨v2, m2', hc2', x2', rfl, hb2', hs2', hl2'⟩ := amongLit_c is a code (k + 1404) (by omega) [-1, 0, 1000, 1001] 4 rfl mR (hsR.mono (by omega)) (by decide)
          have hq1 : q < ss.length := by rw [hM.ls]; exact hqn
          have hq2 : q < ps.length := by rw [hM.lp]; exact hqn
          obtain ⟨rd, rst, ra, rb, rq1, rq2, rq3, rq4, rq5, rq6, rq7, rq8, rq9, rq10⟩ := hMR.row q hq1 hq2
          obtain ⟨z, hz, hz1, hz2, hz3, hz4, hz5⟩ := rq5
          have hzne : ss[q] ≠ im := (hM.los _ (List.mem_append_left _ (List.getElem_mem hq1))).2
          have hzlo : m.length ≤ ss[q] := (hM.los _ (List.mem_append_left _ (List.getElem_mem hq1))).1
          have hM2 := hMR.but hb2' his
          have hzR2 := hb2'.get _ _ (show ss[q] ≠ is by omega) hz
          have hzl := lt_of_get hz
          have himl := lt_of_get hMR.o_at
          have y1 : ¬ mR.length = im := by omega
          have y2 : ¬ mR.length = ss[q] := by omega
          refine regF [[], [], [], [], [], [3], [3], [], []] 1 (by kernel_rfl) (by kernel_rfl) ?_
          simp -dsimp -implicitDefEqProofs [s0, s4, s5, s6, s7, s8, g1, hpos, hqn, withO_of hMR.o_at, fun l => withO_of (get_old (l := l) hMR.o_at), hM.k2, hM.sz, withC_of rq3, rq7, withO_of hz, fun l => withO_of (get_old (l := l) hz), hz2, hz3, y1, y2]
          refine callsTo Try.cal86 hc2' ?_
          simp -dsimp -implicitDefEqProofs [s0, s4, s5, s6, s7, s8, g1, hpos, hqn, withO_of hMR.o_at, fun l => withO_of (get_old (l := l) hMR.o_at), hM.k2, hM.sz, withC_of rq3, rq7, withO_of hz, fun l => withO_of (get_old (l := l) hz), hz2, hz3, y1, y2, withO_of hzR2]
          refine need_intro ((hM2.o_at).trans (get_old hMR.o_at).symm) (need_intro hz1 (need_intro (by rw [hz5, List.length_map]; omega) ?_))
          obtain ⟨mF, hmF⟩ : ∃ mF, mF = m2'.set ss[q] ⟨(ra.set 0 x2').map (Value.int .i64), z.elem, 1, z.kind⟩ := ⟨_, rfl⟩
          have hfold : m2'.set ss[q] ⟨z.cells.set 0 (.int .i64 x2'), z.elem, 1, z.kind⟩ = mF := by rw [hmF, hz5, List.map_set]
          have hMF : MAt 4 m.length mF im o ss ps j := by rw [hmF]; exact (hM2.setIn hzne hzR2 hz1 hz2 hz3 hz4 hz5 x2').mono (by omega)
          have hbF : But is m mF := by rw [hmF]; exact butRest ((hbut.trans hbR).trans hb2') (RestS.set _ (by simp) _) hzlo
          have hsF : SrcA is a code (k + 1500) mF := by rw [hmF]; exact (hs2'.keep (But.set (is := ss[q]) m2' _) (by omega) (fun h0 z hz => by have := hsrc.off h0 z hz; omega)).mono (by omega)
          simp only [hfold]
          obtain ⟨vG, mG, hcG, bG, rfl, hbG, hsG, hlG⟩ := one_c is a code (k + 1500) 24 (by omega) mF hsF
          refine callsTo Try.cal84 hcG ?_
          simp -dsimp -implicitDefEqProofs [s0, s4, s5, s6, s7, s8, g1]
          refine sp2 (fun gg => ?_) (fun gg => ?_)
          · obtain ⟨vH, mH, hcH, xH, rfl, hbH, hsH, hlH⟩ := amongLit_c is a code (k + 1502) (by omega) [-1, 0, 6, 7] 4 rfl mG (hsG.mono (by omega)) (by decide)
            refine callsTo Try.cal86 hcH ?_
            simp -dsimp -implicitDefEqProofs [s0, s4, s5, s6, s7, s8, g1]
            have hbZ := (hbF.trans hbG).trans hbH
            have hlZ := hbZ.len
            exact ⟨_, _, GC.refl _ _ _, xH, 0, mH.length, _, [], [], rfl, by omega, hbZ.trans (But.app _ _ _), (hsH.app _).mono (by omega), ⟨by simp; rfl, by simp, by simp, rfl, rfl, rfl, rfl, rfl, by simp, by omega, by simp, fun i h1 => by simp at h1⟩⟩
          · exact ⟨_, _, GC.refl _ _ _, kd, j, im, _, _, _, rfl, by omega, hbF.trans hbG, hsG.mono (by omega), hMF.but hbG his⟩
        ·
          obtain ⟨v2, m2', hc2', x2', rfl, hb2', hs2', hl2'⟩ := amongLit_c is a code (k + 1404) (by omega) [-1, 0, 100000, 100001] 4 rfl mR (hsR.mono (by omega)) (by decide)
          have hq1 : q < ss.length := by rw [hM.ls]; exact hqn
          have hq2 : q < ps.length := by rw [hM.lp]; exact hqn
          obtain ⟨rd, rst, ra, rb, rq1, rq2, rq3, rq4, rq5, rq6, rq7, rq8, rq9, rq10⟩ := hMR.row q hq1 hq2
          obtain ⟨z, hz, hz1, hz2, hz3, hz4, hz5⟩ := rq6
          have hzne : ps[q] ≠ im := (hM.los _ (List.mem_append_right _ (List.getElem_mem hq2))).2
          have hzlo : m.length ≤ ps[q] := (hM.los _ (List.mem_append_right _ (List.getElem_mem hq2))).1
          have hM2 := hMR.but hb2' his
          have hzR2 := hb2'.get _ _ (show ps[q] ≠ is by omega) hz
          have hzl := lt_of_get hz
          have himl := lt_of_get hMR.o_at
          have y1 : ¬ mR.length = im := by omega
          have y2 : ¬ mR.length = ps[q] := by omega
          refine regF [[], [], [], [], [], [3], [3], [], []] 1 (by kernel_rfl) (by kernel_rfl) ?_
          simp -dsimp -implicitDefEqProofs [s0, s4, s5, s6, s7, s8, g1, hpos, hqn, withO_of hMR.o_at, fun l => withO_of (get_old (l := l) hMR.o_at), hM.k2, hM.sz, withC_of rq4, rq9, withO_of hz, fun l => withO_of (get_old (l := l) hz), hz2, hz3, y1, y2]
          refine callsTo Try.cal86 hc2' ?_
          simp -dsimp -implicitDefEqProofs [s0, s4, s5, s6, s7, s8, g1, hpos, hqn, withO_of hMR.o_at, fun l => withO_of (get_old (l := l) hMR.o_at), hM.k2, hM.sz, withC_of rq4, rq9, withO_of hz, fun l => withO_of (get_old (l := l) hz), hz2, hz3, y1, y2, withO_of hzR2]
          refine need_intro ((hM2.o_at).trans (get_old hMR.o_at).symm) (need_intro hz1 (need_intro (by rw [hz5, List.length_map]; omega) ?_))
          obtain ⟨mF, hmF⟩ : ∃ mF, mF = m2'.set ps[q] ⟨(rb.set 0 x2').map (Value.int .i64), z.elem, 1, z.kind⟩ := ⟨_, rfl⟩
          have hfold : m2'.set ps[q] ⟨z.cells.set 0 (.int .i64 x2'), z.elem, 1, z.kind⟩ = mF := by rw [hmF, hz5, List.map_set]
          have hMF : MAt 4 m.length mF im o ss ps j := by rw [hmF]; exact (hM2.setIn hzne hzR2 hz1 hz2 hz3 hz4 hz5 x2').mono (by omega)
          have hbF : But is m mF := by rw [hmF]; exact butRest ((hbut.trans hbR).trans hb2') (RestS.set _ (by simp) _) hzlo
          have hsF : SrcA is a code (k + 1500) mF := by rw [hmF]; exact (hs2'.keep (But.set (is := ps[q]) m2' _) (by omega) (fun h0 z hz => by have := hsrc.off h0 z hz; omega)).mono (by omega)
          simp only [hfold]
          obtain ⟨vG, mG, hcG, bG, rfl, hbG, hsG, hlG⟩ := one_c is a code (k + 1500) 24 (by omega) mF hsF
          refine callsTo Try.cal84 hcG ?_
          simp -dsimp -implicitDefEqProofs [s0, s4, s5, s6, s7, s8, g1]
          refine sp2 (fun gg => ?_) (fun gg => ?_)
          · obtain ⟨vH, mH, hcH, xH, rfl, hbH, hsH, hlH⟩ := amongLit_c is a code (k + 1502) (by omega) [-1, 0, 6, 7] 4 rfl mG (hsG.mono (by omega)) (by decide)
            refine callsTo Try.cal86 hcH ?_
            simp -dsimp -implicitDefEqProofs [s0, s4, s5, s6, s7, s8, g1]
            have hbZ := (hbF.trans hbG).trans hbH
            have hlZ := hbZ.len
            exact ⟨_, _, GC.refl _ _ _, xH, 0, mH.length, _, [], [], rfl, by omega, hbZ.trans (But.app _ _ _), (hsH.app _).mono (by omega), ⟨by simp; rfl, by simp, by simp, rfl, rfl, rfl, rfl, rfl, by simp, by omega, by simp, fun i h1 => by simp at h1⟩⟩
          · exact ⟨_, _, GC.refl _ _ _, kd, j, im, _, _, _, rfl, by omega, hbF.trans hbG, hsG.mono (by omega), hMF.but hbG his⟩
        ·
          have hq1 : q < ss.length := by rw [hM.ls]; exact hqn
          have hq2 : q < ps.length := by rw [hM.lp]; exact hqn
          have hM3 : MAt 3 m.length mR im o ss ps j := hMR
          obtain ⟨rd, rst, ra, rb, rq1, rq2, rq3, rq4, rq5, rq6, rq7, rq8, rq9, rq10⟩ := hM3.row q hq1 hq2
          obtain ⟨z, hz, hz1, hz2, hz3, hz4, hz5⟩ := id rq5
          have hmemq := List.mem_append_left ps (List.getElem_mem hq1)
          have hzne : ss[q] ≠ im := (hM.los _ hmemq).2
          have hzlo : m.length ≤ ss[q] := (hM.los _ hmemq).1
          have himl := lt_of_get hMR.o_at
          have hzl := lt_of_get hz
          simp -dsimp -implicitDefEqProofs [s0, s4, s5, s6, s7, s8, g1, hpos, hqn, withO_of hMR.o_at, fun l => withO_of (get_old (l := l) hMR.o_at), hM.k2, hM.sz, withC_of rq3]
          refine appTo_grow (e := 2) (sz := 1) (by_ := 8) (z := .int .i64 0) (by kernel_rfl) (by kernel_rfl) ⟨by decide, rfl⟩ (o := z) (get_old hz) ⟨hz1, hz2⟩ ⟨hz3, hz4⟩ (by rw [hz5]; simp) (by omega) (Src.obj (o := ⟨[.int .i64 1], 2, 1, 1⟩) (by simp) (by simp) rfl rfl) ?_
          intro m4' s2 hg4
          rw [hz5] at hg4
          have hMA2 : MAt 3 m.length (mR ++ [⟨[.int .i64 1], 2, 1, 1⟩]) im o ss ps j := hM3.rest (S := []) (RestS.of_pre ⟨_, rfl⟩) (by simp) (by simp)
          have hApp := hMA2.app hq1 hq2 (rq5.pre ⟨_, rfl⟩) rq8 1 hg4
          have ho4 := hg4.old _ _ (Ne.symm hzne) (get_old hMR.o_at)
          simp -dsimp -implicitDefEqProofs [s0, s4, s5, s6, s7, s8, g1, hpos, hqn, withO_of hMR.o_at, fun l => withO_of (get_old (l := l) hMR.o_at), hM.k2, hM.sz, withC_of rq3, withO_of ho4]
          refine need_intro hM.k1 (need_intro (by rw [hM.clen]; omega) ?_)
          obtain ⟨mF, hmF⟩ : ∃ mF, mF = m4'.set im ⟨o.cells.set (q * 4 + 2) (.slice (some ⟨s2, 0, none⟩) (ra.length + 1) (ra.length + 1)), o.elem, 4, o.kind⟩ := ⟨_, rfl⟩
          have hfold := hmF.symm
          have hMF : MAt 4 m.length mF im ⟨o.cells.set (q * 4 + 2) (.slice (some ⟨s2, 0, none⟩) (ra.length + 1) (ra.length + 1)), o.elem, 4, o.kind⟩ (ss.set q s2) ps j := by rw [hmF]; exact hApp
          have hrF : RestS [ss[q], im] mR mF := by
            rw [hmF]
            exact ⟨by have := hg4.len; simp at *; omega, fun i o' h1 h2 => by
              simp at h1
              rw [List.getElem?_set_ne (Ne.symm h1.2)]; exact hg4.old _ _ h1.1 (get_old h2)⟩
          have hbmR := hbut.trans hbR
          have hbF : But is m mF := ⟨by have := hbmR.len; have := hrF.len; omega, fun i o' h1 h2 => hrF.get i o' (by have := lt_of_get h2; have := hM.lo_; simp; omega) (hbmR.get i o' h1 h2)⟩
          have hsF : SrcA is a code (k + 1500) mF := by
            have e1 : But ss[q] (mR ++ [⟨[.int .i64 1], 2, 1, 1⟩]) m4' := ⟨by have := hg4.len; omega, fun i o' h1 h2 => hg4.old i o' h1 h2⟩
            rw [hmF]
            exact (((hsR.app _).keep e1 (by omega) (fun h0 z hz => by have := hsrc.off h0 z hz; omega)).keep (But.set (is := im) m4' _) (by have := hM.lo_; omega) (fun h0 z hz => by have := hsrc.off h0 z hz; have := hM.lo_; omega)).mono (by omega)
          simp only [hfold]
          obtain ⟨vG, mG, hcG, bG, rfl, hbG, hsG, hlG⟩ := one_c is a code (k + 1500) 24 (by omega) mF hsF
          refine callsTo Try.cal84 hcG ?_
          simp -dsimp -implicitDefEqProofs [s0, s4, s5, s6, s7, s8, g1]
          refine sp2 (fun gg => ?_) (fun gg => ?_)
          · obtain ⟨vH, mH, hcH, xH, rfl, hbH, hsH, hlH⟩ := amongLit_c is a code (k + 1502) (by omega) [-1, 0, 6, 7] 4 rfl mG (hsG.mono (by omega)) (by decide)
            refine callsTo Try.cal86 hcH ?_
            simp -dsimp -implicitDefEqProofs [s0, s4, s5, s6, s7, s8, g1]
            have hbZ := (hbF.trans hbG).trans hbH
            have hlZ := hbZ.len
            exact ⟨_, _, GC.refl _ _ _, xH, 0, mH.length, _, [], [], rfl, by omega, hbZ.trans (But.app _ _ _), (hsH.app _).mono (by omega), ⟨by simp; rfl, by simp, by simp, rfl, rfl, rfl, rfl, rfl, by simp, by omega, by simp, fun i h1 => by simp at h1⟩⟩
          · exact ⟨_, _, GC.refl _ _ _, kd, j, im, _, _, _, rfl, by omega, hbF.trans hbG, hsG.mono (by omega), hMF.but hbG his⟩
        · obtain ⟨mF, hmF⟩ : ∃ mF, mF = mR := ⟨_, rfl⟩
          rw [← hmF]
          have hMF : MAt 4 m.length mF im o ss ps j := by rw [hmF]; exact hMR.mono (by omega)
          have hbF : But is m mF := by rw [hmF]; exact hbut.trans hbR
          have hsF : SrcA is a code (k + 1500) mF := by rw [hmF]; exact hsR.mono (by omega)
          obtain ⟨vG, mG, hcG, bG, rfl, hbG, hsG, hlG⟩ := one_c is a code (k + 1500) 24 (by omega) mF hsF
          refine callsTo Try.cal84 hcG ?_
          simp -dsimp -implicitDefEqProofs [s0, s4, s5, s6, s7, s8, g1]
          refine sp2 (fun gg => ?_) (fun gg => ?_)
          · obtain ⟨vH, mH, hcH, xH, rfl, hbH, hsH, hlH⟩ := amongLit_c is a code (k + 1502) (by omega) [-1, 0, 6, 7] 4 rfl mG (hsG.mono (by omega)) (by decide)
            refine callsTo Try.cal86 hcH ?_
            simp -dsimp -implicitDefEqProofs [s0, s4, s5, s6, s7, s8, g1]
            have hbZ := (hbF.trans hbG).trans hbH
            have hlZ := hbZ.len
            exact ⟨_, _, GC.refl _ _ _, xH, 0, mH.length, _, [], [], rfl, by omega, hbZ.trans (But.app _ _ _), (hsH.app _).mono (by omega), ⟨by simp; rfl, by simp, by simp, rfl, rfl, rfl, rfl, rfl, by simp, by omega, by simp, fun i h1 => by simp at h1⟩⟩
          · exact ⟨_, _, GC.refl _ _ _, kd, j, im, _, _, _, rfl, by omega, hbF.trans hbG, hsG.mono (by omega), hMF.but hbG his⟩
      · simp -dsimp -implicitDefEqProofs [s0, s4, s5, s6, s7, s8, g1, hpos]
        obtain ⟨mF, hmF⟩ : ∃ mF, mF = m' := ⟨_, rfl⟩
        rw [← hmF]
        have hMF : MAt 4 m.length mF im o ss ps j := by rw [hmF]; exact hM.mono (by omega)
        have hbF : But is m mF := by rw [hmF]; exact hbut
        have hsF : SrcA is a code (k + 1500) mF := by rw [hmF]; exact hsrc.mono (by omega)
        obtain ⟨vG, mG, hcG, bG, rfl, hbG, hsG, hlG⟩ := one_c is a code (k + 1500) 24 (by omega) mF hsF
        refine callsTo Try.cal84 hcG ?_
        simp -dsimp -implicitDefEqProofs [s0, s4, s5, s6, s7, s8, g1]
        refine sp2 (fun gg => ?_) (fun gg => ?_)
        · obtain ⟨vH, mH, hcH, xH, rfl, hbH, hsH, hlH⟩ := amongLit_c is a code (k + 1502) (by omega) [-1, 0, 6, 7] 4 rfl mG (hsG.mono (by omega)) (by decide)
          refine callsTo Try.cal86 hcH ?_
          simp -dsimp -implicitDefEqProofs [s0, s4, s5, s6, s7, s8, g1]
          have hbZ := (hbF.trans hbG).trans hbH
          have hlZ := hbZ.len
          exact ⟨_, _, GC.refl _ _ _, xH, 0, mH.length, _, [], [], rfl, by omega, hbZ.trans (But.app _ _ _), (hsH.app _).mono (by omega), ⟨by simp; rfl, by simp, by simp, rfl, rfl, rfl, rfl, rfl, by simp, by omega, by simp, fun i h1 => by simp at h1⟩⟩
        · exact ⟨_, _, GC.refl _ _ _, kd, j, im, _, _, _, rfl, by omega, hbF.trans hbG, hsG.mono (by omega), hMF.but hbG his⟩
  · obtain ⟨n, hn⟩ : ∃ n, n = x3 := ⟨_, rfl⟩
    rw [← hn]
    have hn0 : 0 ≤ n ∧ n ≤ 11 := by omega
    obtain ⟨mX, hmX⟩ : ∃ mX, mX = m4 := ⟨_, rfl⟩
    rw [← hmX]
    have hbX : But is m mX := by rw [hmX]; exact hbm4
    have hsX : SrcA is a code (k + 10) mX := by rw [hmX]; exact hs4.mono (by omega)
    have hMX : MAt 3 m.length mX m1.length ⟨[], 35, 4, 1⟩ [] [] 0 := by rw [hmX]; exact hM4
    clear hmX hn hw5 hx5 hb5 hs5 hl5 hc5
    refine loopN n.toNat (fun j σ m' => ∃ im o ss ps day, (But is m m' ∧ SrcA is a code (k + 20 + 40 * j) m' ∧ MAt 3 m.length m' im o ss ps j) ∧ σ 0 = some (.pointer (some ⟨is, 0, none⟩)) ∧ σ 4 = some (.int .i64 kd) ∧ σ 5 = some (.slice (some ⟨im, 0, none⟩) j j) ∧ σ 6 = some (.int .i64 day) ∧ σ 7 = some (.int .i64 n) ∧ σ 8 = some (.int .i64 (n - j)))
      ⟨m1.length, _, [], [], x2, ⟨hbX, hsX.mono (by omega), hMX⟩, by simp, by simp, by simp, by simp, by simp, by simp⟩ ?_
    rintro j σ m' hj ⟨im, o, ss, ps, day, ⟨hbut, hsrc, hM⟩, s0, s4, s5, s6, s7, s8⟩
    by_cases hlt : j < n.toNat
    · have g1 : (j : Int) < n := by omega
      have hml := hbut.len
      have hwd : IntKind.i64.wrap (n - (j : Int) - 1) = n - ((j : Int) + 1) := by rw [wrapI (by omega) (by omega)]; omega
      obtain ⟨v6, m6, hc6, x6, rfl, hx6, hb6, hs6, hl6⟩ := pick_c is a code (k + 20 + 40 * j) 40 (by omega) m' hsrc
      obtain ⟨st, hst⟩ : ∃ st, st = IntKind.i64.wrap (10 * x6) := ⟨_, rfl⟩
      obtain ⟨v7, m7, hc7, sl, sid, hsl, rfl, hb7, hs7, hsid, hSI⟩ := l21New_c is a code (k + 20 + 40 * j + 2) (by omega) kd 12 (by omega) (m6 ++ [⟨[.int .i64 day, .int .i64 st, .slice none 0 0, .slice none 0 0], 35, 4, 1⟩]) (hs6.app _)
      simp at hsid
      have t7 : m7[m6.length]? = some ⟨[.int .i64 day, .int .i64 st, .slice none 0 0, .slice none 0 0], 35, 4, 1⟩ := hb7.get _ _ (by omega) (by simp)
      obtain ⟨m8, hm8⟩ : ∃ m8, m8 = m7.set m6.length ⟨[.int .i64 day, .int .i64 st, .slice (some ⟨sid, 0, none⟩) kd.toNat kd.toNat, .slice none 0 0], 35, 4, 1⟩ := ⟨_, rfl⟩
      have hb8 : But m6.length m7 m8 := by rw [hm8]; exact But.set _ _
      have hs8 : SrcA is a code (k + 20 + 40 * j + 20) m8 := (hs7.keep hb8 (by omega) (fun h0 z hz => by have := hsrc.off h0 z hz; omega)).mono (by omega)
      have t8 : m8[m6.length]? = some ⟨[.int .i64 day, .int .i64 st, .slice (some ⟨sid, 0, none⟩) kd.toNat kd.toNat, .slice none 0 0], 35, 4, 1⟩ := by rw [hm8]; exact get_set t7 _
      obtain ⟨v9, m9, hc9, pl, pid, hpl, rfl, hb9, hs9, hpid, hPI⟩ := l21New_c is a code (k + 20 + 40 * j + 20) (by omega) kd 90 (by omega) m8 hs8
      have t9 : m9[m6.length]? = some ⟨[.int .i64 day, .int .i64 st, .slice (some ⟨sid, 0, none⟩) kd.toNat kd.toNat, .slice none 0 0], 35, 4, 1⟩ := hb9.get _ _ (by omega) t8
      obtain ⟨mA, hmA⟩ : ∃ mA, mA = m9.set m6.length ⟨[.int .i64 day, .int .i64 st, .slice (some ⟨sid, 0, none⟩) kd.toNat kd.toNat, .slice (some ⟨pid, 0, none⟩) kd.toNat kd.toNat], 35, 4, 1⟩ := ⟨_, rfl⟩
      have hmade : madeCells #[.int .i64 0, .int .i64 0, .slice none 0 0, .slice none 0 0] 4 = #[.int .i64 0, .int .i64 0, .slice none 0 0, .slice none 0 0] := by
        have := made_rows #[.int .i64 0, .int .i64 0, .slice none 0 0, .slice none 0 0] 1 (by simp)
        exact Array.toList_inj.1 (by simpa using this)
      simp -dsimp -implicitDefEqProofs [s0, s4, s5, s6, s7, s8, g1, hwd, hmade, hst.symm]
      refine callsTo Try.cal83 hc6 ?_
      simp -dsimp -implicitDefEqProofs [s0, s4, s5, s6, s7, s8, g1, hwd, hmade, hst.symm]
      refine callsTo Try.cal85 hc7 ?_
      simp -dsimp -implicitDefEqProofs [s0, s4, s5, s6, s7, s8, g1, hwd, hmade, hst.symm, withO_of t7, hm8.symm]
      refine callsTo Try.cal85 hc9 ?_
      simp -dsimp -implicitDefEqProofs [s0, s4, s5, s6, s7, s8, g1, hwd, hmade, hst.symm, withO_of t9, hmA.symm]
      have hrA : RestS [is, m6.length] m' mA := by
        have r1 : RestS [is, m6.length] m' m6 := restOf hb6 (by simp)
        have r2 : RestS [is, m6.length] m6 m7 := (RestS.app _ _ _).trans (restOf hb7 (by simp))
        have r3 : RestS [is, m6.length] m7 m8 := by rw [hm8]; exact RestS.set _ (by simp) _
        have r4 : RestS [is, m6.length] m8 m9 := restOf hb9 (by simp)
        have r5 : RestS [is, m6.length] m9 mA := by rw [hmA]; exact RestS.set _ (by simp) _
        exact (((r1.trans r2).trans r3).trans r4).trans r5
      have hidl := hM.ids_lt
      have himl := lt_of_get hM.o_at
      have hlo := hM.lo_
      have hMA := hM.rest hrA (by simp; omega) (fun i hi => by have := hidl i hi; have := (hM.los i hi).1; simp; omega)
      have l78 : m8.length = m7.length := by rw [hm8]; simp
      have l67 := hb7.len
      simp at l67
      have l89 := hb9.len
      have l9A : mA.length = m9.length := by rw [hmA]; simp
      have hsl7 := hSI.lt
      have hpl9 := hPI.lt
      have hSA : IntsAt mA sid sl := by
        have r3 : RestS [is, m6.length] m7 m8 := by rw [hm8]; exact RestS.set _ (by simp) _
        have r4 : RestS [is, m6.length] m8 m9 := restOf hb9 (by simp)
        have r5 : RestS [is, m6.length] m9 mA := by rw [hmA]; exact RestS.set _ (by simp) _
        exact hSI.rest ((r3.trans r4).trans r5) (by simp; omega)
      have hPA : IntsAt mA pid pl := hPI.rest (show RestS [m6.length] m9 mA by rw [hmA]; exact RestS.set _ (by simp) _) (by simp; omega)
      have tA : mA[m6.length]? = some ⟨[.int .i64 day, .int .i64 st, .slice (some ⟨sid, 0, none⟩) kd.toNat kd.toNat, .slice (some ⟨pid, 0, none⟩) kd.toNat kd.toNat], 35, 4, 1⟩ := by rw [hmA]; exact get_set t9 _
      have hsA : SrcA is a code (k + 20 + 40 * j + 38) mA := by
        rw [hmA]; exact (hs9.keep (But.set (is := m6.length) m9 _) (by omega) (fun h0 z hz => by have := hsrc.off h0 z hz; omega)).mono (by omega)
      have hbA : But is m mA := butRest hbut hrA (by omega)
      simp -dsimp -implicitDefEqProofs [s0, s4, s5, s6, s7, s8, g1, hwd, hmade, hmA.symm, withO_of tA]
      refine appTo_grow (e := 35) (sz := 4) (by_ := 64) (z := .agg #[.int .i64 0, .int .i64 0, .slice none 0 0, .slice none 0 0]) (by kernel_rfl) (by kernel_rfl) ⟨by decide, rfl⟩ (o := o) (get_old hMA.o_at) ⟨hM.k1, hM.k2⟩ ⟨hM.sz, hM.el⟩ (by rw [hM.clen]) (by omega) (Src.obj (o := ⟨[.int .i64 day, .int .i64 st, .slice (some ⟨sid, 0, none⟩) kd.toNat kd.toNat, .slice (some ⟨pid, 0, none⟩) kd.toNat kd.toNat], 35, 4, 1⟩) (by simp) (by simp) rfl rfl) ?_
      intro mB imB hgB
      have hbB : But im (mA ++ [⟨[.int .i64 day, .int .i64 st, .slice (some ⟨sid, 0, none⟩) kd.toNat kd.toNat, .slice (some ⟨pid, 0, none⟩) kd.toNat kd.toNat], 35, 4, 1⟩]) mB := ⟨by have := hgB.len; omega, fun i o' h1 h2 => hgB.old i o' h1 h2⟩
      have hsB : SrcA is a code (k + 20 + 40 * j + 38) mB := (hsA.app _).keep hbB (by omega) (fun h0 z hz => by have := hsrc.off h0 z hz; omega)
      have hsn : sid ∉ ss ++ ps := fun hi => by have := hidl _ hi; omega
      have hpn : pid ∉ ss ++ ps := fun hi => by have := hidl _ hi; omega
      have hMA2 : MAt 3 m.length (mA ++ [⟨[.int .i64 day, .int .i64 st, .slice (some ⟨sid, 0, none⟩) kd.toNat kd.toNat, .slice (some ⟨pid, 0, none⟩) kd.toNat kd.toNat], 35, 4, 1⟩]) im o ss ps j := hMA.rest (S := []) (RestS.of_pre ⟨_, rfl⟩) (by simp) (by simp)
      have hMB := hMA2.push day st sl pl (hSA.pre ⟨_, rfl⟩) (hPA.pre ⟨_, rfl⟩) (by omega) (by omega) (by omega) (by omega) (by omega) hsn hpn (by omega) (by omega) (by rw [hsl, hpl]; exact hgB)
      obtain ⟨vC, mC, hcC, xC, rfl, hxC, hbC, hsC, hlC⟩ := pick_c is a code (k + 20 + 40 * j + 38) 20 (by omega) mB hsB
      simp -dsimp -implicitDefEqProofs [s0, s4, s5, s6, s7, s8, g1, hwd, hmade, hmA.symm, withO_of tA]
      refine callsTo Try.cal83 hcC ?_
      simp -dsimp -implicitDefEqProofs [s0, s4, s5, s6, s7, s8, g1, hwd, hmade, hmA.symm, withO_of tA]
      refine next_ hlt ⟨imB, _, ss ++ [sid], ps ++ [pid], _, ⟨?_, hsC.mono (by omega), hMB.but hbC his⟩, by simp [s0], by simp [s4], by simp, by simp; rfl, by simp [s7], by simp [hwd]⟩
      refine But.trans ⟨by have := hgB.len; have := hbA.len; simp at *; omega, fun i o' h1 h2 => hgB.old i o' (by have := lt_of_get h2; omega) (get_old (hbA.get i o' h1 h2))⟩ hbC
    · have hjn : j = n.toNat := by omega
      have g1 : ¬ ((j : Int) < n) := by omega
      simp -dsimp -implicitDefEqProofs [s0, s4, s5, s6, s7, s8, g1]
      by_cases hpos : 0 < n
      · obtain ⟨vP, mP, hcP, xP, rfl, hxP, hbP, hsP, hlP⟩ := pick_c is a code (k + 1400) n (by omega) m' (hsrc.mono (by omega))
        obtain ⟨q, rfl⟩ : ∃ q : Nat, xP = q := ⟨xP.toNat, by omega⟩
        have hqn : q < j := by split at hxP <;> omega
        obtain ⟨vR, mR, hcR, xR, rfl, hxR, hbR', hsR, hlR⟩ := pick_c is a code (k + 1402) 24 (by omega) mP (hsP.mono (by omega))
        have hbR := hbP.trans hbR'
        have hMR := hM.but hbR his
        have hMP := hM.but hbP his
        simp -dsimp -implicitDefEqProofs [s0, s4, s5, s6, s7, s8, g1, hpos]
        refine callsTo Try.cal83 hcP ?_
        simp -dsimp -implicitDefEqProofs [s0, s4, s5, s6, s7, s8, g1, hpos, hqn, withO_of hMP.o_at, hM.k2, hM.sz]
        refine callsTo Try.cal83 hcR ?_
        simp -dsimp -implicitDefEqProofs [s0, s4, s5, s6, s7, s8, g1, hpos, hqn, withO_of hMP.o_at, hM.k2, hM.sz]
        refine sp2 (fun w0 => ?_) (fun w0 => sp2 (fun w1 => ?_) (fun w1 => sp2 (fun w2 => ?_) (fun w2 => sp2 (fun w3 => ?_) (fun w3 => sp2 (fun w4 => ?_) (fun w4 => ?_)))))
        ·
          obtain ⟨v2, m2', hc2', x2', rfl, hb2', hs2', hl2'⟩ := amongLit_c is a code (k + 1404) (by omega) [-1, 0, 1000, 1001, -9223372036854775808] 5 rfl mR (hsR.mono (by omega)) (by decide)
          have hM2 := hMR.but hb2' his
          refine callsTo Try.cal86 hc2' ?_
          simp -dsimp -implicitDefEqProofs [s0, s4, s5, s6, s7, s8, g1, hpos, hqn, withO_of hMP.o_at, hM.k2, hM.sz]
          simp -dsimp -implicitDefEqProofs [s0, s4, s5, s6, s7, s8, g1, hpos, hqn, withO_of hMP.o_at, hM.k2, hM.sz, withO_of hM2.o_at, hM.k1, hM.k2, hM.sz, hM.clen]
          refine need_intro (by have := hM.clen; omega) ?_
          obtain ⟨mF, hmF⟩ : ∃ mF, mF = m2'.set im ⟨o.cells.set (q * 4 + 0) (.int .i64 x2'), o.elem, 4, o.kind⟩ := ⟨_, rfl⟩
          have hfold := hmF.symm
          simp only [Nat.add_zero] at hfold
          have hMF : MAt 4 m.length mF im ⟨o.cells.set (q * 4 + 0) (.int .i64 x2'), o.elem, 4, o.kind⟩ ss ps j := by rw [hmF]; exact (hM2.setInt (by omega) x2').mono (by omega)
          have hbF : But is m mF := by rw [hmF]; exact butRest ((hbut.trans hbR).trans hb2') (RestS.set _ (by simp) _) hM.lo_
          have hsF : SrcA is a code (k + 1500) mF := by rw [hmF]; exact (hs2'.keep (But.set (is := im) m2' _) (by have := hM.lo_; omega) (fun h0 z hz => by have := hsrc.off h0 z hz; have := hM.lo_; omega)).mono (by omega)
          simp only [hfold]
          obtain ⟨vG, mG, hcG, bG, rfl, hbG, hsG, hlG⟩ := one_c is a code (k + 1500) 24 (by omega) mF hsF
          refine callsTo Try.cal84 hcG ?_
          simp -dsimp -implicitDefEqProofs [s0, s4, s5, s6, s7, s8, g1]
          refine sp2 (fun gg => ?_) (fun gg => ?_)
          · obtain ⟨vH, mH, hcH, xH, rfl, hbH, hsH, hlH⟩ := amongLit_c is a code (k + 1502) (by omega) [-1, 0, 6, 7] 4 rfl mG (hsG.mono (by omega)) (by decide)
            refine callsTo Try.cal86 hcH ?_
            simp -dsimp -implicitDefEqProofs [s0, s4, s5, s6, s7, s8, g1]
            have hbZ := (hbF.trans hbG).trans hbH
            have hlZ := hbZ.len
            exact ⟨_, _, GC.refl _ _ _, xH, 0, mH.length, _, [], [], rfl, by omega, hbZ.trans (But.app _ _ _), (hsH.app _).mono (by omega), ⟨by simp; rfl, by simp, by simp, rfl, rfl, rfl, rfl, rfl, by simp, by omega, by simp, fun i h1 => by simp at h1⟩⟩
          · exact ⟨_, _, GC.refl _ _ _, kd, j, im, _, _, _, rfl, by omega, hbF.trans hbG, hsG.mono (by omega), hMF.but hbG his⟩
        ·
          obtain ⟨v2, m2', hc2', x2', rfl, hb2', hs2', hl2'⟩ := amongLit_c is a code (k + 1404) (by omega) [-1, 0, 100000, 100001] 4 rfl mR (hsR.mono (by omega)) (by decide)
          have hM2 := hMR.but hb2' his
          refine callsTo Try.cal86 hc2' ?_
          simp -dsimp -implicitDefEqProofs [s0, s4, s5, s6, s7, s8, g1]
          simp -dsimp -implicitDefEqProofs [s0, s4, s5, s6, s7, s8, g1, withO_of hM2.o_at, hM.k1, hM.k2, hM.sz, hM.clen]
          refine need_intro (by have := hM.clen; omega) ?_
          obtain ⟨mF, hmF⟩ : ∃ mF, mF = m2'.set im ⟨o.cells.set (q * 4 + 1) (.int .i64 x2'), o.elem, 4, o.kind⟩ := ⟨_, rfl⟩
          have hfold := hmF.symm
          have _hf := hfold
          have hMF : MAt 4 m.length mF im ⟨o.cells.set (q * 4 + 1) (.int .i64 x2'), o.elem, 4, o.kind⟩ ss ps j := by rw [hmF]; exact (hM2.setInt (by omega) x2').mono (by omega)
          have hbF : But is m mF := by rw [hmF]; exact butRest ((hbut.trans hbR).trans hb2') (RestS.set _ (by simp) _) hM.lo_
          have hsF : SrcA is a code (k + 1500) mF := by rw [hmF]; exact (hs2'.keep (But.set (is := im) m2' _) (by have := hM.lo_; omega) (fun h0 z hz => by have := hsrc.off h0 z hz; have := hM.lo_; omega)).mono (by omega)
          simp only [hfold]
          obtain ⟨vG, mG, hcG, bG, rfl, hbG, hsG, hlG⟩ := one_c is a code (k + 1500) 24 (by omega) mF hsF
          refine callsTo Try.cal84 hcG ?_
          simp -dsimp -implicitDefEqProofs [s0, s4, s5, s6, s7, s8, g1]
          refine sp2 (fun gg => ?_) (fun gg => ?_)
          · obtain ⟨vH, mH, hcH, xH, rfl, hbH, hsH, hlH⟩ := amongLit_c is a code (k + 1502) (by omega) [-1, 0, 6, 7] 4 rfl mG (hsG.mono (by omega)) (by decide)
            refine callsTo Try.cal86 hcH ?_
            simp -dsimp -implicitDefEqProofs [s0, s4, s5, s6, s7, s8, g1]
            have hbZ := (hbF.trans hbG).trans hbH
            have hlZ := hbZ.len
            exact ⟨_, _, GC.refl _ _ _, xH, 0, mH.length, _, [], [], rfl, by omega, hbZ.trans (But.app _ _ _), (hsH.app _).mono (by omega), ⟨by simp; rfl, by simp, by simp, rfl, rfl, rfl, rfl, rfl, by simp, by omega, by simp, fun i h1 => by simp at h1⟩⟩
          · exact ⟨_, _, GC.refl _ _ _, kd, j, im, _, _, _, rfl, by omega, hbF.trans hbG, hsG.mono (by omega), hMF.but hbG his⟩
        ·
          obtain ⟨v2, m2', hc2', x2', rfl, hb2', hs2', hl2'⟩ := amongLit_c is a code (k + 1404) (by omega) [-1, 0, 1000, 1001] 4 rfl mR (hsR.mono (by omega)) (by decide)
          have hq1 : q < ss.length := by rw [hM.ls]; exact hqn
          have hq2 : q < ps.length := by rw [hM.lp]; exact hqn
          obtain ⟨rd, rst, ra, rb, rq1, rq2, rq3, rq4, rq5, rq6, rq7, rq8, rq9, rq10⟩ := hMR.row q hq1 hq2
          obtain ⟨z, hz, hz1, hz2, hz3, hz4, hz5⟩ := rq5
          have hzne : ss[q] ≠ im := (hM.los _ (List.mem_append_left _ (List.getElem_mem hq1))).2
          have hzlo : m.length ≤ ss[q] := (hM.los _ (List.mem_append_left _ (List.getElem_mem hq1))).1
          have hM2 := hMR.but hb2' his
          have hzR2 := hb2'.get _ _ (show ss[q] ≠ is by omega) hz
          have hzl := lt_of_get hz
          have himl := lt_of_get hMR.o_at
          have y1 : ¬ mR.length = im := by omega
          have y2 : ¬ mR.length = ss[q] := by omega
          refine regF [[], [], [], [], [], [3], [3], [], []] 1 (by kernel_rfl) (by kernel_rfl) ?_
          simp -dsimp -implicitDefEqProofs [s0, s4, s5, s6, s7, s8, g1, hpos, hqn, withO_of hMR.o_at, fun l => withO_of (get_old (l := l) hMR.o_at), hM.k2, hM.sz, withC_of rq3, rq7, withO_of hz, fun l => withO_of (get_old (l := l) hz), hz2, hz3, y1, y2]
          refine callsTo Try.cal86 hc2' ?_
          simp -dsimp -implicitDefEqProofs [s0, s4, s5, s6, s7, s8, g1, hpos, hqn, withO_of hMR.o_at, fun l => withO_of (get_old (l := l) hMR.o_at), hM.k2, hM.sz, withC_of rq3, rq7, withO_of hz, fun l => withO_of (get_old (l := l) hz), hz2, hz3, y1, y2, withO_of hzR2]
          refine need_intro ((hM2.o_at).trans (get_old hMR.o_at).symm) (need_intro hz1 (need_intro (by rw [hz5, List.length_map]; omega) ?_))
          obtain ⟨mF, hmF⟩ : ∃ mF, mF = m2'.set ss[q] ⟨(ra.set 0 x2').map (Value.int .i64), z.elem, 1, z.kind⟩ := ⟨_, rfl⟩
          have hfold : m2'.set ss[q] ⟨z.cells.set 0 (.int .i64 x2'), z.elem, 1, z.kind⟩ = mF := by rw [hmF, hz5, List.map_set]
          have hMF : MAt 4 m.length mF im o ss ps j := by rw [hmF]; exact (hM2.setIn hzne hzR2 hz1 hz2 hz3 hz4 hz5 x2').mono (by omega)
          have hbF : But is m mF := by rw [hmF]; exact butRest ((hbut.trans hbR).trans hb2') (RestS.set _ (by simp) _) hzlo
          have hsF : SrcA is a code (k + 1500) mF := by rw [hmF]; exact (hs2'.keep (But.set (is := ss[q]) m2' _) (by omega) (fun h0 z hz => by have := hsrc.off h0 z hz; omega)).mono (by omega)
          simp only [hfold]
          obtain ⟨vG, mG, hcG, bG, rfl, hbG, hsG, hlG⟩ := one_c is a code (k + 1500) 24 (by omega) mF hsF
          refine callsTo Try.cal84 hcG ?_
          simp -dsimp -implicitDefEqProofs [s0, s4, s5, s6, s7, s8, g1]
          refine sp2 (fun gg => ?_) (fun gg => ?_)
          · obtain ⟨vH, mH, hcH, xH, rfl, hbH, hsH, hlH⟩ := amongLit_c is a code (k + 1502) (by omega) [-1, 0, 6, 7] 4 rfl mG (hsG.mono (by omega)) (by decide)
            refine callsTo Try.cal86 hcH ?_
            simp -dsimp -implicitDefEqProofs [s0, s4, s5, s6, s7, s8, g1]
            have hbZ := (hbF.trans hbG).trans hbH
            have hlZ := hbZ.len
            exact ⟨_, _, GC.refl _ _ _, xH, 0, mH.length, _, [], [], rfl, by omega, hbZ.trans (But.app _ _ _), (hsH.app _).mono (by omega), ⟨by simp; rfl, by simp, by simp, rfl, rfl, rfl, rfl, rfl, by simp, by omega, by simp, fun i h1 => by simp at h1⟩⟩
          · exact ⟨_, _, GC.refl _ _ _, kd, j, im, _, _, _, rfl, by omega, hbF.trans hbG, hsG.mono (by omega), hMF.but hbG his⟩
        ·
          obtain ⟨v2, m2', hc2', x2', rfl, hb2', hs2', hl2'⟩ := amongLit_c is a code (k + 1404) (by omega) [-1, 0, 100000, 100001] 4 rfl mR (hsR.mono (by omega)) (by decide)
          have hq1 : q < ss.length := by rw [hM.ls]; exact hqn
          have hq2 : q < ps.length := by rw [hM.lp]; exact hqn
          obtain ⟨rd, rst, ra, rb, rq1, rq2, rq3, rq4, rq5, rq6, rq7, rq8, rq9, rq10⟩ := hMR.row q hq1 hq2
          obtain ⟨z, hz, hz1, hz2, hz3, hz4, hz5⟩ := rq6
          have hzne : ps[q] ≠ im := (hM.los _ (List.mem_append_right _ (List.getElem_mem hq2))).2
          have hzlo : m.length ≤ ps[q] := (hM.los _ (List.mem_append_right _ (List.getElem_mem hq2))).1
          have hM2 := hMR.but hb2' his
          have hzR2 := hb2'.get _ _ (show ps[q] ≠ is by omega) hz
          have hzl := lt_of_get hz
          have himl := lt_of_get hMR.o_at
          have y1 : ¬ mR.length = im := by omega
          have y2 : ¬ mR.length = ps[q] := by omega
          refine regF [[], [], [], [], [], [3], [3], [], []] 1 (by kernel_rfl) (by kernel_rfl) ?_
          simp -dsimp -implicitDefEqProofs [s0, s4, s5, s6, s7, s8, g1, hpos, hqn, withO_of hMR.o_at, fun l => withO_of (get_old (l := l) hMR.o_at), hM.k2, hM.sz, withC_of rq4, rq9, withO_of hz, fun l => withO_of (get_old (l := l) hz), hz2, hz3, y1, y2]
          refine callsTo Try.cal86 hc2' ?_
          simp -dsimp -implicitDefEqProofs [s0, s4, s5, s6, s7, s8, g1, hpos, hqn, withO_of hMR.o_at, fun l => withO_of (get_old (l := l) hMR.o_at), hM.k2, hM.sz, withC_of rq4, rq9, withO_of hz, fun l => withO_of (get_old (l := l) hz), hz2, hz3, y1, y2, withO_of hzR2]
          refine need_intro ((hM2.o_at).trans (get_old hMR.o_at).symm) (need_intro hz1 (need_intro (by rw [hz5, List.length_map]; omega) ?_))
          obtain ⟨mF, hmF⟩ : ∃ mF, mF = m2'.set ps[q] ⟨(rb.set 0 x2').map (Value.int .i64), z.elem, 1, z.kind⟩ := ⟨_, rfl⟩
          have hfold : m2'.set ps[q] ⟨z.cells.set 0 (.int .i64 x2'), z.elem, 1, z.kind⟩ = mF := by rw [hmF, hz5, List.map_set]
          have hMF : MAt 4 m.length mF im o ss ps j := by rw [hmF]; exact (hM2.setIn hzne hzR2 hz1 hz2 hz3 hz4 hz5 x2').mono (by omega)
          have hbF : But is m mF := by rw [hmF]; exact butRest ((hbut.trans hbR).trans hb2') (RestS.set _ (by simp) _) hzlo
          have hsF : SrcA is a code (k + 1500) mF := by rw [hmF]; exact (hs2'.keep (But.set (is := ps[q]) m2' _) (by omega) (fun h0 z hz => by have := hsrc.off h0 z hz; omega)).mono (by omega)
          simp only [hfold]
          obtain ⟨vG, mG, hcG, bG, rfl, hbG, hsG, hlG⟩ := one_c is a code (k + 1500) 24 (by omega) mF hsF
          refine callsTo Try.cal84 hcG ?_
          simp -dsimp -implicitDefEqProofs [s0, s4, s5, s6, s7, s8, g1]
          refine sp2 (fun gg => ?_) (fun gg => ?_)
          · obtain ⟨vH, mH, hcH, xH, rfl, hbH, hsH, hlH⟩ := amongLit_c is a code (k + 1502) (by omega) [-1, 0, 6, 7] 4 rfl mG (hsG.mono (by omega)) (by decide)
            refine callsTo Try.cal86 hcH ?_
            simp -dsimp -implicitDefEqProofs [s0, s4, s5, s6, s7, s8, g1]
            have hbZ := (hbF.trans hbG).trans hbH
            have hlZ := hbZ.len
            exact ⟨_, _, GC.refl _ _ _, xH, 0, mH.length, _, [], [], rfl, by omega, hbZ.trans (But.app _ _ _), (hsH.app _).mono (by omega), ⟨by simp; rfl, by simp, by simp, rfl, rfl, rfl, rfl, rfl, by simp, by omega, by simp, fun i h1 => by simp at h1⟩⟩
          · exact ⟨_, _, GC.refl _ _ _, kd, j, im, _, _, _, rfl, by omega, hbF.trans hbG, hsG.mono (by omega), hMF.but hbG his⟩
        ·
          have hq1 : q < ss.length := by rw [hM.ls]; exact hqn
          have hq2 : q < ps.length := by rw [hM.lp]; exact hqn
          have hM3 : MAt 3 m.length mR im o ss ps j := hMR
          obtain ⟨rd, rst, ra, rb, rq1, rq2, rq3, rq4, rq5, rq6, rq7, rq8, rq9, rq10⟩ := hM3.row q hq1 hq2
          obtain ⟨z, hz, hz1, hz2, hz3, hz4, hz5⟩ := id rq5
          have hmemq := List.mem_append_left ps (List.getElem_mem hq1)
          have hzne : ss[q] ≠ im := (hM.los _ hmemq).2
          have hzlo : m.length ≤ ss[q] := (hM.los _ hmemq).1
          have himl := lt_of_get hMR.o_at
          have hzl := lt_of_get hz
          simp -dsimp -implicitDefEqProofs [s0, s4, s5, s6, s7, s8, g1, hpos, hqn, withO_of hMR.o_at, fun l => withO_of (get_old (l := l) hMR.o_at), hM.k2, hM.sz, withC_of rq3]
          refine appTo_grow (e := 2) (sz := 1) (by_ := 8) (z := .int .i64 0) (by kernel_rfl) (by kernel_rfl) ⟨by decide, rfl⟩ (o := z) (get_old hz) ⟨hz1, hz2⟩ ⟨hz3, hz4⟩ (by rw [hz5]; simp) (by omega) (Src.obj (o := ⟨[.int .i64 1], 2, 1, 1⟩) (by simp) (by simp) rfl rfl) ?_
          intro m4' s2 hg4
          rw [hz5] at hg4
          have hMA2 : MAt 3 m.length (mR ++ [⟨[.int .i64 1], 2, 1, 1⟩]) im o ss ps j := hM3.rest (S := []) (RestS.of_pre ⟨_, rfl⟩) (by simp) (by simp)
          have hApp := hMA2.app hq1 hq2 (rq5.pre ⟨_, rfl⟩) rq8 1 hg4
          have ho4 := hg4.old _ _ (Ne.symm hzne) (get_old hMR.o_at)
          simp -dsimp -implicitDefEqProofs [s0, s4, s5, s6, s7, s8, g1, hpos, hqn, withO_of hMR.o_at, fun l => withO_of (get_old (l := l) hMR.o_at), hM.k2, hM.sz, withC_of rq3, withO_of ho4]
          refine need_intro hM.k1 (need_intro (by rw [hM.clen]; omega) ?_)
          obtain ⟨mF, hmF⟩ : ∃ mF, mF = m4'.set im ⟨o.cells.set (q * 4 + 2) (.slice (some ⟨s2, 0, none⟩) (ra.length + 1) (ra.length + 1)), o.elem, 4, o.kind⟩ := ⟨_, rfl⟩
          have hfold := hmF.symm
          have hMF : MAt 4 m.length mF im ⟨o.cells.set (q * 4 + 2) (.slice (some ⟨s2, 0, none⟩) (ra.length + 1) (ra.length + 1)), o.elem, 4, o.kind⟩ (ss.set q s2) ps j := by rw [hmF]; exact hApp
          have hrF : RestS [ss[q], im] mR mF := by
            rw [hmF]
            exact ⟨by have := hg4.len; simp at *; omega, fun i o' h1 h2 => by
              simp at h1
              rw [List.getElem?_set_ne (Ne.symm h1.2)]; exact hg4.old _ _ h1.1 (get_old h2)⟩
          have hbmR := hbut.trans hbR
          have hbF : But is m mF := ⟨by have := hbmR.len; have := hrF.len; omega, fun i o' h1 h2 => hrF.get i o' (by have := lt_of_get h2; have := hM.lo_; simp; omega) (hbmR.get i o' h1 h2)⟩
          have hsF : SrcA is a code (k + 1500) mF := by
            have e1 : But ss[q] (mR ++ [⟨[.int .i64 1], 2, 1, 1⟩]) m4' := ⟨by have := hg4.len; omega, fun i o' h1 h2 => hg4.old i o' h1 h2⟩
            rw [hmF]
            exact (((hsR.app _).keep e1 (by omega) (fun h0 z hz => by have := hsrc.off h0 z hz; omega)).keep (But.set (is := im) m4' _) (by have := hM.lo_; omega) (fun h0 z hz => by have := hsrc.off h0 z hz; have := hM.lo_; omega)).mono (by omega)
          simp only [hfold]
          obtain ⟨vG, mG, hcG, bG, rfl, hbG, hsG, hlG⟩ := one_c is a code (k + 1500) 24 (by omega) mF hsF
          refine callsTo Try.cal84 hcG ?_
          simp -dsimp -implicitDefEqProofs [s0, s4, s5, s6, s7, s8, g1]
          refine sp2 (fun gg => ?_) (fun gg => ?_)
          · obtain ⟨vH, mH, hcH, xH, rfl, hbH, hsH, hlH⟩ := amongLit_c is a code (k + 1502) (by omega) [-1, 0, 6, 7] 4 rfl mG (hsG.mono (by omega)) (by decide)
            refine callsTo Try.cal86 hcH ?_
            simp -dsimp -implicitDefEqProofs [s0, s4, s5, s6, s7, s8, g1]
            have hbZ := (hbF.trans hbG).trans hbH
            have hlZ := hbZ.len
            exact ⟨_, _, GC.refl _ _ _, xH, 0, mH.length, _, [], [], rfl, by omega, hbZ.trans (But.app _ _ _), (hsH.app _).mono (by omega), ⟨by simp; rfl, by simp, by simp, rfl, rfl, rfl, rfl, rfl, by simp, by omega, by simp, fun i h1 => by simp at h1⟩⟩
          · exact ⟨_, _, GC.refl _ _ _, kd, j, im, _, _, _, rfl, by omega, hbF.trans hbG, hsG.mono (by omega), hMF.but hbG his⟩
        · obtain ⟨mF, hmF⟩ : ∃ mF, mF = mR := ⟨_, rfl⟩
          rw [← hmF]
          have hMF : MAt 4 m.length mF im o ss ps j := by rw [hmF]; exact hMR.mono (by omega)
          have hbF : But is m mF := by rw [hmF]; exact hbut.trans hbR
          have hsF : SrcA is a code (k + 1500) mF := by rw [hmF]; exact hsR.mono (by omega)
          obtain ⟨vG, mG, hcG, bG, rfl, hbG, hsG, hlG⟩ := one_c is a code (k + 1500) 24 (by omega) mF hsF
          refine callsTo Try.cal84 hcG ?_
          simp -dsimp -implicitDefEqProofs [s0, s4, s5, s6, s7, s8, g1]
          refine sp2 (fun gg => ?_) (fun gg => ?_)
          · obtain ⟨vH, mH, hcH, xH, rfl, hbH, hsH, hlH⟩ := amongLit_c is a code (k + 1502) (by omega) [-1, 0, 6, 7] 4 rfl mG (hsG.mono (by omega)) (by decide)
            refine callsTo Try.cal86 hcH ?_
            simp -dsimp -implicitDefEqProofs [s0, s4, s5, s6, s7, s8, g1]
            have hbZ := (hbF.trans hbG).trans hbH
            have hlZ := hbZ.len
            exact ⟨_, _, GC.refl _ _ _, xH, 0, mH.length, _, [], [], rfl, by omega, hbZ.trans (But.app _ _ _), (hsH.app _).mono (by omega), ⟨by simp; rfl, by simp, by simp, rfl, rfl, rfl, rfl, rfl, by simp, by omega, by simp, fun i h1 => by simp at h1⟩⟩
          · exact ⟨_, _, GC.refl _ _ _, kd, j, im, _, _, _, rfl, by omega, hbF.trans hbG, hsG.mono (by omega), hMF.but hbG his⟩
      · simp -dsimp -implicitDefEqProofs [s0, s4, s5, s6, s7, s8, g1, hpos]
        obtain ⟨mF, hmF⟩ : ∃ mF, mF = m' := ⟨_, rfl⟩
        rw [← hmF]
        have hMF : MAt 4 m.length mF im o ss ps j := by rw [hmF]; exact hM.mono (by omega)
        have hbF : But is m mF := by rw [hmF]; exact hbut
        have hsF : SrcA is a code (k + 1500) mF := by rw [hmF]; exact hsrc.mono (by omega)
        obtain ⟨vG, mG, hcG, bG, rfl, hbG, hsG, hlG⟩ := one_c is a code (k + 1500) 24 (by omega) mF hsF
        refine callsTo Try.cal84 hcG ?_
        simp -dsimp -implicitDefEqProofs [s0, s4, s5, s6, s7, s8, g1]
        refine sp2 (fun gg => ?_) (fun gg => ?_)
        · obtain ⟨vH, mH, hcH, xH, rfl, hbH, hsH, hlH⟩ := amongLit_c is a code (k + 1502) (by omega) [-1, 0, 6, 7] 4 rfl mG (hsG.mono (by omega)) (by decide)
          refine callsTo Try.cal86 hcH ?_
          simp -dsimp -implicitDefEqProofs [s0, s4, s5, s6, s7, s8, g1]
          have hbZ := (hbF.trans hbG).trans hbH
          have hlZ := hbZ.len
          exact ⟨_, _, GC.refl _ _ _, xH, 0, mH.length, _, [], [], rfl, by omega, hbZ.trans (But.app _ _ _), (hsH.app _).mono (by omega), ⟨by simp; rfl, by simp, by simp, rfl, rfl, rfl, rfl, rfl, by simp, by omega, by simp, fun i h1 => by simp at h1⟩⟩
        · exact ⟨_, _, GC.refl _ _ _, kd, j, im, _, _, _, rfl, by omega, hbF.trans hbG, hsG.mono (by omega), hMF.but hbG his⟩
end Go.Proofs.Ytciekhcdkfhcoaa
