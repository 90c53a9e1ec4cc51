/-
  Lids, part 21: drawn lids, widths and slacks (as parts 9 and 10, with less ahead of it). Conditions: none.
-/
import Derived.Test.YthadhfogmfcacaaDoorLidB
import Derived.Test.YthadhfogmfcacaaDoorDraw2
set_option linter.unusedSimpArgs false
set_option linter.unusedVariables false
set_option linter.unusedSectionVars false
namespace Go.Proofs.YthadhfogmfcacaaDoor
open Go.Abs Go.RowKit

/-- An object of numbers, and one of lids. -/
def IntsAt (m : Mem) (id : Nat) (l : List Int) : Prop := ∃ o : AObj, m[id]? = some o ∧ 1 ≤ o.kind ∧ o.kind ≤ 2 ∧ o.sz = 1 ∧ o.elem = 2 ∧ o.cells = l.map (Value.int .i64)
def LidsAt (m : Mem) (id : Nat) (l : List I3) : Prop := ∃ o : AObj, m[id]? = some o ∧ 1 ≤ o.kind ∧ o.kind ≤ 2 ∧ o.sz = 3 ∧ o.elem = 25 ∧ o.cells = (l.map v3).flatten
theorem IntsAt.pre {m m' : Mem} {id : Nat} {l : List Int} (h : IntsAt m id l) (hp : m <+: m') : IntsAt m' id l := by
  obtain ⟨o, h1, h2⟩ := h; exact ⟨o, prefix_get hp h1, h2⟩
theorem LidsAt.pre {m m' : Mem} {id : Nat} {l : List I3} (h : LidsAt m id l) (hp : m <+: m') : LidsAt m' id l := by
  obtain ⟨o, h1, h2⟩ := h; exact ⟨o, prefix_get hp h1, h2⟩
theorem IntsAt.rd {m : Mem} {id : Nat} {l : List Int} (h : IntsAt m id l) : RdI m (some ⟨id, 0, none⟩) l := by
  obtain ⟨o, h1, h2, h3, h4, h5, h6⟩ := h; exact RdI.of_get h1 h3 h4 h6
theorem LidsAt.rd {m : Mem} {id : Nat} {l : List I3} (h : LidsAt m id l) : RdG v3 3 m (some ⟨id, 0, none⟩) l := by
  obtain ⟨o, h1, h2, h3, h4, h5, h6⟩ := h; exact RdG.of_get (g := v3) (sz := 3) (fun _ => rfl) l h1 h3 h4 h6
theorem IntsAt.lt {m : Mem} {id : Nat} {l : List Int} (h : IntsAt m id l) : id < m.length := lt_of_get h.choose_spec.1
theorem LidsAt.lt {m : Mem} {id : Nat} {l : List I3} (h : LidsAt m id l) : id < m.length := lt_of_get h.choose_spec.1
/-- A lid that is drawn. -/
def NewLid (is : Nat) (a : Option Addr) (code : List Int) (k : Int) (m : Mem) (v : Value) (m' : Mem) : Prop :=
  ∃ p : I3, v = .agg (v3 p).toArray ∧ But is m m' ∧ SrcA is a code k m'
theorem l22New_c (is : Nat) (a : Option Addr) (code : List Int) (k : Int) (hk : k < 800000000) (m : Mem) (h : SrcA is a code k m) :
    ∃ v m', ACalls Tryd.prog 42 [.pointer (some ⟨is, 0, none⟩)] m v m' ∧ NewLid is a code (k + 6) m v m' := by
  have his : is < m.length := lt_of_get h.obj.choose_spec.choose_spec.1
  obtain ⟨v1, m1, hc1, x1, rfl, hx1, hb1, hs1, hl1⟩ := pick_c is a code k 60 (by omega) (m ++ [⟨[.int .i64 0, .int .i64 0, .int .i64 0], 25, 3, 1⟩]) (h.app _)
  obtain ⟨v2, m2, hc2, x2, rfl, hx2, hb2, hs2, hl2⟩ := pick_c is a code (k + 2) 5 (by omega) m1 hs1
  obtain ⟨v3', m3, hc3, x3, rfl, hx3, hb3, hs3, hl3⟩ := pick_c is a code (k + 2 + 2) 30 (by omega) (m2 ++ [⟨[.int .i64 (IntKind.i64.wrap (40 + x1)), .int .i64 (IntKind.i64.wrap (1 + x2)), .int .i64 0], 25, 3, 1⟩]) (hs2.app _)
  simp at hl1
  have q0 : m1[m.length]? = some ⟨[.int .i64 0, .int .i64 0, .int .i64 0], 25, 3, 1⟩ := hb1.get _ _ (by omega) (by simp)
  have q1 := hb3.get _ _ (show m.length ≠ is by omega) (get_old (l := [⟨[.int .i64 (IntKind.i64.wrap (40 + x1)), .int .i64 (IntKind.i64.wrap (1 + x2)), .int .i64 0], 25, 3, 1⟩]) (hb2.get _ _ (show m.length ≠ is by omega) q0))
  have q2 : m3[m2.length]? = some ⟨[.int .i64 (IntKind.i64.wrap (40 + x1)), .int .i64 (IntKind.i64.wrap (1 + x2)), .int .i64 0], 25, 3, 1⟩ := hb3.get _ _ (by omega) (by simp)
  refine ecalls_of_vc Tryd.func42 rfl Tryd.fol (by kernel_rfl) ?_
  simp only [Tryd.f42]
  simp -dsimp -implicitDefEqProofs
  refine callsTo Tryd.cal40 hc1 ?_
  simp -dsimp -implicitDefEqProofs
  refine callsTo Tryd.cal40 hc2 ?_
  simp -dsimp -implicitDefEqProofs
  have z1 : ∀ x, (m3.set m2.length x)[m.length]? = some ⟨[.int .i64 0, .int .i64 0, .int .i64 0], 25, 3, 1⟩ := fun x => by rw [List.getElem?_set_ne (by omega)]; exact q1
  refine callsTo Tryd.cal40 hc3 ?_
  simp -dsimp -implicitDefEqProofs [fun x => withO_of (get_set q2 x), withO_of q2, fun x => withO_of (z1 x), fun x y => withO_of (get_set (z1 x) y)]
  have hs3' : ∀ x y, SrcA is a code (k + 6) ((m3.set m2.length x).set m.length y) := fun x y => by
    have e1 := hs3.keep (But.set (is := m2.length) m3 x) (by omega) (fun h0 z hz => by have := hs3.off h0 z hz; omega)
    exact (e1.keep (But.set (is := m.length) _ y) (by omega) (fun h0 z hz => by have := hs3.off h0 z hz; omega)).mono (by omega)
  have hbb : ∀ x y, But is m ((m3.set m2.length x).set m.length y) := fun x y => by
    have h3 := hb3.len
    simp at h3
    refine ⟨by simp; omega, fun i o h1 h2 => ?_⟩
    have hi := lt_of_get h2
    rw [List.getElem?_set_ne (by omega), List.getElem?_set_ne (by omega)]
    exact hb3.get _ _ h1 (get_old (hb2.get _ _ h1 (hb1.get _ _ h1 (get_old h2))))
  exact ⟨_, _, GC.refl _ _ _, (_, _, _), rfl, hbb _ _, hs3' _ _⟩
theorem rows_set0 (p : I3) (xs : List I3) (x : Int) : (((p :: xs).map v3).flatten).set 0 (.int .i64 x) = ((((x, p.2.1, p.2.2) : I3) :: xs).map v3).flatten := by simp [v3]
theorem rows_set1 (p : I3) (xs : List I3) (x : Int) : (((p :: xs).map v3).flatten).set 1 (.int .i64 x) = ((((p.1, x, p.2.2) : I3) :: xs).map v3).flatten := by simp [v3]
theorem rows_set2 (p : I3) (xs : List I3) (x : Int) : (((p :: xs).map v3).flatten).set 2 (.int .i64 x) = ((((p.1, p.2.1, x) : I3) :: xs).map v3).flatten := by simp [v3]
/-- The first row has been changed. -/
def Spoiled (is id : Nat) (a : Option Addr) (code : List Int) (k : Int) (n : Nat) (e : TypeId) (kd : Nat) (m : Mem) (v : Value) (m' : Mem) : Prop :=
  v = .tuple #[] ∧ RestS [is, id] m m' ∧ SrcA is a code k m' ∧ ∃ ys : List I3, ys.length = n ∧ m'[id]? = some ⟨(ys.map v3).flatten, e, 3, kd⟩
theorem restOf {is : Nat} {S : List Nat} {m m' : Mem} (h : But is m m') (hi : is ∈ S) : RestS S m m' := ⟨h.len, fun i o h1 h2 => h.get i o (fun e => h1 (e ▸ hi)) h2⟩
theorem butOf {is : Nat} {m m' : Mem} (h : RestS [is] m m') : But is m m' := ⟨h.len, fun i o h1 h2 => h.get i o (by simpa using h1) h2⟩
theorem l22Spoil_c (is : Nat) (a : Option Addr) (code : List Int) (k : Int) (hk : k < 800000000) (id : Nat) (p : I3) (xs : List I3) (e : TypeId) (kd : Nat) (hkd : 1 ≤ kd ∧ kd ≤ 2) (m : Mem) (h : SrcA is a code k m) (hne : id ≠ is) (hcode : is < id) (ho : m[id]? = some ⟨((p :: xs).map v3).flatten, e, 3, kd⟩) :
    ∃ v m', ACalls Tryd.prog 43 [.pointer (some ⟨is, 0, none⟩), .pointer (some ⟨id, 0, none⟩)] m v m' ∧ Spoiled is id a code (k + 4) (xs.length + 1) e kd m v m' := by
  have his : is < m.length := lt_of_get h.obj.choose_spec.choose_spec.1
  obtain ⟨v1, m1, hc1, x1, rfl, hx1, hb1, hs1, hl1⟩ := pick_c is a code k 3 (by omega) m h
  simp at hx1
  have hkd2 := hkd.2
  refine ecalls_of_vc Tryd.func43 rfl Tryd.fol (by kernel_rfl) ?_
  simp only [Tryd.f43]
  simp -dsimp -implicitDefEqProofs
  refine callsTo Tryd.cal40 hc1 ?_
  simp -dsimp -implicitDefEqProofs
  have hfin : ∀ (m2 : Mem), But is m1 m2 → SrcA is a code (k + 4) m2 → m2.length = m1.length + 1 → ∀ (ys : List I3) (cells : List Value), ys.length = xs.length + 1 → cells = (ys.map v3).flatten → Spoiled is id a code (k + 4) (xs.length + 1) e kd m (.tuple #[]) (m2.set id ⟨cells, e, 3, kd⟩) := fun m2 hb2 hs2 hl2 ys cells hy hcl => by
    subst hcl
    have ho2 := hb2.get _ _ hne (hb1.get _ _ hne ho)
    refine ⟨rfl, (restOf (hb1.trans hb2) (by simp)).trans (RestS.set _ (by simp) _), hs2.keep (But.set (is := id) m2 _) (by omega) (fun h0 z hz => by have := hs2.off h0 z hz; omega), ys, hy, get_set ho2 _⟩
  refine sp2 (fun g => ?_) (fun g => sp2 (fun g' => ?_) (fun g' => sp2 (fun g'' => ?_) (fun g'' => ?_)))
  · obtain ⟨v2, m2, hc2, x2, rfl, hb2, hs2, hl2⟩ := amongLit_c is a code (k + 2) (by omega) [-1, 19, 20, 2000, 2001, -9223372036854775808] 6 rfl m1 hs1 (by decide)
    have ho2 := hb2.get _ _ hne (hb1.get _ _ hne ho)
    refine callsTo Tryd.cal44 hc2 ?_
    simp -dsimp -implicitDefEqProofs
    simp -dsimp -implicitDefEqProofs [withO_of ho2, hkd, hkd2]
    refine need_intro (by have : (v3 p).length = 3 := rfl; omega) ?_
    exact ⟨_, _, GC.refl _ _ _, hfin m2 hb2 (hs2.mono (by omega)) hl2 _ _ (by simp) (rows_set0 p xs x2)⟩
  · obtain ⟨v2, m2, hc2, x2, rfl, hb2, hs2, hl2⟩ := amongLit_c is a code (k + 2) (by omega) [-1, 0, 1, 9, 10] 5 rfl m1 hs1 (by decide)
    have ho2 := hb2.get _ _ hne (hb1.get _ _ hne ho)
    refine callsTo Tryd.cal44 hc2 ?_
    simp -dsimp -implicitDefEqProofs
    simp -dsimp -implicitDefEqProofs [withO_of ho2, hkd, hkd2]
    refine need_intro (by have : (v3 p).length = 3 := rfl; omega) ?_
    exact ⟨_, _, GC.refl _ _ _, hfin m2 hb2 (hs2.mono (by omega)) hl2 _ _ (by simp) (rows_set1 p xs x2)⟩
  · obtain ⟨v2, m2, hc2, x2, rfl, hb2, hs2, hl2⟩ := amongLit_c is a code (k + 2) (by omega) [-1, 0, 1, 10000, 10001] 5 rfl m1 hs1 (by decide)
    have ho2 := hb2.get _ _ hne (hb1.get _ _ hne ho)
    refine callsTo Tryd.cal44 hc2 ?_
    simp -dsimp -implicitDefEqProofs
    simp -dsimp -implicitDefEqProofs [withO_of ho2, hkd, hkd2]
    refine need_intro (by have : (v3 p).length = 3 := rfl; omega) ?_
    exact ⟨_, _, GC.refl _ _ _, hfin m2 hb2 (hs2.mono (by omega)) hl2 _ _ (by simp) (rows_set2 p xs x2)⟩
  · exfalso
    simp at g g' g''
    omega
def DrawnL (is : Nat) (a : Option Addr) (code : List Int) (k : Int) (m : Mem) (v : Value) (m' : Mem) : Prop :=
  ∃ xs id, xs.length ≤ 13 ∧ v = .slice (some ⟨id, 0, none⟩) xs.length xs.length ∧ But is m m' ∧ SrcA is a code k m' ∧ m.length ≤ id ∧ LidsAt m' id xs
theorem butRest {is id : Nat} {m m1 m' : Mem} (h : But is m m1) (hr : RestS [is, id] m1 m') (hid : m.length ≤ id) : But is m m' :=
  ⟨by have := h.len; have := hr.len; omega, fun i o h1 h2 => hr.get i o (by have := lt_of_get h2; simp; omega) (h.get i o h1 h2)⟩
theorem l22Draw_c (is : Nat) (a : Option Addr) (code : List Int) (k : Int) (hk : k < 700000000) (m : Mem) (h : SrcA is a code k m) :
    ∃ v m', ACalls Tryd.prog 24 [.pointer (some ⟨is, 0, none⟩)] m v m' ∧ DrawnL is a code (k + 200) m v m' := by
  have his : is < m.length := lt_of_get h.obj.choose_spec.choose_spec.1
  obtain ⟨v1, m1, hc1, x1, rfl, hx1, hb1, hs1, hl1⟩ := pick_c is a code k 7 (by omega) (m ++ [⟨[], 25, 3, 1⟩]) (h.app _)
  obtain ⟨v2, m2, hc2, b2, rfl, hb2, hs2, hl2⟩ := one_c is a code (k + 2) 20 (by omega) m1 hs1
  obtain ⟨v3', m3, hc3, x3, rfl, hx3, hb3, hs3, hl3⟩ := pick_c is a code (k + 2 + 2) 2 (by omega) m2 hs2
  simp at hx1 hx3 hl1
  have hw3 : IntKind.i64.wrap (12 + x3) = 12 + x3 := wrapI (by omega) (by omega)
  have q1 : LidsAt m1 m.length [] := ⟨⟨[], 25, 3, 1⟩, hb1.get _ _ (by omega) (by simp), by simp, by simp, rfl, rfl, rfl⟩
  refine ecalls_of_vc Tryd.func24 rfl Tryd.fol (by kernel_rfl) ?_
  simp only [Tryd.f24]
  simp -dsimp -implicitDefEqProofs
  refine callsTo Tryd.cal40 hc1 ?_
  simp -dsimp -implicitDefEqProofs
  refine callsTo Tryd.cal41 hc2 ?_
  simp -dsimp -implicitDefEqProofs
  have hbm2 : But is m m2 := ((But.app is m _).trans hb1).trans hb2
  refine sp2 (fun g => ?_) (fun g => ?_)
  · refine callsTo Tryd.cal40 hc3 ?_
    simp -dsimp -implicitDefEqProofs
    obtain ⟨n, hn⟩ : ∃ n, n = 12 + x3 := ⟨_, rfl⟩
    rw [hw3, ← hn]
    have hn0 : 0 ≤ n ∧ n ≤ 13 := by omega
    obtain ⟨mX, hmX⟩ : ∃ mX, mX = m3 := ⟨_, rfl⟩
    rw [← hmX]
    have hbX : But is m mX := by rw [hmX]; exact hbm2.trans hb3
    have hsX : SrcA is a code (k + 6) mX := by rw [hmX]; exact hs3.mono (by omega)
    have qX : LidsAt mX m.length [] := by
      obtain ⟨o, o1, o2⟩ := q1
      exact ⟨o, by rw [hmX]; exact hb3.get _ _ (by omega) (hb2.get _ _ (by omega) o1), o2⟩
    clear hmX hn hw3 hx3 hb3 hs3 hl3 hc3
    refine loopN n.toNat (fun j σ m' => ∃ xs id, (xs.length = j ∧ But is m m' ∧ SrcA is a code (k + 6 + 6 * j) m' ∧ m.length ≤ id ∧ LidsAt m' id xs) ∧ σ 0 = some (.pointer (some ⟨is, 0, none⟩)) ∧ σ 3 = some (.slice (some ⟨id, 0, none⟩) j j) ∧ σ 4 = some (.int .i64 n) ∧ σ 5 = some (.int .i64 (n - j)))
      ⟨[], m.length, ⟨rfl, hbX, hsX.mono (by omega), Nat.le_refl _, qX⟩, by simp, by simp, by simp, by simp⟩ ?_
    rintro j σ m' hj ⟨xs, id, ⟨rfl, hbut, hsrc, hid, hL⟩, s0, s3, s4, s5⟩
    by_cases hlt : xs.length < n.toNat
    · have g1 : (xs.length : Int) < n := by omega
      obtain ⟨v4, m4, hc4, p, rfl, hb4, hs4⟩ := l22New_c is a code (k + 6 + 6 * xs.length) (by omega) m' hsrc
      have hw5 : IntKind.i64.wrap (n - (xs.length : Int) - 1) = n - ((xs.length : Int) + 1) := by rw [wrapI (by omega) (by omega)]; omega
      obtain ⟨o, ho, ho1, ho2, ho3, ho4, ho5⟩ := hL
      have ho' := hb4.get _ _ (show id ≠ is by omega) ho
      have hmade : madeCells #[.int .i64 0, .int .i64 0, .int .i64 0] 3 = #[.int .i64 0, .int .i64 0, .int .i64 0] := by
        have := made_rows #[.int .i64 0, .int .i64 0, .int .i64 0] 1 (by simp)
        exact Array.toList_inj.1 (by simpa using this)
      simp -dsimp -implicitDefEqProofs [s0, s3, s4, s5, g1, v3, hw5, hmade]
      refine callsTo Tryd.cal42 hc4 ?_
      simp -dsimp -implicitDefEqProofs [s0, s3, s4, s5, g1, v3, hw5, hmade]
      refine appTo_grow (e := 25) (sz := 3) (by_ := 24) (z := .agg #[.int .i64 0, .int .i64 0, .int .i64 0]) (by kernel_rfl) (by kernel_rfl) ⟨by decide, rfl⟩ (o := o) (get_old ho') ⟨ho1, ho2⟩ ⟨ho3, ho4⟩ (by rw [ho5, flatten_length (sz := 3) (by intro r hr; obtain ⟨x, _, rfl⟩ := List.mem_map.1 hr; rfl), List.length_map]) (by omega) (Src.obj (o := ⟨[.int .i64 p.1, .int .i64 p.2.1, .int .i64 p.2.2], 25, 3, 1⟩) (by simp) (by simp) rfl rfl) ?_
      intro m5 id5 hg
      have hb5 : But id (m4 ++ [⟨[.int .i64 p.1, .int .i64 p.2.1, .int .i64 p.2.2], 25, 3, 1⟩]) m5 := ⟨by have := hg.len; omega, fun i o' h1 h2 => hg.old i o' h1 h2⟩
      have hbb := hbut.trans hb4
      simp -dsimp -implicitDefEqProofs [s0, s3, s4, s5, g1, v3, hw5, hmade]
      refine next_ hlt ⟨xs ++ [p], id5, ⟨by simp, ⟨by have := hb5.len; have := hbb.len; simp at *; omega, fun i o' h1 h2 => hb5.get _ _ (by have := lt_of_get h2; omega) (get_old (hbb.get i o' h1 h2))⟩, ((hs4.app _).keep hb5 (by omega) (fun h0 x hx => by have := hsrc.off h0 x hx; omega)).mono (by simp; omega), by rw [hg.at_]; simp; have := hbb.len; omega, ⟨_, hg.new, by simp, by simp, rfl, rfl, by simp [ho5, v3]⟩⟩, by simp [s0], by simp, by simp [s4], by simp [hw5]⟩
    · have g1 : ¬ (xs.length : Int) < n := by omega
      have hfin : ∀ m6, But is m m6 → SrcA is a code (k + 200) m6 → ∀ ys : List I3, ys.length = xs.length → LidsAt m6 id ys → ∃ v'' m'', GC m m6 (.slice (some ⟨id, 0, none⟩) xs.length xs.length) m'' v'' ∧ DrawnL is a code (k + 200) m v'' m'' := fun m6 h1 h2 ys h3 h4 =>
        ⟨_, _, GC.refl _ _ _, ys, id, by omega, by rw [h3], h1, h2, hid, h4⟩
      obtain ⟨v4, m4, hc4, b4, rfl, hb4, hs4, hl4⟩ := one_c is a code (k + 6 + 6 * xs.length) 10 (by omega) m' hsrc
      have hne : id ≠ is := by omega
      have hL4 : LidsAt m4 id xs := by
        obtain ⟨o, o1, o2⟩ := hL
        exact ⟨o, hb4.get _ _ hne o1, o2⟩
      have hout : xs.length = n.toNat := by omega
      simp -dsimp -implicitDefEqProofs [s0, s3, s4, s5, g1]
      by_cases hpos : 0 < n
      · simp -dsimp -implicitDefEqProofs [s0, s3, s4, s5, g1, hpos]
        refine callsTo Tryd.cal41 hc4 ?_
        simp -dsimp -implicitDefEqProofs [s0, s3, s4, s5, g1, hpos]
        refine sp2 (fun g2 => ?_) (fun g2 => ?_)
        · match xs, hL4, hout, hfin with
          | [], _, hout, _ => exact absurd hout (by simp <;> omega)
          | p :: xs, ⟨⟨cells, el, sz, kd⟩, w1, w2, w3, w4, w5, w6⟩, hout, hfin =>
            simp only at w2 w3 w4 w5 w6
            subst w4 w5 w6
            obtain ⟨v6, m6, hc6, rfl, hr6, hs6, ys, hy, ho6⟩ := l22Spoil_c is a code (k + 6 + 6 * ((p :: xs).length : Int) + 2) (by omega) id p xs _ kd ⟨w2, w3⟩ m4 hs4 hne (by omega) w1
            have hpos2 : (0 : Int) < ((p :: xs).length : Int) := by simp <;> omega
            simp -dsimp -implicitDefEqProofs [s0, s3, s4, s5, g1, hpos, withO_of w1, w3, hpos2]
            refine callsTo Tryd.cal43 hc6 ?_
            simp -dsimp -implicitDefEqProofs [s0, s3, s4, s5, g1, hpos]
            exact hfin m6 (butRest (hbut.trans hb4) hr6 hid) (hs6.mono (by omega)) ys hy ⟨_, ho6, w2, w3, rfl, rfl, rfl⟩
        · exact hfin m4 (hbut.trans hb4) (hs4.mono (by omega)) xs rfl hL4
      · simp -dsimp -implicitDefEqProofs [s0, s3, s4, s5, g1, hpos, hpos]
        exact hfin m' hbut (hsrc.mono (by omega)) xs rfl hL
  · obtain ⟨n, hn⟩ : ∃ n, n = x1 := ⟨_, rfl⟩
    rw [← hn]
    have hn0 : 0 ≤ n ∧ n ≤ 13 := by omega
    obtain ⟨mX, hmX⟩ : ∃ mX, mX = m2 := ⟨_, rfl⟩
    rw [← hmX]
    have hbX : But is m mX := by rw [hmX]; exact hbm2
    have hsX : SrcA is a code (k + 6) mX := by rw [hmX]; exact hs2.mono (by omega)
    have qX : LidsAt mX m.length [] := by
      obtain ⟨o, o1, o2⟩ := q1
      exact ⟨o, by rw [hmX]; exact hb2.get _ _ (by omega) o1, o2⟩
    clear hmX hn hw3 hx3 hb3 hs3 hl3 hc3
    refine loopN n.toNat (fun j σ m' => ∃ xs id, (xs.length = j ∧ But is m m' ∧ SrcA is a code (k + 6 + 6 * j) m' ∧ m.length ≤ id ∧ LidsAt m' id xs) ∧ σ 0 = some (.pointer (some ⟨is, 0, none⟩)) ∧ σ 3 = some (.slice (some ⟨id, 0, none⟩) j j) ∧ σ 4 = some (.int .i64 n) ∧ σ 5 = some (.int .i64 (n - j)))
      ⟨[], m.length, ⟨rfl, hbX, hsX.mono (by omega), Nat.le_refl _, qX⟩, by simp, by simp, by simp, by simp⟩ ?_
    rintro j σ m' hj ⟨xs, id, ⟨rfl, hbut, hsrc, hid, hL⟩, s0, s3, s4, s5⟩
    by_cases hlt : xs.length < n.toNat
    · have g1 : (xs.length : Int) < n := by omega
      obtain ⟨v4, m4, hc4, p, rfl, hb4, hs4⟩ := l22New_c is a code (k + 6 + 6 * xs.length) (by omega) m' hsrc
      have hw5 : IntKind.i64.wrap (n - (xs.length : Int) - 1) = n - ((xs.length : Int) + 1) := by rw [wrapI (by omega) (by omega)]; omega
      obtain ⟨o, ho, ho1, ho2, ho3, ho4, ho5⟩ := hL
      have ho' := hb4.get _ _ (show id ≠ is by omega) ho
      have hmade : madeCells #[.int .i64 0, .int .i64 0, .int .i64 0] 3 = #[.int .i64 0, .int .i64 0, .int .i64 0] := by
        have := made_rows #[.int .i64 0, .int .i64 0, .int .i64 0] 1 (by simp)
        exact Array.toList_inj.1 (by simpa using this)
      simp -dsimp -implicitDefEqProofs [s0, s3, s4, s5, g1, v3, hw5, hmade]
      refine callsTo Tryd.cal42 hc4 ?_
      simp -dsimp -implicitDefEqProofs [s0, s3, s4, s5, g1, v3, hw5, hmade]
      refine appTo_grow (e := 25) (sz := 3) (by_ := 24) (z := .agg #[.int .i64 0, .int .i64 0, .int .i64 0]) (by kernel_rfl) (by kernel_rfl) ⟨by decide, rfl⟩ (o := o) (get_old ho') ⟨ho1, ho2⟩ ⟨ho3, ho4⟩ (by rw [ho5, flatten_length (sz := 3) (by intro r hr; obtain ⟨x, _, rfl⟩ := List.mem_map.1 hr; rfl), List.length_map]) (by omega) (Src.obj (o := ⟨[.int .i64 p.1, .int .i64 p.2.1, .int .i64 p.2.2], 25, 3, 1⟩) (by simp) (by simp) rfl rfl) ?_
      intro m5 id5 hg
      have hb5 : But id (m4 ++ [⟨[.int .i64 p.1, .int .i64 p.2.1, .int .i64 p.2.2], 25, 3, 1⟩]) m5 := ⟨by have := hg.len; omega, fun i o' h1 h2 => hg.old i o' h1 h2⟩
      have hbb := hbut.trans hb4
      simp -dsimp -implicitDefEqProofs [s0, s3, s4, s5, g1, v3, hw5, hmade]
      refine next_ hlt ⟨xs ++ [p], id5, ⟨by simp, ⟨by have := hb5.len; have := hbb.len; simp at *; omega, fun i o' h1 h2 => hb5.get _ _ (by have := lt_of_get h2; omega) (get_old (hbb.get i o' h1 h2))⟩, ((hs4.app _).keep hb5 (by omega) (fun h0 x hx => by have := hsrc.off h0 x hx; omega)).mono (by simp; omega), by rw [hg.at_]; simp; have := hbb.len; omega, ⟨_, hg.new, by simp, by simp, rfl, rfl, by simp [ho5, v3]⟩⟩, by simp [s0], by simp, by simp [s4], by simp [hw5]⟩
    · have g1 : ¬ (xs.length : Int) < n := by omega
      have hfin : ∀ m6, But is m m6 → SrcA is a code (k + 200) m6 → ∀ ys : List I3, ys.length = xs.length → LidsAt m6 id ys → ∃ v'' m'', GC m m6 (.slice (some ⟨id, 0, none⟩) xs.length xs.length) m'' v'' ∧ DrawnL is a code (k + 200) m v'' m'' := fun m6 h1 h2 ys h3 h4 =>
        ⟨_, _, GC.refl _ _ _, ys, id, by omega, by rw [h3], h1, h2, hid, h4⟩
      obtain ⟨v4, m4, hc4, b4, rfl, hb4, hs4, hl4⟩ := one_c is a code (k + 6 + 6 * xs.length) 10 (by omega) m' hsrc
      have hne : id ≠ is := by omega
      have hL4 : LidsAt m4 id xs := by
        obtain ⟨o, o1, o2⟩ := hL
        exact ⟨o, hb4.get _ _ hne o1, o2⟩
      have hout : xs.length = n.toNat := by omega
      simp -dsimp -implicitDefEqProofs [s0, s3, s4, s5, g1]
      by_cases hpos : 0 < n
      · simp -dsimp -implicitDefEqProofs [s0, s3, s4, s5, g1, hpos]
        refine callsTo Tryd.cal41 hc4 ?_
        simp -dsimp -implicitDefEqProofs [s0, s3, s4, s5, g1, hpos]
        refine sp2 (fun g2 => ?_) (fun g2 => ?_)
        · match xs, hL4, hout, hfin with
          | [], _, hout, _ => exact absurd hout (by simp <;> omega)
          | p :: xs, ⟨⟨cells, el, sz, kd⟩, w1, w2, w3, w4, w5, w6⟩, hout, hfin =>
            simp only at w2 w3 w4 w5 w6
            subst w4 w5 w6
            obtain ⟨v6, m6, hc6, rfl, hr6, hs6, ys, hy, ho6⟩ := l22Spoil_c is a code (k + 6 + 6 * ((p :: xs).length : Int) + 2) (by omega) id p xs _ kd ⟨w2, w3⟩ m4 hs4 hne (by omega) w1
            have hpos2 : (0 : Int) < ((p :: xs).length : Int) := by simp <;> omega
            simp -dsimp -implicitDefEqProofs [s0, s3, s4, s5, g1, hpos, withO_of w1, w3, hpos2]
            refine callsTo Tryd.cal43 hc6 ?_
            simp -dsimp -implicitDefEqProofs [s0, s3, s4, s5, g1, hpos]
            exact hfin m6 (butRest (hbut.trans hb4) hr6 hid) (hs6.mono (by omega)) ys hy ⟨_, ho6, w2, w3, rfl, rfl, rfl⟩
        · exact hfin m4 (hbut.trans hb4) (hs4.mono (by omega)) xs rfl hL4
      · simp -dsimp -implicitDefEqProofs [s0, s3, s4, s5, g1, hpos, hpos]
        exact hfin m' hbut (hsrc.mono (by omega)) xs rfl hL
def SomeInt (is : Nat) (a : Option Addr) (code : List Int) (k : Int) (m : Mem) (v : Value) (m' : Mem) : Prop :=
  ∃ x : Int, v = .int .i64 x ∧ But is m m' ∧ SrcA is a code k m'
theorem l22DrawWidth_c (is : Nat) (a : Option Addr) (code : List Int) (k : Int) (hk : k < 800000000) (m : Mem) (h : SrcA is a code k m) :
    ∃ v m', ACalls Tryd.prog 25 [.pointer (some ⟨is, 0, none⟩)] m v m' ∧ SomeInt is a code (k + 4) m v m' := by
  obtain ⟨v1, m1, hc1, b1, rfl, hb1, hs1, hl1⟩ := one_c is a code k 10 (by omega) m h
  obtain ⟨v2, m2, hc2, x2, rfl, hb2, hs2, hl2⟩ := amongLit_c is a code (k + 2) (by omega) [-1, 0, 1, 2000, 2001] 5 rfl m1 hs1 (by decide)
  obtain ⟨v3', m3, hc3, x3, rfl, hx3, hb3, hs3, hl3⟩ := pick_c is a code (k + 2) 60 (by omega) m1 hs1
  refine ecalls_of_vc Tryd.func25 rfl Tryd.fol (by kernel_rfl) ?_
  simp only [Tryd.f25]
  simp -dsimp -implicitDefEqProofs
  refine callsTo Tryd.cal41 hc1 ?_
  simp -dsimp -implicitDefEqProofs
  refine sp2 (fun g => ?_) (fun g => ?_)
  · refine callsTo Tryd.cal44 hc2 ?_
    simp -dsimp -implicitDefEqProofs
    exact ⟨_, _, GC.refl _ _ _, x2, rfl, hb1.trans hb2, hs2.mono (by omega)⟩
  · refine callsTo Tryd.cal40 hc3 ?_
    simp -dsimp -implicitDefEqProofs
    exact ⟨_, _, GC.refl _ _ _, _, rfl, hb1.trans hb3, hs3.mono (by omega)⟩
theorem l22DrawSlack_c (is : Nat) (a : Option Addr) (code : List Int) (k : Int) (hk : k < 800000000) (m : Mem) (h : SrcA is a code k m) :
    ∃ v m', ACalls Tryd.prog 26 [.pointer (some ⟨is, 0, none⟩)] m v m' ∧ SomeInt is a code (k + 4) m v m' := by
  obtain ⟨v1, m1, hc1, b1, rfl, hb1, hs1, hl1⟩ := one_c is a code k 10 (by omega) m h
  obtain ⟨v2, m2, hc2, x2, rfl, hb2, hs2, hl2⟩ := amongLit_c is a code (k + 2) (by omega) [-1, 0, 100, 101, -9223372036854775808] 5 rfl m1 hs1 (by decide)
  obtain ⟨v3', m3, hc3, x3, rfl, hx3, hb3, hs3, hl3⟩ := pick_c is a code (k + 2) 20 (by omega) m1 hs1
  refine ecalls_of_vc Tryd.func26 rfl Tryd.fol (by kernel_rfl) ?_
  simp only [Tryd.f26]
  simp -dsimp -implicitDefEqProofs
  refine callsTo Tryd.cal41 hc1 ?_
  simp -dsimp -implicitDefEqProofs
  refine sp2 (fun g => ?_) (fun g => ?_)
  · refine callsTo Tryd.cal44 hc2 ?_
    simp -dsimp -implicitDefEqProofs
    exact ⟨_, _, GC.refl _ _ _, x2, rfl, hb1.trans hb2, hs2.mono (by omega)⟩
  · refine callsTo Tryd.cal40 hc3 ?_
    simp -dsimp -implicitDefEqProofs
    exact ⟨_, _, GC.refl _ _ _, _, rfl, hb1.trans hb3, hs3.mono (by omega)⟩
end Go.Proofs.YthadhfogmfcacaaDoor
