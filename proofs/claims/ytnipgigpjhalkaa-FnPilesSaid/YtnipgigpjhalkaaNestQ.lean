/-
  Pots, part 16: drawn pots. Conditions: none.
-/
import Derived.Test.YtnipgigpjhalkaaNestO
import Derived.Test.YtnipgigpjhalkaaDraw2
import Derived.Test.YtnipgigpjhalkaaNestF
set_option linter.unusedSimpArgs false
set_option linter.unusedVariables false
set_option linter.unusedSectionVars false
namespace Go.Proofs.Ytnipgigpjhalkaa
open Go.Abs Go.RowKit Go.Law

def PotsAt (m : Mem) (id : Nat) (l : List I3) : Prop := ∃ o : AObj, m[id]? = some o ∧ 1 ≤ o.kind ∧ o.kind ≤ 2 ∧ o.sz = 3 ∧ o.elem = 26 ∧ o.cells = (l.map v3).flatten
theorem PotsAt.pre {m m' : Mem} {id : Nat} {l : List I3} (h : PotsAt m id l) (hp : m <+: m') : PotsAt m' id l := by
  obtain ⟨o, h1, h2⟩ := h; exact ⟨o, prefix_get hp h1, h2⟩
theorem PotsAt.rd {m : Mem} {id : Nat} {l : List I3} (h : PotsAt m id l) : RdG v3 3 m (some ⟨id, 0, none⟩) l := by
  obtain ⟨o, h1, h2, h3, h4, h5, h6⟩ := h; exact RdG.of_get (g := v3) (sz := 3) (fun _ => rfl) l h1 h3 h4 h6
theorem PotsAt.lt {m : Mem} {id : Nat} {l : List I3} (h : PotsAt m id l) : id < m.length := lt_of_get h.choose_spec.1
/-- A pot that is drawn. -/
def NewPot (is : Nat) (a : Option Addr) (code : List Int) (k : Int) (m : Mem) (v : Value) (m' : Mem) : Prop :=
  ∃ p : I3, v = .agg (v3 p).toArray ∧ But is m m' ∧ SrcA is a code k m'
theorem l19New_c (is : Nat) (a : Option Addr) (code : List Int) (k : Int) (hk : k < 800000000) (m : Mem) (h : SrcA is a code k m) :
    ∃ v m', ACalls Try.prog 89 [.pointer (some ⟨is, 0, none⟩)] m v m' ∧ NewPot is a code (k + 6) m v m' := by
  have his : is < m.length := lt_of_get h.obj.choose_spec.choose_spec.1
  obtain ⟨v1, m1, hc1, x1, rfl, hx1, hb1, hs1, hl1⟩ := pick_c is a code k 60 (by omega) (m ++ [⟨[.int .i64 0, .int .i64 0, .int .i64 0], 26, 3, 1⟩]) (h.app _)
  obtain ⟨v2, m2, hc2, x2, rfl, hx2, hb2, hs2, hl2⟩ := pick_c is a code (k + 2) 50 (by omega) m1 hs1
  obtain ⟨v3', m3, hc3, x3, rfl, hx3, hb3, hs3, hl3⟩ := pick_c is a code (k + 2 + 2) (IntKind.i64.wrap (IntKind.i64.wrap (20 + x1) - 5)) (by omega) (m2 ++ [⟨[.int .i64 (IntKind.i64.wrap (20 + x1)), .int .i64 0, .int .i64 (IntKind.i64.wrap (10 + x2))], 26, 3, 1⟩]) (hs2.app _)
  simp at hl1
  have q0 : m1[m.length]? = some ⟨[.int .i64 0, .int .i64 0, .int .i64 0], 26, 3, 1⟩ := hb1.get _ _ (by omega) (by simp)
  have q1 := hb3.get _ _ (show m.length ≠ is by omega) (get_old (l := [⟨[.int .i64 (IntKind.i64.wrap (20 + x1)), .int .i64 0, .int .i64 (IntKind.i64.wrap (10 + x2))], 26, 3, 1⟩]) (hb2.get _ _ (show m.length ≠ is by omega) q0))
  have q2 : m3[m2.length]? = some ⟨[.int .i64 (IntKind.i64.wrap (20 + x1)), .int .i64 0, .int .i64 (IntKind.i64.wrap (10 + x2))], 26, 3, 1⟩ := hb3.get _ _ (by omega) (by simp)
  refine ecalls_of_vc Try.func89 rfl Try.fol (by kernel_rfl) ?_
  simp only [Try.f89]
  simp -dsimp -implicitDefEqProofs
  refine callsTo Try.cal77 hc1 ?_
  simp -dsimp -implicitDefEqProofs
  refine callsTo Try.cal77 hc2 ?_
  simp -dsimp -implicitDefEqProofs
  have z1 : ∀ x, (m3.set m2.length x)[m.length]? = some ⟨[.int .i64 0, .int .i64 0, .int .i64 0], 26, 3, 1⟩ := fun x => by rw [List.getElem?_set_ne (by omega)]; exact q1
  refine callsTo Try.cal77 hc3 ?_
  simp -dsimp -implicitDefEqProofs [fun x => withO_of (get_set q2 x), withO_of q2, fun x => withO_of (z1 x), fun x y => withO_of (get_set (z1 x) y)]
  have hs3' : ∀ x y, SrcA is a code (k + 6) ((m3.set m2.length x).set m.length y) := fun x y => by
    have e1 := hs3.keep (But.set (is := m2.length) m3 x) (by omega) (fun h0 z hz => by have := hs3.off h0 z hz; omega)
    exact (e1.keep (But.set (is := m.length) _ y) (by omega) (fun h0 z hz => by have := hs3.off h0 z hz; omega)).mono (by omega)
  have hbb : ∀ x y, But is m ((m3.set m2.length x).set m.length y) := fun x y => by
    have h3 := hb3.len
    simp at h3
    refine ⟨by simp; omega, fun i o h1 h2 => ?_⟩
    have hi := lt_of_get h2
    rw [List.getElem?_set_ne (by omega), List.getElem?_set_ne (by omega)]
    exact hb3.get _ _ h1 (get_old (hb2.get _ _ h1 (hb1.get _ _ h1 (get_old h2))))
  exact ⟨_, _, GC.refl _ _ _, (_, _, _), rfl, hbb _ _, hs3' _ _⟩
theorem rows_set0 (p : I3) (xs : List I3) (x : Int) : (((p :: xs).map v3).flatten).set 0 (.int .i64 x) = ((((x, p.2.1, p.2.2) : I3) :: xs).map v3).flatten := by simp [v3]
theorem rows_set1 (p : I3) (xs : List I3) (x : Int) : (((p :: xs).map v3).flatten).set 1 (.int .i64 x) = ((((p.1, x, p.2.2) : I3) :: xs).map v3).flatten := by simp [v3]
theorem rows_set2 (p : I3) (xs : List I3) (x : Int) : (((p :: xs).map v3).flatten).set 2 (.int .i64 x) = ((((p.1, p.2.1, x) : I3) :: xs).map v3).flatten := by simp [v3]
/-- The first row has been changed. -/
def Spoiled (is id : Nat) (a : Option Addr) (code : List Int) (k : Int) (n : Nat) (e : TypeId) (kd : Nat) (m : Mem) (v : Value) (m' : Mem) : Prop :=
  v = .tuple #[] ∧ RestS [is, id] m m' ∧ SrcA is a code k m' ∧ ∃ ys : List I3, ys.length = n ∧ m'[id]? = some ⟨(ys.map v3).flatten, e, 3, kd⟩
theorem restOf {is : Nat} {S : List Nat} {m m' : Mem} (h : But is m m') (hi : is ∈ S) : RestS S m m' := ⟨h.len, fun i o h1 h2 => h.get i o (fun e => h1 (e ▸ hi)) h2⟩
theorem butOf {is : Nat} {m m' : Mem} (h : RestS [is] m m') : But is m m' := ⟨h.len, fun i o h1 h2 => h.get i o (by simpa using h1) h2⟩
theorem l19Spoil_c (is : Nat) (a : Option Addr) (code : List Int) (k : Int) (hk : k < 800000000) (id : Nat) (p : I3) (xs : List I3) (e : TypeId) (kd : Nat) (hkd : 1 ≤ kd ∧ kd ≤ 2) (m : Mem) (h : SrcA is a code k m) (hne : id ≠ is) (hcode : is < id) (ho : m[id]? = some ⟨((p :: xs).map v3).flatten, e, 3, kd⟩) :
    ∃ v m', ACalls Try.prog 90 [.pointer (some ⟨is, 0, none⟩), .pointer (some ⟨id, 0, none⟩)] m v m' ∧ Spoiled is id a code (k + 4) (xs.length + 1) e kd m v m' := by
  have his : is < m.length := lt_of_get h.obj.choose_spec.choose_spec.1
  obtain ⟨v1, m1, hc1, x1, rfl, hx1, hb1, hs1, hl1⟩ := pick_c is a code k 3 (by omega) m h
  simp at hx1
  have hkd2 := hkd.2
  refine ecalls_of_vcF [4] Try.func90 rfl Try.fol (by kernel_rfl) ?_
  simp only [Try.f90]
  simp -dsimp -implicitDefEqProofs
  refine callsTo Try.cal77 hc1 ?_
  simp -dsimp -implicitDefEqProofs
  have ho1 := hb1.get _ _ hne ho
  have hcell0 : (v3 p ++ (xs.map v3).flatten)[0]? = some (.int .i64 p.1) := rfl
  have hcell1 : (v3 p ++ (xs.map v3).flatten)[1]? = some (.int .i64 p.2.1) := rfl
  have hfin : ∀ (m2 : Mem), But is m1 m2 → SrcA is a code (k + 4) m2 → m2.length = m1.length + 1 → ∀ (ys : List I3) (cells : List Value), ys.length = xs.length + 1 → cells = (ys.map v3).flatten → Spoiled is id a code (k + 4) (xs.length + 1) e kd m (.tuple #[]) (m2.set id ⟨cells, e, 3, kd⟩) := fun m2 hb2 hs2 hl2 ys cells hy hcl => by
    subst hcl
    have ho2 := hb2.get _ _ hne (hb1.get _ _ hne ho)
    refine ⟨rfl, (restOf (hb1.trans hb2) (by simp)).trans (RestS.set _ (by simp) _), hs2.keep (But.set (is := id) m2 _) (by omega) (fun h0 z hz => by have := hs2.off h0 z hz; omega), ys, hy, get_set ho2 _⟩
  refine sp2 (fun g => ?_) (fun g => sp2 (fun g' => ?_) (fun g' => sp2 (fun g'' => ?_) (fun g'' => ?_)))
  · obtain ⟨v2, m2, hc2, x2, rfl, hb2, hs2, hl2⟩ := amongLit_c is a code (k + 2) (by omega) [-1, 9, 10, p.2.1, 2000, 2001, -9223372036854775808] 7 rfl m1 hs1 (by decide)
    have ho2 := hb2.get _ _ hne (hb1.get _ _ hne ho)
    simp -dsimp -implicitDefEqProofs [withO_of ho1, hkd2, withC_of hcell1, (show 2 ≤ (v3 p).length + (xs.map (List.length ∘ v3)).sum by have : (v3 p).length = 3 := rfl; omega)]
    refine callsTo Try.cal91 hc2 ?_
    simp -dsimp -implicitDefEqProofs
    simp -dsimp -implicitDefEqProofs [withO_of ho2, hkd, hkd2]
    refine need_intro (by have : (v3 p).length = 3 := rfl; omega) ?_
    exact ⟨_, _, GC.refl _ _ _, hfin m2 hb2 (hs2.mono (by omega)) hl2 _ _ (by simp) (rows_set0 p xs x2)⟩
  · obtain ⟨v2, m2, hc2, x2, rfl, hb2, hs2, hl2⟩ := amongLit_c is a code (k + 2) (by omega) [-1, 4, 5, IntKind.i64.wrap (p.1 - 1), p.1] 5 rfl m1 hs1 (by decide)
    have ho2 := hb2.get _ _ hne (hb1.get _ _ hne ho)
    refine regF [[], [], [], [], [], [], [], [], [], [], [], [], [], [], [], []] 1 (by kernel_rfl) (by kernel_rfl) ?_
    simp -dsimp -implicitDefEqProofs [withO_of ho1, fun l => withO_of (get_old (l := l) ho1), hkd2, withC_of hcell0, (show 1 ≤ (v3 p).length + (xs.map (List.length ∘ v3)).sum by have : (v3 p).length = 3 := rfl; omega)]
    refine callsTo Try.cal91 hc2 ?_
    simp -dsimp -implicitDefEqProofs
    simp -dsimp -implicitDefEqProofs [withO_of ho2, hkd, hkd2]
    refine need_intro (by have : (v3 p).length = 3 := rfl; omega) ?_
    exact ⟨_, _, GC.refl _ _ _, hfin m2 hb2 (hs2.mono (by omega)) hl2 _ _ (by simp) (rows_set1 p xs x2)⟩
  · obtain ⟨v2, m2, hc2, x2, rfl, hb2, hs2, hl2⟩ := amongLit_c is a code (k + 2) (by omega) [-1, 4, 5, 2000, 2001] 5 rfl m1 hs1 (by decide)
    have ho2 := hb2.get _ _ hne (hb1.get _ _ hne ho)
    refine callsTo Try.cal91 hc2 ?_
    simp -dsimp -implicitDefEqProofs
    simp -dsimp -implicitDefEqProofs [withO_of ho2, hkd, hkd2]
    refine need_intro (by have : (v3 p).length = 3 := rfl; omega) ?_
    exact ⟨_, _, GC.refl _ _ _, hfin m2 hb2 (hs2.mono (by omega)) hl2 _ _ (by simp) (rows_set2 p xs x2)⟩
  · exfalso
    simp at g g' g''
    omega
def DrawnL (is : Nat) (a : Option Addr) (code : List Int) (k : Int) (m : Mem) (v : Value) (m' : Mem) : Prop :=
  ∃ xs id, xs.length ≤ 13 ∧ v = .slice (some ⟨id, 0, none⟩) xs.length xs.length ∧ But is m m' ∧ SrcA is a code k m' ∧ m.length ≤ id ∧ PotsAt m' id xs
theorem butRest {is id : Nat} {m m1 m' : Mem} (h : But is m m1) (hr : RestS [is, id] m1 m') (hid : m.length ≤ id) : But is m m' :=
  ⟨by have := h.len; have := hr.len; omega, fun i o h1 h2 => hr.get i o (by have := lt_of_get h2; simp; omega) (h.get i o h1 h2)⟩
theorem l19Draw_c (is : Nat) (a : Option Addr) (code : List Int) (k : Int) (hk : k < 700000000) (m : Mem) (h : SrcA is a code k m) :
    ∃ v m', ACalls Try.prog 75 [.pointer (some ⟨is, 0, none⟩)] m v m' ∧ DrawnL is a code (k + 200) m v m' := by
  have his : is < m.length := lt_of_get h.obj.choose_spec.choose_spec.1
  obtain ⟨v1, m1, hc1, x1, rfl, hx1, hb1, hs1, hl1⟩ := pick_c is a code k 9 (by omega) (m ++ [⟨[], 26, 3, 1⟩]) (h.app _)
  obtain ⟨v2, m2, hc2, b2, rfl, hb2, hs2, hl2⟩ := one_c is a code (k + 2) 16 (by omega) m1 hs1
  obtain ⟨v3', m3, hc3, x3, rfl, hx3, hb3, hs3, hl3⟩ := pick_c is a code (k + 2 + 2) 2 (by omega) m2 hs2
  simp at hx1 hx3 hl1
  have hw3 : IntKind.i64.wrap (12 + x3) = 12 + x3 := wrapI (by omega) (by omega)
  have q1 : PotsAt m1 m.length [] := ⟨⟨[], 26, 3, 1⟩, hb1.get _ _ (by omega) (by simp), by simp, by simp, rfl, rfl, rfl⟩
  refine ecalls_of_vc Try.func75 rfl Try.fol (by kernel_rfl) ?_
  simp only [Try.f75]
  simp -dsimp -implicitDefEqProofs
  refine callsTo Try.cal77 hc1 ?_
  simp -dsimp -implicitDefEqProofs
  refine callsTo Try.cal78 hc2 ?_
  simp -dsimp -implicitDefEqProofs
  have hbm2 : But is m m2 := ((But.app is m _).trans hb1).trans hb2
  refine sp2 (fun g => ?_) (fun g => ?_)
  · refine callsTo Try.cal77 hc3 ?_
    simp -dsimp -implicitDefEqProofs
    obtain ⟨n, hn⟩ : ∃ n, n = 12 + x3 := ⟨_, rfl⟩
    rw [hw3, ← hn]
    have hn0 : 0 ≤ n ∧ n ≤ 13 := by omega
    obtain ⟨mX, hmX⟩ : ∃ mX, mX = m3 := ⟨_, rfl⟩
    rw [← hmX]
    have hbX : But is m mX := by rw [hmX]; exact hbm2.trans hb3
    have hsX : SrcA is a code (k + 6) mX := by rw [hmX]; exact hs3.mono (by omega)
    have qX : PotsAt mX m.length [] := by
      obtain ⟨o, o1, o2⟩ := q1
      exact ⟨o, by rw [hmX]; exact hb3.get _ _ (by omega) (hb2.get _ _ (by omega) o1), o2⟩
    clear hmX hn hw3 hx3 hb3 hs3 hl3 hc3
    refine loopN n.toNat (fun j σ m' => ∃ xs id, (xs.length = j ∧ But is m m' ∧ SrcA is a code (k + 6 + 6 * j) m' ∧ m.length ≤ id ∧ PotsAt m' id xs) ∧ σ 0 = some (.pointer (some ⟨is, 0, none⟩)) ∧ σ 3 = some (.slice (some ⟨id, 0, none⟩) j j) ∧ σ 4 = some (.int .i64 n) ∧ σ 5 = some (.int .i64 (n - j)))
      ⟨[], m.length, ⟨rfl, hbX, hsX.mono (by omega), Nat.le_refl _, qX⟩, by simp, by simp, by simp, by simp⟩ ?_
    rintro j σ m' hj ⟨xs, id, ⟨rfl, hbut, hsrc, hid, hL⟩, s0, s3, s4, s5⟩
    by_cases hlt : xs.length < n.toNat
    · have g1 : (xs.length : Int) < n := by omega
      obtain ⟨v4, m4, hc4, p, rfl, hb4, hs4⟩ := l19New_c is a code (k + 6 + 6 * xs.length) (by omega) m' hsrc
      have hw5 : IntKind.i64.wrap (n - (xs.length : Int) - 1) = n - ((xs.length : Int) + 1) := by rw [wrapI (by omega) (by omega)]; omega
      obtain ⟨o, ho, ho1, ho2, ho3, ho4, ho5⟩ := hL
      have ho' := hb4.get _ _ (show id ≠ is by omega) ho
      have hmade : madeCells #[.int .i64 0, .int .i64 0, .int .i64 0] 3 = #[.int .i64 0, .int .i64 0, .int .i64 0] := by
        have := made_rows #[.int .i64 0, .int .i64 0, .int .i64 0] 1 (by simp)
        exact Array.toList_inj.1 (by simpa using this)
      simp -dsimp -implicitDefEqProofs [s0, s3, s4, s5, g1, v3, hw5, hmade]
      refine callsTo Try.cal89 hc4 ?_
      simp -dsimp -implicitDefEqProofs [s0, s3, s4, s5, g1, v3, hw5, hmade]
      refine appTo_grow (e := 26) (sz := 3) (by_ := 24) (z := .agg #[.int .i64 0, .int .i64 0, .int .i64 0]) (by kernel_rfl) (by kernel_rfl) ⟨by decide, rfl⟩ (o := o) (get_old ho') ⟨ho1, ho2⟩ ⟨ho3, ho4⟩ (by rw [ho5, flatten_length (sz := 3) (by intro r hr; obtain ⟨x, _, rfl⟩ := List.mem_map.1 hr; rfl), List.length_map]) (by omega) (Src.obj (o := ⟨[.int .i64 p.1, .int .i64 p.2.1, .int .i64 p.2.2], 26, 3, 1⟩) (by simp) (by simp) rfl rfl) ?_
      intro m5 id5 hg
      have hb5 : But id (m4 ++ [⟨[.int .i64 p.1, .int .i64 p.2.1, .int .i64 p.2.2], 26, 3, 1⟩]) m5 := ⟨by have := hg.len; omega, fun i o' h1 h2 => hg.old i o' h1 h2⟩
      have hbb := hbut.trans hb4
      simp -dsimp -implicitDefEqProofs [s0, s3, s4, s5, g1, v3, hw5, hmade]
      refine next_ hlt ⟨xs ++ [p], id5, ⟨by simp, ⟨by have := hb5.len; have := hbb.len; simp at *; omega, fun i o' h1 h2 => hb5.get _ _ (by have := lt_of_get h2; omega) (get_old (hbb.get i o' h1 h2))⟩, ((hs4.app _).keep hb5 (by omega) (fun h0 x hx => by have := hsrc.off h0 x hx; omega)).mono (by simp; omega), by rw [hg.at_]; simp; have := hbb.len; omega, ⟨_, hg.new, by simp, by simp, rfl, rfl, by simp [ho5, v3]⟩⟩, by simp [s0], by simp, by simp [s4], by simp [hw5]⟩
    · have g1 : ¬ (xs.length : Int) < n := by omega
      have hfin : ∀ m6, But is m m6 → SrcA is a code (k + 200) m6 → ∀ ys : List I3, ys.length = xs.length → PotsAt m6 id ys → ∃ v'' m'', GC m m6 (.slice (some ⟨id, 0, none⟩) xs.length xs.length) m'' v'' ∧ DrawnL is a code (k + 200) m v'' m'' := fun m6 h1 h2 ys h3 h4 =>
        ⟨_, _, GC.refl _ _ _, ys, id, by omega, by rw [h3], h1, h2, hid, h4⟩
      obtain ⟨v4, m4, hc4, b4, rfl, hb4, hs4, hl4⟩ := one_c is a code (k + 6 + 6 * xs.length) 10 (by omega) m' hsrc
      have hne : id ≠ is := by omega
      have hL4 : PotsAt m4 id xs := by
        obtain ⟨o, o1, o2⟩ := hL
        exact ⟨o, hb4.get _ _ hne o1, o2⟩
      have hout : xs.length = n.toNat := by omega
      simp -dsimp -implicitDefEqProofs [s0, s3, s4, s5, g1]
      by_cases hpos : 0 < n
      · simp -dsimp -implicitDefEqProofs [s0, s3, s4, s5, g1, hpos]
        refine callsTo Try.cal78 hc4 ?_
        simp -dsimp -implicitDefEqProofs [s0, s3, s4, s5, g1, hpos]
        refine sp2 (fun g2 => ?_) (fun g2 => ?_)
        · match xs, hL4, hout, hfin with
          | [], _, hout, _ => exact absurd hout (by simp <;> omega)
          | p :: xs, ⟨⟨cells, el, sz, kd⟩, w1, w2, w3, w4, w5, w6⟩, hout, hfin =>
            simp only at w2 w3 w4 w5 w6
            subst w4 w5 w6
            obtain ⟨v6, m6, hc6, rfl, hr6, hs6, ys, hy, ho6⟩ := l19Spoil_c is a code (k + 6 + 6 * ((p :: xs).length : Int) + 2) (by omega) id p xs _ kd ⟨w2, w3⟩ m4 hs4 hne (by omega) w1
            have hpos2 : (0 : Int) < ((p :: xs).length : Int) := by simp <;> omega
            simp -dsimp -implicitDefEqProofs [s0, s3, s4, s5, g1, hpos, withO_of w1, w3, hpos2]
            refine callsTo Try.cal90 hc6 ?_
            simp -dsimp -implicitDefEqProofs [s0, s3, s4, s5, g1, hpos]
            exact hfin m6 (butRest (hbut.trans hb4) hr6 hid) (hs6.mono (by omega)) ys hy ⟨_, ho6, w2, w3, rfl, rfl, rfl⟩
        · exact hfin m4 (hbut.trans hb4) (hs4.mono (by omega)) xs rfl hL4
      · simp -dsimp -implicitDefEqProofs [s0, s3, s4, s5, g1, hpos, hpos]
        exact hfin m' hbut (hsrc.mono (by omega)) xs rfl hL
  · obtain ⟨n, hn⟩ : ∃ n, n = x1 := ⟨_, rfl⟩
    rw [← hn]
    have hn0 : 0 ≤ n ∧ n ≤ 13 := by omega
    obtain ⟨mX, hmX⟩ : ∃ mX, mX = m2 := ⟨_, rfl⟩
    rw [← hmX]
    have hbX : But is m mX := by rw [hmX]; exact hbm2
    have hsX : SrcA is a code (k + 6) mX := by rw [hmX]; exact hs2.mono (by omega)
    have qX : PotsAt mX m.length [] := by
      obtain ⟨o, o1, o2⟩ := q1
      exact ⟨o, by rw [hmX]; exact hb2.get _ _ (by omega) o1, o2⟩
    clear hmX hn hw3 hx3 hb3 hs3 hl3 hc3
    refine loopN n.toNat (fun j σ m' => ∃ xs id, (xs.length = j ∧ But is m m' ∧ SrcA is a code (k + 6 + 6 * j) m' ∧ m.length ≤ id ∧ PotsAt m' id xs) ∧ σ 0 = some (.pointer (some ⟨is, 0, none⟩)) ∧ σ 3 = some (.slice (some ⟨id, 0, none⟩) j j) ∧ σ 4 = some (.int .i64 n) ∧ σ 5 = some (.int .i64 (n - j)))
      ⟨[], m.length, ⟨rfl, hbX, hsX.mono (by omega), Nat.le_refl _, qX⟩, by simp, by simp, by simp, by simp⟩ ?_
    rintro j σ m' hj ⟨xs, id, ⟨rfl, hbut, hsrc, hid, hL⟩, s0, s3, s4, s5⟩
    by_cases hlt : xs.length < n.toNat
    · have g1 : (xs.length : Int) < n := by omega
      obtain ⟨v4, m4, hc4, p, rfl, hb4, hs4⟩ := l19New_c is a code (k + 6 + 6 * xs.length) (by omega) m' hsrc
      have hw5 : IntKind.i64.wrap (n - (xs.length : Int) - 1) = n - ((xs.length : Int) + 1) := by rw [wrapI (by omega) (by omega)]; omega
      obtain ⟨o, ho, ho1, ho2, ho3, ho4, ho5⟩ := hL
      have ho' := hb4.get _ _ (show id ≠ is by omega) ho
      have hmade : madeCells #[.int .i64 0, .int .i64 0, .int .i64 0] 3 = #[.int .i64 0, .int .i64 0, .int .i64 0] := by
        have := made_rows #[.int .i64 0, .int .i64 0, .int .i64 0] 1 (by simp)
        exact Array.toList_inj.1 (by simpa using this)
      simp -dsimp -implicitDefEqProofs [s0, s3, s4, s5, g1, v3, hw5, hmade]
      refine callsTo Try.cal89 hc4 ?_
      simp -dsimp -implicitDefEqProofs [s0, s3, s4, s5, g1, v3, hw5, hmade]
      refine appTo_grow (e := 26) (sz := 3) (by_ := 24) (z := .agg #[.int .i64 0, .int .i64 0, .int .i64 0]) (by kernel_rfl) (by kernel_rfl) ⟨by decide, rfl⟩ (o := o) (get_old ho') ⟨ho1, ho2⟩ ⟨ho3, ho4⟩ (by rw [ho5, flatten_length (sz := 3) (by intro r hr; obtain ⟨x, _, rfl⟩ := List.mem_map.1 hr; rfl), List.length_map]) (by omega) (Src.obj (o := ⟨[.int .i64 p.1, .int .i64 p.2.1, .int .i64 p.2.2], 26, 3, 1⟩) (by simp) (by simp) rfl rfl) ?_
      intro m5 id5 hg
      have hb5 : But id (m4 ++ [⟨[.int .i64 p.1, .int .i64 p.2.1, .int .i64 p.2.2], 26, 3, 1⟩]) m5 := ⟨by have := hg.len; omega, fun i o' h1 h2 => hg.old i o' h1 h2⟩
      have hbb := hbut.trans hb4
      simp -dsimp -implicitDefEqProofs [s0, s3, s4, s5, g1, v3, hw5, hmade]
      refine next_ hlt ⟨xs ++ [p], id5, ⟨by simp, ⟨by have := hb5.len; have := hbb.len; simp at *; omega, fun i o' h1 h2 => hb5.get _ _ (by have := lt_of_get h2; omega) (get_old (hbb.get i o' h1 h2))⟩, ((hs4.app _).keep hb5 (by omega) (fun h0 x hx => by have := hsrc.off h0 x hx; omega)).mono (by simp; omega), by rw [hg.at_]; simp; have := hbb.len; omega, ⟨_, hg.new, by simp, by simp, rfl, rfl, by simp [ho5, v3]⟩⟩, by simp [s0], by simp, by simp [s4], by simp [hw5]⟩
    · have g1 : ¬ (xs.length : Int) < n := by omega
      have hfin : ∀ m6, But is m m6 → SrcA is a code (k + 200) m6 → ∀ ys : List I3, ys.length = xs.length → PotsAt m6 id ys → ∃ v'' m'', GC m m6 (.slice (some ⟨id, 0, none⟩) xs.length xs.length) m'' v'' ∧ DrawnL is a code (k + 200) m v'' m'' := fun m6 h1 h2 ys h3 h4 =>
        ⟨_, _, GC.refl _ _ _, ys, id, by omega, by rw [h3], h1, h2, hid, h4⟩
      obtain ⟨v4, m4, hc4, b4, rfl, hb4, hs4, hl4⟩ := one_c is a code (k + 6 + 6 * xs.length) 10 (by omega) m' hsrc
      have hne : id ≠ is := by omega
      have hL4 : PotsAt m4 id xs := by
        obtain ⟨o, o1, o2⟩ := hL
        exact ⟨o, hb4.get _ _ hne o1, o2⟩
      have hout : xs.length = n.toNat := by omega
      simp -dsimp -implicitDefEqProofs [s0, s3, s4, s5, g1]
      by_cases hpos : 0 < n
      · simp -dsimp -implicitDefEqProofs [s0, s3, s4, s5, g1, hpos]
        refine callsTo Try.cal78 hc4 ?_
        simp -dsimp -implicitDefEqProofs [s0, s3, s4, s5, g1, hpos]
        refine sp2 (fun g2 => ?_) (fun g2 => ?_)
        · match xs, hL4, hout, hfin with
          | [], _, hout, _ => exact absurd hout (by simp <;> omega)
          | p :: xs, ⟨⟨cells, el, sz, kd⟩, w1, w2, w3, w4, w5, w6⟩, hout, hfin =>
            simp only at w2 w3 w4 w5 w6
            subst w4 w5 w6
            obtain ⟨v6, m6, hc6, rfl, hr6, hs6, ys, hy, ho6⟩ := l19Spoil_c is a code (k + 6 + 6 * ((p :: xs).length : Int) + 2) (by omega) id p xs _ kd ⟨w2, w3⟩ m4 hs4 hne (by omega) w1
            have hpos2 : (0 : Int) < ((p :: xs).length : Int) := by simp <;> omega
            simp -dsimp -implicitDefEqProofs [s0, s3, s4, s5, g1, hpos, withO_of w1, w3, hpos2]
            refine callsTo Try.cal90 hc6 ?_
            simp -dsimp -implicitDefEqProofs [s0, s3, s4, s5, g1, hpos]
            exact hfin m6 (butRest (hbut.trans hb4) hr6 hid) (hs6.mono (by omega)) ys hy ⟨_, ho6, w2, w3, rfl, rfl, rfl⟩
        · exact hfin m4 (hbut.trans hb4) (hs4.mono (by omega)) xs rfl hL4
      · simp -dsimp -implicitDefEqProofs [s0, s3, s4, s5, g1, hpos, hpos]
        exact hfin m' hbut (hsrc.mono (by omega)) xs rfl hL
def DrawnP (m : Mem) (v : Value) (m' : Mem) : Prop :=
  ∃ xs id, xs.length ≤ 13 ∧ v = .slice (some ⟨id, 0, none⟩) xs.length xs.length ∧ m <+: m' ∧ PotsAt m' id xs
theorem drawNest_c (a : Option Addr) (code : List Int) (m : Mem) (h : RdB m a code) (hl : code.length ≤ 1048576) :
    ∃ v m', ACalls Try.prog 51 [.slice a code.length code.length] m v m' ∧ DrawnP m v m' := by
  obtain ⟨v1, m1, hc1, xs, i1, hx, rfl, hb1, hs1, hi1, hL1⟩ := l19Draw_c m.length a code 0 (by omega) _ (srcNew h hl)
  refine ecalls_of_vc Try.func51 rfl Try.fol (by kernel_rfl) ?_
  simp only [Try.f51]
  simp -dsimp -implicitDefEqProofs
  refine callsTo Try.cal74 (l00From_c a code m) ?_
  simp -dsimp -implicitDefEqProofs
  refine callsTo Try.cal75 hc1 ?_
  simp -dsimp -implicitDefEqProofs
  exact ⟨_, _, GC.refl _ _ _, xs, i1, hx, rfl, hb1.pre ⟨_, rfl⟩ (Nat.le_refl _), hL1⟩
end Go.Proofs.Ytnipgigpjhalkaa
namespace Go.Proofs.Ytnipgigpjhalkaa
open Go.Abs Go.RowKit

theorem implNest_c (xs : List I3) (a : Option Addr) (m : Mem) (hr : RdG v3 3 m a xs) (hn : xs.length ≤ 1048576) :
    ACalls Try.prog 36 [.slice a xs.length xs.length] m (.tuple #[optV m.length (nestO xs), .int .i64 (potsC xs)]) (m ++ optM 2 (nestO xs)) := by
  refine acalls_of_vc Try.func36 rfl Try.fol (by kernel_rfl) ?_
  simp only [Try.f36]
  simp -dsimp -implicitDefEqProofs
  refine callsTo Try.cal22 (validPots_c xs a _ hr hn) ?_
  simp -dsimp -implicitDefEqProofs
  refine ⟨fun g => ?_, fun g => ?_⟩
  · simp at g
    simp [nestO, potsC, g, optV, optM]
    exact GC.refl _ _ _
  simp at g
  refine loopN xs.length (fun k σ m' => m' = m ++ [⟨[], 2, 1, 1⟩] ∧ σ 0 = some (.slice a xs.length xs.length) ∧ σ 4 = some (.slice (some ⟨m.length, 0, none⟩) 0 0) ∧
    σ 5 = some (.int .i64 (topP xs k)) ∧ σ 14 = some (.int .i64 xs.length) ∧ σ 15 = some (.int .i64 k)) ⟨rfl, by simp [topP_zero]⟩ ?_
  rintro k σ m' hk ⟨rfl, s0, s4, s5, s14, s15⟩
  by_cases hlt : k < xs.length
  · have hw : IntKind.i64.wrap ((k : Int) + 1) = k + 1 := wrapI (by omega) (by omega)
    simp -dsimp -implicitDefEqProofs [s0, s4, s5, s14, s15, hlt, hw]
    refine callsTo Try.cal69 (longestFrom_c xs a hn _ k _ (hr.ext _) hlt (rnk_lt hlt)) ?_
    simp -dsimp -implicitDefEqProofs [s0, s4, s5, s14, s15, hlt, hw]
    exact next_ hlt ⟨rfl, by simp [s0, s4, s14, hw, topP_succ]⟩
  · obtain rfl : k = xs.length := by omega
    simp -dsimp -implicitDefEqProofs [s0, s4, s5, s14, s15]
    obtain ⟨T, hT⟩ : ∃ T : Nat, topP xs xs.length = (T : Int) := ⟨(topP xs xs.length).toNat, by have := topP_bounds xs xs.length; omega⟩
    have hTn : T ≤ xs.length := by have := topP_bounds xs xs.length; omega
    rw [hT] at s5
    refine loopN T (fun k σ m' => ∃ acc id ob, nestP xs (T - k) acc = nestP xs T [] ∧ m <+: m' ∧ m.length ≤ id ∧ m'[id]? = some ob ∧
      (ob.cells = (acc.map fun (i : Nat) => (i : Int)).map (Value.int .i64) ∧ ob.elem = 2 ∧ ob.sz = 1 ∧ 1 ≤ ob.kind ∧ ob.kind ≤ 2) ∧ ((∀ x ∈ acc, x < xs.length) ∧ acc.length ≤ k) ∧
      σ 0 = some (.slice a xs.length xs.length) ∧ σ 5 = some (.int .i64 ((T : Int) - k)) ∧ σ 4 = some (.slice (some ⟨id, 0, none⟩) acc.length acc.length))
      ⟨[], m.length, ⟨[], 2, 1, 1⟩, rfl, ⟨_, rfl⟩, by omega, by simp, by simp, by simp, by simp [s0, s4, s5]⟩ ?_
    clear s0 s4 s5 s14 s15
    rintro k σ m' hk' ⟨acc, id, ob, hacc, hp, hid, hob, ⟨ob1, ob2, ob3, ob4, ob5⟩, ⟨hmem, hlen⟩, s0, s5, s4⟩
    by_cases hlt2 : k < T
    · have hpos : (0 : Int) < (T : Int) - k := by omega
      have hwd : IntKind.i64.wrap ((T : Int) - k - 1) = (T : Int) - k - 1 := wrapI (by omega) (by omega)
      simp -dsimp -implicitDefEqProofs [s0, s4, s5, hpos, hlt2]
      refine loopN xs.length (fun i σ m1 => ∃ ob, nextP xs ((T : Int) - k) acc i = none ∧ m <+: m1 ∧ m1[id]? = some ob ∧ (ob.cells = (acc.map fun (i : Nat) => (i : Int)).map (Value.int .i64) ∧ ob.elem = 2 ∧ ob.sz = 1 ∧ 1 ≤ ob.kind ∧ ob.kind ≤ 2) ∧
        σ 0 = some (.slice a xs.length xs.length) ∧ σ 5 = some (.int .i64 ((T : Int) - k)) ∧
        σ 4 = some (.slice (some ⟨id, 0, none⟩) acc.length acc.length) ∧ σ 29 = some (.int .i64 xs.length) ∧ σ 30 = some (.int .i64 i)) ⟨ob, rfl, hp, hob, ⟨ob1, ob2, ob3, ob4, ob5⟩, by simp [s0, s4, s5]⟩ ?_
      clear s0 s4 s5 hob hp ob1 ob2 ob3 ob4 ob5
      rintro i σ m1 hi ⟨ob, hno, hp, hob, ⟨ob1, ob2, ob3, ob4, ob5⟩, s0, s5, s4, s29, s30⟩
      by_cases hlt3 : i < xs.length
      · have hw : IntKind.i64.wrap ((i : Int) + 1) = i + 1 := wrapI (by omega) (by omega)
        have hrj : RdG v3 3 m1 a xs := by obtain ⟨jx, rfl⟩ := hp; exact hr.ext jx
        rcases List.eq_nil_or_concat acc with rfl | ⟨ys, l, hcc⟩
        · simp -dsimp -implicitDefEqProofs [s0, s4, s5, s29, s30, hlt3, hw, hwd]
          refine callsTo Try.cal69 (longestFrom_c xs a hn _ i _ hrj hlt3 (rnk_lt hlt3)) ?_
          simp -dsimp -implicitDefEqProofs [s0, s4, s5, s29, s30, hlt3, hw, hwd]
          cases hd : (dP xs i == (T : Int) - k) with
          | true =>
            have hd' : dP xs i = (T : Int) - k := by simpa using hd
            have hst := nestP_step (xs := xs) (acc := []) hlt2
            rw [nextP_hit hno (by simp [okP, lastOk, hd']) xs.length hlt3] at hst
            simp -dsimp -implicitDefEqProofs [s0, s4, s5, s29, s30, hlt3, hw, hwd]
            refine appTo_grow Try.sl38 Try.inf2 ⟨by decide, rfl⟩ (o := ob) (get_old hob) ⟨ob4, ob5⟩ ⟨ob3, ob2⟩ (by rw [ob1]; simp) ⟨by omega, by omega⟩ (Src.obj (o := ⟨[.int .i64 i], _, 1, 1⟩) (by simp; rfl) (by simp) rfl rfl) ?_
            intro m2 id2 hg
            simp -dsimp -implicitDefEqProofs [s0, s4, s5, s29, s30, hlt3, hw, hwd]
            refine next_ hlt2 ⟨[i], id2, _, by rw [← hacc, hst]; rfl, hg.pre _ (pre_app hp _) hid, by rw [hg.at_]; simp; have := hp.length_le; omega, hg.new, by simp [ob1], ⟨by simp [hlt3], by simp⟩, by simp [s0, hwd]; omega⟩
          | false =>
            have hd' : ¬ dP xs i = (T : Int) - k := by simpa using hd
            simp -dsimp -implicitDefEqProofs [s0, s4, s5, s29, s30, hlt3, hw, hwd]
            exact next_ hlt3 ⟨ob, nextP_skip hno (by simp [okP, hd']), hp, hob, ⟨ob1, ob2, ob3, ob4, ob5⟩, by simp [s0, s4, s5, s29, hw]⟩
        · rw [List.concat_eq_append] at hcc
          subst hcc
          have hl : l < xs.length := hmem l (by simp)
          have hal : (ys ++ [l]).length = ys.length + 1 := by simp
          have hoc : ob.cells[ys.length]? = some (.int .i64 l) := by rw [ob1]; simp
          have hol : ob.cells.length = ys.length + 1 := by rw [ob1]; simp
          have hyk : ys.length + 1 ≤ k := by simpa using hlen
          have hwl : IntKind.i64.wrap (ys.length : Int) = ys.length := wrapI (by omega) (by omega)
          have hne : ((ys.length : Int) + 1 == 0) = false := by simp; omega
          have hyl : ys.length < ys.length + 1 := by omega
          have hyI : (ys.length : Int) < (ys.length : Int) + 1 := by omega
          obtain ⟨idx, off, o, ha, hm, hkd, hsz, hlx, hrow, _⟩ := R3.at_ hrj hlt3
          obtain ⟨idx', off', o', ha', hm', hkd', hsz', hlx', hrow', _⟩ := R3.at_ hrj hl
          subst ha
          simp at ha'
          obtain ⟨rfl, rfl⟩ := ha'
          rw [hm] at hm'
          injection hm' with hm'
          subst hm'
          have hf : fitB xs[i] xs[l] = fitF xs i l := by rw [fitF, potAt_eq hlt3, potAt_eq hl]
          simp -dsimp -implicitDefEqProofs [s0, s4, s5, s29, s30, hlt3, hl, hal, hw, hwd, hwl, hne, hyl, hyI, withO_of hob, ob5, ob3, withC_of hoc, hol, withO_of hm, hkd, hsz, hlx, hrow, hlx', hrow']
          refine callsTo Try.cal57 (fitsIn_c xs[i] xs[l] _) ?_
          simp -dsimp -implicitDefEqProofs [s0, s4, s5, s29, s30, hlt3, hl, hal, hw, hwd, hwl, hne, hyl, hyI, withO_of hob, ob5, ob3, withC_of hoc, hol, withO_of hm, hkd, hsz, hlx, hrow, hlx', hrow']
          rw [hf]
          cases hfk : fitF xs i l with
          | false =>
            simp -dsimp -implicitDefEqProofs [s0, s4, s5, s29, s30, hlt3, hl, hal, hw, hwd, hwl, hne, hyl, hyI, withO_of hob, ob5, ob3, withC_of hoc, hol, withO_of hm, hkd, hsz, hlx, hrow, hlx', hrow']
            exact next_ hlt3 ⟨ob, nextP_skip hno (by simp [okP, lastOk, hfk]), hp, hob, ⟨ob1, ob2, ob3, ob4, ob5⟩, by simp [s0, s4, s5, s29, hw]⟩
          | true =>
            simp -dsimp -implicitDefEqProofs [s0, s4, s5, s29, s30, hlt3, hl, hal, hw, hwd, hwl, hne, hyl, hyI, withO_of hob, ob5, ob3, withC_of hoc, hol, withO_of hm, hkd, hsz, hlx, hrow, hlx', hrow']
            refine callsTo Try.cal69 (longestFrom_c xs _ hn _ i _ hrj hlt3 (rnk_lt hlt3)) ?_
            simp -dsimp -implicitDefEqProofs [s0, s4, s5, s29, s30, hlt3, hl, hal, hw, hwd, hwl, hne, hyl, hyI, withO_of hob, ob5, ob3, withC_of hoc, hol, withO_of hm, hkd, hsz, hlx, hrow, hlx', hrow']
            cases hd : (dP xs i == (T : Int) - k) with
            | true =>
              have hd' : dP xs i = (T : Int) - k := by simpa using hd
              have hst := nestP_step (xs := xs) (acc := ys ++ [l]) hlt2
              rw [nextP_hit hno (by simp [okP, lastOk, hd', hfk]) xs.length hlt3] at hst
              simp -dsimp -implicitDefEqProofs [s0, s4, s5, s29, s30, hlt3, hl, hal, hw, hwd, hwl, hne, hyl, hyI, withO_of hob, ob5, ob3, withC_of hoc, hol, withO_of hm, hkd, hsz, hlx, hrow, hlx', hrow']
              refine appTo_grow Try.sl38 Try.inf2 ⟨by decide, rfl⟩ (o := ob) (get_old hob) ⟨ob4, ob5⟩ ⟨ob3, ob2⟩ (by rw [ob1]; simp) ⟨by omega, by omega⟩ (Src.obj (o := ⟨[.int .i64 i], _, 1, 1⟩) (by simp; rfl) (by simp) rfl rfl) ?_
              intro m2 id2 hg
              simp -dsimp -implicitDefEqProofs [s0, s4, s5, s29, s30, hlt3, hl, hal, hw, hwd, hwl, hne, hyl, hyI, withO_of hob, ob5, ob3, withC_of hoc, hol, withO_of hm, hkd, hsz, hlx, hrow, hlx', hrow']
              refine next_ hlt2 ⟨ys ++ [l] ++ [i], id2, _, by rw [← hacc, hst], hg.pre _ (pre_app hp _) hid, by rw [hg.at_]; simp; have := hp.length_le; omega, hg.new, by simp [ob1], ⟨fun x hx => ?_, by simp; omega⟩, by simp [s0, hwd]; omega⟩
              rcases List.mem_append.1 hx with hx | hx
              · exact hmem x hx
              · simp at hx; omega
            | false =>
              have hd' : ¬ dP xs i = (T : Int) - k := by simpa using hd
              simp -dsimp -implicitDefEqProofs [s0, s4, s5, s29, s30, hlt3, hl, hal, hw, hwd, hwl, hne, hyl, hyI, withO_of hob, ob5, ob3, withC_of hoc, hol, withO_of hm, hkd, hsz, hlx, hrow, hlx', hrow']
              exact next_ hlt3 ⟨ob, nextP_skip hno (by simp [okP, hd']), hp, hob, ⟨ob1, ob2, ob3, ob4, ob5⟩, by simp [s0, s4, s5, s29, hw]⟩
      · obtain rfl : i = xs.length := by omega
        have hst := nestP_step (xs := xs) (acc := acc) hlt2
        rw [hno] at hst
        simp -dsimp -implicitDefEqProofs [s0, s4, s5, s29, s30, hwd]
        exact next_ hlt2 ⟨acc, id, ob, by rw [← hst]; exact hacc, hp, hid, hob, ⟨ob1, ob2, ob3, ob4, ob5⟩, ⟨hmem, by omega⟩, by simp [s0, s4, hwd]; omega⟩
    · obtain rfl : k = T := by omega
      have hneg : ¬ (0 : Int) < (k : Int) - k := by omega
      have hO : nestO xs = some (nestL xs) := by simp [nestO, g]
      have hL : nestL xs = acc.map fun (i : Nat) => (i : Int) := by rw [nestL, hT, Int.toNat_natCast, ← hacc, Nat.sub_self]; rfl
      have hC : potsC xs = 0 := by simp [potsC, g]
      simp -dsimp -implicitDefEqProofs [s0, s4, s5, hneg]
      rw [hO, hL, hC]
      simp only [optV, optM, List.length_map]
      exact GC.keepTP (Fits.refl m) hp hob hid ob3.symm ob2.symm (by simp; omega) ob1.symm (by rw [ob1]; exact ints_lit _) rfl
theorem nestO_length {xs : List I3} {zs : List Int} (h : nestO xs = some zs) : zs.length ≤ xs.length := by
  unfold nestO at h
  split at h
  · simp at h
    subst h
    have h1 := nestTo_length (n := xs.length) (F := fitF xs) (topP xs xs.length).toNat []
    have h2 := topP_bounds xs xs.length
    simp only [nestL, List.length_map]
    unfold nestP
    simp at h1
    omega
  · simp at h
end Go.Proofs.Ytnipgigpjhalkaa
namespace Go.Proofs.Ytnipgigpjhalkaa
open Go.Abs Go.RowKit Go.Law

theorem dP_rise {xs : List I3} {i j : Nat} (hi : i < xs.length) (hj : j < xs.length) (h : fitF xs i j = true) : dP xs i < dP xs j := by
  rw [dP_eq hj]
  have := maxFit_ge (F := fitF xs) (d := dP xs) (j := j) hi h
  omega
theorem dP_pos {xs : List I3} {j : Nat} (hj : j < xs.length) : 1 ≤ dP xs j := by
  rw [dP_eq hj]
  have := maxFit_nonneg (F := fitF xs) (dP xs) j xs.length
  omega
theorem dP_top {xs : List I3} {j : Nat} (hj : j < xs.length) : dP xs j ≤ topP xs xs.length := topD_ge hj
theorem nest_full (xs : List I3) : (nestL xs).length = (topP xs xs.length).toNat ∧ (∀ i, (h : i + 1 < (nestL xs).length) → ∃ a b : Nat, (nestL xs)[i + 1] = (a : Int) ∧ (nestL xs)[i] = (b : Int) ∧ a < xs.length ∧ b < xs.length ∧ fitF xs a b = true) := by
  have hb := topP_bounds xs xs.length
  obtain ⟨h1, h2, h3⟩ := nestTo_full (n := xs.length) (F := fitF xs) (r := rnk xs) rnk_rise (fun _ h => rnk_lt h) (topP xs xs.length).toNat [] (fun i h => by simp at h) (by simp) (.inl ⟨rfl, by
    show ((topP xs xs.length).toNat : Int) = topP xs xs.length
    omega⟩)
  have hl : (nestL xs).length = (nestTo xs.length (fitF xs) (topP xs xs.length).toNat []).length := by simp [nestL, nestP]
  refine ⟨by rw [hl, h1]; simp, fun i h => ?_⟩
  rw [hl] at h
  refine ⟨_, _, ?_, ?_, h3 _ (List.getElem_mem h), h3 _ (List.getElem_mem (show i < _ by omega)), h2 i h⟩
  · simp [nestL, nestP]
  · simp [nestL, nestP]
theorem fits_valid {xs : List I3} (hok : potsB xs = true) {a b : Nat} (ha : a < xs.length) (hb : b < xs.length) (h : fitF xs a b = true) : fitsV xs[a] xs[b] = .tuple #[.bool true, .int .i64 0] := by
  have h1 : twoI xs[a] xs[b] = 0 := by unfold twoI; rw [potsB_all hok ha, potsB_all hok hb]; rfl
  have h2 : fitB xs[a] xs[b] = true := by rw [← potAt_eq ha, ← potAt_eq hb]; exact h
  unfold fitsV
  rw [h1, h2]; rfl
/-! ### Piles as piles of indices -/
def natP (p : List Int) : List Nat := p.map Int.toNat
theorem natP_chain {xs : List I3} {p : List Int} (h : ∀ i, (h : i + 1 < p.length) → fitF xs (p[i + 1]).toNat (p[i]).toNat = true) : ChIx (fitF xs) (natP p) := fun i hi => by
  simp only [natP, List.length_map] at hi
  simpa [natP] using h i hi
section
variable {xs : List I3} (hok : potsB xs = true)
theorem piles_ok (xs : List I3) : PileOK xs (pilesP xs) ∧ (pilesP xs).flatten.Perm (orderP xs xs.length) := by
  obtain ⟨h1, h2⟩ := pilesTo_ok xs xs.length (Nat.le_refl _)
  rw [List.take_of_length_le (by rw [orderP_length]; exact Nat.le_refl _)] at h2
  exact ⟨h1, h2⟩
theorem flat_nat : ∀ ps : List (List Int), (ps.map natP).flatten = ps.flatten.map Int.toNat
  | [] => rfl
  | p :: ps => by
    simp only [List.map_cons, List.flatten_cons, List.map_append, flat_nat ps]; rfl
theorem piles_count (xs : List I3) : (pilesP xs).flatten.length = xs.length := by
  rw [(piles_ok xs).2.length_eq, orderP_length]
theorem few_le (xs : List I3) : fewI xs ≤ (pilesP xs).length := by
  obtain ⟨h, hperm⟩ := piles_ok xs
  have hfl := flat_nat (pilesP xs)
  have hcount := piles_count xs
  have := piles_le (F := fitF xs) (n := xs.length) (ls := (pilesP xs).map natP) (fun l hl => by
    obtain ⟨p, hp, rfl⟩ := List.mem_map.1 hl
    have := h.ne p hp
    simp [natP, this]) (fun l hl => by
    obtain ⟨p, hp, rfl⟩ := List.mem_map.1 hl
    exact (natP_chain (h.ch p hp)).chain) (by
    rw [hfl]
    have hnd := h.nd
    refine nodup_map (f := id) (g := Int.toNat) (M := (pilesP xs).flatten) (by simpa using hnd) (fun x hx y hy e => ?_)
    obtain ⟨p, hp, hxp⟩ := List.mem_flatten.1 hx
    obtain ⟨q, hq, hyq⟩ := List.mem_flatten.1 hy
    have h1 := h.ix p hp x hxp
    have h2 := h.ix q hq y hyq
    simp only [id]; omega) (fun x hx => by
    rw [hfl] at hx
    obtain ⟨y, hy, rfl⟩ := List.mem_map.1 hx
    obtain ⟨p, hp, hyp⟩ := List.mem_flatten.1 hy
    exact (h.ix p hp y hyp).2) (by rw [hfl, List.length_map]; exact hcount)
  rw [List.length_map] at this
  unfold fewI; omega
theorem few_ge (xs : List I3) : (xs.length : Int) ≤ fewI xs * topP xs xs.length :=
  piles_ge (F := fitF xs) (n := xs.length) (d := dP xs) (fun x hx => ⟨dP_pos hx, dP_top hx⟩) (fun a b ha hb h => dP_rise ha hb h)
theorem few_bounds (xs : List I3) : 0 ≤ fewI xs ∧ fewI xs ≤ xs.length := by
  have := mostK_le_left (fitF xs) xs.length xs.length
  unfold fewI; omega
theorem alone_le (xs : List I3) : ((aloneTo xs xs.length).length : Int) ≤ fewI xs := by
  have hlen : (aloneTo xs xs.length).length = ((List.range xs.length).filter fun i => aloneB (xs.getD i (0, 0, 0)) xs).length := by simp [aloneTo]
  have := lonely_le (F := fitF xs) (n := xs.length) (A := (List.range xs.length).filter fun i => aloneB (xs.getD i (0, 0, 0)) xs) (List.Pairwise.filter _ List.nodup_range) (fun x hx => by simpa using (List.mem_filter.1 hx).1) (fun x hx b hb => by
    have h1 := (List.mem_filter.1 hx).2
    have hxl : x < xs.length := by simpa using (List.mem_filter.1 hx).1
    unfold aloneB at h1
    have h2 := List.all_eq_true.1 h1 _ (List.getElem_mem hb)
    simp only [Bool.and_eq_true, Bool.not_eq_true'] at h2
    rw [fitF, potAt_eq hb]
    exact h2.1)
  unfold fewI; omega
theorem pile_len {p : List Int} (hp : p ∈ pilesP xs) : (p.length : Int) ≤ topP xs xs.length := by
  obtain ⟨h, _⟩ := piles_ok xs
  have hne := h.ne p hp
  have hch := (natP_chain (h.ch p hp)).chain
  have hix : ∀ x ∈ natP p, x < xs.length := fun x hx => by
    obtain ⟨y, hy, rfl⟩ := List.mem_map.1 hx
    exact (h.ix p hp y hy).2
  have hl : (natP p).length = p.length := by simp [natP]
  generalize natP p = q at *
  match q, hl with
  | [], hl => exact absurd (List.length_eq_zero_iff.1 hl.symm) hne
  | a :: r, hl =>
    have h1 := chain_deep (F := fitF xs) (n := xs.length) (d := dP xs) (fun x hx => dP_pos hx) (fun a b ha hb h => dP_rise ha hb h) a r hix hch
    have h2 := dP_top (hix a (by simp))
    omega
include hok in
theorem pile_valid {p : List Int} (hp : p ∈ pilesP xs) : pileC xs p = 0 := by
  obtain ⟨h, _⟩ := piles_ok xs
  have hne := h.ne p hp
  have hlen : p.length ≠ 0 := fun e => hne (List.length_eq_zero_iff.1 e)
  have hnd : p.Nodup := h.nd.sublist (List.sublist_flatten_of_mem hp)
  unfold pileC pileI
  rw [if_pos hok, if_pos, if_neg hlen, if_pos]
  · rw [List.all_eq_true]
    intro i hi
    simp only [List.mem_range] at hi
    have hc := h.ch p hp i (by omega)
    unfold fitAt ixAt
    rw [getI (show i + 1 < p.length by omega), getI (show i < p.length by omega)]
    exact hc
  · rw [List.all_eq_true]
    intro i hi
    simp only [List.mem_range] at hi
    have hx := h.ix p hp _ (List.getElem_mem hi)
    unfold rngAt
    rw [getI hi, Bool.and_eq_true]
    refine ⟨by simp only [inB, Bool.and_eq_true, decide_eq_true_eq]; omega, ?_⟩
    rw [Bool.not_eq_true', decide_eq_false_iff_not]
    intro hm
    obtain ⟨j, hj, e⟩ := List.getElem_of_mem hm
    simp only [List.length_take] at hj
    rw [List.getElem_take] at e
    exact List.pairwise_iff_getElem.1 hnd j i (by omega) hi (by omega) e
end
end Go.Proofs.Ytnipgigpjhalkaa
