/-
  Baskets, part 14: drawn texts, strokes and bends. Conditions: none.
-/
import Derived.Test.YtmbijgnmbapchaaGreatDoorBkB
import Derived.Test.YtmbijgnmbapchaaGreatDoorDraw2
import Derived.Test.YtmbijgnmbapchaaGreatDoorBkE
import Derived.Test.YtmbijgnmbapchaaGreatDoorBkKK
set_option linter.unusedSimpArgs false
set_option linter.unusedVariables false
set_option linter.unusedSectionVars false
namespace Go.Proofs.YtmbijgnmbapchaaGreatDoor
open Go.Abs Go.RowKit

def vS (s : ByteArray) : List Value := [.string s]
theorem RS.at_ {m : Mem} {a : Option Addr} {xs : List ByteArray} (h : RdG vS 1 m a xs) {i : Nat} (hi : i < xs.length) :
    ∃ id off o, a = some ⟨id, off, none⟩ ∧ m[id]? = some o ∧ o.kind ≤ 2 ∧ o.sz = 1 ∧ o.cells[off + i]? = some (.string xs[i]) := by
  obtain ⟨id, off, o, h1, h2, h3, h4, h5, h6, h7⟩ := RdG.at_ h hi
  refine ⟨id, off, o, h1, h2, h3, h4, ?_⟩
  have := h7 0 _ rfl
  simpa using this
def TextIs (is : Nat) (a : Option Addr) (code : List Int) (k : Int) (T : List ByteArray) (n : Nat) (m : Mem) (v : Value) (m' : Mem) : Prop :=
  ∃ s, s ∈ T ∧ v = .string s ∧ But is m m' ∧ SrcA is a code k m' ∧ m'.length = n
theorem text_c (is : Nat) (a : Option Addr) (code : List Int) (k : Int) (hk : k < 900000000) (T : List ByteArray) (b : Option Addr) (m : Mem) (h : SrcA is a code k m) (hx : 0 < T.length ∧ T.length ≤ 1000) (hr : RdG vS 1 m b T) (hb : ∀ x, b = some x → x.block ≠ is) :
    ∃ v m', ACalls Tryz.prog 42 [.pointer (some ⟨is, 0, none⟩), .slice b T.length T.length] m v m' ∧ TextIs is a code (k + 2) T m.length m v m' := by
  obtain ⟨v, m1, hc1, x, rfl, hxx, hb1, hs1, hl1⟩ := pick_c is a code k T.length hk m h
  obtain ⟨p, rfl⟩ : ∃ p : Nat, x = p := ⟨x.toNat, by omega⟩
  have hp : p < T.length := by split at hxx <;> omega
  obtain ⟨id, off, o, rfl, hm, hkd, hsz, hc⟩ := RS.at_ (show RdG vS 1 m1 b T from hb1.rd (fun _ => hb) hr) hp
  refine ecalls_of_vc Tryz.func42 rfl Tryz.fol (by kernel_rfl) ?_
  simp only [Tryz.f42]
  simp -dsimp -implicitDefEqProofs
  refine callsTo Tryz.cal30 hc1 ?_
  simp -dsimp -implicitDefEqProofs
  simp -dsimp -implicitDefEqProofs [withO_of hm, hkd, hsz, withC_of hc, hp]
  exact ⟨_, _, GC.refl _ _ _, _, List.getElem_mem hp, rfl, hb1, hs1, hl1⟩
theorem textLit_c (is : Nat) (a : Option Addr) (code : List Int) (k : Int) (hk : k < 900000000) (T : List ByteArray) (n : Nat) (hn : T.length = n) (m : Mem) (h : SrcA is a code k m) (hx : 0 < n ∧ n ≤ 1000) :
    ∃ v m', ACalls Tryz.prog 42 [.pointer (some ⟨is, 0, none⟩), .slice (some ⟨m.length, 0, none⟩) n n] (m ++ [⟨T.map Value.string, 9, 1, 1⟩]) v m' ∧ TextIs is a code (k + 2) T (m.length + 1) m v m' := by
  have his : is < m.length := lt_of_get h.obj.choose_spec.choose_spec.1
  subst hn
  obtain ⟨v, m', hc, x, hxT, rfl, hb, hs, hl⟩ := text_c is a code k hk T (some ⟨m.length, 0, none⟩) _ (h.app [⟨T.map Value.string, 9, 1, 1⟩]) hx (RdG.of_get (g := vS) (sz := 1) (fun _ => rfl) T (o := ⟨T.map Value.string, 9, 1, 1⟩) (by simp) (by simp) rfl (by
    have : ∀ l : List ByteArray, l.map Value.string = (l.map vS).flatten := fun l => by
      induction l with
      | nil => rfl
      | cons x l ih => simp [vS] at ih ⊢; exact ih
    exact this T)) (fun x h => by injection h with h; subst h; simp only; omega)
  exact ⟨_, _, hc, x, hxT, rfl, (But.app is m _).trans hb, hs, by simpa using hl⟩
def DrawnS (is : Nat) (a : Option Addr) (code : List Int) (k : Int) (p : ByteArray → Prop) (m : Mem) (v : Value) (m' : Mem) : Prop :=
  ∃ s, p s ∧ v = .string s ∧ But is m m' ∧ SrcA is a code k m'
def StrokeS (s : ByteArray) : Prop := strokeB s = true ∧ s.size ≤ 8
def BendS (s : ByteArray) : Prop := bendsB s = true ∧ s.size ≤ 8
theorem drawnLits : ∀ s ∈ ([⟨#[70, 66]⟩, ⟨#[70, 70, 66]⟩, ⟨#[70, 66, 66]⟩, ⟨#[70, 70, 66, 66]⟩, ⟨#[70, 70, 70, 66]⟩] : List ByteArray), StrokeS s := by
  intro s hs
  simp only [List.mem_cons, List.not_mem_nil, or_false] at hs
  rcases hs with rfl | rfl | rfl | rfl | rfl <;> exact ⟨by decide, by decide⟩
theorem l06Draw_c (is : Nat) (a : Option Addr) (code : List Int) (k : Int) (hk : k < 800000000) (m : Mem) (h : SrcA is a code k m) :
    ∃ v m', ACalls Tryz.prog 51 [.pointer (some ⟨is, 0, none⟩)] m v m' ∧ DrawnS is a code (k + 30) StrokeS m v m' := by
  have his : is < m.length := lt_of_get h.obj.choose_spec.choose_spec.1
  obtain ⟨v1, m1, hc1, b1, rfl, hb1, hs1, hl1⟩ := one_c is a code k 3 (by omega) m h
  refine ecalls_of_vc Tryz.func51 rfl Tryz.fol (by kernel_rfl) ?_
  simp only [Tryz.f51]
  simp -dsimp -implicitDefEqProofs
  refine callsTo Tryz.cal41 hc1 ?_
  simp -dsimp -implicitDefEqProofs
  refine sp2 (fun g => ?_) (fun g => ?_)
  · obtain ⟨v2, m2, hc2, s, hsT, rfl, hb2, hs2, hl2⟩ := textLit_c is a code (k + 2) (by omega) [⟨#[70, 66]⟩, ⟨#[70, 70, 66]⟩, ⟨#[70, 66, 66]⟩, ⟨#[70, 70, 66, 66]⟩, ⟨#[70, 70, 70, 66]⟩] 5 rfl m1 hs1 (by decide)
    refine callsTo Tryz.cal42 hc2 ?_
    simp -dsimp -implicitDefEqProofs
    exact ⟨_, _, GC.refl _ _ _, s, drawnLits s hsT, rfl, hb1.trans hb2, hs2.mono (by omega)⟩
  · obtain ⟨m2, hm2⟩ : ∃ m2 : Mem, m2 = m1 ++ [⟨[], 5, 1, 1⟩] := ⟨_, rfl⟩
    have b2 : But is m1 m2 := by rw [hm2]; exact But.app _ _ _
    have s2 : SrcA is a code (k + 2) m2 := by rw [hm2]; exact hs1.app _
    have t2 : m2[m1.length]? = some ⟨[], 5, 1, 1⟩ := by rw [hm2]; simp
    obtain ⟨v3', m3, hc3, x3, rfl, hx3, b3, s3, hl3⟩ := pick_c is a code (k + 2) 7 (by omega) m2 s2
    simp at hx3
    obtain ⟨N, hN⟩ : ∃ N : Nat, (N : Int) = 1 + x3 := ⟨(1 + x3).toNat, by omega⟩
    have hw1 : IntKind.i64.wrap (1 + x3) = (N : Int) := by rw [hN]; exact wrapI (by omega) (by omega)
    have hml := (hb1.trans (b2.trans b3)).len
    have h1l := hb1.len
    have t3 := b3.get _ _ (by omega) t2
    simp -dsimp -implicitDefEqProofs [hm2.symm, hw1]
    refine callsTo Tryz.cal30 hc3 ?_
    simp -dsimp -implicitDefEqProofs [hm2.symm, hw1]
    refine loopN N (fun j σ m' => ∃ (bs : List UInt8) (id kd : Nat), (bs.length = j ∧ bs.all (([70, 66] : List UInt8).contains ·) = true) ∧ (But is m m' ∧ SrcA is a code (k + 4 + 2 * j) m' ∧ m.length ≤ id ∧ (kd = 1 ∨ kd = 2)) ∧ m'[id]? = some ⟨(bs.map fun b => (b.toNat : Int)).map (Value.int .u8), 5, 1, kd⟩ ∧
        σ 0 = some (.pointer (some ⟨is, 0, none⟩)) ∧ σ 3 = some (.slice (some ⟨id, 0, none⟩) j j) ∧ σ 4 = some (.int .i64 ((N : Int) - j)))
      ⟨[], m1.length, 1, ⟨rfl, rfl⟩, ⟨hb1.trans (b2.trans b3), s3.mono (by omega), by omega, .inl rfl⟩, by simpa using t3, by simp, by simp, by simp [hw1]⟩ ?_
    rintro j σ m' hj ⟨bs, id, kd, ⟨rfl, hall⟩, ⟨hbut, hsrc, hid, hkd⟩, ho, s0, s3', s4⟩
    by_cases hlt : bs.length < N
    · obtain ⟨v4, m4, hc4, x4, rfl, hx4, b4, s4', hl4⟩ := pick_c is a code (k + 4 + 2 * bs.length) 2 (by omega) m' hsrc
      simp at hx4
      have ho4 := b4.get _ _ (by omega) ho
      have hpos : (0 : Int) < (N : Int) - bs.length := by omega
      have hw : IntKind.i64.wrap ((N : Int) - bs.length - 1) = (N : Int) - (bs.length + 1) := by rw [wrapI (by omega) (by omega)]; omega
      have hbm := hbut.trans b4
      have hml := hbm.len
      have main : ∀ c : UInt8, ([70, 66] : List UInt8).contains c = true → ∀ m5 id5, Abs.Grown (m4 ++ [⟨[.int .u8 c.toNat], 5, 1, 1⟩]) id ⟨(bs.map fun b => (b.toNat : Int)).map (Value.int .u8) ++ [.int .u8 c.toNat], 5, 1, 2⟩ m5 id5 →
          ((bs ++ [c]).length = bs.length + 1 ∧ (bs ++ [c]).all (([70, 66] : List UInt8).contains ·) = true) ∧ (But is m m5 ∧ SrcA is a code (k + 4 + 2 * ((bs.length + 1 : Nat) : Int)) m5 ∧ m.length ≤ id5 ∧ (2 = 1 ∨ 2 = 2)) ∧ m5[id5]? = some ⟨((bs ++ [c]).map fun b => (b.toNat : Int)).map (Value.int .u8), 5, 1, 2⟩ := fun c hc m5 id5 gr => by
        have hb5 : But id (m4 ++ [⟨[.int .u8 c.toNat], 5, 1, 1⟩]) m5 := ⟨by have := gr.len; omega, fun i o' h1 h2 => gr.old i o' h1 h2⟩
        have hat := gr.at_
        simp at hat
        refine ⟨⟨by simp, by rw [List.all_append, hall]; simpa using hc⟩, ⟨⟨by have := hb5.len; simp at this; omega, fun i o' h1 h2 => hb5.get _ _ (by have := lt_of_get h2; omega) (get_old (hbm.get i o' h1 h2))⟩, ((s4'.app _).keep hb5 (by omega) (fun h0 x hx => by have := h.off h0 x hx; omega)).mono (by omega), by omega, .inr rfl⟩, by simpa using gr.new⟩
      have hx01 : x4 = 0 ∨ x4 = 1 := by omega
      rcases hx01 with rfl | rfl
      · simp -dsimp -implicitDefEqProofs [s0, s3', s4, hpos, hlt, hw]
        refine callsTo Tryz.cal30 hc4 ?_
        simp -dsimp -implicitDefEqProofs [s0, s3', s4, hpos, hlt, hw]
        refine appTo_grow (n := bs.length) (c := 1) (e := 5) (sz := 1) (by_ := 1) (z := .int .u8 0) (by kernel_rfl) (by kernel_rfl) ⟨by decide, rfl⟩ (get_old ho4) (by simp; omega) ⟨rfl, rfl⟩ (by simp) (by omega) (Src.obj (o := ⟨[.int .u8 70], 5, 1, 1⟩) (by simp) (by simp) rfl rfl) ?_
        intro m5 id5 gr
        simp -dsimp -implicitDefEqProofs [s0, s3', s4, hpos, hlt, hw]
        obtain ⟨g1, g2, g3⟩ := main 70 rfl m5 id5 gr
        exact next_ hlt ⟨bs ++ [70], id5, 2, g1, g2, g3, by simp [s0], by simp, by simp [hw]⟩
      · simp -dsimp -implicitDefEqProofs [s0, s3', s4, hpos, hlt, hw]
        refine callsTo Tryz.cal30 hc4 ?_
        simp -dsimp -implicitDefEqProofs [s0, s3', s4, hpos, hlt, hw]
        refine appTo_grow (n := bs.length) (c := 1) (e := 5) (sz := 1) (by_ := 1) (z := .int .u8 0) (by kernel_rfl) (by kernel_rfl) ⟨by decide, rfl⟩ (get_old ho4) (by simp; omega) ⟨rfl, rfl⟩ (by simp) (by omega) (Src.obj (o := ⟨[.int .u8 66], 5, 1, 1⟩) (by simp) (by simp) rfl rfl) ?_
        intro m5 id5 gr
        simp -dsimp -implicitDefEqProofs [s0, s3', s4, hpos, hlt, hw]
        obtain ⟨g1, g2, g3⟩ := main 66 rfl m5 id5 gr
        exact next_ hlt ⟨bs ++ [66], id5, 2, g1, g2, g3, by simp [s0], by simp, by simp [hw]⟩
    · have hpos : ¬ (0 : Int) < (N : Int) - bs.length := by omega
      have hkd2 : kd ≤ 2 := by omega
      simp -dsimp -implicitDefEqProofs [s0, s3', s4, hpos, hlt, withO_of ho, hkd2]
      refine strT (bs.map fun b => (b.toNat : Int)) ?_ ?_
      · rw [List.take_of_length_le (by simp)]; simp
      have hbs : strOfNums (bs.map fun b => (b.toNat : Int)) = ⟨bs.toArray⟩ := by
        unfold strOfNums
        rw [List.map_map]
        congr 2
        conv => rhs; rw [← List.map_id bs]
        exact List.map_congr_left fun b _ => by simp
      simp -dsimp -implicitDefEqProofs [s0, s3', s4, hpos, hlt, withO_of ho, hkd2]
      have hsz : (⟨bs.toArray⟩ : ByteArray).size = bs.length := by simp [ByteArray.size]
      exact ⟨_, _, GC.refl _ _ _, ⟨bs.toArray⟩, ⟨by
        simp only [strokeB, wordB, hsz, allIn, hall, Bool.and_true, Bool.and_eq_true, decide_eq_true_eq]
        omega, by rw [hsz]; omega⟩, by rw [hbs], hbut, hsrc.mono (by omega)⟩
end Go.Proofs.YtmbijgnmbapchaaGreatDoor
namespace Go.Proofs.YtmbijgnmbapchaaGreatDoor
open Go.Abs Go.RowKit

theorem l11Draw_c (is : Nat) (a : Option Addr) (code : List Int) (k : Int) (hk : k < 800000000) (m : Mem) (h : SrcA is a code k m) :
    ∃ v m', ACalls Tryz.prog 52 [.pointer (some ⟨is, 0, none⟩)] m v m' ∧ DrawnS is a code (k + 20) (fun s => s.size ≤ 8) m v m' := by
  have his : is < m.length := lt_of_get h.obj.choose_spec.choose_spec.1
  obtain ⟨v1, m1, hc1, x1, rfl, hx1, hb1, hs1, hl1⟩ := pick_c is a code k 6 (by omega) m h
  simp at hx1
  obtain ⟨N, hN⟩ : ∃ N : Nat, (N : Int) = 1 + x1 := ⟨(1 + x1).toNat, by omega⟩
  have hw1 : IntKind.i64.wrap (1 + x1) = (N : Int) := by rw [hN]; exact wrapI (by omega) (by omega)
  refine ecalls_of_vc Tryz.func52 rfl Tryz.fol (by kernel_rfl) ?_
  simp only [Tryz.f52]
  simp -dsimp -implicitDefEqProofs [hw1]
  refine callsTo Tryz.cal30 hc1 ?_
  simp -dsimp -implicitDefEqProofs [hw1]
  refine loopN N (fun j σ m' => ∃ s : ByteArray, s.size = j ∧ (But is m m' ∧ SrcA is a code (k + 2 + 2 * j) m') ∧ σ 0 = some (.pointer (some ⟨is, 0, none⟩)) ∧ σ 3 = some (.string s) ∧ σ 4 = some (.int .i64 ((N : Int) - j)))
    ⟨⟨#[]⟩, rfl, ⟨hb1, hs1.mono (by omega)⟩, by simp, by simp, by simp [hw1]⟩ ?_
  rintro j σ m' hj ⟨s, hsz, ⟨hbut, hsrc⟩, s0, s3, s4⟩
  by_cases hlt : j < N
  · obtain ⟨v2, m2, hc2, t, htT, rfl, hb2, hs2, hl2⟩ := textLit_c is a code (k + 2 + 2 * j) (by omega) [⟨#[98]⟩, ⟨#[102]⟩] 2 rfl m' hsrc (by decide)
    have ht1 : t.size = 1 := by
      simp only [List.mem_cons, List.not_mem_nil, or_false] at htT
      rcases htT with rfl | rfl <;> rfl
    have hpos : (0 : Int) < (N : Int) - j := by omega
    have hw : IntKind.i64.wrap ((N : Int) - j - 1) = (N : Int) - (j + 1) := by rw [wrapI (by omega) (by omega)]; omega
    simp -dsimp -implicitDefEqProofs [s0, s3, s4, hlt, hw]
    refine callsTo Tryz.cal42 hc2 ?_
    simp -dsimp -implicitDefEqProofs [s0, s3, s4, hlt, hw]
    refine ⟨by omega, ?_⟩
    refine next_ hlt ⟨s ++ t, by rw [ByteArray.size_append]; omega, ⟨hbut.trans hb2, hs2.mono (by omega)⟩, by simp [s0], by simp, by simp [hw]⟩
  · have hpos : ¬ (0 : Int) < (N : Int) - j := by omega
    simp -dsimp -implicitDefEqProofs [s0, s3, s4, hlt]
    exact ⟨_, _, GC.refl _ _ _, s, by omega, rfl, hbut, hsrc.mono (by omega)⟩

/-- The layers of a drawn basket, in an object of their own. -/
def LyObj (m : Mem) (j : Nat) (ls : List LyT) : Prop := ∃ kd, m[j]? = some ⟨(ls.map vl).flatten, 54, 2, kd⟩ ∧ 1 ≤ kd ∧ kd ≤ 2
def SmallB (N : Nat) (ls : List LyT) (b : ByteArray) : Prop := ls.length ≤ N ∧ (∀ p ∈ ls, p.1.size ≤ 20) ∧ b.size ≤ 20
def DrawnBk (N : Nat) (is : Nat) (a : Option Addr) (code : List Int) (k : Int) (m : Mem) (v : Value) (m' : Mem) : Prop :=
  ∃ st ls b j, SmallB N ls b ∧ v = .agg (bkC st (some ⟨j, 0, none⟩) ls.length b).toArray ∧ But is m m' ∧ SrcA is a code k m' ∧ m.length ≤ j ∧ LyObj m' j ls
theorem l17Draw_c (is : Nat) (a : Option Addr) (code : List Int) (k : Int) (hk : k < 700000000) (m : Mem) (h : SrcA is a code k m) :
    ∃ v m', ACalls Tryz.prog 28 [.pointer (some ⟨is, 0, none⟩)] m v m' ∧ DrawnBk 20 is a code (k + 400) m v m' := by
  have his : is < m.length := lt_of_get h.obj.choose_spec.choose_spec.1
  obtain ⟨v1, m1, hc1, x1, rfl, hx1, hb1, hs1, hl1⟩ := pick_c is a code k 40 (by omega) (m ++ [⟨[.int .i64 0, .slice none 0 0, .string ⟨#[]⟩], 27, 3, 1⟩]) (h.app _)
  simp at hx1 hl1
  obtain ⟨st, hst⟩ : ∃ st, st = 10 + x1 := ⟨_, rfl⟩
  have hw1 : IntKind.i64.wrap (10 + x1) = st := by rw [hst]; exact wrapI (by omega) (by omega)
  obtain ⟨m2, hm2⟩ : ∃ m2 : Mem, m2 = m1 ++ [⟨[], 54, 2, 1⟩, ⟨bkC st (some ⟨m1.length, 0, none⟩) 0 ⟨#[]⟩, 27, 3, 1⟩] := ⟨_, rfl⟩
  have q0 : m2[m.length]? = some ⟨[.int .i64 0, .slice none 0 0, .string ⟨#[]⟩], 27, 3, 1⟩ := by rw [hm2]; exact get_old (hb1.get _ _ (by omega) (by simp))
  have q1 : m2[m1.length]? = some ⟨[], 54, 2, 1⟩ := by rw [hm2]; simp
  have q2 : m2[m1.length + 1]? = some ⟨bkC st (some ⟨m1.length, 0, none⟩) 0 ⟨#[]⟩, 27, 3, 1⟩ := by rw [hm2]; simp
  have b2 : But is m m2 := by rw [hm2]; exact ((But.app is m _).trans hb1).trans (But.app _ _ _)
  have s2 : SrcA is a code (k + 2) m2 := by rw [hm2]; exact hs1.app _
  have hl2 : m2.length = m1.length + 2 := by rw [hm2]; simp
  obtain ⟨i3, hi3⟩ : ∃ i3, i3 = m1.length + 1 := ⟨_, rfl⟩
  rw [← hi3] at q2
  obtain ⟨v3, m3, hc3, x3, rfl, hx3, b3, s3, hl3⟩ := pick_c is a code (k + 2) 6 (by omega) m2 s2
  simp at hx3
  have r0 := b3.get _ _ (by omega) q0
  have r1 := b3.get _ _ (by omega) q1
  have r2 := b3.get _ _ (by omega) q2
  have hm2' := hm2.symm
  simp only [bkC] at hm2'
  refine ecalls_of_vc Tryz.func28 rfl Tryz.fol (by kernel_rfl) ?_
  simp only [Tryz.f28]
  simp -dsimp -implicitDefEqProofs [hw1, hm2']
  refine callsTo Tryz.cal30 hc1 ?_
  simp -dsimp -implicitDefEqProofs [hw1, hm2']
  refine callsTo Tryz.cal30 hc3 ?_
  simp -dsimp -implicitDefEqProofs [hw1, hm2']
  refine loopN x3.toNat (fun j σ m' => ∃ (ls : List LyT) (jd : Nat), (ls.length = j ∧ (∀ p ∈ ls, p.1.size ≤ 8 ∧ 1 ≤ p.2 ∧ p.2 ≤ 12)) ∧ (But is m m' ∧ SrcA is a code (k + 4 + 40 * j) m' ∧ m.length + 1 ≤ jd ∧ jd ≠ i3) ∧
      (m'[m.length]? = some ⟨[.int .i64 0, .slice none 0 0, .string ⟨#[]⟩], 27, 3, 1⟩ ∧ m'[i3]? = some ⟨bkC st (some ⟨jd, 0, none⟩) j ⟨#[]⟩, 27, 3, 1⟩ ∧ LyObj m' jd ls) ∧
      σ 0 = some (.pointer (some ⟨is, 0, none⟩)) ∧ σ 2 = some (.pointer (some ⟨m.length, 0, none⟩)) ∧ σ 3 = some (.pointer (some ⟨i3, 0, none⟩)) ∧ σ 4 = some (.int .i64 (x3 - j)))
    ⟨[], m1.length, ⟨rfl, by simp⟩, ⟨b2.trans b3, s3.mono (by omega), by omega, by omega⟩, ⟨r0, r2, ⟨1, r1, by decide, by decide⟩⟩, by simp, by simp, by simp [hi3], by simp⟩ ?_
  rintro j σ m' hj ⟨ls, jd, ⟨rfl, hls⟩, ⟨hbut, hsrc, hjd, hne⟩, ⟨o0, o3, hL⟩, s0, s2', s3', s4⟩
  by_cases hlt : ls.length < x3.toNat
  · have g1 : (ls.length : Int) < x3 := by omega
    obtain ⟨v4, m4, hc4, t, ht, rfl, b4, s4'⟩ := l06Draw_c is a code (k + 4 + 40 * ls.length) (by omega) m' hsrc
    obtain ⟨v5, m5, hc5, x5, rfl, hx5, b5, s5, hl5⟩ := pick_c is a code (k + 4 + 40 * ls.length + 30) 12 (by omega) m4 s4'
    simp at hx5
    obtain ⟨y, hy⟩ : ∃ y, y = 1 + x5 := ⟨_, rfl⟩
    have hwy : IntKind.i64.wrap (1 + x5) = y := by rw [hy]; exact wrapI (by omega) (by omega)
    have b15 : But is m' m5 := b4.trans b5
    have hml := hbut.len
    have h15l := b15.len
    have hi3l := lt_of_get o3
    obtain ⟨kd, ho, ho1, ho2⟩ := hL
    have hjdl := lt_of_get ho
    have hw : IntKind.i64.wrap (x3 - (ls.length : Int) - 1) = x3 - ((ls.length : Int) + 1) := by rw [wrapI (by omega) (by omega)]; omega
    obtain ⟨m6, hm6⟩ : ∃ m6 : Mem, m6 = m5 ++ [⟨[.string t, .int .i64 y], 54, 2, 1⟩] := ⟨_, rfl⟩
    have hm6' := hm6.symm
    have b6 : But is m' m6 := by rw [hm6]; exact b15.trans (But.app _ _ _)
    have s6 : SrcA is a code (k + 4 + 40 * ls.length + 32) m6 := by rw [hm6]; exact (s5.app _).mono (by omega)
    have t6 : m6[m5.length]? = some ⟨[.string t, .int .i64 y], 54, 2, 1⟩ := by rw [hm6]; simp
    have e0 := b6.get _ _ (by omega) o0
    have e3 := b6.get _ _ (by omega) o3
    have eo := b6.get _ _ (by omega) ho
    have h6l := b6.len
    simp only [bkC] at e3
    obtain ⟨N, hN⟩ : ∃ N, N = ls.length := ⟨_, rfl⟩
    have main : ∀ (t' : ByteArray) (mX : Mem), t'.size ≤ 8 → But is m mX → SrcA is a code (k + 4 + 40 * ls.length + 40) mX → m'.length ≤ mX.length → mX[m.length]? = some ⟨[.int .i64 0, .slice none 0 0, .string ⟨#[]⟩], 27, 3, 1⟩ →
        mX[i3]? = some ⟨[.int .i64 st, .slice (some ⟨jd, 0, none⟩) ls.length ls.length, .string ⟨#[]⟩], 27, 3, 1⟩ → mX[jd]? = some ⟨(ls.map vl).flatten, 54, 2, kd⟩ →
        ∀ m2 id2, Abs.Grown (mX ++ [⟨[.string t', .int .i64 y], 54, 2, 1⟩]) jd ⟨(ls.map vl).flatten ++ [.string t', .int .i64 y], 54, 2, 2⟩ m2 id2 →
        m2[i3]? = some ⟨[.int .i64 st, .slice (some ⟨jd, 0, none⟩) ls.length ls.length, .string ⟨#[]⟩], 27, 3, 1⟩ ∧
        (((ls ++ [(t', y)]).length = ls.length + 1 ∧ (∀ p ∈ ls ++ [(t', y)], p.1.size ≤ 8 ∧ 1 ≤ p.2 ∧ p.2 ≤ 12)) ∧
         (But is m (m2.set i3 ⟨[.int .i64 st, .slice (some ⟨id2, 0, none⟩) (ls.length + 1) (ls.length + 1), .string ⟨#[]⟩], 27, 3, 1⟩) ∧ SrcA is a code (k + 4 + 40 * ((ls.length + 1 : Nat) : Int)) (m2.set i3 ⟨[.int .i64 st, .slice (some ⟨id2, 0, none⟩) (ls.length + 1) (ls.length + 1), .string ⟨#[]⟩], 27, 3, 1⟩) ∧ m.length + 1 ≤ id2 ∧ id2 ≠ i3) ∧
         ((m2.set i3 ⟨[.int .i64 st, .slice (some ⟨id2, 0, none⟩) (ls.length + 1) (ls.length + 1), .string ⟨#[]⟩], 27, 3, 1⟩)[m.length]? = some ⟨[.int .i64 0, .slice none 0 0, .string ⟨#[]⟩], 27, 3, 1⟩ ∧
          (m2.set i3 ⟨[.int .i64 st, .slice (some ⟨id2, 0, none⟩) (ls.length + 1) (ls.length + 1), .string ⟨#[]⟩], 27, 3, 1⟩)[i3]? = some ⟨bkC st (some ⟨id2, 0, none⟩) (ls.length + 1) ⟨#[]⟩, 27, 3, 1⟩ ∧
          LyObj (m2.set i3 ⟨[.int .i64 st, .slice (some ⟨id2, 0, none⟩) (ls.length + 1) (ls.length + 1), .string ⟨#[]⟩], 27, 3, 1⟩) id2 (ls ++ [(t', y)]))) := by
      intro t' mX ht' hbX hsX hXl h0 h3 hO m2 id2 gr
      have hat := gr.at_
      simp at hat
      have hXm := hbX.len
      have hne2 : id2 ≠ i3 := by omega
      have g3 := gr.old _ _ (Ne.symm hne) (get_old (l := [⟨[.string t', .int .i64 y], 54, 2, 1⟩]) h3)
      have g0 := gr.old _ _ (show m.length ≠ jd by omega) (get_old (l := [⟨[.string t', .int .i64 y], 54, 2, 1⟩]) h0)
      have hbg : But jd (mX ++ [⟨[.string t', .int .i64 y], 54, 2, 1⟩]) m2 := ⟨by have := gr.len; omega, fun i o' h1 h2 => gr.old i o' h1 h2⟩
      have hs2 : SrcA is a code (k + 4 + 40 * ls.length + 40) m2 := (hsX.app _).keep hbg (by omega) (fun q x hx => by have := hsrc.off q x hx; omega)
      have hlen2 := gr.len
      simp at hlen2
      have hbs : ∀ oN : AObj, But i3 m2 (m2.set i3 oN) := fun oN => ⟨by simp, fun i o' h1 h2 => by rw [List.getElem?_set_ne (Ne.symm h1)]; exact h2⟩
      refine ⟨g3, ⟨by simp, fun p hp => ?_⟩, ⟨⟨by simp; omega, fun i o' h1 h2 => ?_⟩, ?_, by omega, hne2⟩, ?_, get_set g3 _, 2, ?_, by decide, by decide⟩
      · rcases List.mem_append.1 hp with hp | hp
        · exact hls p hp
        · simp at hp; subst hp; exact ⟨ht', by simp; omega⟩
      · have := lt_of_get h2
        rw [List.getElem?_set_ne (by omega)]
        exact gr.old _ _ (by omega) (get_old (hbX.get i o' h1 h2))
      · exact (hs2.keep (hbs _) (by omega) (fun q x hx => by have := hsrc.off q x hx; omega)).mono (by simp; omega)
      · rw [List.getElem?_set_ne (by omega)]; exact g0
      · rw [List.getElem?_set_ne (Ne.symm hne2), gr.new]; simp [vl]
    simp -dsimp -implicitDefEqProofs [s0, s2', s3', s4, g1, hwy, hm6', withO_of e3, withO_of t6, madeL, hw]
    refine callsTo Tryz.cal51 hc4 ?_
    simp -dsimp -implicitDefEqProofs [s0, s2', s3', s4, g1, hwy, hm6', withO_of e3, withO_of t6, madeL, hw]
    refine callsTo Tryz.cal30 hc5 ?_
    simp -dsimp -implicitDefEqProofs [s0, s2', s3', s4, g1, hwy, hm6', withO_of e3, withO_of t6, madeL, hw]
    obtain ⟨v8, m8, hc8, b8, rfl, bb8, s8, hl8⟩ := one_c is a code (k + 4 + 40 * ls.length + 32) 3 (by omega) m6 s6
    have bm6 := hbut.trans b6
    have bm8 := bm6.trans bb8
    refine sp2 (fun g => ?_) (fun g => ?_)
    · have g2 : 0 < ls.length := by simpa using g
      obtain ⟨n, hn⟩ : ∃ n, ls.length = n + 1 := ⟨ls.length - 1, by omega⟩
      have f0 := bb8.get _ _ (by omega) e0
      have f3 := bb8.get _ _ (by omega) e3
      have f6 := bb8.get _ _ (by omega) t6
      have fo := bb8.get _ _ (by omega) eo
      refine callsTo Tryz.cal41 hc8 ?_
      simp -dsimp -implicitDefEqProofs [s0, s2', s3', s4, g1, hwy, hm6', withO_of e3, withO_of t6, madeL, hw, withO_of f3, withO_of f6]
      refine sp2 (fun g' => ?_) (fun g' => ?_)
      · have hwn : IntKind.i64.wrap ((ls.length : Int) - 1) = (n : Int) := by rw [wrapI (by omega) (by omega)]; omega
        have hnl : n < ls.length := by omega
        have rdL : RdG vl 2 m8 (some ⟨jd, 0, none⟩) ls := RdG.of_get (g := vl) (sz := 2) (fun _ => rfl) ls fo ho2 rfl rfl
        obtain ⟨lid, loff, lo, hla, hlm, hlk, hlsz, hll, hlrow, hlc0, hlc1⟩ := RL.at_ rdL hnl
        simp only [Option.some.injEq, Addr.mk.injEq] at hla
        obtain ⟨rfl, rfl, _⟩ := hla
        simp only [Nat.zero_add] at hll hlrow hlc0 hlc1
        obtain ⟨u, hu⟩ : ∃ u, u = ls[n].1 := ⟨_, rfl⟩
        have hu8 : u.size ≤ 8 := by rw [hu]; exact (hls _ (List.getElem_mem hnl)).1
        rw [← hu] at hlc0
        obtain ⟨m9, hm9⟩ : ∃ m9 : Mem, m9 = m8.set m5.length ⟨[.string u, .int .i64 y], 54, 2, 1⟩ := ⟨_, rfl⟩
        have hm9' := hm9.symm
        have h8l := bb8.len
        have b9 : But m5.length m8 m9 := by rw [hm9]; exact ⟨by simp, fun i o' h1 h2 => by rw [List.getElem?_set_ne (Ne.symm h1)]; exact h2⟩
        have h9l := b9.len
        have z0 := b9.get _ _ (by omega) f0
        have z3 := b9.get _ _ (by omega) f3
        have zo := b9.get _ _ (by omega) fo
        have z6 : m9[m5.length]? = some ⟨[.string u, .int .i64 y], 54, 2, 1⟩ := by rw [hm9]; exact get_set f6 _
        simp -dsimp -implicitDefEqProofs [s0, s2', s3', s4, g1, hwy, hm6', withO_of e3, withO_of t6, madeL, hw, withO_of f3, withO_of f6, hwn, hnl, withO_of hlm, hlk, hlsz, withC_of hlc0, hm9', withO_of z3, withO_of z6]
        refine appTo_grow (n := ls.length) (c := 1) (e := 54) (sz := 2) (by_ := 24) (z := .agg #[.string ⟨#[]⟩, .int .i64 0]) (by kernel_rfl) (by kernel_rfl) ⟨by decide, rfl⟩ (get_old zo) ⟨ho1, ho2⟩ ⟨rfl, rfl⟩ (by simp [flatten_length (sz := 2) (rows := ls.map vl) (by intro r hr; obtain ⟨x, _, rfl⟩ := List.mem_map.1 hr; rfl)]) (by omega) (Src.obj (o := ⟨[.string u, .int .i64 y], 54, 2, 1⟩) (by simp) (by simp) rfl rfl) ?_
        intro m2 id2 gr
        obtain ⟨y3, q1, q2, q3⟩ := main u m9 hu8 ⟨by have := b9.len; have := bm8.len; omega, fun i o' h1 h2 => b9.get i o' (by have := lt_of_get h2; omega) (bm8.get i o' h1 h2)⟩ (((s8.keep b9 (by omega) (fun q x hx => by have := hsrc.off q x hx; omega)).mono (by omega))) (by omega) z0 z3 zo m2 id2 gr
        simp -dsimp -implicitDefEqProofs [s0, s2', s3', s4, hw, withO_of y3]
        refine next_ hlt ⟨ls ++ [(u, y)], id2, q1, q2, q3, by simp [s0], by simp [s2'], by simp [s3'], by simp [hw]⟩
      · refine appTo_grow (n := ls.length) (c := 1) (e := 54) (sz := 2) (by_ := 24) (z := .agg #[.string ⟨#[]⟩, .int .i64 0]) (by kernel_rfl) (by kernel_rfl) ⟨by decide, rfl⟩ (get_old fo) ⟨ho1, ho2⟩ ⟨rfl, rfl⟩ (by simp [flatten_length (sz := 2) (rows := ls.map vl) (by intro r hr; obtain ⟨x, _, rfl⟩ := List.mem_map.1 hr; rfl)]) (by omega) (Src.obj (o := ⟨[.string t, .int .i64 y], 54, 2, 1⟩) (by simp) (by simp) rfl rfl) ?_
        intro m2 id2 gr
        obtain ⟨y3, q1, q2, q3⟩ := main t m8 ht.2 bm8 (s8.mono (by omega)) (by omega) f0 f3 fo m2 id2 gr
        simp -dsimp -implicitDefEqProofs [s0, s2', s3', s4, hw, withO_of y3]
        refine next_ hlt ⟨ls ++ [(t, y)], id2, q1, q2, q3, by simp [s0], by simp [s2'], by simp [s3'], by simp [hw]⟩
    · refine appTo_grow (n := ls.length) (c := 1) (e := 54) (sz := 2) (by_ := 24) (z := .agg #[.string ⟨#[]⟩, .int .i64 0]) (by kernel_rfl) (by kernel_rfl) ⟨by decide, rfl⟩ (get_old eo) ⟨ho1, ho2⟩ ⟨rfl, rfl⟩ (by simp [flatten_length (sz := 2) (rows := ls.map vl) (by intro r hr; obtain ⟨x, _, rfl⟩ := List.mem_map.1 hr; rfl)]) (by omega) (Src.obj (o := ⟨[.string t, .int .i64 y], 54, 2, 1⟩) (by simp) (by simp) rfl rfl) ?_
      intro m2 id2 gr
      obtain ⟨y3, q1, q2, q3⟩ := main t m6 ht.2 bm6 (s6.mono (by omega)) (by omega) e0 e3 eo m2 id2 gr
      simp -dsimp -implicitDefEqProofs [s0, s2', s3', s4, hw, withO_of y3]
      refine next_ hlt ⟨ls ++ [(t, y)], id2, q1, q2, q3, by simp [s0], by simp [s2'], by simp [s3'], by simp [hw]⟩
  · have g1 : ¬ (ls.length : Int) < x3 := by omega
    obtain ⟨v8, m8, hc8, b8, rfl, bb8, s8, hl8⟩ := one_c is a code (k + 4 + 40 * ls.length) 2 (by omega) m' hsrc
    obtain ⟨kd, ho, ho1, ho2⟩ := hL
    have hml := hbut.len
    have hi3l := lt_of_get o3
    have f0 := bb8.get _ _ (by omega) o0
    have f3 := bb8.get _ _ (by omega) o3
    have fo := bb8.get _ _ (by omega) ho
    simp only [bkC] at f3
    simp -dsimp -implicitDefEqProofs [s0, s2', s3', s4, g1]
    refine callsTo Tryz.cal41 hc8 ?_
    simp -dsimp -implicitDefEqProofs [s0, s2', s3', s4, g1]
    refine sp2 (fun g => ?_) (fun g => ?_)
    · obtain ⟨v9, m9, hc9, t, ht, rfl, b9, s9⟩ := l11Draw_c is a code (k + 4 + 40 * ls.length + 2) (by omega) m8 s8
      have w0 := b9.get _ _ (by omega) f0
      have w3 := b9.get _ _ (by omega) f3
      have wo := b9.get _ _ (by omega) fo
      obtain ⟨mA, hmA⟩ : ∃ mA : Mem, mA = m9.set i3 ⟨[.int .i64 st, .slice (some ⟨jd, 0, none⟩) ls.length ls.length, .string t], 27, 3, 1⟩ := ⟨_, rfl⟩
      have x3' : mA[i3]? = some ⟨[.int .i64 st, .slice (some ⟨jd, 0, none⟩) ls.length ls.length, .string t], 27, 3, 1⟩ := by rw [hmA]; exact get_set w3 _
      have x0 : mA[m.length]? = some ⟨[.int .i64 0, .slice none 0 0, .string ⟨#[]⟩], 27, 3, 1⟩ := by rw [hmA, List.getElem?_set_ne (by omega)]; exact w0
      have xo : mA[jd]? = some ⟨(ls.map vl).flatten, 54, 2, kd⟩ := by rw [hmA, List.getElem?_set_ne (Ne.symm hne)]; exact wo
      obtain ⟨mB, hmB⟩ : ∃ mB : Mem, mB = mA.set m.length ⟨[.int .i64 st, .slice (some ⟨jd, 0, none⟩) ls.length ls.length, .string t], 27, 3, 1⟩ := ⟨_, rfl⟩
      have yB : mB[m.length]? = some ⟨[.int .i64 st, .slice (some ⟨jd, 0, none⟩) ls.length ls.length, .string t], 27, 3, 1⟩ := by rw [hmB]; exact get_set x0 _
      have b19 := (hbut.trans bb8).trans b9
      have hfinB : But is m mB := ⟨by rw [hmB, hmA]; simp; exact b19.len, fun i o' h1 h2 => by
        have := lt_of_get h2
        rw [hmB, List.getElem?_set_ne (by omega), hmA, List.getElem?_set_ne (by omega)]
        exact b19.get i o' h1 h2⟩
      have hsB : SrcA is a code (k + 400) mB := by
        have q1 : But i3 m9 mA := by rw [hmA]; exact ⟨by simp, fun i o' h1 h2 => by rw [List.getElem?_set_ne (Ne.symm h1)]; exact h2⟩
        have q2 : But m.length mA mB := by rw [hmB]; exact ⟨by simp, fun i o' h1 h2 => by rw [List.getElem?_set_ne (Ne.symm h1)]; exact h2⟩
        exact (((s9.keep q1 (by omega) (fun q x hx => by have := h.off q x hx; omega)).keep q2 (by omega) (fun q x hx => by have := h.off q x hx; omega))).mono (by omega)
      have hLB : LyObj mB jd ls := ⟨kd, by rw [hmB, List.getElem?_set_ne (by omega)]; exact xo, ho1, ho2⟩
      refine callsTo Tryz.cal52 hc9 ?_
      simp -dsimp -implicitDefEqProofs [s0, s2', s3', s4, g1, withO_of w0, withO_of w3, hmA.symm, withO_of x3', withO_of x0, hmB.symm, withO_of yB]
      exact ⟨_, _, GC.refl _ _ _, st, ls, t, jd, ⟨by omega, fun p hp => by have := hls p hp; omega, by omega⟩, by simp [bkC], hfinB, hsB, by omega, hLB⟩
    · obtain ⟨mB, hmB⟩ : ∃ mB : Mem, mB = m8.set m.length ⟨[.int .i64 st, .slice (some ⟨jd, 0, none⟩) ls.length ls.length, .string ⟨#[]⟩], 27, 3, 1⟩ := ⟨_, rfl⟩
      have yB : mB[m.length]? = some ⟨[.int .i64 st, .slice (some ⟨jd, 0, none⟩) ls.length ls.length, .string ⟨#[]⟩], 27, 3, 1⟩ := by rw [hmB]; exact get_set f0 _
      have b18 := hbut.trans bb8
      have hfinB : But is m mB := ⟨by rw [hmB]; simp; exact b18.len, fun i o' h1 h2 => by
        have := lt_of_get h2
        rw [hmB, List.getElem?_set_ne (by omega)]
        exact b18.get i o' h1 h2⟩
      have hsB : SrcA is a code (k + 400) mB := by
        have q2 : But m.length m8 mB := by rw [hmB]; exact ⟨by simp, fun i o' h1 h2 => by rw [List.getElem?_set_ne (Ne.symm h1)]; exact h2⟩
        exact (s8.keep q2 (by omega) (fun q x hx => by have := h.off q x hx; omega)).mono (by omega)
      have hLB : LyObj mB jd ls := ⟨kd, by rw [hmB, List.getElem?_set_ne (by omega)]; exact fo, ho1, ho2⟩
      simp -dsimp -implicitDefEqProofs [s0, s2', s3', s4, g1, withO_of f0, withO_of f3, hmB.symm, withO_of yB]
      exact ⟨_, _, GC.refl _ _ _, st, ls, ⟨#[]⟩, jd, ⟨by omega, fun p hp => by have := hls p hp; omega, by decide⟩, by simp [bkC], hfinB, hsB, by omega, hLB⟩
end Go.Proofs.YtmbijgnmbapchaaGreatDoor
namespace Go.Proofs.YtmbijgnmbapchaaGreatDoor
open Go.Abs Go.RowKit

def DrawnBq (is : Nat) (a : Option Addr) (code : List Int) (k : Int) (m : Mem) (v : Value) (m' : Mem) : Prop :=
  ∃ st ls b j, (SmallB 20 ls b ∧ (10 ≤ st ∧ st ≤ 50) ∧ ∀ p ∈ ls, 1 ≤ p.2 ∧ p.2 ≤ 12) ∧ v = .agg (bkC st (some ⟨j, 0, none⟩) ls.length b).toArray ∧ But is m m' ∧ SrcA is a code k m' ∧ m.length ≤ j ∧ LyObj m' j ls
theorem l17DrawQ_c (is : Nat) (a : Option Addr) (code : List Int) (k : Int) (hk : k < 700000000) (m : Mem) (h : SrcA is a code k m) :
    ∃ v m', ACalls Tryz.prog 28 [.pointer (some ⟨is, 0, none⟩)] m v m' ∧ DrawnBq is a code (k + 400) m v m' := by
  have his : is < m.length := lt_of_get h.obj.choose_spec.choose_spec.1
  obtain ⟨v1, m1, hc1, x1, rfl, hx1, hb1, hs1, hl1⟩ := pick_c is a code k 40 (by omega) (m ++ [⟨[.int .i64 0, .slice none 0 0, .string ⟨#[]⟩], 27, 3, 1⟩]) (h.app _)
  simp at hx1 hl1
  obtain ⟨st, hst⟩ : ∃ st, st = 10 + x1 := ⟨_, rfl⟩
  have hw1 : IntKind.i64.wrap (10 + x1) = st := by rw [hst]; exact wrapI (by omega) (by omega)
  obtain ⟨m2, hm2⟩ : ∃ m2 : Mem, m2 = m1 ++ [⟨[], 54, 2, 1⟩, ⟨bkC st (some ⟨m1.length, 0, none⟩) 0 ⟨#[]⟩, 27, 3, 1⟩] := ⟨_, rfl⟩
  have q0 : m2[m.length]? = some ⟨[.int .i64 0, .slice none 0 0, .string ⟨#[]⟩], 27, 3, 1⟩ := by rw [hm2]; exact get_old (hb1.get _ _ (by omega) (by simp))
  have q1 : m2[m1.length]? = some ⟨[], 54, 2, 1⟩ := by rw [hm2]; simp
  have q2 : m2[m1.length + 1]? = some ⟨bkC st (some ⟨m1.length, 0, none⟩) 0 ⟨#[]⟩, 27, 3, 1⟩ := by rw [hm2]; simp
  have b2 : But is m m2 := by rw [hm2]; exact ((But.app is m _).trans hb1).trans (But.app _ _ _)
  have s2 : SrcA is a code (k + 2) m2 := by rw [hm2]; exact hs1.app _
  have hl2 : m2.length = m1.length + 2 := by rw [hm2]; simp
  obtain ⟨i3, hi3⟩ : ∃ i3, i3 = m1.length + 1 := ⟨_, rfl⟩
  rw [← hi3] at q2
  obtain ⟨v3, m3, hc3, x3, rfl, hx3, b3, s3, hl3⟩ := pick_c is a code (k + 2) 6 (by omega) m2 s2
  simp at hx3
  have r0 := b3.get _ _ (by omega) q0
  have r1 := b3.get _ _ (by omega) q1
  have r2 := b3.get _ _ (by omega) q2
  have hm2' := hm2.symm
  simp only [bkC] at hm2'
  refine ecalls_of_vc Tryz.func28 rfl Tryz.fol (by kernel_rfl) ?_
  simp only [Tryz.f28]
  simp -dsimp -implicitDefEqProofs [hw1, hm2']
  refine callsTo Tryz.cal30 hc1 ?_
  simp -dsimp -implicitDefEqProofs [hw1, hm2']
  refine callsTo Tryz.cal30 hc3 ?_
  simp -dsimp -implicitDefEqProofs [hw1, hm2']
  refine loopN x3.toNat (fun j σ m' => ∃ (ls : List LyT) (jd : Nat), (ls.length = j ∧ (∀ p ∈ ls, p.1.size ≤ 8 ∧ 1 ≤ p.2 ∧ p.2 ≤ 12)) ∧ (But is m m' ∧ SrcA is a code (k + 4 + 40 * j) m' ∧ m.length + 1 ≤ jd ∧ jd ≠ i3) ∧
      (m'[m.length]? = some ⟨[.int .i64 0, .slice none 0 0, .string ⟨#[]⟩], 27, 3, 1⟩ ∧ m'[i3]? = some ⟨bkC st (some ⟨jd, 0, none⟩) j ⟨#[]⟩, 27, 3, 1⟩ ∧ LyObj m' jd ls) ∧
      σ 0 = some (.pointer (some ⟨is, 0, none⟩)) ∧ σ 2 = some (.pointer (some ⟨m.length, 0, none⟩)) ∧ σ 3 = some (.pointer (some ⟨i3, 0, none⟩)) ∧ σ 4 = some (.int .i64 (x3 - j)))
    ⟨[], m1.length, ⟨rfl, by simp⟩, ⟨b2.trans b3, s3.mono (by omega), by omega, by omega⟩, ⟨r0, r2, ⟨1, r1, by decide, by decide⟩⟩, by simp, by simp, by simp [hi3], by simp⟩ ?_
  rintro j σ m' hj ⟨ls, jd, ⟨rfl, hls⟩, ⟨hbut, hsrc, hjd, hne⟩, ⟨o0, o3, hL⟩, s0, s2', s3', s4⟩
  by_cases hlt : ls.length < x3.toNat
  · have g1 : (ls.length : Int) < x3 := by omega
    obtain ⟨v4, m4, hc4, t, ht, rfl, b4, s4'⟩ := l06Draw_c is a code (k + 4 + 40 * ls.length) (by omega) m' hsrc
    obtain ⟨v5, m5, hc5, x5, rfl, hx5, b5, s5, hl5⟩ := pick_c is a code (k + 4 + 40 * ls.length + 30) 12 (by omega) m4 s4'
    simp at hx5
    obtain ⟨y, hy⟩ : ∃ y, y = 1 + x5 := ⟨_, rfl⟩
    have hwy : IntKind.i64.wrap (1 + x5) = y := by rw [hy]; exact wrapI (by omega) (by omega)
    have b15 : But is m' m5 := b4.trans b5
    have hml := hbut.len
    have h15l := b15.len
    have hi3l := lt_of_get o3
    obtain ⟨kd, ho, ho1, ho2⟩ := hL
    have hjdl := lt_of_get ho
    have hw : IntKind.i64.wrap (x3 - (ls.length : Int) - 1) = x3 - ((ls.length : Int) + 1) := by rw [wrapI (by omega) (by omega)]; omega
    obtain ⟨m6, hm6⟩ : ∃ m6 : Mem, m6 = m5 ++ [⟨[.string t, .int .i64 y], 54, 2, 1⟩] := ⟨_, rfl⟩
    have hm6' := hm6.symm
    have b6 : But is m' m6 := by rw [hm6]; exact b15.trans (But.app _ _ _)
    have s6 : SrcA is a code (k + 4 + 40 * ls.length + 32) m6 := by rw [hm6]; exact (s5.app _).mono (by omega)
    have t6 : m6[m5.length]? = some ⟨[.string t, .int .i64 y], 54, 2, 1⟩ := by rw [hm6]; simp
    have e0 := b6.get _ _ (by omega) o0
    have e3 := b6.get _ _ (by omega) o3
    have eo := b6.get _ _ (by omega) ho
    have h6l := b6.len
    simp only [bkC] at e3
    obtain ⟨N, hN⟩ : ∃ N, N = ls.length := ⟨_, rfl⟩
    have main : ∀ (t' : ByteArray) (mX : Mem), t'.size ≤ 8 → But is m mX → SrcA is a code (k + 4 + 40 * ls.length + 40) mX → m'.length ≤ mX.length → mX[m.length]? = some ⟨[.int .i64 0, .slice none 0 0, .string ⟨#[]⟩], 27, 3, 1⟩ →
        mX[i3]? = some ⟨[.int .i64 st, .slice (some ⟨jd, 0, none⟩) ls.length ls.length, .string ⟨#[]⟩], 27, 3, 1⟩ → mX[jd]? = some ⟨(ls.map vl).flatten, 54, 2, kd⟩ →
        ∀ m2 id2, Abs.Grown (mX ++ [⟨[.string t', .int .i64 y], 54, 2, 1⟩]) jd ⟨(ls.map vl).flatten ++ [.string t', .int .i64 y], 54, 2, 2⟩ m2 id2 →
        m2[i3]? = some ⟨[.int .i64 st, .slice (some ⟨jd, 0, none⟩) ls.length ls.length, .string ⟨#[]⟩], 27, 3, 1⟩ ∧
        (((ls ++ [(t', y)]).length = ls.length + 1 ∧ (∀ p ∈ ls ++ [(t', y)], p.1.size ≤ 8 ∧ 1 ≤ p.2 ∧ p.2 ≤ 12)) ∧
         (But is m (m2.set i3 ⟨[.int .i64 st, .slice (some ⟨id2, 0, none⟩) (ls.length + 1) (ls.length + 1), .string ⟨#[]⟩], 27, 3, 1⟩) ∧ SrcA is a code (k + 4 + 40 * ((ls.length + 1 : Nat) : Int)) (m2.set i3 ⟨[.int .i64 st, .slice (some ⟨id2, 0, none⟩) (ls.length + 1) (ls.length + 1), .string ⟨#[]⟩], 27, 3, 1⟩) ∧ m.length + 1 ≤ id2 ∧ id2 ≠ i3) ∧
         ((m2.set i3 ⟨[.int .i64 st, .slice (some ⟨id2, 0, none⟩) (ls.length + 1) (ls.length + 1), .string ⟨#[]⟩], 27, 3, 1⟩)[m.length]? = some ⟨[.int .i64 0, .slice none 0 0, .string ⟨#[]⟩], 27, 3, 1⟩ ∧
          (m2.set i3 ⟨[.int .i64 st, .slice (some ⟨id2, 0, none⟩) (ls.length + 1) (ls.length + 1), .string ⟨#[]⟩], 27, 3, 1⟩)[i3]? = some ⟨bkC st (some ⟨id2, 0, none⟩) (ls.length + 1) ⟨#[]⟩, 27, 3, 1⟩ ∧
          LyObj (m2.set i3 ⟨[.int .i64 st, .slice (some ⟨id2, 0, none⟩) (ls.length + 1) (ls.length + 1), .string ⟨#[]⟩], 27, 3, 1⟩) id2 (ls ++ [(t', y)]))) := by
      intro t' mX ht' hbX hsX hXl h0 h3 hO m2 id2 gr
      have hat := gr.at_
      simp at hat
      have hXm := hbX.len
      have hne2 : id2 ≠ i3 := by omega
      have g3 := gr.old _ _ (Ne.symm hne) (get_old (l := [⟨[.string t', .int .i64 y], 54, 2, 1⟩]) h3)
      have g0 := gr.old _ _ (show m.length ≠ jd by omega) (get_old (l := [⟨[.string t', .int .i64 y], 54, 2, 1⟩]) h0)
      have hbg : But jd (mX ++ [⟨[.string t', .int .i64 y], 54, 2, 1⟩]) m2 := ⟨by have := gr.len; omega, fun i o' h1 h2 => gr.old i o' h1 h2⟩
      have hs2 : SrcA is a code (k + 4 + 40 * ls.length + 40) m2 := (hsX.app _).keep hbg (by omega) (fun q x hx => by have := hsrc.off q x hx; omega)
      have hlen2 := gr.len
      simp at hlen2
      have hbs : ∀ oN : AObj, But i3 m2 (m2.set i3 oN) := fun oN => ⟨by simp, fun i o' h1 h2 => by rw [List.getElem?_set_ne (Ne.symm h1)]; exact h2⟩
      refine ⟨g3, ⟨by simp, fun p hp => ?_⟩, ⟨⟨by simp; omega, fun i o' h1 h2 => ?_⟩, ?_, by omega, hne2⟩, ?_, get_set g3 _, 2, ?_, by decide, by decide⟩
      · rcases List.mem_append.1 hp with hp | hp
        · exact hls p hp
        · simp at hp; subst hp; exact ⟨ht', by simp; omega⟩
      · have := lt_of_get h2
        rw [List.getElem?_set_ne (by omega)]
        exact gr.old _ _ (by omega) (get_old (hbX.get i o' h1 h2))
      · exact (hs2.keep (hbs _) (by omega) (fun q x hx => by have := hsrc.off q x hx; omega)).mono (by simp; omega)
      · rw [List.getElem?_set_ne (by omega)]; exact g0
      · rw [List.getElem?_set_ne (Ne.symm hne2), gr.new]; simp [vl]
    simp -dsimp -implicitDefEqProofs [s0, s2', s3', s4, g1, hwy, hm6', withO_of e3, withO_of t6, madeL, hw]
    refine callsTo Tryz.cal51 hc4 ?_
    simp -dsimp -implicitDefEqProofs [s0, s2', s3', s4, g1, hwy, hm6', withO_of e3, withO_of t6, madeL, hw]
    refine callsTo Tryz.cal30 hc5 ?_
    simp -dsimp -implicitDefEqProofs [s0, s2', s3', s4, g1, hwy, hm6', withO_of e3, withO_of t6, madeL, hw]
    obtain ⟨v8, m8, hc8, b8, rfl, bb8, s8, hl8⟩ := one_c is a code (k + 4 + 40 * ls.length + 32) 3 (by omega) m6 s6
    have bm6 := hbut.trans b6
    have bm8 := bm6.trans bb8
    refine sp2 (fun g => ?_) (fun g => ?_)
    · have g2 : 0 < ls.length := by simpa using g
      obtain ⟨n, hn⟩ : ∃ n, ls.length = n + 1 := ⟨ls.length - 1, by omega⟩
      have f0 := bb8.get _ _ (by omega) e0
      have f3 := bb8.get _ _ (by omega) e3
      have f6 := bb8.get _ _ (by omega) t6
      have fo := bb8.get _ _ (by omega) eo
      refine callsTo Tryz.cal41 hc8 ?_
      simp -dsimp -implicitDefEqProofs [s0, s2', s3', s4, g1, hwy, hm6', withO_of e3, withO_of t6, madeL, hw, withO_of f3, withO_of f6]
      refine sp2 (fun g' => ?_) (fun g' => ?_)
      · have hwn : IntKind.i64.wrap ((ls.length : Int) - 1) = (n : Int) := by rw [wrapI (by omega) (by omega)]; omega
        have hnl : n < ls.length := by omega
        have rdL : RdG vl 2 m8 (some ⟨jd, 0, none⟩) ls := RdG.of_get (g := vl) (sz := 2) (fun _ => rfl) ls fo ho2 rfl rfl
        obtain ⟨lid, loff, lo, hla, hlm, hlk, hlsz, hll, hlrow, hlc0, hlc1⟩ := RL.at_ rdL hnl
        simp only [Option.some.injEq, Addr.mk.injEq] at hla
        obtain ⟨rfl, rfl, _⟩ := hla
        simp only [Nat.zero_add] at hll hlrow hlc0 hlc1
        obtain ⟨u, hu⟩ : ∃ u, u = ls[n].1 := ⟨_, rfl⟩
        have hu8 : u.size ≤ 8 := by rw [hu]; exact (hls _ (List.getElem_mem hnl)).1
        rw [← hu] at hlc0
        obtain ⟨m9, hm9⟩ : ∃ m9 : Mem, m9 = m8.set m5.length ⟨[.string u, .int .i64 y], 54, 2, 1⟩ := ⟨_, rfl⟩
        have hm9' := hm9.symm
        have h8l := bb8.len
        have b9 : But m5.length m8 m9 := by rw [hm9]; exact ⟨by simp, fun i o' h1 h2 => by rw [List.getElem?_set_ne (Ne.symm h1)]; exact h2⟩
        have h9l := b9.len
        have z0 := b9.get _ _ (by omega) f0
        have z3 := b9.get _ _ (by omega) f3
        have zo := b9.get _ _ (by omega) fo
        have z6 : m9[m5.length]? = some ⟨[.string u, .int .i64 y], 54, 2, 1⟩ := by rw [hm9]; exact get_set f6 _
        simp -dsimp -implicitDefEqProofs [s0, s2', s3', s4, g1, hwy, hm6', withO_of e3, withO_of t6, madeL, hw, withO_of f3, withO_of f6, hwn, hnl, withO_of hlm, hlk, hlsz, withC_of hlc0, hm9', withO_of z3, withO_of z6]
        refine appTo_grow (n := ls.length) (c := 1) (e := 54) (sz := 2) (by_ := 24) (z := .agg #[.string ⟨#[]⟩, .int .i64 0]) (by kernel_rfl) (by kernel_rfl) ⟨by decide, rfl⟩ (get_old zo) ⟨ho1, ho2⟩ ⟨rfl, rfl⟩ (by simp [flatten_length (sz := 2) (rows := ls.map vl) (by intro r hr; obtain ⟨x, _, rfl⟩ := List.mem_map.1 hr; rfl)]) (by omega) (Src.obj (o := ⟨[.string u, .int .i64 y], 54, 2, 1⟩) (by simp) (by simp) rfl rfl) ?_
        intro m2 id2 gr
        obtain ⟨y3, q1, q2, q3⟩ := main u m9 hu8 ⟨by have := b9.len; have := bm8.len; omega, fun i o' h1 h2 => b9.get i o' (by have := lt_of_get h2; omega) (bm8.get i o' h1 h2)⟩ (((s8.keep b9 (by omega) (fun q x hx => by have := hsrc.off q x hx; omega)).mono (by omega))) (by omega) z0 z3 zo m2 id2 gr
        simp -dsimp -implicitDefEqProofs [s0, s2', s3', s4, hw, withO_of y3]
        refine next_ hlt ⟨ls ++ [(u, y)], id2, q1, q2, q3, by simp [s0], by simp [s2'], by simp [s3'], by simp [hw]⟩
      · refine appTo_grow (n := ls.length) (c := 1) (e := 54) (sz := 2) (by_ := 24) (z := .agg #[.string ⟨#[]⟩, .int .i64 0]) (by kernel_rfl) (by kernel_rfl) ⟨by decide, rfl⟩ (get_old fo) ⟨ho1, ho2⟩ ⟨rfl, rfl⟩ (by simp [flatten_length (sz := 2) (rows := ls.map vl) (by intro r hr; obtain ⟨x, _, rfl⟩ := List.mem_map.1 hr; rfl)]) (by omega) (Src.obj (o := ⟨[.string t, .int .i64 y], 54, 2, 1⟩) (by simp) (by simp) rfl rfl) ?_
        intro m2 id2 gr
        obtain ⟨y3, q1, q2, q3⟩ := main t m8 ht.2 bm8 (s8.mono (by omega)) (by omega) f0 f3 fo m2 id2 gr
        simp -dsimp -implicitDefEqProofs [s0, s2', s3', s4, hw, withO_of y3]
        refine next_ hlt ⟨ls ++ [(t, y)], id2, q1, q2, q3, by simp [s0], by simp [s2'], by simp [s3'], by simp [hw]⟩
    · refine appTo_grow (n := ls.length) (c := 1) (e := 54) (sz := 2) (by_ := 24) (z := .agg #[.string ⟨#[]⟩, .int .i64 0]) (by kernel_rfl) (by kernel_rfl) ⟨by decide, rfl⟩ (get_old eo) ⟨ho1, ho2⟩ ⟨rfl, rfl⟩ (by simp [flatten_length (sz := 2) (rows := ls.map vl) (by intro r hr; obtain ⟨x, _, rfl⟩ := List.mem_map.1 hr; rfl)]) (by omega) (Src.obj (o := ⟨[.string t, .int .i64 y], 54, 2, 1⟩) (by simp) (by simp) rfl rfl) ?_
      intro m2 id2 gr
      obtain ⟨y3, q1, q2, q3⟩ := main t m6 ht.2 bm6 (s6.mono (by omega)) (by omega) e0 e3 eo m2 id2 gr
      simp -dsimp -implicitDefEqProofs [s0, s2', s3', s4, hw, withO_of y3]
      refine next_ hlt ⟨ls ++ [(t, y)], id2, q1, q2, q3, by simp [s0], by simp [s2'], by simp [s3'], by simp [hw]⟩
  · have g1 : ¬ (ls.length : Int) < x3 := by omega
    obtain ⟨v8, m8, hc8, b8, rfl, bb8, s8, hl8⟩ := one_c is a code (k + 4 + 40 * ls.length) 2 (by omega) m' hsrc
    obtain ⟨kd, ho, ho1, ho2⟩ := hL
    have hml := hbut.len
    have hi3l := lt_of_get o3
    have f0 := bb8.get _ _ (by omega) o0
    have f3 := bb8.get _ _ (by omega) o3
    have fo := bb8.get _ _ (by omega) ho
    simp only [bkC] at f3
    simp -dsimp -implicitDefEqProofs [s0, s2', s3', s4, g1]
    refine callsTo Tryz.cal41 hc8 ?_
    simp -dsimp -implicitDefEqProofs [s0, s2', s3', s4, g1]
    refine sp2 (fun g => ?_) (fun g => ?_)
    · obtain ⟨v9, m9, hc9, t, ht, rfl, b9, s9⟩ := l11Draw_c is a code (k + 4 + 40 * ls.length + 2) (by omega) m8 s8
      have w0 := b9.get _ _ (by omega) f0
      have w3 := b9.get _ _ (by omega) f3
      have wo := b9.get _ _ (by omega) fo
      obtain ⟨mA, hmA⟩ : ∃ mA : Mem, mA = m9.set i3 ⟨[.int .i64 st, .slice (some ⟨jd, 0, none⟩) ls.length ls.length, .string t], 27, 3, 1⟩ := ⟨_, rfl⟩
      have x3' : mA[i3]? = some ⟨[.int .i64 st, .slice (some ⟨jd, 0, none⟩) ls.length ls.length, .string t], 27, 3, 1⟩ := by rw [hmA]; exact get_set w3 _
      have x0 : mA[m.length]? = some ⟨[.int .i64 0, .slice none 0 0, .string ⟨#[]⟩], 27, 3, 1⟩ := by rw [hmA, List.getElem?_set_ne (by omega)]; exact w0
      have xo : mA[jd]? = some ⟨(ls.map vl).flatten, 54, 2, kd⟩ := by rw [hmA, List.getElem?_set_ne (Ne.symm hne)]; exact wo
      obtain ⟨mB, hmB⟩ : ∃ mB : Mem, mB = mA.set m.length ⟨[.int .i64 st, .slice (some ⟨jd, 0, none⟩) ls.length ls.length, .string t], 27, 3, 1⟩ := ⟨_, rfl⟩
      have yB : mB[m.length]? = some ⟨[.int .i64 st, .slice (some ⟨jd, 0, none⟩) ls.length ls.length, .string t], 27, 3, 1⟩ := by rw [hmB]; exact get_set x0 _
      have b19 := (hbut.trans bb8).trans b9
      have hfinB : But is m mB := ⟨by rw [hmB, hmA]; simp; exact b19.len, fun i o' h1 h2 => by
        have := lt_of_get h2
        rw [hmB, List.getElem?_set_ne (by omega), hmA, List.getElem?_set_ne (by omega)]
        exact b19.get i o' h1 h2⟩
      have hsB : SrcA is a code (k + 400) mB := by
        have q1 : But i3 m9 mA := by rw [hmA]; exact ⟨by simp, fun i o' h1 h2 => by rw [List.getElem?_set_ne (Ne.symm h1)]; exact h2⟩
        have q2 : But m.length mA mB := by rw [hmB]; exact ⟨by simp, fun i o' h1 h2 => by rw [List.getElem?_set_ne (Ne.symm h1)]; exact h2⟩
        exact (((s9.keep q1 (by omega) (fun q x hx => by have := h.off q x hx; omega)).keep q2 (by omega) (fun q x hx => by have := h.off q x hx; omega))).mono (by omega)
      have hLB : LyObj mB jd ls := ⟨kd, by rw [hmB, List.getElem?_set_ne (by omega)]; exact xo, ho1, ho2⟩
      refine callsTo Tryz.cal52 hc9 ?_
      simp -dsimp -implicitDefEqProofs [s0, s2', s3', s4, g1, withO_of w0, withO_of w3, hmA.symm, withO_of x3', withO_of x0, hmB.symm, withO_of yB]
      exact ⟨_, _, GC.refl _ _ _, st, ls, t, jd, ⟨⟨by omega, fun p hp => by have := hls p hp; omega, by omega⟩, by omega, fun p hp => (hls p hp).2⟩, by simp [bkC], hfinB, hsB, by omega, hLB⟩
    · obtain ⟨mB, hmB⟩ : ∃ mB : Mem, mB = m8.set m.length ⟨[.int .i64 st, .slice (some ⟨jd, 0, none⟩) ls.length ls.length, .string ⟨#[]⟩], 27, 3, 1⟩ := ⟨_, rfl⟩
      have yB : mB[m.length]? = some ⟨[.int .i64 st, .slice (some ⟨jd, 0, none⟩) ls.length ls.length, .string ⟨#[]⟩], 27, 3, 1⟩ := by rw [hmB]; exact get_set f0 _
      have b18 := hbut.trans bb8
      have hfinB : But is m mB := ⟨by rw [hmB]; simp; exact b18.len, fun i o' h1 h2 => by
        have := lt_of_get h2
        rw [hmB, List.getElem?_set_ne (by omega)]
        exact b18.get i o' h1 h2⟩
      have hsB : SrcA is a code (k + 400) mB := by
        have q2 : But m.length m8 mB := by rw [hmB]; exact ⟨by simp, fun i o' h1 h2 => by rw [List.getElem?_set_ne (Ne.symm h1)]; exact h2⟩
        exact (s8.keep q2 (by omega) (fun q x hx => by have := h.off q x hx; omega)).mono (by omega)
      have hLB : LyObj mB jd ls := ⟨kd, by rw [hmB, List.getElem?_set_ne (by omega)]; exact fo, ho1, ho2⟩
      simp -dsimp -implicitDefEqProofs [s0, s2', s3', s4, g1, withO_of f0, withO_of f3, hmB.symm, withO_of yB]
      exact ⟨_, _, GC.refl _ _ _, st, ls, ⟨#[]⟩, jd, ⟨⟨by omega, fun p hp => by have := hls p hp; omega, by decide⟩, by omega, fun p hp => (hls p hp).2⟩, by simp [bkC], hfinB, hsB, by omega, hLB⟩
def lits15 : List ByteArray := [⟨#[33, 32, 120, 10]⟩, ⟨#[10]⟩, ⟨#[115, 116, 97, 107, 101, 115, 32, 50, 48, 10]⟩, ⟨#[115, 116, 97, 107, 101, 115, 32, 50, 10]⟩, ⟨#[115, 116, 97, 107, 101, 115, 32, 120, 10]⟩, ⟨#[115, 116, 97, 107, 101, 115, 10]⟩, ⟨#[119, 101, 97, 118, 101, 32, 70, 66, 32, 53, 10]⟩, ⟨#[119, 101, 97, 118, 101, 32, 70, 88, 32, 53, 10]⟩, ⟨#[119, 101, 97, 118, 101, 32, 70, 66, 32, 49, 48, 49, 10]⟩, ⟨#[119, 101, 97, 118, 101, 32, 70, 66, 10]⟩, ⟨#[32, 32, 98, 111, 114, 100, 101, 114, 32, 32, 98, 102, 32, 10]⟩, ⟨#[98, 111, 114, 100, 101, 114, 32, 66, 10]⟩, ⟨#[98, 111, 114, 100, 101, 114, 32, 98, 98, 98, 98, 98, 98, 98, 98, 10]⟩, ⟨#[104, 97, 110, 100, 108, 101, 32, 51, 10]⟩, ⟨#[115, 116, 97, 107, 101, 115, 32, 54, 49, 10]⟩]
theorem lits_small : ∀ s ∈ lits15, s.size ≤ 20 := by decide
theorem textV_size {st : Int} {ls : List LyT} {b : ByteArray} (h : SmallB 20 ls b) (h1 : 10 ≤ st ∧ st ≤ 50) (h2 : ∀ p ∈ ls, 1 ≤ p.2 ∧ p.2 ≤ 12) : (textV st ls b).size ≤ 22000 := by
  have hts := textTo_size (st := st) (ls := ls) (by unfold in64; omega) (fun p hp => ⟨by have := h2 p hp; unfold in64; omega, by have := h.2.1 p hp; omega⟩) ls.length (Nat.le_refl _)
  have hb := h.2.2
  have hl := h.1
  unfold textV
  split
  · omega
  · simp only [ByteArray.size_append, bLine, size_B, size_N]; omega
set_option maxRecDepth 20000 in
set_option maxHeartbeats 1600000 in
theorem l17DrawText_c (is : Nat) (a : Option Addr) (code : List Int) (k : Int) (hk : k < 600000000) (m : Mem) (h : SrcA is a code k m) :
    ∃ v m', ACalls Tryz.prog 19 [.pointer (some ⟨is, 0, none⟩)] m v m' ∧ DrawnS is a code (k + 600) (fun s => s.size ≤ 40000) m v m' := by
  have his : is < m.length := lt_of_get h.obj.choose_spec.choose_spec.1
  obtain ⟨v1, m1, hc1, b1, rfl, hb1, hs1, hl1⟩ := one_c is a code k 3 (by omega) m h
  refine ecalls_of_vc Tryz.func19 rfl Tryz.fol (by kernel_rfl) ?_
  simp only [Tryz.f19]
  simp -dsimp -implicitDefEqProofs
  refine callsTo Tryz.cal41 hc1 ?_
  simp -dsimp -implicitDefEqProofs
  refine sp2 (fun g => ?_) (fun g => ?_)
  · obtain ⟨v2, m2, hc2, st, ls, b, jl, ⟨hsm, hst, hls⟩, rfl, hb2, hs2, hjl, kd, ho, ho1, ho2⟩ := l17DrawQ_c is a code (k + 2) (by omega) m1 hs1
    obtain ⟨M, hM⟩ : ∃ M : Mem, M = m2 ++ [⟨bkC st (some ⟨jl, 0, none⟩) ls.length b, 27, 3, 1⟩] := ⟨_, rfl⟩
    have hM' := hM.symm
    have tM : M[m2.length]? = some ⟨bkC st (some ⟨jl, 0, none⟩) ls.length b, 27, 3, 1⟩ := by rw [hM]; simp
    have rdM : RdG vl 2 M (some ⟨jl, 0, none⟩) ls := RdG.of_get (g := vl) (sz := 2) (fun _ => rfl) ls (by rw [hM]; exact get_old ho) ho2 rfl rfl
    have hT := l17Text_c st ls b (some ⟨jl, 0, none⟩) m2.length _ M tM (by simp) rfl rdM (by have := hsm.1; omega) (by unfold in64; omega) (fun p hp => ⟨by have := hls p hp; unfold in64; omega, by have := hsm.2.1 p hp; omega⟩) (by have := hsm.2.2; omega)
    have ht0 := textV_size hsm hst hls
    obtain ⟨t0, ht00⟩ : ∃ t0, t0 = textV st ls b := ⟨_, rfl⟩
    rw [← ht00] at ht0 hT
    have hbM : But is m M := by rw [hM]; exact (hb1.trans hb2).trans (But.app _ _ _)
    have hsM : SrcA is a code (k + 410) M := by rw [hM]; exact (hs2.app _).mono (by omega)
    simp only [bkC] at hc2 hM'
    refine callsTo Tryz.cal28 hc2 ?_
    simp -dsimp -implicitDefEqProofs [hM']
    refine callsTo Tryz.cal33 hT ?_
    simp -dsimp -implicitDefEqProofs [hM']
    obtain ⟨v3, m3, hc3, x3, rfl, hx3, hb3, hs3, hl3⟩ := pick_c is a code (k + 410) 5 (by omega) M hsM
    simp at hx3
    have hbm3 := hbM.trans hb3
    refine callsTo Tryz.cal30 hc3 ?_
    simp -dsimp -implicitDefEqProofs [hM']
    refine loopN x3.toNat (fun j σ m' => ∃ t : ByteArray, t.size ≤ 22000 + 20 * j ∧ (But is m m' ∧ SrcA is a code (k + 412 + 2 * j) m') ∧ σ 0 = some (.pointer (some ⟨is, 0, none⟩)) ∧ σ 3 = some (.string t) ∧ σ 5 = some (.int .i64 (x3 - j)))
      ⟨t0, by omega, ⟨hbm3, hs3.mono (by omega)⟩, by simp, by simp [ht00], by simp⟩ ?_
    rintro j σ m' hj ⟨t, htj, ⟨hbut, hsrc⟩, s0, s3, s5⟩
    by_cases hlt : j < x3.toNat
    · have g1 : (j : Int) < x3 := by omega
      obtain ⟨v4, m4, hc4, u, huT, rfl, hb4, hs4, hl4⟩ := textLit_c is a code (k + 412 + 2 * j) (by omega) lits15 15 rfl m' hsrc (by decide)
      have hu := lits_small u huT
      simp only [lits15, List.map_cons, List.map_nil] at hc4
      have hw : IntKind.i64.wrap (x3 - (j : Int) - 1) = x3 - ((j : Int) + 1) := by rw [wrapI (by omega) (by omega)]; omega
      simp -dsimp -implicitDefEqProofs [s0, s3, s5, hlt, g1, hw, ByteArray.size_append]
      refine callsTo Tryz.cal42 hc4 ?_
      simp -dsimp -implicitDefEqProofs [s0, s3, s5, hlt, g1, hw, ByteArray.size_append]
      refine ⟨by omega, ?_⟩
      exact next_ hlt ⟨t ++ u, by rw [ByteArray.size_append]; omega, ⟨hbut.trans hb4, hs4.mono (by omega)⟩, by simp [s0], by simp, by simp [hw]⟩
    have g1 : ¬ (j : Int) < x3 := by omega
    obtain ⟨v5, m5, hc5, x, rfl, hx, hb5, hs5, hl5⟩ := pick_c is a code (k + 412 + 2 * j) 16 (by omega) m' hsrc
    simp at hx
    have hbm5 := hbut.trans hb5
    have hs5' : SrcA is a code (k + 430) m5 := hs5.mono (by omega)
    simp -dsimp -implicitDefEqProofs [s0, s3, s5, hlt, g1]
    refine callsTo Tryz.cal30 hc5 ?_
    simp -dsimp -implicitDefEqProofs [s0, s3, s5, hlt, g1]
    by_cases h0 : x = 0
    · subst h0
      obtain ⟨v6, m6, hc6, y, rfl, hy, hb6', hs6, hl6⟩ := pick_c is a code (k + 430) 4 (by omega) m5 hs5'
      simp at hy
      have hb6 := hbm5.trans hb6'
      obtain ⟨N, hN⟩ : ∃ N : Nat, (N : Int) = y + 19 := ⟨(y + 19).toNat, by omega⟩
      have hwn : IntKind.i64.wrap (y + 19) = (N : Int) := by rw [hN]; exact wrapI (by omega) (by omega)
      simp -dsimp -implicitDefEqProofs [s0, s3, s5, hwn]
      refine callsTo Tryz.cal30 hc6 ?_
      simp -dsimp -implicitDefEqProofs [s0, s3, s5, hwn]
      refine loopN N (fun j σ m' => ∃ t : ByteArray, t.size ≤ 23000 + 2 * j ∧ (But is m m' ∧ SrcA is a code (k + 432) m') ∧ σ 0 = some (.pointer (some ⟨is, 0, none⟩)) ∧ σ 3 = some (.string t) ∧ σ 6 = some (.int .i64 ((N : Int) - j)))
        ⟨t, by omega, ⟨hb6, hs6.mono (by omega)⟩, by simp [s0], by simp [s3], by simp [hwn]⟩ ?_
      rintro j σ m' hj ⟨t, htj, ⟨hbut, hsrc⟩, s0, s3, s5⟩
      by_cases hlt : j < N
      · have hpos : (0 : Int) < (N : Int) - j := by omega
        have hw : IntKind.i64.wrap ((N : Int) - j - 1) = (N : Int) - (j + 1) := by rw [wrapI (by omega) (by omega)]; omega
        have hz : (⟨#[63, 10]⟩ : ByteArray).size = 2 := rfl
        simp -dsimp -implicitDefEqProofs [s0, s3, s5, hlt, hpos, hw, ByteArray.size_append, hz]
        refine ⟨by omega, ?_⟩
        exact next_ hlt ⟨t ++ ⟨#[63, 10]⟩, by rw [ByteArray.size_append, hz]; omega, ⟨hbut, hsrc⟩, by simp [s0], by simp, by simp [hw]⟩
      · have hpos : ¬ (0 : Int) < (N : Int) - j := by omega
        simp -dsimp -implicitDefEqProofs [s0, s3, s5, hlt, hpos]
        exact ⟨_, _, GC.refl _ _ _, t, by omega, rfl, hbut, hsrc.mono (by omega)⟩
    have e0 : (x == 0) = false := by simpa using h0
    by_cases h1 : x = 1
    · subst h1
      obtain ⟨v6, m6, hc6, y, rfl, hy, hb6', hs6, hl6⟩ := pick_c is a code (k + 430) 2 (by omega) m5 hs5'
      simp at hy
      have hb6 := hbm5.trans hb6'
      obtain ⟨N, hN⟩ : ∃ N : Nat, (N : Int) = 3000 + y := ⟨(3000 + y).toNat, by omega⟩
      have hwn : IntKind.i64.wrap (3000 + y) = (N : Int) := by rw [hN]; exact wrapI (by omega) (by omega)
      simp -dsimp -implicitDefEqProofs [s0, s3, s5, hwn, e0]
      refine callsTo Tryz.cal30 hc6 ?_
      simp -dsimp -implicitDefEqProofs [s0, s3, s5, hwn, e0]
      refine loopT (fun c σ m' => ∃ t : ByteArray, c = N - t.size ∧ t.size ≤ 23000 ∧ (But is m m' ∧ SrcA is a code (k + 432) m') ∧ σ 0 = some (.pointer (some ⟨is, 0, none⟩)) ∧ σ 3 = some (.string t) ∧ σ 7 = some (.int .i64 (N : Int))) _
        ⟨t, rfl, by omega, ⟨hb6, hs6.mono (by omega)⟩, by simp [s0], by simp [s3], by simp [hwn]⟩ ?_
      rintro _ σ m' ⟨t, rfl, htj, ⟨hbut, hsrc⟩, s0, s3, s7⟩
      by_cases hlt : t.size < N
      · have hz : (⟨#[32]⟩ : ByteArray).size = 1 := rfl
        simp -dsimp -implicitDefEqProofs [s0, s3, s7, hlt, ByteArray.size_append, hz]
        refine ⟨by omega, ?_⟩
        exact invT (N - (t.size + 1)) (by omega) ⟨t ++ ⟨#[32]⟩, by rw [ByteArray.size_append, hz], by rw [ByteArray.size_append, hz]; omega, ⟨hbut, hsrc⟩, by simp [s0], by simp, by simp [s7]⟩
      · simp -dsimp -implicitDefEqProofs [s0, s3, s7, hlt]
        exact ⟨_, _, GC.refl _ _ _, t, by omega, rfl, hbut, hsrc.mono (by omega)⟩
    have e1 : (x == 1) = false := by simpa using h1
    by_cases h2 : x = 2
    · subst h2
      obtain ⟨v6, m6, hc6, y, rfl, hy, hb6', hs6, hl6⟩ := pick_c is a code (k + 430) 3 (by omega) m5 hs5'
      simp at hy
      have hb6 := hbm5.trans hb6'
      obtain ⟨N, hN⟩ : ∃ N : Nat, (N : Int) = 40 + y := ⟨(40 + y).toNat, by omega⟩
      have hwn : IntKind.i64.wrap (40 + y) = (N : Int) := by rw [hN]; exact wrapI (by omega) (by omega)
      simp -dsimp -implicitDefEqProofs [s0, s3, s5, hwn, e0, e1]
      refine callsTo Tryz.cal30 hc6 ?_
      simp -dsimp -implicitDefEqProofs [s0, s3, s5, hwn, e0, e1]
      refine loopN N (fun j σ m' => ∃ t : ByteArray, t.size ≤ 23000 + 12 * j ∧ (But is m m' ∧ SrcA is a code (k + 432) m') ∧ σ 0 = some (.pointer (some ⟨is, 0, none⟩)) ∧ σ 3 = some (.string t) ∧ σ 8 = some (.int .i64 ((N : Int) - j)))
        ⟨⟨#[115, 116, 97, 107, 101, 115, 32, 57, 10]⟩, by decide, ⟨hb6, hs6.mono (by omega)⟩, by simp [s0], by simp [s3], by simp [hwn]⟩ ?_
      rintro j σ m' hj ⟨t, htj, ⟨hbut, hsrc⟩, s0, s3, s5⟩
      by_cases hlt : j < N
      · have hpos : (0 : Int) < (N : Int) - j := by omega
        have hw : IntKind.i64.wrap ((N : Int) - j - 1) = (N : Int) - (j + 1) := by rw [wrapI (by omega) (by omega)]; omega
        have hz : (⟨#[119, 101, 97, 118, 101, 32, 70, 70, 66, 32, 50, 10]⟩ : ByteArray).size = 12 := rfl
        simp -dsimp -implicitDefEqProofs [s0, s3, s5, hlt, hpos, hw, ByteArray.size_append, hz]
        refine ⟨by omega, ?_⟩
        exact next_ hlt ⟨t ++ ⟨#[119, 101, 97, 118, 101, 32, 70, 70, 66, 32, 50, 10]⟩, by rw [ByteArray.size_append, hz]; omega, ⟨hbut, hsrc⟩, by simp [s0], by simp, by simp [hw]⟩
      · have hpos : ¬ (0 : Int) < (N : Int) - j := by omega
        simp -dsimp -implicitDefEqProofs [s0, s3, s5, hlt, hpos]
        exact ⟨_, _, GC.refl _ _ _, t, by omega, rfl, hbut, hsrc.mono (by omega)⟩
    have e2 : (x == 2) = false := by simpa using h2
    simp -dsimp -implicitDefEqProofs [s0, s3, s5, e0, e1, e2]
    exact ⟨_, _, GC.refl _ _ _, t, by omega, rfl, hbm5, hs5'.mono (by omega)⟩
  · obtain ⟨M, hM⟩ : ∃ M : Mem, M = m1 := ⟨_, rfl⟩
    obtain ⟨t0, ht00⟩ : ∃ t0 : ByteArray, t0 = ⟨#[]⟩ := ⟨_, rfl⟩
    have ht0 : t0.size ≤ 22000 := by rw [ht00]; decide
    have hbM : But is m M := by rw [hM]; exact hb1
    have hsM : SrcA is a code (k + 410) M := by rw [hM]; exact hs1.mono (by omega)
    rw [← hM]
    obtain ⟨v3, m3, hc3, x3, rfl, hx3, hb3, hs3, hl3⟩ := pick_c is a code (k + 410) 5 (by omega) M hsM
    simp at hx3
    have hbm3 := hbM.trans hb3
    refine callsTo Tryz.cal30 hc3 ?_
    simp -dsimp -implicitDefEqProofs [ht00.symm]
    refine loopN x3.toNat (fun j σ m' => ∃ t : ByteArray, t.size ≤ 22000 + 20 * j ∧ (But is m m' ∧ SrcA is a code (k + 412 + 2 * j) m') ∧ σ 0 = some (.pointer (some ⟨is, 0, none⟩)) ∧ σ 3 = some (.string t) ∧ σ 5 = some (.int .i64 (x3 - j)))
      ⟨t0, by omega, ⟨hbm3, hs3.mono (by omega)⟩, by simp, by simp [ht00], by simp⟩ ?_
    rintro j σ m' hj ⟨t, htj, ⟨hbut, hsrc⟩, s0, s3, s5⟩
    by_cases hlt : j < x3.toNat
    · have g1 : (j : Int) < x3 := by omega
      obtain ⟨v4, m4, hc4, u, huT, rfl, hb4, hs4, hl4⟩ := textLit_c is a code (k + 412 + 2 * j) (by omega) lits15 15 rfl m' hsrc (by decide)
      have hu := lits_small u huT
      simp only [lits15, List.map_cons, List.map_nil] at hc4
      have hw : IntKind.i64.wrap (x3 - (j : Int) - 1) = x3 - ((j : Int) + 1) := by rw [wrapI (by omega) (by omega)]; omega
      simp -dsimp -implicitDefEqProofs [s0, s3, s5, hlt, g1, hw, ByteArray.size_append]
      refine callsTo Tryz.cal42 hc4 ?_
      simp -dsimp -implicitDefEqProofs [s0, s3, s5, hlt, g1, hw, ByteArray.size_append]
      refine ⟨by omega, ?_⟩
      exact next_ hlt ⟨t ++ u, by rw [ByteArray.size_append]; omega, ⟨hbut.trans hb4, hs4.mono (by omega)⟩, by simp [s0], by simp, by simp [hw]⟩
    have g1 : ¬ (j : Int) < x3 := by omega
    obtain ⟨v5, m5, hc5, x, rfl, hx, hb5, hs5, hl5⟩ := pick_c is a code (k + 412 + 2 * j) 16 (by omega) m' hsrc
    simp at hx
    have hbm5 := hbut.trans hb5
    have hs5' : SrcA is a code (k + 430) m5 := hs5.mono (by omega)
    simp -dsimp -implicitDefEqProofs [s0, s3, s5, hlt, g1]
    refine callsTo Tryz.cal30 hc5 ?_
    simp -dsimp -implicitDefEqProofs [s0, s3, s5, hlt, g1]
    by_cases h0 : x = 0
    · subst h0
      obtain ⟨v6, m6, hc6, y, rfl, hy, hb6', hs6, hl6⟩ := pick_c is a code (k + 430) 4 (by omega) m5 hs5'
      simp at hy
      have hb6 := hbm5.trans hb6'
      obtain ⟨N, hN⟩ : ∃ N : Nat, (N : Int) = y + 19 := ⟨(y + 19).toNat, by omega⟩
      have hwn : IntKind.i64.wrap (y + 19) = (N : Int) := by rw [hN]; exact wrapI (by omega) (by omega)
      simp -dsimp -implicitDefEqProofs [s0, s3, s5, hwn]
      refine callsTo Tryz.cal30 hc6 ?_
      simp -dsimp -implicitDefEqProofs [s0, s3, s5, hwn]
      refine loopN N (fun j σ m' => ∃ t : ByteArray, t.size ≤ 23000 + 2 * j ∧ (But is m m' ∧ SrcA is a code (k + 432) m') ∧ σ 0 = some (.pointer (some ⟨is, 0, none⟩)) ∧ σ 3 = some (.string t) ∧ σ 6 = some (.int .i64 ((N : Int) - j)))
        ⟨t, by omega, ⟨hb6, hs6.mono (by omega)⟩, by simp [s0], by simp [s3], by simp [hwn]⟩ ?_
      rintro j σ m' hj ⟨t, htj, ⟨hbut, hsrc⟩, s0, s3, s5⟩
      by_cases hlt : j < N
      · have hpos : (0 : Int) < (N : Int) - j := by omega
        have hw : IntKind.i64.wrap ((N : Int) - j - 1) = (N : Int) - (j + 1) := by rw [wrapI (by omega) (by omega)]; omega
        have hz : (⟨#[63, 10]⟩ : ByteArray).size = 2 := rfl
        simp -dsimp -implicitDefEqProofs [s0, s3, s5, hlt, hpos, hw, ByteArray.size_append, hz]
        refine ⟨by omega, ?_⟩
        exact next_ hlt ⟨t ++ ⟨#[63, 10]⟩, by rw [ByteArray.size_append, hz]; omega, ⟨hbut, hsrc⟩, by simp [s0], by simp, by simp [hw]⟩
      · have hpos : ¬ (0 : Int) < (N : Int) - j := by omega
        simp -dsimp -implicitDefEqProofs [s0, s3, s5, hlt, hpos]
        exact ⟨_, _, GC.refl _ _ _, t, by omega, rfl, hbut, hsrc.mono (by omega)⟩
    have e0 : (x == 0) = false := by simpa using h0
    by_cases h1 : x = 1
    · subst h1
      obtain ⟨v6, m6, hc6, y, rfl, hy, hb6', hs6, hl6⟩ := pick_c is a code (k + 430) 2 (by omega) m5 hs5'
      simp at hy
      have hb6 := hbm5.trans hb6'
      obtain ⟨N, hN⟩ : ∃ N : Nat, (N : Int) = 3000 + y := ⟨(3000 + y).toNat, by omega⟩
      have hwn : IntKind.i64.wrap (3000 + y) = (N : Int) := by rw [hN]; exact wrapI (by omega) (by omega)
      simp -dsimp -implicitDefEqProofs [s0, s3, s5, hwn, e0]
      refine callsTo Tryz.cal30 hc6 ?_
      simp -dsimp -implicitDefEqProofs [s0, s3, s5, hwn, e0]
      refine loopT (fun c σ m' => ∃ t : ByteArray, c = N - t.size ∧ t.size ≤ 23000 ∧ (But is m m' ∧ SrcA is a code (k + 432) m') ∧ σ 0 = some (.pointer (some ⟨is, 0, none⟩)) ∧ σ 3 = some (.string t) ∧ σ 7 = some (.int .i64 (N : Int))) _
        ⟨t, rfl, by omega, ⟨hb6, hs6.mono (by omega)⟩, by simp [s0], by simp [s3], by simp [hwn]⟩ ?_
      rintro _ σ m' ⟨t, rfl, htj, ⟨hbut, hsrc⟩, s0, s3, s7⟩
      by_cases hlt : t.size < N
      · have hz : (⟨#[32]⟩ : ByteArray).size = 1 := rfl
        simp -dsimp -implicitDefEqProofs [s0, s3, s7, hlt, ByteArray.size_append, hz]
        refine ⟨by omega, ?_⟩
        exact invT (N - (t.size + 1)) (by omega) ⟨t ++ ⟨#[32]⟩, by rw [ByteArray.size_append, hz], by rw [ByteArray.size_append, hz]; omega, ⟨hbut, hsrc⟩, by simp [s0], by simp, by simp [s7]⟩
      · simp -dsimp -implicitDefEqProofs [s0, s3, s7, hlt]
        exact ⟨_, _, GC.refl _ _ _, t, by omega, rfl, hbut, hsrc.mono (by omega)⟩
    have e1 : (x == 1) = false := by simpa using h1
    by_cases h2 : x = 2
    · subst h2
      obtain ⟨v6, m6, hc6, y, rfl, hy, hb6', hs6, hl6⟩ := pick_c is a code (k + 430) 3 (by omega) m5 hs5'
      simp at hy
      have hb6 := hbm5.trans hb6'
      obtain ⟨N, hN⟩ : ∃ N : Nat, (N : Int) = 40 + y := ⟨(40 + y).toNat, by omega⟩
      have hwn : IntKind.i64.wrap (40 + y) = (N : Int) := by rw [hN]; exact wrapI (by omega) (by omega)
      simp -dsimp -implicitDefEqProofs [s0, s3, s5, hwn, e0, e1]
      refine callsTo Tryz.cal30 hc6 ?_
      simp -dsimp -implicitDefEqProofs [s0, s3, s5, hwn, e0, e1]
      refine loopN N (fun j σ m' => ∃ t : ByteArray, t.size ≤ 23000 + 12 * j ∧ (But is m m' ∧ SrcA is a code (k + 432) m') ∧ σ 0 = some (.pointer (some ⟨is, 0, none⟩)) ∧ σ 3 = some (.string t) ∧ σ 8 = some (.int .i64 ((N : Int) - j)))
        ⟨⟨#[115, 116, 97, 107, 101, 115, 32, 57, 10]⟩, by decide, ⟨hb6, hs6.mono (by omega)⟩, by simp [s0], by simp [s3], by simp [hwn]⟩ ?_
      rintro j σ m' hj ⟨t, htj, ⟨hbut, hsrc⟩, s0, s3, s5⟩
      by_cases hlt : j < N
      · have hpos : (0 : Int) < (N : Int) - j := by omega
        have hw : IntKind.i64.wrap ((N : Int) - j - 1) = (N : Int) - (j + 1) := by rw [wrapI (by omega) (by omega)]; omega
        have hz : (⟨#[119, 101, 97, 118, 101, 32, 70, 70, 66, 32, 50, 10]⟩ : ByteArray).size = 12 := rfl
        simp -dsimp -implicitDefEqProofs [s0, s3, s5, hlt, hpos, hw, ByteArray.size_append, hz]
        refine ⟨by omega, ?_⟩
        exact next_ hlt ⟨t ++ ⟨#[119, 101, 97, 118, 101, 32, 70, 70, 66, 32, 50, 10]⟩, by rw [ByteArray.size_append, hz]; omega, ⟨hbut, hsrc⟩, by simp [s0], by simp, by simp [hw]⟩
      · have hpos : ¬ (0 : Int) < (N : Int) - j := by omega
        simp -dsimp -implicitDefEqProofs [s0, s3, s5, hlt, hpos]
        exact ⟨_, _, GC.refl _ _ _, t, by omega, rfl, hbut, hsrc.mono (by omega)⟩
    have e2 : (x == 2) = false := by simpa using h2
    simp -dsimp -implicitDefEqProofs [s0, s3, s5, e0, e1, e2]
    exact ⟨_, _, GC.refl _ _ _, t, by omega, rfl, hbm5, hs5'.mono (by omega)⟩
end Go.Proofs.YtmbijgnmbapchaaGreatDoor
