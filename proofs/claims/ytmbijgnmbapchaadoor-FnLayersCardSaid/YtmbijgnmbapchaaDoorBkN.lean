/-
  Baskets, part 14: drawn texts, strokes and bends. Conditions: none.
-/
import Derived.Test.YtmbijgnmbapchaaDoorBkB
import Derived.Test.YtmbijgnmbapchaaDoorDraw2
set_option linter.unusedSimpArgs false
set_option linter.unusedVariables false
set_option linter.unusedSectionVars false
namespace Go.Proofs.YtmbijgnmbapchaaDoor
open Go.Abs Go.RowKit

def vS (s : ByteArray) : List Value := [.string s]
theorem RS.at_ {m : Mem} {a : Option Addr} {xs : List ByteArray} (h : RdG vS 1 m a xs) {i : Nat} (hi : i < xs.length) :
    ∃ id off o, a = some ⟨id, off, none⟩ ∧ m[id]? = some o ∧ o.kind ≤ 2 ∧ o.sz = 1 ∧ o.cells[off + i]? = some (.string xs[i]) := by
  obtain ⟨id, off, o, h1, h2, h3, h4, h5, h6, h7⟩ := RdG.at_ h hi
  refine ⟨id, off, o, h1, h2, h3, h4, ?_⟩
  have := h7 0 _ rfl
  simpa using this
def TextIs (is : Nat) (a : Option Addr) (code : List Int) (k : Int) (T : List ByteArray) (n : Nat) (m : Mem) (v : Value) (m' : Mem) : Prop :=
  ∃ s, s ∈ T ∧ v = .string s ∧ But is m m' ∧ SrcA is a code k m' ∧ m'.length = n
theorem text_c (is : Nat) (a : Option Addr) (code : List Int) (k : Int) (hk : k < 900000000) (T : List ByteArray) (b : Option Addr) (m : Mem) (h : SrcA is a code k m) (hx : 0 < T.length ∧ T.length ≤ 1000) (hr : RdG vS 1 m b T) (hb : ∀ x, b = some x → x.block ≠ is) :
    ∃ v m', ACalls Tryd.prog 120 [.pointer (some ⟨is, 0, none⟩), .slice b T.length T.length] m v m' ∧ TextIs is a code (k + 2) T m.length m v m' := by
  obtain ⟨v, m1, hc1, x, rfl, hxx, hb1, hs1, hl1⟩ := pick_c is a code k T.length hk m h
  obtain ⟨p, rfl⟩ : ∃ p : Nat, x = p := ⟨x.toNat, by omega⟩
  have hp : p < T.length := by split at hxx <;> omega
  obtain ⟨id, off, o, rfl, hm, hkd, hsz, hc⟩ := RS.at_ (show RdG vS 1 m1 b T from hb1.rd (fun _ => hb) hr) hp
  refine ecalls_of_vc Tryd.func120 rfl Tryd.fol (by kernel_rfl) ?_
  simp only [Tryd.f120]
  simp -dsimp -implicitDefEqProofs
  refine callsTo Tryd.cal76 hc1 ?_
  simp -dsimp -implicitDefEqProofs
  simp -dsimp -implicitDefEqProofs [withO_of hm, hkd, hsz, withC_of hc, hp]
  exact ⟨_, _, GC.refl _ _ _, _, List.getElem_mem hp, rfl, hb1, hs1, hl1⟩
theorem textLit_c (is : Nat) (a : Option Addr) (code : List Int) (k : Int) (hk : k < 900000000) (T : List ByteArray) (n : Nat) (hn : T.length = n) (m : Mem) (h : SrcA is a code k m) (hx : 0 < n ∧ n ≤ 1000) :
    ∃ v m', ACalls Tryd.prog 120 [.pointer (some ⟨is, 0, none⟩), .slice (some ⟨m.length, 0, none⟩) n n] (m ++ [⟨T.map Value.string, 9, 1, 1⟩]) v m' ∧ TextIs is a code (k + 2) T (m.length + 1) m v m' := by
  have his : is < m.length := lt_of_get h.obj.choose_spec.choose_spec.1
  subst hn
  obtain ⟨v, m', hc, x, hxT, rfl, hb, hs, hl⟩ := text_c is a code k hk T (some ⟨m.length, 0, none⟩) _ (h.app [⟨T.map Value.string, 9, 1, 1⟩]) hx (RdG.of_get (g := vS) (sz := 1) (fun _ => rfl) T (o := ⟨T.map Value.string, 9, 1, 1⟩) (by simp) (by simp) rfl (by
    have : ∀ l : List ByteArray, l.map Value.string = (l.map vS).flatten := fun l => by
      induction l with
      | nil => rfl
      | cons x l ih => simp [vS] at ih ⊢; exact ih
    exact this T)) (fun x h => by injection h with h; subst h; simp only; omega)
  exact ⟨_, _, hc, x, hxT, rfl, (But.app is m _).trans hb, hs, by simpa using hl⟩
def DrawnS (is : Nat) (a : Option Addr) (code : List Int) (k : Int) (p : ByteArray → Prop) (m : Mem) (v : Value) (m' : Mem) : Prop :=
  ∃ s, p s ∧ v = .string s ∧ But is m m' ∧ SrcA is a code k m'
def StrokeS (s : ByteArray) : Prop := strokeB s = true ∧ s.size ≤ 8
def BendS (s : ByteArray) : Prop := bendsB s = true ∧ s.size ≤ 8
theorem drawnLits : ∀ s ∈ ([⟨#[70, 66]⟩, ⟨#[70, 70, 66]⟩, ⟨#[70, 66, 66]⟩, ⟨#[70, 70, 66, 66]⟩, ⟨#[70, 70, 70, 66]⟩] : List ByteArray), StrokeS s := by
  intro s hs
  simp only [List.mem_cons, List.not_mem_nil, or_false] at hs
  rcases hs with rfl | rfl | rfl | rfl | rfl <;> exact ⟨by decide, by decide⟩
theorem l06Draw_c (is : Nat) (a : Option Addr) (code : List Int) (k : Int) (hk : k < 800000000) (m : Mem) (h : SrcA is a code k m) :
    ∃ v m', ACalls Tryd.prog 81 [.pointer (some ⟨is, 0, none⟩)] m v m' ∧ DrawnS is a code (k + 30) StrokeS m v m' := by
  have his : is < m.length := lt_of_get h.obj.choose_spec.choose_spec.1
  obtain ⟨v1, m1, hc1, b1, rfl, hb1, hs1, hl1⟩ := one_c is a code k 3 (by omega) m h
  refine ecalls_of_vc Tryd.func81 rfl Tryd.fol (by kernel_rfl) ?_
  simp only [Tryd.f81]
  simp -dsimp -implicitDefEqProofs
  refine callsTo Tryd.cal78 hc1 ?_
  simp -dsimp -implicitDefEqProofs
  refine sp2 (fun g => ?_) (fun g => ?_)
  · obtain ⟨v2, m2, hc2, s, hsT, rfl, hb2, hs2, hl2⟩ := textLit_c is a code (k + 2) (by omega) [⟨#[70, 66]⟩, ⟨#[70, 70, 66]⟩, ⟨#[70, 66, 66]⟩, ⟨#[70, 70, 66, 66]⟩, ⟨#[70, 70, 70, 66]⟩] 5 rfl m1 hs1 (by decide)
    refine callsTo Tryd.cal120 hc2 ?_
    simp -dsimp -implicitDefEqProofs
    exact ⟨_, _, GC.refl _ _ _, s, drawnLits s hsT, rfl, hb1.trans hb2, hs2.mono (by omega)⟩
  · obtain ⟨m2, hm2⟩ : ∃ m2 : Mem, m2 = m1 ++ [⟨[], 5, 1, 1⟩] := ⟨_, rfl⟩
    have b2 : But is m1 m2 := by rw [hm2]; exact But.app _ _ _
    have s2 : SrcA is a code (k + 2) m2 := by rw [hm2]; exact hs1.app _
    have t2 : m2[m1.length]? = some ⟨[], 5, 1, 1⟩ := by rw [hm2]; simp
    obtain ⟨v3', m3, hc3, x3, rfl, hx3, b3, s3, hl3⟩ := pick_c is a code (k + 2) 7 (by omega) m2 s2
    simp at hx3
    obtain ⟨N, hN⟩ : ∃ N : Nat, (N : Int) = 1 + x3 := ⟨(1 + x3).toNat, by omega⟩
    have hw1 : IntKind.i64.wrap (1 + x3) = (N : Int) := by rw [hN]; exact wrapI (by omega) (by omega)
    have hml := (hb1.trans (b2.trans b3)).len
    have h1l := hb1.len
    have t3 := b3.get _ _ (by omega) t2
    simp -dsimp -implicitDefEqProofs [hm2.symm, hw1]
    refine callsTo Tryd.cal76 hc3 ?_
    simp -dsimp -implicitDefEqProofs [hm2.symm, hw1]
    refine loopN N (fun j σ m' => ∃ (bs : List UInt8) (id kd : Nat), (bs.length = j ∧ bs.all (([70, 66] : List UInt8).contains ·) = true) ∧ (But is m m' ∧ SrcA is a code (k + 4 + 2 * j) m' ∧ m.length ≤ id ∧ (kd = 1 ∨ kd = 2)) ∧ m'[id]? = some ⟨(bs.map fun b => (b.toNat : Int)).map (Value.int .u8), 5, 1, kd⟩ ∧
        σ 0 = some (.pointer (some ⟨is, 0, none⟩)) ∧ σ 3 = some (.slice (some ⟨id, 0, none⟩) j j) ∧ σ 4 = some (.int .i64 ((N : Int) - j)))
      ⟨[], m1.length, 1, ⟨rfl, rfl⟩, ⟨hb1.trans (b2.trans b3), s3.mono (by omega), by omega, .inl rfl⟩, by simpa using t3, by simp, by simp, by simp [hw1]⟩ ?_
    rintro j σ m' hj ⟨bs, id, kd, ⟨rfl, hall⟩, ⟨hbut, hsrc, hid, hkd⟩, ho, s0, s3', s4⟩
    by_cases hlt : bs.length < N
    · obtain ⟨v4, m4, hc4, x4, rfl, hx4, b4, s4', hl4⟩ := pick_c is a code (k + 4 + 2 * bs.length) 2 (by omega) m' hsrc
      simp at hx4
      have ho4 := b4.get _ _ (by omega) ho
      have hpos : (0 : Int) < (N : Int) - bs.length := by omega
      have hw : IntKind.i64.wrap ((N : Int) - bs.length - 1) = (N : Int) - (bs.length + 1) := by rw [wrapI (by omega) (by omega)]; omega
      have hbm := hbut.trans b4
      have hml := hbm.len
      have main : ∀ c : UInt8, ([70, 66] : List UInt8).contains c = true → ∀ m5 id5, Abs.Grown (m4 ++ [⟨[.int .u8 c.toNat], 5, 1, 1⟩]) id ⟨(bs.map fun b => (b.toNat : Int)).map (Value.int .u8) ++ [.int .u8 c.toNat], 5, 1, 2⟩ m5 id5 →
          ((bs ++ [c]).length = bs.length + 1 ∧ (bs ++ [c]).all (([70, 66] : List UInt8).contains ·) = true) ∧ (But is m m5 ∧ SrcA is a code (k + 4 + 2 * ((bs.length + 1 : Nat) : Int)) m5 ∧ m.length ≤ id5 ∧ (2 = 1 ∨ 2 = 2)) ∧ m5[id5]? = some ⟨((bs ++ [c]).map fun b => (b.toNat : Int)).map (Value.int .u8), 5, 1, 2⟩ := fun c hc m5 id5 gr => by
        have hb5 : But id (m4 ++ [⟨[.int .u8 c.toNat], 5, 1, 1⟩]) m5 := ⟨by have := gr.len; omega, fun i o' h1 h2 => gr.old i o' h1 h2⟩
        have hat := gr.at_
        simp at hat
        refine ⟨⟨by simp, by rw [List.all_append, hall]; simpa using hc⟩, ⟨⟨by have := hb5.len; simp at this; omega, fun i o' h1 h2 => hb5.get _ _ (by have := lt_of_get h2; omega) (get_old (hbm.get i o' h1 h2))⟩, ((s4'.app _).keep hb5 (by omega) (fun h0 x hx => by have := h.off h0 x hx; omega)).mono (by omega), by omega, .inr rfl⟩, by simpa using gr.new⟩
      have hx01 : x4 = 0 ∨ x4 = 1 := by omega
      rcases hx01 with rfl | rfl
      · simp -dsimp -implicitDefEqProofs [s0, s3', s4, hpos, hlt, hw]
        refine callsTo Tryd.cal76 hc4 ?_
        simp -dsimp -implicitDefEqProofs [s0, s3', s4, hpos, hlt, hw]
        refine appTo_grow (n := bs.length) (c := 1) (e := 5) (sz := 1) (by_ := 1) (z := .int .u8 0) (by kernel_rfl) (by kernel_rfl) ⟨by decide, rfl⟩ (get_old ho4) (by simp; omega) ⟨rfl, rfl⟩ (by simp) (by omega) (Src.obj (o := ⟨[.int .u8 70], 5, 1, 1⟩) (by simp) (by simp) rfl rfl) ?_
        intro m5 id5 gr
        simp -dsimp -implicitDefEqProofs [s0, s3', s4, hpos, hlt, hw]
        obtain ⟨g1, g2, g3⟩ := main 70 rfl m5 id5 gr
        exact next_ hlt ⟨bs ++ [70], id5, 2, g1, g2, g3, by simp [s0], by simp, by simp [hw]⟩
      · simp -dsimp -implicitDefEqProofs [s0, s3', s4, hpos, hlt, hw]
        refine callsTo Tryd.cal76 hc4 ?_
        simp -dsimp -implicitDefEqProofs [s0, s3', s4, hpos, hlt, hw]
        refine appTo_grow (n := bs.length) (c := 1) (e := 5) (sz := 1) (by_ := 1) (z := .int .u8 0) (by kernel_rfl) (by kernel_rfl) ⟨by decide, rfl⟩ (get_old ho4) (by simp; omega) ⟨rfl, rfl⟩ (by simp) (by omega) (Src.obj (o := ⟨[.int .u8 66], 5, 1, 1⟩) (by simp) (by simp) rfl rfl) ?_
        intro m5 id5 gr
        simp -dsimp -implicitDefEqProofs [s0, s3', s4, hpos, hlt, hw]
        obtain ⟨g1, g2, g3⟩ := main 66 rfl m5 id5 gr
        exact next_ hlt ⟨bs ++ [66], id5, 2, g1, g2, g3, by simp [s0], by simp, by simp [hw]⟩
    · have hpos : ¬ (0 : Int) < (N : Int) - bs.length := by omega
      have hkd2 : kd ≤ 2 := by omega
      simp -dsimp -implicitDefEqProofs [s0, s3', s4, hpos, hlt, withO_of ho, hkd2]
      refine strT (bs.map fun b => (b.toNat : Int)) ?_ ?_
      · rw [List.take_of_length_le (by simp)]; simp
      have hbs : strOfNums (bs.map fun b => (b.toNat : Int)) = ⟨bs.toArray⟩ := by
        unfold strOfNums
        rw [List.map_map]
        congr 2
        conv => rhs; rw [← List.map_id bs]
        exact List.map_congr_left fun b _ => by simp
      simp -dsimp -implicitDefEqProofs [s0, s3', s4, hpos, hlt, withO_of ho, hkd2]
      have hsz : (⟨bs.toArray⟩ : ByteArray).size = bs.length := by simp [ByteArray.size]
      exact ⟨_, _, GC.refl _ _ _, ⟨bs.toArray⟩, ⟨by
        simp only [strokeB, wordB, hsz, allIn, hall, Bool.and_true, Bool.and_eq_true, decide_eq_true_eq]
        omega, by rw [hsz]; omega⟩, by rw [hbs], hbut, hsrc.mono (by omega)⟩
end Go.Proofs.YtmbijgnmbapchaaDoor
