/-
  Baskets, part 16: drawn borders and drawn baskets. Conditions: none.
-/
import Derived.Test.YtmbijgnmbapchaaDoorBkN
import Derived.Test.YtmbijgnmbapchaaDoorBkC
set_option linter.unusedSimpArgs false
set_option linter.unusedVariables false
set_option linter.unusedSectionVars false
namespace Go.Proofs.YtmbijgnmbapchaaDoor
open Go.Abs Go.RowKit

theorem l11Draw_c (is : Nat) (a : Option Addr) (code : List Int) (k : Int) (hk : k < 800000000) (m : Mem) (h : SrcA is a code k m) :
    ∃ v m', ACalls Tryd.prog 142 [.pointer (some ⟨is, 0, none⟩)] m v m' ∧ DrawnS is a code (k + 20) (fun s => s.size ≤ 8) m v m' := by
  have his : is < m.length := lt_of_get h.obj.choose_spec.choose_spec.1
  obtain ⟨v1, m1, hc1, x1, rfl, hx1, hb1, hs1, hl1⟩ := pick_c is a code k 6 (by omega) m h
  simp at hx1
  obtain ⟨N, hN⟩ : ∃ N : Nat, (N : Int) = 1 + x1 := ⟨(1 + x1).toNat, by omega⟩
  have hw1 : IntKind.i64.wrap (1 + x1) = (N : Int) := by rw [hN]; exact wrapI (by omega) (by omega)
  refine ecalls_of_vc Tryd.func142 rfl Tryd.fol (by kernel_rfl) ?_
  simp only [Tryd.f142]
  simp -dsimp -implicitDefEqProofs [hw1]
  refine callsTo Tryd.cal76 hc1 ?_
  simp -dsimp -implicitDefEqProofs [hw1]
  refine loopN N (fun j σ m' => ∃ s : ByteArray, s.size = j ∧ (But is m m' ∧ SrcA is a code (k + 2 + 2 * j) m') ∧ σ 0 = some (.pointer (some ⟨is, 0, none⟩)) ∧ σ 3 = some (.string s) ∧ σ 4 = some (.int .i64 ((N : Int) - j)))
    ⟨⟨#[]⟩, rfl, ⟨hb1, hs1.mono (by omega)⟩, by simp, by simp, by simp [hw1]⟩ ?_
  rintro j σ m' hj ⟨s, hsz, ⟨hbut, hsrc⟩, s0, s3, s4⟩
  by_cases hlt : j < N
  · obtain ⟨v2, m2, hc2, t, htT, rfl, hb2, hs2, hl2⟩ := textLit_c is a code (k + 2 + 2 * j) (by omega) [⟨#[98]⟩, ⟨#[102]⟩] 2 rfl m' hsrc (by decide)
    have ht1 : t.size = 1 := by
      simp only [List.mem_cons, List.not_mem_nil, or_false] at htT
      rcases htT with rfl | rfl <;> rfl
    have hpos : (0 : Int) < (N : Int) - j := by omega
    have hw : IntKind.i64.wrap ((N : Int) - j - 1) = (N : Int) - (j + 1) := by rw [wrapI (by omega) (by omega)]; omega
    simp -dsimp -implicitDefEqProofs [s0, s3, s4, hlt, hw]
    refine callsTo Tryd.cal120 hc2 ?_
    simp -dsimp -implicitDefEqProofs [s0, s3, s4, hlt, hw]
    refine ⟨by omega, ?_⟩
    refine next_ hlt ⟨s ++ t, by rw [ByteArray.size_append]; omega, ⟨hbut.trans hb2, hs2.mono (by omega)⟩, by simp [s0], by simp, by simp [hw]⟩
  · have hpos : ¬ (0 : Int) < (N : Int) - j := by omega
    simp -dsimp -implicitDefEqProofs [s0, s3, s4, hlt]
    exact ⟨_, _, GC.refl _ _ _, s, by omega, rfl, hbut, hsrc.mono (by omega)⟩

/-- The layers of a drawn basket, in an object of their own. -/
def LyObj (m : Mem) (j : Nat) (ls : List LyT) : Prop := ∃ kd, m[j]? = some ⟨(ls.map vl).flatten, 56, 2, kd⟩ ∧ 1 ≤ kd ∧ kd ≤ 2
def SmallB (N : Nat) (ls : List LyT) (b : ByteArray) : Prop := ls.length ≤ N ∧ (∀ p ∈ ls, p.1.size ≤ 20) ∧ b.size ≤ 20
def DrawnBk (N : Nat) (is : Nat) (a : Option Addr) (code : List Int) (k : Int) (m : Mem) (v : Value) (m' : Mem) : Prop :=
  ∃ st ls b j, SmallB N ls b ∧ v = .agg (bkC st (some ⟨j, 0, none⟩) ls.length b).toArray ∧ But is m m' ∧ SrcA is a code k m' ∧ m.length ≤ j ∧ LyObj m' j ls
theorem l17Draw_c (is : Nat) (a : Option Addr) (code : List Int) (k : Int) (hk : k < 700000000) (m : Mem) (h : SrcA is a code k m) :
    ∃ v m', ACalls Tryd.prog 119 [.pointer (some ⟨is, 0, none⟩)] m v m' ∧ DrawnBk 20 is a code (k + 400) m v m' := by
  have his : is < m.length := lt_of_get h.obj.choose_spec.choose_spec.1
  obtain ⟨v1, m1, hc1, x1, rfl, hx1, hb1, hs1, hl1⟩ := pick_c is a code k 40 (by omega) (m ++ [⟨[.int .i64 0, .slice none 0 0, .string ⟨#[]⟩], 29, 3, 1⟩]) (h.app _)
  simp at hx1 hl1
  obtain ⟨st, hst⟩ : ∃ st, st = 10 + x1 := ⟨_, rfl⟩
  have hw1 : IntKind.i64.wrap (10 + x1) = st := by rw [hst]; exact wrapI (by omega) (by omega)
  obtain ⟨m2, hm2⟩ : ∃ m2 : Mem, m2 = m1 ++ [⟨[], 56, 2, 1⟩, ⟨bkC st (some ⟨m1.length, 0, none⟩) 0 ⟨#[]⟩, 29, 3, 1⟩] := ⟨_, rfl⟩
  have q0 : m2[m.length]? = some ⟨[.int .i64 0, .slice none 0 0, .string ⟨#[]⟩], 29, 3, 1⟩ := by rw [hm2]; exact get_old (hb1.get _ _ (by omega) (by simp))
  have q1 : m2[m1.length]? = some ⟨[], 56, 2, 1⟩ := by rw [hm2]; simp
  have q2 : m2[m1.length + 1]? = some ⟨bkC st (some ⟨m1.length, 0, none⟩) 0 ⟨#[]⟩, 29, 3, 1⟩ := by rw [hm2]; simp
  have b2 : But is m m2 := by rw [hm2]; exact ((But.app is m _).trans hb1).trans (But.app _ _ _)
  have s2 : SrcA is a code (k + 2) m2 := by rw [hm2]; exact hs1.app _
  have hl2 : m2.length = m1.length + 2 := by rw [hm2]; simp
  obtain ⟨i3, hi3⟩ : ∃ i3, i3 = m1.length + 1 := ⟨_, rfl⟩
  rw [← hi3] at q2
  obtain ⟨v3, m3, hc3, x3, rfl, hx3, b3, s3, hl3⟩ := pick_c is a code (k + 2) 6 (by omega) m2 s2
  simp at hx3
  have r0 := b3.get _ _ (by omega) q0
  have r1 := b3.get _ _ (by omega) q1
  have r2 := b3.get _ _ (by omega) q2
  have hm2' := hm2.symm
  simp only [bkC] at hm2'
  refine ecalls_of_vc Tryd.func119 rfl Tryd.fol (by kernel_rfl) ?_
  simp only [Tryd.f119]
  simp -dsimp -implicitDefEqProofs [hw1, hm2']
  refine callsTo Tryd.cal76 hc1 ?_
  simp -dsimp -implicitDefEqProofs [hw1, hm2']
  refine callsTo Tryd.cal76 hc3 ?_
  simp -dsimp -implicitDefEqProofs [hw1, hm2']
  refine loopN x3.toNat (fun j σ m' => ∃ (ls : List LyT) (jd : Nat), (ls.length = j ∧ (∀ p ∈ ls, p.1.size ≤ 8 ∧ 1 ≤ p.2 ∧ p.2 ≤ 12)) ∧ (But is m m' ∧ SrcA is a code (k + 4 + 40 * j) m' ∧ m.length + 1 ≤ jd ∧ jd ≠ i3) ∧
      (m'[m.length]? = some ⟨[.int .i64 0, .slice none 0 0, .string ⟨#[]⟩], 29, 3, 1⟩ ∧ m'[i3]? = some ⟨bkC st (some ⟨jd, 0, none⟩) j ⟨#[]⟩, 29, 3, 1⟩ ∧ LyObj m' jd ls) ∧
      σ 0 = some (.pointer (some ⟨is, 0, none⟩)) ∧ σ 2 = some (.pointer (some ⟨m.length, 0, none⟩)) ∧ σ 3 = some (.pointer (some ⟨i3, 0, none⟩)) ∧ σ 4 = some (.int .i64 (x3 - j)))
    ⟨[], m1.length, ⟨rfl, by simp⟩, ⟨b2.trans b3, s3.mono (by omega), by omega, by omega⟩, ⟨r0, r2, ⟨1, r1, by decide, by decide⟩⟩, by simp, by simp, by simp [hi3], by simp⟩ ?_
  rintro j σ m' hj ⟨ls, jd, ⟨rfl, hls⟩, ⟨hbut, hsrc, hjd, hne⟩, ⟨o0, o3, hL⟩, s0, s2', s3', s4⟩
  by_cases hlt : ls.length < x3.toNat
  · have g1 : (ls.length : Int) < x3 := by omega
    obtain ⟨v4, m4, hc4, t, ht, rfl, b4, s4'⟩ := l06Draw_c is a code (k + 4 + 40 * ls.length) (by omega) m' hsrc
    obtain ⟨v5, m5, hc5, x5, rfl, hx5, b5, s5, hl5⟩ := pick_c is a code (k + 4 + 40 * ls.length + 30) 12 (by omega) m4 s4'
    simp at hx5
    obtain ⟨y, hy⟩ : ∃ y, y = 1 + x5 := ⟨_, rfl⟩
    have hwy : IntKind.i64.wrap (1 + x5) = y := by rw [hy]; exact wrapI (by omega) (by omega)
    have b15 : But is m' m5 := b4.trans b5
    have hml := hbut.len
    have h15l := b15.len
    have hi3l := lt_of_get o3
    obtain ⟨kd, ho, ho1, ho2⟩ := hL
    have hjdl := lt_of_get ho
    have hw : IntKind.i64.wrap (x3 - (ls.length : Int) - 1) = x3 - ((ls.length : Int) + 1) := by rw [wrapI (by omega) (by omega)]; omega
    obtain ⟨m6, hm6⟩ : ∃ m6 : Mem, m6 = m5 ++ [⟨[.string t, .int .i64 y], 56, 2, 1⟩] := ⟨_, rfl⟩
    have hm6' := hm6.symm
    have b6 : But is m' m6 := by rw [hm6]; exact b15.trans (But.app _ _ _)
    have s6 : SrcA is a code (k + 4 + 40 * ls.length + 32) m6 := by rw [hm6]; exact (s5.app _).mono (by omega)
    have t6 : m6[m5.length]? = some ⟨[.string t, .int .i64 y], 56, 2, 1⟩ := by rw [hm6]; simp
    have e0 := b6.get _ _ (by omega) o0
    have e3 := b6.get _ _ (by omega) o3
    have eo := b6.get _ _ (by omega) ho
    have h6l := b6.len
    simp only [bkC] at e3
    obtain ⟨N, hN⟩ : ∃ N, N = ls.length := ⟨_, rfl⟩
    have main : ∀ (t' : ByteArray) (mX : Mem), t'.size ≤ 8 → But is m mX → SrcA is a code (k + 4 + 40 * ls.length + 40) mX → m'.length ≤ mX.length → mX[m.length]? = some ⟨[.int .i64 0, .slice none 0 0, .string ⟨#[]⟩], 29, 3, 1⟩ →
        mX[i3]? = some ⟨[.int .i64 st, .slice (some ⟨jd, 0, none⟩) ls.length ls.length, .string ⟨#[]⟩], 29, 3, 1⟩ → mX[jd]? = some ⟨(ls.map vl).flatten, 56, 2, kd⟩ →
        ∀ m2 id2, Abs.Grown (mX ++ [⟨[.string t', .int .i64 y], 56, 2, 1⟩]) jd ⟨(ls.map vl).flatten ++ [.string t', .int .i64 y], 56, 2, 2⟩ m2 id2 →
        m2[i3]? = some ⟨[.int .i64 st, .slice (some ⟨jd, 0, none⟩) ls.length ls.length, .string ⟨#[]⟩], 29, 3, 1⟩ ∧
        (((ls ++ [(t', y)]).length = ls.length + 1 ∧ (∀ p ∈ ls ++ [(t', y)], p.1.size ≤ 8 ∧ 1 ≤ p.2 ∧ p.2 ≤ 12)) ∧
         (But is m (m2.set i3 ⟨[.int .i64 st, .slice (some ⟨id2, 0, none⟩) (ls.length + 1) (ls.length + 1), .string ⟨#[]⟩], 29, 3, 1⟩) ∧ SrcA is a code (k + 4 + 40 * ((ls.length + 1 : Nat) : Int)) (m2.set i3 ⟨[.int .i64 st, .slice (some ⟨id2, 0, none⟩) (ls.length + 1) (ls.length + 1), .string ⟨#[]⟩], 29, 3, 1⟩) ∧ m.length + 1 ≤ id2 ∧ id2 ≠ i3) ∧
         ((m2.set i3 ⟨[.int .i64 st, .slice (some ⟨id2, 0, none⟩) (ls.length + 1) (ls.length + 1), .string ⟨#[]⟩], 29, 3, 1⟩)[m.length]? = some ⟨[.int .i64 0, .slice none 0 0, .string ⟨#[]⟩], 29, 3, 1⟩ ∧
          (m2.set i3 ⟨[.int .i64 st, .slice (some ⟨id2, 0, none⟩) (ls.length + 1) (ls.length + 1), .string ⟨#[]⟩], 29, 3, 1⟩)[i3]? = some ⟨bkC st (some ⟨id2, 0, none⟩) (ls.length + 1) ⟨#[]⟩, 29, 3, 1⟩ ∧
          LyObj (m2.set i3 ⟨[.int .i64 st, .slice (some ⟨id2, 0, none⟩) (ls.length + 1) (ls.length + 1), .string ⟨#[]⟩], 29, 3, 1⟩) id2 (ls ++ [(t', y)]))) := by
      intro t' mX ht' hbX hsX hXl h0 h3 hO m2 id2 gr
      have hat := gr.at_
      simp at hat
      have hXm := hbX.len
      have hne2 : id2 ≠ i3 := by omega
      have g3 := gr.old _ _ (Ne.symm hne) (get_old (l := [⟨[.string t', .int .i64 y], 56, 2, 1⟩]) h3)
      have g0 := gr.old _ _ (show m.length ≠ jd by omega) (get_old (l := [⟨[.string t', .int .i64 y], 56, 2, 1⟩]) h0)
      have hbg : But jd (mX ++ [⟨[.string t', .int .i64 y], 56, 2, 1⟩]) m2 := ⟨by have := gr.len; omega, fun i o' h1 h2 => gr.old i o' h1 h2⟩
      have hs2 : SrcA is a code (k + 4 + 40 * ls.length + 40) m2 := (hsX.app _).keep hbg (by omega) (fun q x hx => by have := hsrc.off q x hx; omega)
      have hlen2 := gr.len
      simp at hlen2
      have hbs : ∀ oN : AObj, But i3 m2 (m2.set i3 oN) := fun oN => ⟨by simp, fun i o' h1 h2 => by rw [List.getElem?_set_ne (Ne.symm h1)]; exact h2⟩
      refine ⟨g3, ⟨by simp, fun p hp => ?_⟩, ⟨⟨by simp; omega, fun i o' h1 h2 => ?_⟩, ?_, by omega, hne2⟩, ?_, get_set g3 _, 2, ?_, by decide, by decide⟩
      · rcases List.mem_append.1 hp with hp | hp
        · exact hls p hp
        · simp at hp; subst hp; exact ⟨ht', by simp; omega⟩
      · have := lt_of_get h2
        rw [List.getElem?_set_ne (by omega)]
        exact gr.old _ _ (by omega) (get_old (hbX.get i o' h1 h2))
      · exact (hs2.keep (hbs _) (by omega) (fun q x hx => by have := hsrc.off q x hx; omega)).mono (by simp; omega)
      · rw [List.getElem?_set_ne (by omega)]; exact g0
      · rw [List.getElem?_set_ne (Ne.symm hne2), gr.new]; simp [vl]
    simp -dsimp -implicitDefEqProofs [s0, s2', s3', s4, g1, hwy, hm6', withO_of e3, withO_of t6, madeL, hw]
    refine callsTo Tryd.cal81 hc4 ?_
    simp -dsimp -implicitDefEqProofs [s0, s2', s3', s4, g1, hwy, hm6', withO_of e3, withO_of t6, madeL, hw]
    refine callsTo Tryd.cal76 hc5 ?_
    simp -dsimp -implicitDefEqProofs [s0, s2', s3', s4, g1, hwy, hm6', withO_of e3, withO_of t6, madeL, hw]
    obtain ⟨v8, m8, hc8, b8, rfl, bb8, s8, hl8⟩ := one_c is a code (k + 4 + 40 * ls.length + 32) 3 (by omega) m6 s6
    have bm6 := hbut.trans b6
    have bm8 := bm6.trans bb8
    refine sp2 (fun g => ?_) (fun g => ?_)
    · have g2 : 0 < ls.length := by simpa using g
      obtain ⟨n, hn⟩ : ∃ n, ls.length = n + 1 := ⟨ls.length - 1, by omega⟩
      have f0 := bb8.get _ _ (by omega) e0
      have f3 := bb8.get _ _ (by omega) e3
      have f6 := bb8.get _ _ (by omega) t6
      have fo := bb8.get _ _ (by omega) eo
      refine callsTo Tryd.cal78 hc8 ?_
      simp -dsimp -implicitDefEqProofs [s0, s2', s3', s4, g1, hwy, hm6', withO_of e3, withO_of t6, madeL, hw, withO_of f3, withO_of f6]
      refine sp2 (fun g' => ?_) (fun g' => ?_)
      · have hwn : IntKind.i64.wrap ((ls.length : Int) - 1) = (n : Int) := by rw [wrapI (by omega) (by omega)]; omega
        have hnl : n < ls.length := by omega
        have rdL : RdG vl 2 m8 (some ⟨jd, 0, none⟩) ls := RdG.of_get (g := vl) (sz := 2) (fun _ => rfl) ls fo ho2 rfl rfl
        obtain ⟨lid, loff, lo, hla, hlm, hlk, hlsz, hll, hlrow, hlc0, hlc1⟩ := RL.at_ rdL hnl
        simp only [Option.some.injEq, Addr.mk.injEq] at hla
        obtain ⟨rfl, rfl, _⟩ := hla
        simp only [Nat.zero_add] at hll hlrow hlc0 hlc1
        obtain ⟨u, hu⟩ : ∃ u, u = ls[n].1 := ⟨_, rfl⟩
        have hu8 : u.size ≤ 8 := by rw [hu]; exact (hls _ (List.getElem_mem hnl)).1
        rw [← hu] at hlc0
        obtain ⟨m9, hm9⟩ : ∃ m9 : Mem, m9 = m8.set m5.length ⟨[.string u, .int .i64 y], 56, 2, 1⟩ := ⟨_, rfl⟩
        have hm9' := hm9.symm
        have h8l := bb8.len
        have b9 : But m5.length m8 m9 := by rw [hm9]; exact ⟨by simp, fun i o' h1 h2 => by rw [List.getElem?_set_ne (Ne.symm h1)]; exact h2⟩
        have h9l := b9.len
        have z0 := b9.get _ _ (by omega) f0
        have z3 := b9.get _ _ (by omega) f3
        have zo := b9.get _ _ (by omega) fo
        have z6 : m9[m5.length]? = some ⟨[.string u, .int .i64 y], 56, 2, 1⟩ := by rw [hm9]; exact get_set f6 _
        simp -dsimp -implicitDefEqProofs [s0, s2', s3', s4, g1, hwy, hm6', withO_of e3, withO_of t6, madeL, hw, withO_of f3, withO_of f6, hwn, hnl, withO_of hlm, hlk, hlsz, withC_of hlc0, hm9', withO_of z3, withO_of z6]
        refine appTo_grow (n := ls.length) (c := 1) (e := 56) (sz := 2) (by_ := 24) (z := .agg #[.string ⟨#[]⟩, .int .i64 0]) (by kernel_rfl) (by kernel_rfl) ⟨by decide, rfl⟩ (get_old zo) ⟨ho1, ho2⟩ ⟨rfl, rfl⟩ (by simp [flatten_length (sz := 2) (rows := ls.map vl) (by intro r hr; obtain ⟨x, _, rfl⟩ := List.mem_map.1 hr; rfl)]) (by omega) (Src.obj (o := ⟨[.string u, .int .i64 y], 56, 2, 1⟩) (by simp) (by simp) rfl rfl) ?_
        intro m2 id2 gr
        obtain ⟨y3, q1, q2, q3⟩ := main u m9 hu8 ⟨by have := b9.len; have := bm8.len; omega, fun i o' h1 h2 => b9.get i o' (by have := lt_of_get h2; omega) (bm8.get i o' h1 h2)⟩ (((s8.keep b9 (by omega) (fun q x hx => by have := hsrc.off q x hx; omega)).mono (by omega))) (by omega) z0 z3 zo m2 id2 gr
        simp -dsimp -implicitDefEqProofs [s0, s2', s3', s4, hw, withO_of y3]
        refine next_ hlt ⟨ls ++ [(u, y)], id2, q1, q2, q3, by simp [s0], by simp [s2'], by simp [s3'], by simp [hw]⟩
      · refine appTo_grow (n := ls.length) (c := 1) (e := 56) (sz := 2) (by_ := 24) (z := .agg #[.string ⟨#[]⟩, .int .i64 0]) (by kernel_rfl) (by kernel_rfl) ⟨by decide, rfl⟩ (get_old fo) ⟨ho1, ho2⟩ ⟨rfl, rfl⟩ (by simp [flatten_length (sz := 2) (rows := ls.map vl) (by intro r hr; obtain ⟨x, _, rfl⟩ := List.mem_map.1 hr; rfl)]) (by omega) (Src.obj (o := ⟨[.string t, .int .i64 y], 56, 2, 1⟩) (by simp) (by simp) rfl rfl) ?_
        intro m2 id2 gr
        obtain ⟨y3, q1, q2, q3⟩ := main t m8 ht.2 bm8 (s8.mono (by omega)) (by omega) f0 f3 fo m2 id2 gr
        simp -dsimp -implicitDefEqProofs [s0, s2', s3', s4, hw, withO_of y3]
        refine next_ hlt ⟨ls ++ [(t, y)], id2, q1, q2, q3, by simp [s0], by simp [s2'], by simp [s3'], by simp [hw]⟩
    · refine appTo_grow (n := ls.length) (c := 1) (e := 56) (sz := 2) (by_ := 24) (z := .agg #[.string ⟨#[]⟩, .int .i64 0]) (by kernel_rfl) (by kernel_rfl) ⟨by decide, rfl⟩ (get_old eo) ⟨ho1, ho2⟩ ⟨rfl, rfl⟩ (by simp [flatten_length (sz := 2) (rows := ls.map vl) (by intro r hr; obtain ⟨x, _, rfl⟩ := List.mem_map.1 hr; rfl)]) (by omega) (Src.obj (o := ⟨[.string t, .int .i64 y], 56, 2, 1⟩) (by simp) (by simp) rfl rfl) ?_
      intro m2 id2 gr
      obtain ⟨y3, q1, q2, q3⟩ := main t m6 ht.2 bm6 (s6.mono (by omega)) (by omega) e0 e3 eo m2 id2 gr
      simp -dsimp -implicitDefEqProofs [s0, s2', s3', s4, hw, withO_of y3]
      refine next_ hlt ⟨ls ++ [(t, y)], id2, q1, q2, q3, by simp [s0], by simp [s2'], by simp [s3'], by simp [hw]⟩
  · have g1 : ¬ (ls.length : Int) < x3 := by omega
    obtain ⟨v8, m8, hc8, b8, rfl, bb8, s8, hl8⟩ := one_c is a code (k + 4 + 40 * ls.length) 2 (by omega) m' hsrc
    obtain ⟨kd, ho, ho1, ho2⟩ := hL
    have hml := hbut.len
    have hi3l := lt_of_get o3
    have f0 := bb8.get _ _ (by omega) o0
    have f3 := bb8.get _ _ (by omega) o3
    have fo := bb8.get _ _ (by omega) ho
    simp only [bkC] at f3
    simp -dsimp -implicitDefEqProofs [s0, s2', s3', s4, g1]
    refine callsTo Tryd.cal78 hc8 ?_
    simp -dsimp -implicitDefEqProofs [s0, s2', s3', s4, g1]
    refine sp2 (fun g => ?_) (fun g => ?_)
    · obtain ⟨v9, m9, hc9, t, ht, rfl, b9, s9⟩ := l11Draw_c is a code (k + 4 + 40 * ls.length + 2) (by omega) m8 s8
      have w0 := b9.get _ _ (by omega) f0
      have w3 := b9.get _ _ (by omega) f3
      have wo := b9.get _ _ (by omega) fo
      obtain ⟨mA, hmA⟩ : ∃ mA : Mem, mA = m9.set i3 ⟨[.int .i64 st, .slice (some ⟨jd, 0, none⟩) ls.length ls.length, .string t], 29, 3, 1⟩ := ⟨_, rfl⟩
      have x3' : mA[i3]? = some ⟨[.int .i64 st, .slice (some ⟨jd, 0, none⟩) ls.length ls.length, .string t], 29, 3, 1⟩ := by rw [hmA]; exact get_set w3 _
      have x0 : mA[m.length]? = some ⟨[.int .i64 0, .slice none 0 0, .string ⟨#[]⟩], 29, 3, 1⟩ := by rw [hmA, List.getElem?_set_ne (by omega)]; exact w0
      have xo : mA[jd]? = some ⟨(ls.map vl).flatten, 56, 2, kd⟩ := by rw [hmA, List.getElem?_set_ne (Ne.symm hne)]; exact wo
      obtain ⟨mB, hmB⟩ : ∃ mB : Mem, mB = mA.set m.length ⟨[.int .i64 st, .slice (some ⟨jd, 0, none⟩) ls.length ls.length, .string t], 29, 3, 1⟩ := ⟨_, rfl⟩
      have yB : mB[m.length]? = some ⟨[.int .i64 st, .slice (some ⟨jd, 0, none⟩) ls.length ls.length, .string t], 29, 3, 1⟩ := by rw [hmB]; exact get_set x0 _
      have b19 := (hbut.trans bb8).trans b9
      have hfinB : But is m mB := ⟨by rw [hmB, hmA]; simp; exact b19.len, fun i o' h1 h2 => by
        have := lt_of_get h2
        rw [hmB, List.getElem?_set_ne (by omega), hmA, List.getElem?_set_ne (by omega)]
        exact b19.get i o' h1 h2⟩
      have hsB : SrcA is a code (k + 400) mB := by
        have q1 : But i3 m9 mA := by rw [hmA]; exact ⟨by simp, fun i o' h1 h2 => by rw [List.getElem?_set_ne (Ne.symm h1)]; exact h2⟩
        have q2 : But m.length mA mB := by rw [hmB]; exact ⟨by simp, fun i o' h1 h2 => by rw [List.getElem?_set_ne (Ne.symm h1)]; exact h2⟩
        exact (((s9.keep q1 (by omega) (fun q x hx => by have := h.off q x hx; omega)).keep q2 (by omega) (fun q x hx => by have := h.off q x hx; omega))).mono (by omega)
      have hLB : LyObj mB jd ls := ⟨kd, by rw [hmB, List.getElem?_set_ne (by omega)]; exact xo, ho1, ho2⟩
      refine callsTo Tryd.cal142 hc9 ?_
      simp -dsimp -implicitDefEqProofs [s0, s2', s3', s4, g1, withO_of w0, withO_of w3, hmA.symm, withO_of x3', withO_of x0, hmB.symm, withO_of yB]
      exact ⟨_, _, GC.refl _ _ _, st, ls, t, jd, ⟨by omega, fun p hp => by have := hls p hp; omega, by omega⟩, by simp [bkC], hfinB, hsB, by omega, hLB⟩
    · obtain ⟨mB, hmB⟩ : ∃ mB : Mem, mB = m8.set m.length ⟨[.int .i64 st, .slice (some ⟨jd, 0, none⟩) ls.length ls.length, .string ⟨#[]⟩], 29, 3, 1⟩ := ⟨_, rfl⟩
      have yB : mB[m.length]? = some ⟨[.int .i64 st, .slice (some ⟨jd, 0, none⟩) ls.length ls.length, .string ⟨#[]⟩], 29, 3, 1⟩ := by rw [hmB]; exact get_set f0 _
      have b18 := hbut.trans bb8
      have hfinB : But is m mB := ⟨by rw [hmB]; simp; exact b18.len, fun i o' h1 h2 => by
        have := lt_of_get h2
        rw [hmB, List.getElem?_set_ne (by omega)]
        exact b18.get i o' h1 h2⟩
      have hsB : SrcA is a code (k + 400) mB := by
        have q2 : But m.length m8 mB := by rw [hmB]; exact ⟨by simp, fun i o' h1 h2 => by rw [List.getElem?_set_ne (Ne.symm h1)]; exact h2⟩
        exact (s8.keep q2 (by omega) (fun q x hx => by have := h.off q x hx; omega)).mono (by omega)
      have hLB : LyObj mB jd ls := ⟨kd, by rw [hmB, List.getElem?_set_ne (by omega)]; exact fo, ho1, ho2⟩
      simp -dsimp -implicitDefEqProofs [s0, s2', s3', s4, g1, withO_of f0, withO_of f3, hmB.symm, withO_of yB]
      exact ⟨_, _, GC.refl _ _ _, st, ls, ⟨#[]⟩, jd, ⟨by omega, fun p hp => by have := hls p hp; omega, by decide⟩, by simp [bkC], hfinB, hsB, by omega, hLB⟩
end Go.Proofs.YtmbijgnmbapchaaDoor
namespace Go.Proofs.YtmbijgnmbapchaaDoor
open Go.Abs Go.RowKit

theorem fin_bk (N : Nat) (is : Nat) (a : Option Addr) (code : List Int) (k : Int) (m mX : Mem) (z : AObj) (st : Int) (ls : List LyT) (b : ByteArray) (j : Nat) (his : is < m.length) (hsm : SmallB N ls b) (hb : But is m mX) (hs : SrcA is a code k mX) (hj : m.length + 1 ≤ j) (hz : mX[m.length]? = some z) (hL : LyObj mX j ls) :
    (mX.set m.length ⟨[.int .i64 st, .slice (some ⟨j, 0, none⟩) ls.length ls.length, .string b], 29, 3, 1⟩)[m.length]? = some ⟨[.int .i64 st, .slice (some ⟨j, 0, none⟩) ls.length ls.length, .string b], 29, 3, 1⟩ ∧
    DrawnBk N is a code k m (.agg #[.int .i64 st, .slice (some ⟨j, 0, none⟩) ls.length ls.length, .string b]) (mX.set m.length ⟨[.int .i64 st, .slice (some ⟨j, 0, none⟩) ls.length ls.length, .string b], 29, 3, 1⟩) := by
  obtain ⟨kd, ho, h1, h2⟩ := hL
  refine ⟨get_set hz _, st, ls, b, j, hsm, by simp [bkC], ⟨by simp; exact hb.len, fun i o' h1 h2 => ?_⟩, ?_, by omega, kd, ?_, h1, h2⟩
  · have := lt_of_get h2
    rw [List.getElem?_set_ne (by omega)]
    exact hb.get i o' h1 h2
  · exact hs.keep ⟨by simp, fun i o' h1 h2 => by rw [List.getElem?_set_ne (Ne.symm h1)]; exact h2⟩ (by omega) (fun q x hx => by have := hs.off q x hx; omega)
  · rw [List.getElem?_set_ne (by omega)]; exact ho
theorem bent_app (is : Nat) (a : Option Addr) (code : List Int) (k : Int) (m m5 m6 : Mem) (z : AObj) (st : Int) (ls : List LyT) (b : ByteArray) (p : LyT) (j i3 id2 kd : Nat) (his : is < m.length) (hb : But is m m5) (hs : SrcA is a code k m5) (hj : m.length + 1 ≤ j) (hi : m.length + 1 ≤ i3) (hne : j ≠ i3)
    (hz : m5[m.length]? = some z) (h3 : m5[i3]? = some ⟨[.int .i64 st, .slice (some ⟨j, 0, none⟩) ls.length ls.length, .string b], 29, 3, 1⟩) (gr : Abs.Grown m5 j ⟨(ls.map vl).flatten ++ vl p, 56, 2, 2⟩ m6 id2) :
    ¬ id2 = i3 ∧ m6[i3]? = some ⟨[.int .i64 st, .slice (some ⟨j, 0, none⟩) ls.length ls.length, .string b], 29, 3, 1⟩ ∧ ∀ m7, m7 = m6.set i3 ⟨[.int .i64 st, .slice (some ⟨id2, 0, none⟩) (ls.length + 1) (ls.length + 1), .string b], 29, 3, 1⟩ →
      But is m m7 ∧ SrcA is a code k m7 ∧ m.length + 1 ≤ id2 ∧ m7[m.length]? = some z ∧ m7[i3]? = some ⟨[.int .i64 st, .slice (some ⟨id2, 0, none⟩) (ls.length + 1) (ls.length + 1), .string b], 29, 3, 1⟩ ∧ LyObj m7 id2 (ls ++ [p]) := by
  have hat := gr.at_
  have hm5 := hb.len
  have h3l := lt_of_get h3
  have hne2 : ¬ id2 = i3 := by omega
  have g3 := gr.old _ _ (Ne.symm hne) h3
  have g0 := gr.old _ _ (show m.length ≠ j by omega) hz
  have hbg : But j m5 m6 := ⟨by have := gr.len; omega, fun i o' h1 h2 => gr.old i o' h1 h2⟩
  have hs2 : SrcA is a code k m6 := hs.keep hbg (by omega) (fun q x hx => by have := hs.off q x hx; omega)
  have hlen2 := gr.len
  have hbs : ∀ oN : AObj, But i3 m6 (m6.set i3 oN) := fun oN => ⟨by simp, fun i o' h1 h2 => by rw [List.getElem?_set_ne (Ne.symm h1)]; exact h2⟩
  refine ⟨hne2, g3, fun m7 h7 => ?_⟩
  subst h7
  refine ⟨⟨by simp; omega, fun i o' h1 h2 => ?_⟩, hs2.keep (hbs _) (by omega) (fun q x hx => by have := hs.off q x hx; omega), by omega, ?_, get_set g3 _, 2, ?_, by decide, by decide⟩
  · have := lt_of_get h2
    rw [List.getElem?_set_ne (by omega)]
    exact gr.old _ _ (by omega) (hb.get i o' h1 h2)
  · rw [List.getElem?_set_ne (by omega)]; exact g0
  · rw [List.getElem?_set_ne (Ne.symm hne2), gr.new]; simp
theorem l17Bent_c (is : Nat) (a : Option Addr) (code : List Int) (k : Int) (hk : k < 700000000) (m : Mem) (h : SrcA is a code k m) :
    ∃ v m', ACalls Tryd.prog 74 [.pointer (some ⟨is, 0, none⟩)] m v m' ∧ DrawnBk 60 is a code (k + 500) m v m' := by
  have his : is < m.length := lt_of_get h.obj.choose_spec.choose_spec.1
  obtain ⟨v1, m1, hc1, st, ls, b, j, hsm, rfl, b1, s1, hj, kd, ho, ho1, ho2⟩ := l17Draw_c is a code k (by omega) (m ++ [⟨[.int .i64 0, .slice none 0 0, .string ⟨#[]⟩], 29, 3, 1⟩]) (h.app _)
  simp at hj
  simp only [bkC] at hc1
  have hjl := lt_of_get ho
  obtain ⟨m2, hm2⟩ : ∃ m2 : Mem, m2 = m1 ++ [⟨[.int .i64 st, .slice (some ⟨j, 0, none⟩) ls.length ls.length, .string b], 29, 3, 1⟩] := ⟨_, rfl⟩
  have hm2' := hm2.symm
  have q0 : m2[m.length]? = some ⟨[.int .i64 0, .slice none 0 0, .string ⟨#[]⟩], 29, 3, 1⟩ := by rw [hm2]; exact get_old (b1.get _ _ (by omega) (by simp))
  have qo := (show m2[j]? = some ⟨(ls.map vl).flatten, 56, 2, kd⟩ by rw [hm2]; exact get_old ho)
  have q3 : m2[m1.length]? = some ⟨[.int .i64 st, .slice (some ⟨j, 0, none⟩) ls.length ls.length, .string b], 29, 3, 1⟩ := by rw [hm2]; simp
  have b2 : But is m m2 := by rw [hm2]; exact ((But.app is m _).trans b1).trans (But.app _ _ _)
  have s2 : SrcA is a code (k + 400) m2 := by rw [hm2]; exact s1.app _
  have hml := b2.len
  have hm1l := b1.len
  simp at hm1l
  obtain ⟨v3, m3, hc3, x, rfl, hx, b3, s3, hl3⟩ := pick_c is a code (k + 400) 24 (by omega) m2 s2
  have r0 := b3.get _ _ (by omega) q0
  have r3 := b3.get _ _ (by omega) q3
  have ro := b3.get _ _ (by omega) qo
  have b23 := b2.trans b3
  have hl2 : m2.length = m1.length + 1 := by rw [hm2]; simp
  refine ecalls_of_vcF [6, 8] Tryd.func74 rfl Tryd.fol (by kernel_rfl) ?_
  simp only [Tryd.f74]
  simp -dsimp -implicitDefEqProofs [hm2']
  refine callsTo Tryd.cal119 hc1 ?_
  simp -dsimp -implicitDefEqProofs [hm2']
  refine callsTo Tryd.cal76 hc3 ?_
  simp -dsimp -implicitDefEqProofs [hm2']
  by_cases h0 : x = 0
  · have e0 : (x == 0) = true := by simpa using h0
    obtain ⟨v4, m4, hc4, y, rfl, b4, s4, hl4⟩ := amongLit_c is a code (k + 402) (by omega) [-1, 0, 2, 3, 60, 61] 6 rfl m3 (s3.mono (by omega)) (by decide)
    have w0 := b4.get _ _ (by omega) r0
    have w3 := b4.get _ _ (by omega) r3
    have wo := b4.get _ _ (by omega) ro
    obtain ⟨m5, hm5⟩ : ∃ m5 : Mem, m5 = m4.set m1.length ⟨[.int .i64 y, .slice (some ⟨j, 0, none⟩) ls.length ls.length, .string b], 29, 3, 1⟩ := ⟨_, rfl⟩
    have x0 : m5[m.length]? = some ⟨[.int .i64 0, .slice none 0 0, .string ⟨#[]⟩], 29, 3, 1⟩ := by rw [hm5, List.getElem?_set_ne (by omega)]; exact w0
    have x3 : m5[m1.length]? = some ⟨[.int .i64 y, .slice (some ⟨j, 0, none⟩) ls.length ls.length, .string b], 29, 3, 1⟩ := by rw [hm5]; exact get_set w3 _
    have xo : m5[j]? = some ⟨(ls.map vl).flatten, 56, 2, kd⟩ := by rw [hm5, List.getElem?_set_ne (by omega)]; exact wo
    have b45 : But m1.length m4 m5 := by rw [hm5]; exact ⟨by simp, fun i o' h1 h2 => by rw [List.getElem?_set_ne (Ne.symm h1)]; exact h2⟩
    have s5 := s4.keep b45 (by omega) (fun q x hx => by have := h.off q x hx; omega)
    have b5 : But is m m5 := ⟨by have := b45.len; have := (b23.trans b4).len; omega, fun i o' h1 h2 => b45.get i o' (by have := lt_of_get h2; omega) ((b23.trans b4).get i o' h1 h2)⟩
    obtain ⟨e1', e2'⟩ := fin_bk 60 is a code (k + 500) m m5 _ y ls b j his ⟨by have := hsm.1; omega, hsm.2.1, hsm.2.2⟩ b5 (s5.mono (by omega)) (by omega) x0 ⟨kd, xo, ho1, ho2⟩
    simp -dsimp -implicitDefEqProofs [hm2', e0]
    refine callsTo Tryd.cal79 hc4 ?_
    simp -dsimp -implicitDefEqProofs [hm2', e0]
    simp -dsimp -implicitDefEqProofs [hm2', e0, withO_of w3, hm5.symm, withO_of x3, withO_of x0, withO_of e1']
    exact ⟨_, _, GC.refl _ _ _, e2'⟩
  have e0 : (x == 0) = false := by simpa using h0
  by_cases h1 : x = 1
  · have e1 : (x == 1) = true := by simpa using h1
    have y1 : ¬ m3.length = m1.length := by omega
    have hT4 : ([.string ⟨#[]⟩, .string ⟨#[70]⟩, .string ⟨#[102, 98]⟩, .string ⟨#[70, 66]⟩] : List Value) = (([⟨#[]⟩, ⟨#[70]⟩, ⟨#[102, 98]⟩, ⟨#[70, 66]⟩] : List ByteArray).map vS).flatten := by simp [vS]
    obtain ⟨v4, m4, hc4, t, htT, rfl, b4, s4, hl4⟩ := text_c is a code (k + 402) (by omega) [⟨#[]⟩, ⟨#[70]⟩, ⟨#[102, 98]⟩, ⟨#[70, 66]⟩] (some ⟨m3.length, 0, none⟩) (m3 ++ [⟨[.string ⟨#[]⟩, .string ⟨#[70]⟩, .string ⟨#[102, 98]⟩, .string ⟨#[70, 66]⟩], 9, 1, 1⟩, hole]) ((s3.app _).mono (by omega)) (by decide)
      (RdG.of_get (g := vS) (sz := 1) (fun _ => rfl) _ (o := ⟨[.string ⟨#[]⟩, .string ⟨#[70]⟩, .string ⟨#[102, 98]⟩, .string ⟨#[70, 66]⟩], 9, 1, 1⟩) (by simp) (by simp) rfl hT4) (fun x h => by injection h with h; subst h; simp only; omega)
    have ht9 : t.size ≤ 9 := by
      simp only [List.mem_cons, List.not_mem_nil, or_false] at htT
      rcases htT with rfl | rfl | rfl | rfl <;> decide
    have w0 := b4.get _ _ (show m.length ≠ is by omega) (get_old r0)
    have w3 := b4.get _ _ (show m1.length ≠ is by omega) (get_old r3)
    have wo := b4.get _ _ (show j ≠ is by omega) (get_old ro)
    have wh : m4[m3.length + 1]? = some hole := b4.get (m3.length + 1) hole (by omega) (by simp)
    simp -dsimp -implicitDefEqProofs [hm2', e0, e1, withO_of r3, fun l => withO_of (get_old (l := l) r3), y1]
    refine regF [[], [], [], [1], [1], [], [1], [], [], []] 2 (by kernel_rfl) (by kernel_rfl) ?_
    simp -dsimp -implicitDefEqProofs [hm2', e0, e1, withO_of r3, fun l => withO_of (get_old (l := l) r3), y1]
    refine callsTo Tryd.cal120 hc4 ?_
    simp -dsimp -implicitDefEqProofs [hm2', e0, e1, withO_of r3, fun l => withO_of (get_old (l := l) r3), y1, madeL, withO_of w3, withO_of wh, hole]
    refine need_intro (w3.trans (get_old r3).symm) ?_
    refine need_intro wh (need_intro (by omega) ?_)
    obtain ⟨m5, hm5⟩ : ∃ m5 : Mem, m5 = m4.set (m3.length + 1) ⟨[.string t, .int .i64 5], 56, 2, 1⟩ := ⟨_, rfl⟩
    rw [← hm5]
    have b45 : But (m3.length + 1) m4 m5 := by rw [hm5]; exact ⟨by simp, fun i o' h1 h2 => by rw [List.getElem?_set_ne (Ne.symm h1)]; exact h2⟩
    have x0 := b45.get _ _ (by omega) w0
    have x3 := b45.get _ _ (by omega) w3
    have xo := b45.get _ _ (by omega) wo
    have xn : m5[m3.length + 1]? = some ⟨[.string t, .int .i64 5], 56, 2, 1⟩ := by rw [hm5]; exact get_set wh _
    have s5 := s4.keep b45 (by omega) (fun q x hx => by have := h.off q x hx; omega)
    have b5 : But is m m5 := ⟨by have := b45.len; have := b4.len; have := b23.len; simp at *; omega, fun i o' h1 h2 => b45.get i o' (by have := lt_of_get h2; omega) (b4.get i o' h1 (get_old (b23.get i o' h1 h2)))⟩
    refine .inl (appTo_grow (n := ls.length) (c := 1) (e := 56) (sz := 2) (by_ := 24) (z := .agg #[.string ⟨#[]⟩, .int .i64 0]) (by kernel_rfl) (by kernel_rfl) ⟨by decide, rfl⟩ xo ⟨ho1, ho2⟩ ⟨rfl, rfl⟩ (by simp [flatten_length (sz := 2) (rows := ls.map vl) (by intro r hr; obtain ⟨x, _, rfl⟩ := List.mem_map.1 hr; rfl)]) (by have := hsm.1; omega) (Src.obj (o := ⟨[.string t, .int .i64 5], 56, 2, 1⟩) xn (by simp) rfl rfl) ?_)
    intro m6 id2 gr
    obtain ⟨z1, z2, z3⟩ := bent_app is a code (k + 404) m m5 m6 _ st ls b (t, 5) j m1.length id2 kd his b5 (s5.mono (by omega)) (by omega) (by omega) (by omega) x0 x3 gr
    obtain ⟨m7, hm7⟩ : ∃ m7 : Mem, m7 = m6.set m1.length ⟨[.int .i64 st, .slice (some ⟨id2, 0, none⟩) (ls.length + 1) (ls.length + 1), .string b], 29, 3, 1⟩ := ⟨_, rfl⟩
    obtain ⟨c1, c2, c3, c4, c5, c6⟩ := z3 m7 hm7
    obtain ⟨e1', e2'⟩ := fin_bk 60 is a code (k + 500) m m7 _ st (ls ++ [(t, 5)]) b id2 his ⟨by have := hsm.1; simp; omega, fun p hp => by
      rcases List.mem_append.1 hp with hp | hp
      · exact hsm.2.1 p hp
      · simp at hp; subst hp; exact Nat.le_trans ht9 (by decide), hsm.2.2⟩ c1 (c2.mono (by omega)) c3 c4 c6
    simp only [List.length_append, List.length_singleton] at e1' e2'
    simp -dsimp -implicitDefEqProofs [hm2', e0, e1, z1, withO_of z2, hm7.symm, withO_of c5, withO_of c4, withO_of e1']
    exact ⟨_, _, GC.refl _ _ _, e2'⟩
  have e1 : (x == 1) = false := by simpa using h1
  by_cases h2 : x = 2
  · have e2 : (x == 2) = true := by simpa using h2
    have y1 : ¬ m3.length = m1.length := by omega
    obtain ⟨v4, m4, hc4, t, rfl, b4, s4, hl4⟩ := among_c is a code (k + 402) (by omega) [-1, 0, 1, 100, 101] (some ⟨m3.length, 0, none⟩) (m3 ++ [⟨[.int .i64 (-1), .int .i64 0, .int .i64 1, .int .i64 100, .int .i64 101], 2, 1, 1⟩, hole]) ((s3.app _).mono (by omega)) (by decide)
      (RdI.of_get (o := ⟨[.int .i64 (-1), .int .i64 0, .int .i64 1, .int .i64 100, .int .i64 101], 2, 1, 1⟩) (by simp) (by simp) rfl rfl) (fun x h => by injection h with h; subst h; simp only; omega)
    have w0 := b4.get _ _ (show m.length ≠ is by omega) (get_old r0)
    have w3 := b4.get _ _ (show m1.length ≠ is by omega) (get_old r3)
    have wo := b4.get _ _ (show j ≠ is by omega) (get_old ro)
    have wh : m4[m3.length + 1]? = some hole := b4.get (m3.length + 1) hole (by omega) (by simp)
    simp -dsimp -implicitDefEqProofs [hm2', e0, e1, e2, withO_of r3, fun l => withO_of (get_old (l := l) r3), y1]
    refine regF [[], [], [], [1], [1], [], [1], [], [], []] 2 (by kernel_rfl) (by kernel_rfl) ?_
    simp -dsimp -implicitDefEqProofs [hm2', e0, e1, e2, withO_of r3, fun l => withO_of (get_old (l := l) r3), y1]
    refine callsTo Tryd.cal79 hc4 ?_
    simp -dsimp -implicitDefEqProofs [hm2', e0, e1, e2, withO_of r3, fun l => withO_of (get_old (l := l) r3), y1, madeL, withO_of w3, withO_of wh, hole]
    refine need_intro (w3.trans (get_old r3).symm) ?_
    refine need_intro wh (need_intro (by omega) ?_)
    obtain ⟨m5, hm5⟩ : ∃ m5 : Mem, m5 = m4.set (m3.length + 1) ⟨[.string ⟨#[70, 66]⟩, .int .i64 t], 56, 2, 1⟩ := ⟨_, rfl⟩
    rw [← hm5]
    have b45 : But (m3.length + 1) m4 m5 := by rw [hm5]; exact ⟨by simp, fun i o' h1 h2 => by rw [List.getElem?_set_ne (Ne.symm h1)]; exact h2⟩
    have x0 := b45.get _ _ (by omega) w0
    have x3 := b45.get _ _ (by omega) w3
    have xo := b45.get _ _ (by omega) wo
    have xn : m5[m3.length + 1]? = some ⟨[.string ⟨#[70, 66]⟩, .int .i64 t], 56, 2, 1⟩ := by rw [hm5]; exact get_set wh _
    have s5 := s4.keep b45 (by omega) (fun q x hx => by have := h.off q x hx; omega)
    have b5 : But is m m5 := ⟨by have := b45.len; have := b4.len; have := b23.len; simp at *; omega, fun i o' h1 h2 => b45.get i o' (by have := lt_of_get h2; omega) (b4.get i o' h1 (get_old (b23.get i o' h1 h2)))⟩
    refine .inl (appTo_grow (n := ls.length) (c := 1) (e := 56) (sz := 2) (by_ := 24) (z := .agg #[.string ⟨#[]⟩, .int .i64 0]) (by kernel_rfl) (by kernel_rfl) ⟨by decide, rfl⟩ xo ⟨ho1, ho2⟩ ⟨rfl, rfl⟩ (by simp [flatten_length (sz := 2) (rows := ls.map vl) (by intro r hr; obtain ⟨x, _, rfl⟩ := List.mem_map.1 hr; rfl)]) (by have := hsm.1; omega) (Src.obj (o := ⟨[.string ⟨#[70, 66]⟩, .int .i64 t], 56, 2, 1⟩) xn (by simp) rfl rfl) ?_)
    intro m6 id2 gr
    obtain ⟨z1, z2, z3⟩ := bent_app is a code (k + 404) m m5 m6 _ st ls b (⟨#[70, 66]⟩, t) j m1.length id2 kd his b5 (s5.mono (by omega)) (by omega) (by omega) (by omega) x0 x3 gr
    obtain ⟨m7, hm7⟩ : ∃ m7 : Mem, m7 = m6.set m1.length ⟨[.int .i64 st, .slice (some ⟨id2, 0, none⟩) (ls.length + 1) (ls.length + 1), .string b], 29, 3, 1⟩ := ⟨_, rfl⟩
    obtain ⟨c1, c2, c3, c4, c5, c6⟩ := z3 m7 hm7
    obtain ⟨e1', e2'⟩ := fin_bk 60 is a code (k + 500) m m7 _ st (ls ++ [(⟨#[70, 66]⟩, t)]) b id2 his ⟨by have := hsm.1; simp; omega, fun p hp => by
      rcases List.mem_append.1 hp with hp | hp
      · exact hsm.2.1 p hp
      · simp at hp; subst hp; show (⟨#[70, 66]⟩ : ByteArray).size ≤ 20; decide, hsm.2.2⟩ c1 (c2.mono (by omega)) c3 c4 c6
    simp only [List.length_append, List.length_singleton] at e1' e2'
    simp -dsimp -implicitDefEqProofs [hm2', e0, e1, e2, z1, withO_of z2, hm7.symm, withO_of c5, withO_of c4, withO_of e1']
    exact ⟨_, _, GC.refl _ _ _, e2'⟩
  have e2 : (x == 2) = false := by simpa using h2
  by_cases h3 : x = 3
  · have e3 : (x == 3) = true := by simpa using h3
    obtain ⟨v4, m4, hc4, t, htT, rfl, b4, s4, hl4⟩ := textLit_c is a code (k + 402) (by omega) [⟨#[66]⟩, ⟨#[98, 98, 98, 98, 98, 98, 98, 98, 98]⟩, ⟨#[98, 102]⟩] 3 rfl m3 (s3.mono (by omega)) (by decide)
    have ht9 : t.size ≤ 9 := by
      simp only [List.mem_cons, List.not_mem_nil, or_false] at htT
      rcases htT with rfl | rfl | rfl <;> decide
    have w0 := b4.get _ _ (by omega) r0
    have w3 := b4.get _ _ (by omega) r3
    have wo := b4.get _ _ (by omega) ro
    obtain ⟨m5, hm5⟩ : ∃ m5 : Mem, m5 = m4.set m1.length ⟨[.int .i64 st, .slice (some ⟨j, 0, none⟩) ls.length ls.length, .string t], 29, 3, 1⟩ := ⟨_, rfl⟩
    have x0 : m5[m.length]? = some ⟨[.int .i64 0, .slice none 0 0, .string ⟨#[]⟩], 29, 3, 1⟩ := by rw [hm5, List.getElem?_set_ne (by omega)]; exact w0
    have x3 : m5[m1.length]? = some ⟨[.int .i64 st, .slice (some ⟨j, 0, none⟩) ls.length ls.length, .string t], 29, 3, 1⟩ := by rw [hm5]; exact get_set w3 _
    have xo : m5[j]? = some ⟨(ls.map vl).flatten, 56, 2, kd⟩ := by rw [hm5, List.getElem?_set_ne (by omega)]; exact wo
    have b45 : But m1.length m4 m5 := by rw [hm5]; exact ⟨by simp, fun i o' h1 h2 => by rw [List.getElem?_set_ne (Ne.symm h1)]; exact h2⟩
    have s5 := s4.keep b45 (by omega) (fun q x hx => by have := h.off q x hx; omega)
    have b5 : But is m m5 := ⟨by have := b45.len; have := (b23.trans b4).len; omega, fun i o' h1 h2 => b45.get i o' (by have := lt_of_get h2; omega) ((b23.trans b4).get i o' h1 h2)⟩
    obtain ⟨e1', e2'⟩ := fin_bk 60 is a code (k + 500) m m5 _ st ls t j his ⟨by have := hsm.1; omega, hsm.2.1, by omega⟩ b5 (s5.mono (by omega)) (by omega) x0 ⟨kd, xo, ho1, ho2⟩
    simp -dsimp -implicitDefEqProofs [hm2', e0, e1, e2, e3, withO_of r3]
    refine callsTo Tryd.cal120 hc4 ?_
    simp -dsimp -implicitDefEqProofs [hm2', e0, e1, e2, e3, withO_of r3]
    simp -dsimp -implicitDefEqProofs [hm2', e0, e1, e2, e3, withO_of r3, withO_of w3, hm5.symm, withO_of x3, withO_of x0, withO_of e1']
    exact ⟨_, _, GC.refl _ _ _, e2'⟩
  have e3 : (x == 3) = false := by simpa using h3
  by_cases h4 : x = 4
  · have e4 : (x == 4) = true := by simpa using h4
    obtain ⟨m4, hm4⟩ : ∃ m4 : Mem, m4 = (m3 ++ [(⟨[], 56, 2, 1⟩ : AObj)]).set m1.length ⟨[.int .i64 st, .slice (some ⟨m3.length, 0, none⟩) 0 0, .string b], 29, 3, 1⟩ := ⟨_, rfl⟩
    have b34 : But m1.length (m3 ++ [⟨[], 56, 2, 1⟩]) m4 := by rw [hm4]; exact ⟨by simp, fun i o' h1 h2 => by rw [List.getElem?_set_ne (Ne.symm h1)]; exact h2⟩
    have x0 := b34.get _ _ (show m.length ≠ m1.length by omega) (get_old r0)
    have x3 : m4[m1.length]? = some ⟨[.int .i64 st, .slice (some ⟨m3.length, 0, none⟩) 0 0, .string b], 29, 3, 1⟩ := by rw [hm4]; exact get_set (get_old r3) _
    have xn : m4[m3.length]? = some ⟨[], 56, 2, 1⟩ := b34.get m3.length _ (by omega) (by simp)
    have s4 := (s3.app [⟨[], 56, 2, 1⟩]).keep b34 (by omega) (fun q x hx => by have := h.off q x hx; omega)
    have b4 : But is m m4 := ⟨by have := b34.len; have := b23.len; simp at *; omega, fun i o' h1 h2 => b34.get i o' (by have := lt_of_get h2; omega) (get_old (b23.get i o' h1 h2))⟩
    obtain ⟨v5, m5, hc5, y, rfl, hy, b5, s5, hl5⟩ := pick_c is a code (k + 402) 2 (by omega) m4 (s4.mono (by omega))
    simp at hy
    obtain ⟨N, hN⟩ : ∃ N : Nat, (N : Int) = 40 + y := ⟨(40 + y).toNat, by omega⟩
    have hwN : IntKind.i64.wrap (40 + y) = (N : Int) := by rw [hN]; exact wrapI (by omega) (by omega)
    have z0 := b5.get _ _ (by omega) x0
    have z3 := b5.get _ _ (by omega) x3
    have zn := b5.get _ _ (show m3.length ≠ is by omega) xn
    simp -dsimp -implicitDefEqProofs [hm2', e0, e1, e2, e3, e4, withO_of r3, fun l => withO_of (get_old (l := l) r3), hm4.symm, hwN]
    refine callsTo Tryd.cal76 hc5 ?_
    simp -dsimp -implicitDefEqProofs [hm2', e0, e1, e2, e3, e4, withO_of r3, fun l => withO_of (get_old (l := l) r3), hm4.symm, hwN]
    refine loopN N (fun j' σ m' => ∃ (ls : List LyT) (jd : Nat), (ls.length = j' ∧ (∀ p ∈ ls, p.1.size ≤ 20)) ∧ (But is m m' ∧ SrcA is a code (k + 404) m' ∧ m.length + 1 ≤ jd ∧ jd ≠ m1.length) ∧
        (m'[m.length]? = some ⟨[.int .i64 0, .slice none 0 0, .string ⟨#[]⟩], 29, 3, 1⟩ ∧ m'[m1.length]? = some ⟨[.int .i64 st, .slice (some ⟨jd, 0, none⟩) ls.length ls.length, .string b], 29, 3, 1⟩ ∧ LyObj m' jd ls) ∧
        σ 0 = some (.pointer (some ⟨is, 0, none⟩)) ∧ σ 2 = some (.pointer (some ⟨m.length, 0, none⟩)) ∧ σ 3 = some (.pointer (some ⟨m1.length, 0, none⟩)) ∧ σ 4 = some (.int .i64 ((N : Int) - j')))
      ⟨[], m3.length, ⟨rfl, by simp⟩, ⟨b4.trans b5, s5.mono (by omega), by omega, by omega⟩, ⟨z0, z3, ⟨1, zn, by decide, by decide⟩⟩, by simp, by simp, by simp, by simp [hwN]⟩ ?_
    rintro j' σ m' hj' ⟨ls, jd, ⟨rfl, hls⟩, ⟨hbut, hsrc, hjd, hne⟩, ⟨o0, o3, hL⟩, s0, s2', s3', s4'⟩
    by_cases hlt : ls.length < N
    · obtain ⟨kd, ho, ho1, ho2⟩ := hL
      have hw : IntKind.i64.wrap ((N : Int) - (ls.length : Int) - 1) = (N : Int) - ((ls.length : Int) + 1) := by rw [wrapI (by omega) (by omega)]; omega
      simp -dsimp -implicitDefEqProofs [s0, s2', s3', s4', hlt, withO_of o3, fun l => withO_of (get_old (l := l) o3), madeL, hw]
      refine appTo_grow (n := ls.length) (c := 1) (e := 56) (sz := 2) (by_ := 24) (z := .agg #[.string ⟨#[]⟩, .int .i64 0]) (by kernel_rfl) (by kernel_rfl) ⟨by decide, rfl⟩ (get_old ho) ⟨ho1, ho2⟩ ⟨rfl, rfl⟩ (by simp [flatten_length (sz := 2) (rows := ls.map vl) (by intro r hr; obtain ⟨x, _, rfl⟩ := List.mem_map.1 hr; rfl)]) (by omega) (Src.obj (o := ⟨[.string ⟨#[70, 66]⟩, .int .i64 ((N : Int) - ls.length)], 56, 2, 1⟩) (by simp) (by simp) rfl rfl) ?_
      intro m6 id2 gr
      obtain ⟨z1, z2, z3⟩ := bent_app is a code (k + 404) m _ m6 _ st ls b (⟨#[70, 66]⟩, (N : Int) - ls.length) jd m1.length id2 kd his (hbut.trans (But.app _ _ _)) (hsrc.app _) hjd (by omega) hne (get_old o0) (get_old o3) gr
      obtain ⟨c1, c2, c3, c4, c5, c6⟩ := z3 _ rfl
      simp -dsimp -implicitDefEqProofs [s0, s2', s3', s4', hlt, withO_of z2, hw]
      refine next_ hlt ⟨ls ++ [(⟨#[70, 66]⟩, (N : Int) - ls.length)], id2, ⟨by simp, fun p hp => ?_⟩, ⟨c1, c2, c3, z1⟩, ⟨c4, by simpa using c5, c6⟩, by simp [s0], by simp [s2'], by simp [s3'], by simp [hw]⟩
      rcases List.mem_append.1 hp with hp | hp
      · exact hls p hp
      · simp at hp; subst hp; show (⟨#[70, 66]⟩ : ByteArray).size ≤ 20; decide
    · obtain ⟨e1', e2'⟩ := fin_bk 60 is a code (k + 500) m m' _ st ls b jd his ⟨by omega, hls, hsm.2.2⟩ hbut (hsrc.mono (by omega)) hjd o0 hL
      simp -dsimp -implicitDefEqProofs [s0, s2', s3', s4', hlt, withO_of o3, withO_of o0, withO_of e1']
      exact ⟨_, _, GC.refl _ _ _, e2'⟩
  have e4 : (x == 4) = false := by simpa using h4
  obtain ⟨e1', e2'⟩ := fin_bk 60 is a code (k + 500) m m3 _ st ls b j his ⟨by have := hsm.1; omega, hsm.2.1, hsm.2.2⟩ b23 (s3.mono (by omega)) (by omega) r0 ⟨kd, ro, ho1, ho2⟩
  simp -dsimp -implicitDefEqProofs [hm2', e0, e1, e2, e3, e4, withO_of r3, withO_of r0, withO_of e1']
  exact ⟨_, _, GC.refl _ _ _, e2'⟩
end Go.Proofs.YtmbijgnmbapchaaDoor
namespace Go.Proofs.YtmbijgnmbapchaaDoor
open Go.Abs Go.RowKit

def DrawnBX (m : Mem) (v : Value) (m' : Mem) : Prop :=
  ∃ st ls b j, SmallB 60 ls b ∧ v = .agg (bkC st (some ⟨j, 0, none⟩) ls.length b).toArray ∧ m <+: m' ∧ m.length ≤ j ∧ LyObj m' j ls
def DrawnBN (p : Int → Prop) (m : Mem) (v : Value) (m' : Mem) : Prop :=
  ∃ st ls b j x, (SmallB 60 ls b ∧ p x) ∧ v = .tuple #[.agg (bkC st (some ⟨j, 0, none⟩) ls.length b).toArray, .int .i64 x] ∧ m <+: m' ∧ m.length ≤ j ∧ LyObj m' j ls
theorem drawMerge_c (a : Option Addr) (code : List Int) (m : Mem) (h : RdB m a code) (hl : code.length ≤ 1048576) :
    ∃ v m', ACalls Tryd.prog 26 [.slice a code.length code.length] m v m' ∧ DrawnBX m v m' := by
  have hz : RdB (m ++ [⟨[.int .i64 0, .slice none 0 0, .string ⟨#[]⟩], 29, 3, 1⟩]) a code := ⟨h.1.ext _, h.2⟩
  obtain ⟨m0, hm0⟩ : ∃ m0 : Mem, m0 = m ++ [⟨[.int .i64 0, .slice none 0 0, .string ⟨#[]⟩], 29, 3, 1⟩] := ⟨_, rfl⟩
  have hm0' := hm0.symm
  have q0 : m0[m.length]? = some ⟨[.int .i64 0, .slice none 0 0, .string ⟨#[]⟩], 29, 3, 1⟩ := by rw [hm0]; simp
  rw [← hm0] at hz
  have hl0 : m0.length = m.length + 1 := by rw [hm0]; simp
  have hp0 : m <+: m0 := by rw [hm0]; exact ⟨_, rfl⟩
  obtain ⟨v1, m1, hc1, st, ls, b, j, hsm, rfl, b1, s1, hj, kd, ho, ho1, ho2⟩ := l17Bent_c m0.length a code 0 (by omega) _ (srcNew hz hl)
  simp only [bkC] at hc1
  simp at hj
  have hp1 : m0 <+: m1 := b1.pre ⟨_, rfl⟩ (Nat.le_refl _)
  have r0 := prefix_get hp1 q0
  refine ecalls_of_vc Tryd.func26 rfl Tryd.fol (by kernel_rfl) ?_
  simp only [Tryd.f26]
  simp -dsimp -implicitDefEqProofs [hm0']
  refine callsTo Tryd.cal75 (l00From_c a code m0) ?_
  simp -dsimp -implicitDefEqProofs [hm0']
  refine callsTo Tryd.cal74 hc1 ?_
  simp -dsimp -implicitDefEqProofs [hm0']
  obtain ⟨m2, hm2⟩ : ∃ m2 : Mem, m2 = m1.set m.length ⟨[.int .i64 st, .slice (some ⟨j, 0, none⟩) ls.length ls.length, .string b], 29, 3, 1⟩ := ⟨_, rfl⟩
  have y0 : m2[m.length]? = some ⟨[.int .i64 st, .slice (some ⟨j, 0, none⟩) ls.length ls.length, .string b], 29, 3, 1⟩ := by rw [hm2]; exact get_set r0 _
  simp -dsimp -implicitDefEqProofs [withO_of r0, hm2.symm, withO_of y0]
  exact ⟨_, _, GC.refl _ _ _, st, ls, b, j, hsm, by simp [bkC], by rw [hm2]; exact pre_set (hp0.trans hp1) (Nat.le_refl _) _, by omega, kd, by rw [hm2, List.getElem?_set_ne (by omega)]; exact ho, ho1, ho2⟩
theorem drawLayerAt_c (a : Option Addr) (code : List Int) (m : Mem) (h : RdB m a code) (hl : code.length ≤ 1048576) :
    ∃ v m', ACalls Tryd.prog 29 [.slice a code.length code.length] m v m' ∧ DrawnBN (fun n => -1000 ≤ n ∧ n ≤ 1000) m v m' := by
  have hz : RdB (m ++ [⟨[.int .i64 0, .slice none 0 0, .string ⟨#[]⟩], 29, 3, 1⟩]) a code := ⟨h.1.ext _, h.2⟩
  obtain ⟨m0, hm0⟩ : ∃ m0 : Mem, m0 = m ++ [⟨[.int .i64 0, .slice none 0 0, .string ⟨#[]⟩], 29, 3, 1⟩] := ⟨_, rfl⟩
  have hm0' := hm0.symm
  have q0 : m0[m.length]? = some ⟨[.int .i64 0, .slice none 0 0, .string ⟨#[]⟩], 29, 3, 1⟩ := by rw [hm0]; simp
  rw [← hm0] at hz
  have hl0 : m0.length = m.length + 1 := by rw [hm0]; simp
  have hp0 : m <+: m0 := by rw [hm0]; exact ⟨_, rfl⟩
  obtain ⟨v1, m1, hc1, st, ls, b, j, hsm, rfl, b1, s1, hj, kd, ho, ho1, ho2⟩ := l17Bent_c m0.length a code 0 (by omega) _ (srcNew hz hl)
  simp only [bkC] at hc1
  simp at hj
  have hp1 : m0 <+: m1 := b1.pre ⟨_, rfl⟩ (Nat.le_refl _)
  have r0 := prefix_get hp1 q0
  have hjl := lt_of_get ho
  have hl1 := hp1.length_le
  obtain ⟨m2, hm2⟩ : ∃ m2 : Mem, m2 = m1 ++ [⟨[.int .i64 st, .slice (some ⟨j, 0, none⟩) ls.length ls.length, .string b], 29, 3, 1⟩] := ⟨_, rfl⟩
  have s2 : SrcA m0.length a code 500 m2 := by rw [hm2]; exact s1.app _
  have hp2 : m1 <+: m2 := by rw [hm2]; exact ⟨_, rfl⟩
  have t2 : m2[m1.length]? = some ⟨[.int .i64 st, .slice (some ⟨j, 0, none⟩) ls.length ls.length, .string b], 29, 3, 1⟩ := by rw [hm2]; simp
  obtain ⟨v3, m3, hc3, x, rfl, hx, b3, s3, hl3⟩ := pick_c m0.length a code 500 40 (by omega) m2 s2
  obtain ⟨v4, m4, hc4, y, rfl, hy, b4, s4, hl4⟩ := pick_c m0.length a code 502 16 (by omega) m3 s3
  refine ecalls_of_vcF [3] Tryd.func29 rfl Tryd.fol (by kernel_rfl) ?_
  simp only [Tryd.f29]
  simp -dsimp -implicitDefEqProofs [hm0', hm2.symm, withO_of t2]
  refine callsTo Tryd.cal75 (l00From_c a code m0) ?_
  simp -dsimp -implicitDefEqProofs [hm0', hm2.symm, withO_of t2]
  refine callsTo Tryd.cal74 hc1 ?_
  simp -dsimp -implicitDefEqProofs [hm0', hm2.symm, withO_of t2]
  refine regF [[], [], [0], [], [0], [], [], [], []] 0 (by kernel_rfl) (by kernel_rfl) ?_
  simp -dsimp -implicitDefEqProofs [hm0', hm2.symm, withO_of t2]
  refine callsTo Tryd.cal76 hc3 ?_
  simp -dsimp -implicitDefEqProofs [hm0', hm2.symm, withO_of t2]
  have hjne : ¬ j = m0.length := by omega
  have p0 := b4.get _ _ (by omega) (b3.get _ _ (by omega) (prefix_get hp2 r0))
  have p2 := b3.get _ _ (by omega) t2
  have p2' := b4.get _ _ (by omega) p2
  have po := b4.get _ _ hjne (b3.get _ _ hjne (prefix_get hp2 ho))
  refine need_intro (p2.trans t2.symm) ?_
  have b34 := b3.trans b4
  have hp4 : m0 <+: m4 := (But.mk (m := m0) (m' := m4) (is := m0.length) (by have := b34.len; have := hp2.length_le; omega) (fun i o' h1 h2 => b34.get i o' h1 (prefix_get (hp1.trans hp2) h2))).pre (pre_refl _) (Nat.le_refl _)
  obtain ⟨m5, hm5⟩ : ∃ m5 : Mem, m5 = m4.set m.length ⟨[.int .i64 st, .slice (some ⟨j, 0, none⟩) ls.length ls.length, .string b], 29, 3, 1⟩ := ⟨_, rfl⟩
  have y0 : m5[m.length]? = some ⟨[.int .i64 st, .slice (some ⟨j, 0, none⟩) ls.length ls.length, .string b], 29, 3, 1⟩ := by rw [hm5]; exact get_set p0 _
  have hp5 : m <+: m5 := by rw [hm5]; exact pre_set (hp0.trans hp4) (Nat.le_refl _) _
  have hL5 : LyObj m5 j ls := ⟨kd, by rw [hm5, List.getElem?_set_ne (by omega)]; exact po, ho1, ho2⟩
  refine callsTo Tryd.cal76 hc4 ?_
  simp -dsimp -implicitDefEqProofs [hm0', hm2.symm, withO_of t2, withO_of p0, hm5.symm, withO_of y0]
  have hbnd : -1000 ≤ IntKind.i64.wrap (x - IntKind.i64.wrap (y.tdiv 15)) ∧ IntKind.i64.wrap (x - IntKind.i64.wrap (y.tdiv 15)) ≤ 1000 := by
    simp at hx hy
    have ht : y.tdiv 15 = y / 15 := Int.tdiv_eq_ediv_of_nonneg hy.1
    obtain ⟨z, hz⟩ : ∃ z, z = y / 15 := ⟨_, rfl⟩
    have hz1 : 0 ≤ z ∧ z ≤ 15 := by omega
    rw [ht, ← hz, wrapI (x := z) (by omega) (by omega), wrapI (by omega) (by omega)]
    omega
  exact need_intro (p2'.trans p2.symm) ⟨_, _, GC.refl _ _ _, st, ls, b, j, _, ⟨hsm, hbnd⟩, by simp only [bkC], hp5, by omega, hL5⟩
theorem drawUns_c (a : Option Addr) (code : List Int) (m : Mem) (h : RdB m a code) (hl : code.length ≤ 1048576) :
    ∃ v m', ACalls Tryd.prog 32 [.slice a code.length code.length] m v m' ∧ DrawnBN (fun _ => True) m v m' := by
  have hz : RdB (m ++ [⟨[.int .i64 0, .slice none 0 0, .string ⟨#[]⟩], 29, 3, 1⟩]) a code := ⟨h.1.ext _, h.2⟩
  obtain ⟨m0, hm0⟩ : ∃ m0 : Mem, m0 = m ++ [⟨[.int .i64 0, .slice none 0 0, .string ⟨#[]⟩], 29, 3, 1⟩] := ⟨_, rfl⟩
  have hm0' := hm0.symm
  have q0 : m0[m.length]? = some ⟨[.int .i64 0, .slice none 0 0, .string ⟨#[]⟩], 29, 3, 1⟩ := by rw [hm0]; simp
  rw [← hm0] at hz
  have hl0 : m0.length = m.length + 1 := by rw [hm0]; simp
  have hp0 : m <+: m0 := by rw [hm0]; exact ⟨_, rfl⟩
  obtain ⟨v1, m1, hc1, st, ls, b, j, hsm, rfl, b1, s1, hj, kd, ho, ho1, ho2⟩ := l17Bent_c m0.length a code 0 (by omega) _ (srcNew hz hl)
  simp only [bkC] at hc1
  simp at hj
  have hp1 : m0 <+: m1 := b1.pre ⟨_, rfl⟩ (Nat.le_refl _)
  have r0 := prefix_get hp1 q0
  have hjl := lt_of_get ho
  have hl1 := hp1.length_le
  obtain ⟨m2, hm2⟩ : ∃ m2 : Mem, m2 = m1 ++ [⟨[.int .i64 st, .slice (some ⟨j, 0, none⟩) ls.length ls.length, .string b], 29, 3, 1⟩] := ⟨_, rfl⟩
  have s2 : SrcA m0.length a code 500 m2 := by rw [hm2]; exact s1.app _
  have hp2 : m1 <+: m2 := by rw [hm2]; exact ⟨_, rfl⟩
  have hl2 : m2.length = m1.length + 1 := by rw [hm2]; simp
  have t2 : m2[m1.length]? = some ⟨[.int .i64 st, .slice (some ⟨j, 0, none⟩) ls.length ls.length, .string b], 29, 3, 1⟩ := by rw [hm2]; simp
  obtain ⟨v3, m3, hc3, bb, rfl, b3, s3, hl3⟩ := one_c m0.length a code 500 8 (by omega) m2 s2
  have hjne : ¬ j = m0.length := by omega
  have q0 := b3.get _ _ (by omega) (prefix_get hp2 r0)
  have q2 := b3.get _ _ (by omega) t2
  have qo := b3.get _ _ hjne (prefix_get hp2 ho)
  refine ecalls_of_vcF [4, 5] Tryd.func32 rfl Tryd.fol (by kernel_rfl) ?_
  simp only [Tryd.f32]
  simp -dsimp -implicitDefEqProofs [hm0', hm2.symm]
  refine callsTo Tryd.cal75 (l00From_c a code m0) ?_
  simp -dsimp -implicitDefEqProofs [hm0', hm2.symm]
  refine callsTo Tryd.cal74 hc1 ?_
  simp -dsimp -implicitDefEqProofs [hm0', hm2.symm]
  refine callsTo Tryd.cal78 hc3 ?_
  simp -dsimp -implicitDefEqProofs [hm0', hm2.symm]
  refine sp2 (fun g => ?_) (fun g => ?_)
  · obtain ⟨v4, m4, hc4, y, rfl, b4, s4, hl4⟩ := amongLit_c m0.length a code 502 (by omega) [-1, 0, 1, 12, 13] 5 rfl m3 s3 (by decide)
    have p0 := b4.get _ _ (by omega) q0
    have p2' := b4.get _ _ (by omega) q2
    have po := b4.get _ _ hjne qo
    have b34 := b3.trans b4
    have hp4 : m0 <+: m4 := (But.mk (m := m0) (m' := m4) (is := m0.length) (by have := b34.len; have := hp2.length_le; omega) (fun i o' h1 h2 => b34.get i o' h1 (prefix_get (hp1.trans hp2) h2))).pre (pre_refl _) (Nat.le_refl _)
    obtain ⟨m5, hm5⟩ : ∃ m5 : Mem, m5 = m4.set m.length ⟨[.int .i64 st, .slice (some ⟨j, 0, none⟩) ls.length ls.length, .string b], 29, 3, 1⟩ := ⟨_, rfl⟩
    have y0 : m5[m.length]? = some ⟨[.int .i64 st, .slice (some ⟨j, 0, none⟩) ls.length ls.length, .string b], 29, 3, 1⟩ := by rw [hm5]; exact get_set p0 _
    have hp5 : m <+: m5 := by rw [hm5]; exact pre_set (hp0.trans hp4) (Nat.le_refl _) _
    have hL5 : LyObj m5 j ls := ⟨kd, by rw [hm5, List.getElem?_set_ne (by omega)]; exact po, ho1, ho2⟩
    have y1 : ¬ m3.length = m1.length := by omega
    refine regF [[], [], [0], [0], [], []] 1 (by kernel_rfl) (by kernel_rfl) ?_
    simp -dsimp -implicitDefEqProofs [hm0', hm2.symm, withO_of q2, fun l => withO_of (get_old (l := l) q2), withO_of p0, hm5.symm, withO_of y0, y1]
    refine callsTo Tryd.cal79 hc4 ?_
    simp -dsimp -implicitDefEqProofs [hm0', hm2.symm, withO_of q2, fun l => withO_of (get_old (l := l) q2), withO_of p0, hm5.symm, withO_of y0, y1]
    exact need_intro (p2'.trans (get_old q2).symm) ⟨_, _, GC.refl _ _ _, st, ls, b, j, _, ⟨hsm, trivial⟩, by simp only [bkC]; rfl, hp5, by omega, hL5⟩
  · obtain ⟨v4, m4, hc4, y, rfl, hy, b4, s4, hl4⟩ := pick_c m0.length a code 502 4 (by omega) m3 s3
    have p0 := b4.get _ _ (by omega) q0
    have p2' := b4.get _ _ (by omega) q2
    have po := b4.get _ _ hjne qo
    have b34 := b3.trans b4
    have hp4 : m0 <+: m4 := (But.mk (m := m0) (m' := m4) (is := m0.length) (by have := b34.len; have := hp2.length_le; omega) (fun i o' h1 h2 => b34.get i o' h1 (prefix_get (hp1.trans hp2) h2))).pre (pre_refl _) (Nat.le_refl _)
    obtain ⟨m5, hm5⟩ : ∃ m5 : Mem, m5 = m4.set m.length ⟨[.int .i64 st, .slice (some ⟨j, 0, none⟩) ls.length ls.length, .string b], 29, 3, 1⟩ := ⟨_, rfl⟩
    have y0 : m5[m.length]? = some ⟨[.int .i64 st, .slice (some ⟨j, 0, none⟩) ls.length ls.length, .string b], 29, 3, 1⟩ := by rw [hm5]; exact get_set p0 _
    have hp5 : m <+: m5 := by rw [hm5]; exact pre_set (hp0.trans hp4) (Nat.le_refl _) _
    have hL5 : LyObj m5 j ls := ⟨kd, by rw [hm5, List.getElem?_set_ne (by omega)]; exact po, ho1, ho2⟩
    refine regF [[], [], [0], [], [], []] 0 (by kernel_rfl) (by kernel_rfl) ?_
    simp -dsimp -implicitDefEqProofs [hm0', hm2.symm, withO_of q2, withO_of p0, hm5.symm, withO_of y0]
    refine callsTo Tryd.cal76 hc4 ?_
    simp -dsimp -implicitDefEqProofs [hm0', hm2.symm, withO_of q2, withO_of p0, hm5.symm, withO_of y0]
    exact need_intro (p2'.trans q2.symm) ⟨_, _, GC.refl _ _ _, st, ls, b, j, _, ⟨hsm, trivial⟩, by simp only [bkC]; rfl, hp5, by omega, hL5⟩
end Go.Proofs.YtmbijgnmbapchaaDoor
