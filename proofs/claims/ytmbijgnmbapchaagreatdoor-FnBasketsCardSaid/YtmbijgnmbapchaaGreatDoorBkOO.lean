/-
  Baskets, part 17: drawn baskets, bent. Conditions: none.
-/
import Derived.Test.YtmbijgnmbapchaaGreatDoorBkMM
set_option linter.unusedSimpArgs false
set_option linter.unusedVariables false
set_option linter.unusedSectionVars false
namespace Go.Proofs.YtmbijgnmbapchaaGreatDoor
open Go.Abs Go.RowKit

theorem fin_bk (N : Nat) (is : Nat) (a : Option Addr) (code : List Int) (k : Int) (m mX : Mem) (z : AObj) (st : Int) (ls : List LyT) (b : ByteArray) (j : Nat) (his : is < m.length) (hsm : SmallB N ls b) (hb : But is m mX) (hs : SrcA is a code k mX) (hj : m.length + 1 ≤ j) (hz : mX[m.length]? = some z) (hL : LyObj mX j ls) :
    (mX.set m.length ⟨[.int .i64 st, .slice (some ⟨j, 0, none⟩) ls.length ls.length, .string b], 27, 3, 1⟩)[m.length]? = some ⟨[.int .i64 st, .slice (some ⟨j, 0, none⟩) ls.length ls.length, .string b], 27, 3, 1⟩ ∧
    DrawnBk N is a code k m (.agg #[.int .i64 st, .slice (some ⟨j, 0, none⟩) ls.length ls.length, .string b]) (mX.set m.length ⟨[.int .i64 st, .slice (some ⟨j, 0, none⟩) ls.length ls.length, .string b], 27, 3, 1⟩) := by
  obtain ⟨kd, ho, h1, h2⟩ := hL
  refine ⟨get_set hz _, st, ls, b, j, hsm, by simp [bkC], ⟨by simp; exact hb.len, fun i o' h1 h2 => ?_⟩, ?_, by omega, kd, ?_, h1, h2⟩
  · have := lt_of_get h2
    rw [List.getElem?_set_ne (by omega)]
    exact hb.get i o' h1 h2
  · exact hs.keep ⟨by simp, fun i o' h1 h2 => by rw [List.getElem?_set_ne (Ne.symm h1)]; exact h2⟩ (by omega) (fun q x hx => by have := hs.off q x hx; omega)
  · rw [List.getElem?_set_ne (by omega)]; exact ho
theorem bent_app (is : Nat) (a : Option Addr) (code : List Int) (k : Int) (m m5 m6 : Mem) (z : AObj) (st : Int) (ls : List LyT) (b : ByteArray) (p : LyT) (j i3 id2 kd : Nat) (his : is < m.length) (hb : But is m m5) (hs : SrcA is a code k m5) (hj : m.length + 1 ≤ j) (hi : m.length + 1 ≤ i3) (hne : j ≠ i3)
    (hz : m5[m.length]? = some z) (h3 : m5[i3]? = some ⟨[.int .i64 st, .slice (some ⟨j, 0, none⟩) ls.length ls.length, .string b], 27, 3, 1⟩) (gr : Abs.Grown m5 j ⟨(ls.map vl).flatten ++ vl p, 54, 2, 2⟩ m6 id2) :
    ¬ id2 = i3 ∧ m6[i3]? = some ⟨[.int .i64 st, .slice (some ⟨j, 0, none⟩) ls.length ls.length, .string b], 27, 3, 1⟩ ∧ ∀ m7, m7 = m6.set i3 ⟨[.int .i64 st, .slice (some ⟨id2, 0, none⟩) (ls.length + 1) (ls.length + 1), .string b], 27, 3, 1⟩ →
      But is m m7 ∧ SrcA is a code k m7 ∧ m.length + 1 ≤ id2 ∧ m7[m.length]? = some z ∧ m7[i3]? = some ⟨[.int .i64 st, .slice (some ⟨id2, 0, none⟩) (ls.length + 1) (ls.length + 1), .string b], 27, 3, 1⟩ ∧ LyObj m7 id2 (ls ++ [p]) := by
  have hat := gr.at_
  have hm5 := hb.len
  have h3l := lt_of_get h3
  have hne2 : ¬ id2 = i3 := by omega
  have g3 := gr.old _ _ (Ne.symm hne) h3
  have g0 := gr.old _ _ (show m.length ≠ j by omega) hz
  have hbg : But j m5 m6 := ⟨by have := gr.len; omega, fun i o' h1 h2 => gr.old i o' h1 h2⟩
  have hs2 : SrcA is a code k m6 := hs.keep hbg (by omega) (fun q x hx => by have := hs.off q x hx; omega)
  have hlen2 := gr.len
  have hbs : ∀ oN : AObj, But i3 m6 (m6.set i3 oN) := fun oN => ⟨by simp, fun i o' h1 h2 => by rw [List.getElem?_set_ne (Ne.symm h1)]; exact h2⟩
  refine ⟨hne2, g3, fun m7 h7 => ?_⟩
  subst h7
  refine ⟨⟨by simp; omega, fun i o' h1 h2 => ?_⟩, hs2.keep (hbs _) (by omega) (fun q x hx => by have := hs.off q x hx; omega), by omega, ?_, get_set g3 _, 2, ?_, by decide, by decide⟩
  · have := lt_of_get h2
    rw [List.getElem?_set_ne (by omega)]
    exact gr.old _ _ (by omega) (hb.get i o' h1 h2)
  · rw [List.getElem?_set_ne (by omega)]; exact g0
  · rw [List.getElem?_set_ne (Ne.symm hne2), gr.new]; simp
theorem l17Bent_c (is : Nat) (a : Option Addr) (code : List Int) (k : Int) (hk : k < 700000000) (m : Mem) (h : SrcA is a code k m) :
    ∃ v m', ACalls Tryz.prog 26 [.pointer (some ⟨is, 0, none⟩)] m v m' ∧ DrawnBk 60 is a code (k + 500) m v m' := by
  have his : is < m.length := lt_of_get h.obj.choose_spec.choose_spec.1
  obtain ⟨v1, m1, hc1, st, ls, b, j, hsm, rfl, b1, s1, hj, kd, ho, ho1, ho2⟩ := l17Draw_c is a code k (by omega) (m ++ [⟨[.int .i64 0, .slice none 0 0, .string ⟨#[]⟩], 27, 3, 1⟩]) (h.app _)
  simp at hj
  simp only [bkC] at hc1
  have hjl := lt_of_get ho
  obtain ⟨m2, hm2⟩ : ∃ m2 : Mem, m2 = m1 ++ [⟨[.int .i64 st, .slice (some ⟨j, 0, none⟩) ls.length ls.length, .string b], 27, 3, 1⟩] := ⟨_, rfl⟩
  have hm2' := hm2.symm
  have q0 : m2[m.length]? = some ⟨[.int .i64 0, .slice none 0 0, .string ⟨#[]⟩], 27, 3, 1⟩ := by rw [hm2]; exact get_old (b1.get _ _ (by omega) (by simp))
  have qo := (show m2[j]? = some ⟨(ls.map vl).flatten, 54, 2, kd⟩ by rw [hm2]; exact get_old ho)
  have q3 : m2[m1.length]? = some ⟨[.int .i64 st, .slice (some ⟨j, 0, none⟩) ls.length ls.length, .string b], 27, 3, 1⟩ := by rw [hm2]; simp
  have b2 : But is m m2 := by rw [hm2]; exact ((But.app is m _).trans b1).trans (But.app _ _ _)
  have s2 : SrcA is a code (k + 400) m2 := by rw [hm2]; exact s1.app _
  have hml := b2.len
  have hm1l := b1.len
  simp at hm1l
  obtain ⟨v3, m3, hc3, x, rfl, hx, b3, s3, hl3⟩ := pick_c is a code (k + 400) 24 (by omega) m2 s2
  have r0 := b3.get _ _ (by omega) q0
  have r3 := b3.get _ _ (by omega) q3
  have ro := b3.get _ _ (by omega) qo
  have b23 := b2.trans b3
  have hl2 : m2.length = m1.length + 1 := by rw [hm2]; simp
  refine ecalls_of_vcF [6, 8] Tryz.func26 rfl Tryz.fol (by kernel_rfl) ?_
  simp only [Tryz.f26]
  simp -dsimp -implicitDefEqProofs [hm2']
  refine callsTo Tryz.cal28 hc1 ?_
  simp -dsimp -implicitDefEqProofs [hm2']
  refine callsTo Tryz.cal30 hc3 ?_
  simp -dsimp -implicitDefEqProofs [hm2']
  by_cases h0 : x = 0
  · have e0 : (x == 0) = true := by simpa using h0
    obtain ⟨v4, m4, hc4, y, rfl, b4, s4, hl4⟩ := amongLit_c is a code (k + 402) (by omega) [-1, 0, 2, 3, 60, 61] 6 rfl m3 (s3.mono (by omega)) (by decide)
    have w0 := b4.get _ _ (by omega) r0
    have w3 := b4.get _ _ (by omega) r3
    have wo := b4.get _ _ (by omega) ro
    obtain ⟨m5, hm5⟩ : ∃ m5 : Mem, m5 = m4.set m1.length ⟨[.int .i64 y, .slice (some ⟨j, 0, none⟩) ls.length ls.length, .string b], 27, 3, 1⟩ := ⟨_, rfl⟩
    have x0 : m5[m.length]? = some ⟨[.int .i64 0, .slice none 0 0, .string ⟨#[]⟩], 27, 3, 1⟩ := by rw [hm5, List.getElem?_set_ne (by omega)]; exact w0
    have x3 : m5[m1.length]? = some ⟨[.int .i64 y, .slice (some ⟨j, 0, none⟩) ls.length ls.length, .string b], 27, 3, 1⟩ := by rw [hm5]; exact get_set w3 _
    have xo : m5[j]? = some ⟨(ls.map vl).flatten, 54, 2, kd⟩ := by rw [hm5, List.getElem?_set_ne (by omega)]; exact wo
    have b45 : But m1.length m4 m5 := by rw [hm5]; exact ⟨by simp, fun i o' h1 h2 => by rw [List.getElem?_set_ne (Ne.symm h1)]; exact h2⟩
    have s5 := s4.keep b45 (by omega) (fun q x hx => by have := h.off q x hx; omega)
    have b5 : But is m m5 := ⟨by have := b45.len; have := (b23.trans b4).len; omega, fun i o' h1 h2 => b45.get i o' (by have := lt_of_get h2; omega) ((b23.trans b4).get i o' h1 h2)⟩
    obtain ⟨e1', e2'⟩ := fin_bk 60 is a code (k + 500) m m5 _ y ls b j his ⟨by have := hsm.1; omega, hsm.2.1, hsm.2.2⟩ b5 (s5.mono (by omega)) (by omega) x0 ⟨kd, xo, ho1, ho2⟩
    simp -dsimp -implicitDefEqProofs [hm2', e0]
    refine callsTo Tryz.cal31 hc4 ?_
    simp -dsimp -implicitDefEqProofs [hm2', e0]
    simp -dsimp -implicitDefEqProofs [hm2', e0, withO_of w3, hm5.symm, withO_of x3, withO_of x0, withO_of e1']
    exact ⟨_, _, GC.refl _ _ _, e2'⟩
  have e0 : (x == 0) = false := by simpa using h0
  by_cases h1 : x = 1
  · have e1 : (x == 1) = true := by simpa using h1
    have y1 : ¬ m3.length = m1.length := by omega
    have hT4 : ([.string ⟨#[]⟩, .string ⟨#[70]⟩, .string ⟨#[102, 98]⟩, .string ⟨#[70, 66]⟩] : List Value) = (([⟨#[]⟩, ⟨#[70]⟩, ⟨#[102, 98]⟩, ⟨#[70, 66]⟩] : List ByteArray).map vS).flatten := by simp [vS]
    obtain ⟨v4, m4, hc4, t, htT, rfl, b4, s4, hl4⟩ := text_c is a code (k + 402) (by omega) [⟨#[]⟩, ⟨#[70]⟩, ⟨#[102, 98]⟩, ⟨#[70, 66]⟩] (some ⟨m3.length, 0, none⟩) (m3 ++ [⟨[.string ⟨#[]⟩, .string ⟨#[70]⟩, .string ⟨#[102, 98]⟩, .string ⟨#[70, 66]⟩], 9, 1, 1⟩, hole]) ((s3.app _).mono (by omega)) (by decide)
      (RdG.of_get (g := vS) (sz := 1) (fun _ => rfl) _ (o := ⟨[.string ⟨#[]⟩, .string ⟨#[70]⟩, .string ⟨#[102, 98]⟩, .string ⟨#[70, 66]⟩], 9, 1, 1⟩) (by simp) (by simp) rfl hT4) (fun x h => by injection h with h; subst h; simp only; omega)
    have ht9 : t.size ≤ 9 := by
      simp only [List.mem_cons, List.not_mem_nil, or_false] at htT
      rcases htT with rfl | rfl | rfl | rfl <;> decide
    have w0 := b4.get _ _ (show m.length ≠ is by omega) (get_old r0)
    have w3 := b4.get _ _ (show m1.length ≠ is by omega) (get_old r3)
    have wo := b4.get _ _ (show j ≠ is by omega) (get_old ro)
    have wh : m4[m3.length + 1]? = some hole := b4.get (m3.length + 1) hole (by omega) (by simp)
    simp -dsimp -implicitDefEqProofs [hm2', e0, e1, withO_of r3, fun l => withO_of (get_old (l := l) r3), y1]
    refine regF [[], [], [], [1], [1], [], [1], [], [], []] 2 (by kernel_rfl) (by kernel_rfl) ?_
    simp -dsimp -implicitDefEqProofs [hm2', e0, e1, withO_of r3, fun l => withO_of (get_old (l := l) r3), y1]
    refine callsTo Tryz.cal42 hc4 ?_
    simp -dsimp -implicitDefEqProofs [hm2', e0, e1, withO_of r3, fun l => withO_of (get_old (l := l) r3), y1, madeL, withO_of w3, withO_of wh, hole]
    refine need_intro (w3.trans (get_old r3).symm) ?_
    refine need_intro wh (need_intro (by omega) ?_)
    obtain ⟨m5, hm5⟩ : ∃ m5 : Mem, m5 = m4.set (m3.length + 1) ⟨[.string t, .int .i64 5], 54, 2, 1⟩ := ⟨_, rfl⟩
    rw [← hm5]
    have b45 : But (m3.length + 1) m4 m5 := by rw [hm5]; exact ⟨by simp, fun i o' h1 h2 => by rw [List.getElem?_set_ne (Ne.symm h1)]; exact h2⟩
    have x0 := b45.get _ _ (by omega) w0
    have x3 := b45.get _ _ (by omega) w3
    have xo := b45.get _ _ (by omega) wo
    have xn : m5[m3.length + 1]? = some ⟨[.string t, .int .i64 5], 54, 2, 1⟩ := by rw [hm5]; exact get_set wh _
    have s5 := s4.keep b45 (by omega) (fun q x hx => by have := h.off q x hx; omega)
    have b5 : But is m m5 := ⟨by have := b45.len; have := b4.len; have := b23.len; simp at *; omega, fun i o' h1 h2 => b45.get i o' (by have := lt_of_get h2; omega) (b4.get i o' h1 (get_old (b23.get i o' h1 h2)))⟩
    refine .inl (appTo_grow (n := ls.length) (c := 1) (e := 54) (sz := 2) (by_ := 24) (z := .agg #[.string ⟨#[]⟩, .int .i64 0]) (by kernel_rfl) (by kernel_rfl) ⟨by decide, rfl⟩ xo ⟨ho1, ho2⟩ ⟨rfl, rfl⟩ (by simp [flatten_length (sz := 2) (rows := ls.map vl) (by intro r hr; obtain ⟨x, _, rfl⟩ := List.mem_map.1 hr; rfl)]) (by have := hsm.1; omega) (Src.obj (o := ⟨[.string t, .int .i64 5], 54, 2, 1⟩) xn (by simp) rfl rfl) ?_)
    intro m6 id2 gr
    obtain ⟨z1, z2, z3⟩ := bent_app is a code (k + 404) m m5 m6 _ st ls b (t, 5) j m1.length id2 kd his b5 (s5.mono (by omega)) (by omega) (by omega) (by omega) x0 x3 gr
    obtain ⟨m7, hm7⟩ : ∃ m7 : Mem, m7 = m6.set m1.length ⟨[.int .i64 st, .slice (some ⟨id2, 0, none⟩) (ls.length + 1) (ls.length + 1), .string b], 27, 3, 1⟩ := ⟨_, rfl⟩
    obtain ⟨c1, c2, c3, c4, c5, c6⟩ := z3 m7 hm7
    obtain ⟨e1', e2'⟩ := fin_bk 60 is a code (k + 500) m m7 _ st (ls ++ [(t, 5)]) b id2 his ⟨by have := hsm.1; simp; omega, fun p hp => by
      rcases List.mem_append.1 hp with hp | hp
      · exact hsm.2.1 p hp
      · simp at hp; subst hp; exact Nat.le_trans ht9 (by decide), hsm.2.2⟩ c1 (c2.mono (by omega)) c3 c4 c6
    simp only [List.length_append, List.length_singleton] at e1' e2'
    simp -dsimp -implicitDefEqProofs [hm2', e0, e1, z1, withO_of z2, hm7.symm, withO_of c5, withO_of c4, withO_of e1']
    exact ⟨_, _, GC.refl _ _ _, e2'⟩
  have e1 : (x == 1) = false := by simpa using h1
  by_cases h2 : x = 2
  · have e2 : (x == 2) = true := by simpa using h2
    have y1 : ¬ m3.length = m1.length := by omega
    obtain ⟨v4, m4, hc4, t, rfl, b4, s4, hl4⟩ := among_c is a code (k + 402) (by omega) [-1, 0, 1, 100, 101] (some ⟨m3.length, 0, none⟩) (m3 ++ [⟨[.int .i64 (-1), .int .i64 0, .int .i64 1, .int .i64 100, .int .i64 101], 2, 1, 1⟩, hole]) ((s3.app _).mono (by omega)) (by decide)
      (RdI.of_get (o := ⟨[.int .i64 (-1), .int .i64 0, .int .i64 1, .int .i64 100, .int .i64 101], 2, 1, 1⟩) (by simp) (by simp) rfl rfl) (fun x h => by injection h with h; subst h; simp only; omega)
    have w0 := b4.get _ _ (show m.length ≠ is by omega) (get_old r0)
    have w3 := b4.get _ _ (show m1.length ≠ is by omega) (get_old r3)
    have wo := b4.get _ _ (show j ≠ is by omega) (get_old ro)
    have wh : m4[m3.length + 1]? = some hole := b4.get (m3.length + 1) hole (by omega) (by simp)
    simp -dsimp -implicitDefEqProofs [hm2', e0, e1, e2, withO_of r3, fun l => withO_of (get_old (l := l) r3), y1]
    refine regF [[], [], [], [1], [1], [], [1], [], [], []] 2 (by kernel_rfl) (by kernel_rfl) ?_
    simp -dsimp -implicitDefEqProofs [hm2', e0, e1, e2, withO_of r3, fun l => withO_of (get_old (l := l) r3), y1]
    refine callsTo Tryz.cal31 hc4 ?_
    simp -dsimp -implicitDefEqProofs [hm2', e0, e1, e2, withO_of r3, fun l => withO_of (get_old (l := l) r3), y1, madeL, withO_of w3, withO_of wh, hole]
    refine need_intro (w3.trans (get_old r3).symm) ?_
    refine need_intro wh (need_intro (by omega) ?_)
    obtain ⟨m5, hm5⟩ : ∃ m5 : Mem, m5 = m4.set (m3.length + 1) ⟨[.string ⟨#[70, 66]⟩, .int .i64 t], 54, 2, 1⟩ := ⟨_, rfl⟩
    rw [← hm5]
    have b45 : But (m3.length + 1) m4 m5 := by rw [hm5]; exact ⟨by simp, fun i o' h1 h2 => by rw [List.getElem?_set_ne (Ne.symm h1)]; exact h2⟩
    have x0 := b45.get _ _ (by omega) w0
    have x3 := b45.get _ _ (by omega) w3
    have xo := b45.get _ _ (by omega) wo
    have xn : m5[m3.length + 1]? = some ⟨[.string ⟨#[70, 66]⟩, .int .i64 t], 54, 2, 1⟩ := by rw [hm5]; exact get_set wh _
    have s5 := s4.keep b45 (by omega) (fun q x hx => by have := h.off q x hx; omega)
    have b5 : But is m m5 := ⟨by have := b45.len; have := b4.len; have := b23.len; simp at *; omega, fun i o' h1 h2 => b45.get i o' (by have := lt_of_get h2; omega) (b4.get i o' h1 (get_old (b23.get i o' h1 h2)))⟩
    refine .inl (appTo_grow (n := ls.length) (c := 1) (e := 54) (sz := 2) (by_ := 24) (z := .agg #[.string ⟨#[]⟩, .int .i64 0]) (by kernel_rfl) (by kernel_rfl) ⟨by decide, rfl⟩ xo ⟨ho1, ho2⟩ ⟨rfl, rfl⟩ (by simp [flatten_length (sz := 2) (rows := ls.map vl) (by intro r hr; obtain ⟨x, _, rfl⟩ := List.mem_map.1 hr; rfl)]) (by have := hsm.1; omega) (Src.obj (o := ⟨[.string ⟨#[70, 66]⟩, .int .i64 t], 54, 2, 1⟩) xn (by simp) rfl rfl) ?_)
    intro m6 id2 gr
    obtain ⟨z1, z2, z3⟩ := bent_app is a code (k + 404) m m5 m6 _ st ls b (⟨#[70, 66]⟩, t) j m1.length id2 kd his b5 (s5.mono (by omega)) (by omega) (by omega) (by omega) x0 x3 gr
    obtain ⟨m7, hm7⟩ : ∃ m7 : Mem, m7 = m6.set m1.length ⟨[.int .i64 st, .slice (some ⟨id2, 0, none⟩) (ls.length + 1) (ls.length + 1), .string b], 27, 3, 1⟩ := ⟨_, rfl⟩
    obtain ⟨c1, c2, c3, c4, c5, c6⟩ := z3 m7 hm7
    obtain ⟨e1', e2'⟩ := fin_bk 60 is a code (k + 500) m m7 _ st (ls ++ [(⟨#[70, 66]⟩, t)]) b id2 his ⟨by have := hsm.1; simp; omega, fun p hp => by
      rcases List.mem_append.1 hp with hp | hp
      · exact hsm.2.1 p hp
      · simp at hp; subst hp; show (⟨#[70, 66]⟩ : ByteArray).size ≤ 20; decide, hsm.2.2⟩ c1 (c2.mono (by omega)) c3 c4 c6
    simp only [List.length_append, List.length_singleton] at e1' e2'
    simp -dsimp -implicitDefEqProofs [hm2', e0, e1, e2, z1, withO_of z2, hm7.symm, withO_of c5, withO_of c4, withO_of e1']
    exact ⟨_, _, GC.refl _ _ _, e2'⟩
  have e2 : (x == 2) = false := by simpa using h2
  by_cases h3 : x = 3
  · have e3 : (x == 3) = true := by simpa using h3
    obtain ⟨v4, m4, hc4, t, htT, rfl, b4, s4, hl4⟩ := textLit_c is a code (k + 402) (by omega) [⟨#[66]⟩, ⟨#[98, 98, 98, 98, 98, 98, 98, 98, 98]⟩, ⟨#[98, 102]⟩] 3 rfl m3 (s3.mono (by omega)) (by decide)
    have ht9 : t.size ≤ 9 := by
      simp only [List.mem_cons, List.not_mem_nil, or_false] at htT
      rcases htT with rfl | rfl | rfl <;> decide
    have w0 := b4.get _ _ (by omega) r0
    have w3 := b4.get _ _ (by omega) r3
    have wo := b4.get _ _ (by omega) ro
    obtain ⟨m5, hm5⟩ : ∃ m5 : Mem, m5 = m4.set m1.length ⟨[.int .i64 st, .slice (some ⟨j, 0, none⟩) ls.length ls.length, .string t], 27, 3, 1⟩ := ⟨_, rfl⟩
    have x0 : m5[m.length]? = some ⟨[.int .i64 0, .slice none 0 0, .string ⟨#[]⟩], 27, 3, 1⟩ := by rw [hm5, List.getElem?_set_ne (by omega)]; exact w0
    have x3 : m5[m1.length]? = some ⟨[.int .i64 st, .slice (some ⟨j, 0, none⟩) ls.length ls.length, .string t], 27, 3, 1⟩ := by rw [hm5]; exact get_set w3 _
    have xo : m5[j]? = some ⟨(ls.map vl).flatten, 54, 2, kd⟩ := by rw [hm5, List.getElem?_set_ne (by omega)]; exact wo
    have b45 : But m1.length m4 m5 := by rw [hm5]; exact ⟨by simp, fun i o' h1 h2 => by rw [List.getElem?_set_ne (Ne.symm h1)]; exact h2⟩
    have s5 := s4.keep b45 (by omega) (fun q x hx => by have := h.off q x hx; omega)
    have b5 : But is m m5 := ⟨by have := b45.len; have := (b23.trans b4).len; omega, fun i o' h1 h2 => b45.get i o' (by have := lt_of_get h2; omega) ((b23.trans b4).get i o' h1 h2)⟩
    obtain ⟨e1', e2'⟩ := fin_bk 60 is a code (k + 500) m m5 _ st ls t j his ⟨by have := hsm.1; omega, hsm.2.1, by omega⟩ b5 (s5.mono (by omega)) (by omega) x0 ⟨kd, xo, ho1, ho2⟩
    simp -dsimp -implicitDefEqProofs [hm2', e0, e1, e2, e3, withO_of r3]
    refine callsTo Tryz.cal42 hc4 ?_
    simp -dsimp -implicitDefEqProofs [hm2', e0, e1, e2, e3, withO_of r3]
    simp -dsimp -implicitDefEqProofs [hm2', e0, e1, e2, e3, withO_of r3, withO_of w3, hm5.symm, withO_of x3, withO_of x0, withO_of e1']
    exact ⟨_, _, GC.refl _ _ _, e2'⟩
  have e3 : (x == 3) = false := by simpa using h3
  by_cases h4 : x = 4
  · have e4 : (x == 4) = true := by simpa using h4
    obtain ⟨m4, hm4⟩ : ∃ m4 : Mem, m4 = (m3 ++ [(⟨[], 54, 2, 1⟩ : AObj)]).set m1.length ⟨[.int .i64 st, .slice (some ⟨m3.length, 0, none⟩) 0 0, .string b], 27, 3, 1⟩ := ⟨_, rfl⟩
    have b34 : But m1.length (m3 ++ [⟨[], 54, 2, 1⟩]) m4 := by rw [hm4]; exact ⟨by simp, fun i o' h1 h2 => by rw [List.getElem?_set_ne (Ne.symm h1)]; exact h2⟩
    have x0 := b34.get _ _ (show m.length ≠ m1.length by omega) (get_old r0)
    have x3 : m4[m1.length]? = some ⟨[.int .i64 st, .slice (some ⟨m3.length, 0, none⟩) 0 0, .string b], 27, 3, 1⟩ := by rw [hm4]; exact get_set (get_old r3) _
    have xn : m4[m3.length]? = some ⟨[], 54, 2, 1⟩ := b34.get m3.length _ (by omega) (by simp)
    have s4 := (s3.app [⟨[], 54, 2, 1⟩]).keep b34 (by omega) (fun q x hx => by have := h.off q x hx; omega)
    have b4 : But is m m4 := ⟨by have := b34.len; have := b23.len; simp at *; omega, fun i o' h1 h2 => b34.get i o' (by have := lt_of_get h2; omega) (get_old (b23.get i o' h1 h2))⟩
    obtain ⟨v5, m5, hc5, y, rfl, hy, b5, s5, hl5⟩ := pick_c is a code (k + 402) 2 (by omega) m4 (s4.mono (by omega))
    simp at hy
    obtain ⟨N, hN⟩ : ∃ N : Nat, (N : Int) = 40 + y := ⟨(40 + y).toNat, by omega⟩
    have hwN : IntKind.i64.wrap (40 + y) = (N : Int) := by rw [hN]; exact wrapI (by omega) (by omega)
    have z0 := b5.get _ _ (by omega) x0
    have z3 := b5.get _ _ (by omega) x3
    have zn := b5.get _ _ (show m3.length ≠ is by omega) xn
    simp -dsimp -implicitDefEqProofs [hm2', e0, e1, e2, e3, e4, withO_of r3, fun l => withO_of (get_old (l := l) r3), hm4.symm, hwN]
    refine callsTo Tryz.cal30 hc5 ?_
    simp -dsimp -implicitDefEqProofs [hm2', e0, e1, e2, e3, e4, withO_of r3, fun l => withO_of (get_old (l := l) r3), hm4.symm, hwN]
    refine loopN N (fun j' σ m' => ∃ (ls : List LyT) (jd : Nat), (ls.length = j' ∧ (∀ p ∈ ls, p.1.size ≤ 20)) ∧ (But is m m' ∧ SrcA is a code (k + 404) m' ∧ m.length + 1 ≤ jd ∧ jd ≠ m1.length) ∧
        (m'[m.length]? = some ⟨[.int .i64 0, .slice none 0 0, .string ⟨#[]⟩], 27, 3, 1⟩ ∧ m'[m1.length]? = some ⟨[.int .i64 st, .slice (some ⟨jd, 0, none⟩) ls.length ls.length, .string b], 27, 3, 1⟩ ∧ LyObj m' jd ls) ∧
        σ 0 = some (.pointer (some ⟨is, 0, none⟩)) ∧ σ 2 = some (.pointer (some ⟨m.length, 0, none⟩)) ∧ σ 3 = some (.pointer (some ⟨m1.length, 0, none⟩)) ∧ σ 4 = some (.int .i64 ((N : Int) - j')))
      ⟨[], m3.length, ⟨rfl, by simp⟩, ⟨b4.trans b5, s5.mono (by omega), by omega, by omega⟩, ⟨z0, z3, ⟨1, zn, by decide, by decide⟩⟩, by simp, by simp, by simp, by simp [hwN]⟩ ?_
    rintro j' σ m' hj' ⟨ls, jd, ⟨rfl, hls⟩, ⟨hbut, hsrc, hjd, hne⟩, ⟨o0, o3, hL⟩, s0, s2', s3', s4'⟩
    by_cases hlt : ls.length < N
    · obtain ⟨kd, ho, ho1, ho2⟩ := hL
      have hw : IntKind.i64.wrap ((N : Int) - (ls.length : Int) - 1) = (N : Int) - ((ls.length : Int) + 1) := by rw [wrapI (by omega) (by omega)]; omega
      simp -dsimp -implicitDefEqProofs [s0, s2', s3', s4', hlt, withO_of o3, fun l => withO_of (get_old (l := l) o3), madeL, hw]
      refine appTo_grow (n := ls.length) (c := 1) (e := 54) (sz := 2) (by_ := 24) (z := .agg #[.string ⟨#[]⟩, .int .i64 0]) (by kernel_rfl) (by kernel_rfl) ⟨by decide, rfl⟩ (get_old ho) ⟨ho1, ho2⟩ ⟨rfl, rfl⟩ (by simp [flatten_length (sz := 2) (rows := ls.map vl) (by intro r hr; obtain ⟨x, _, rfl⟩ := List.mem_map.1 hr; rfl)]) (by omega) (Src.obj (o := ⟨[.string ⟨#[70, 66]⟩, .int .i64 ((N : Int) - ls.length)], 54, 2, 1⟩) (by simp) (by simp) rfl rfl) ?_
      intro m6 id2 gr
      obtain ⟨z1, z2, z3⟩ := bent_app is a code (k + 404) m _ m6 _ st ls b (⟨#[70, 66]⟩, (N : Int) - ls.length) jd m1.length id2 kd his (hbut.trans (But.app _ _ _)) (hsrc.app _) hjd (by omega) hne (get_old o0) (get_old o3) gr
      obtain ⟨c1, c2, c3, c4, c5, c6⟩ := z3 _ rfl
      simp -dsimp -implicitDefEqProofs [s0, s2', s3', s4', hlt, withO_of z2, hw]
      refine next_ hlt ⟨ls ++ [(⟨#[70, 66]⟩, (N : Int) - ls.length)], id2, ⟨by simp, fun p hp => ?_⟩, ⟨c1, c2, c3, z1⟩, ⟨c4, by simpa using c5, c6⟩, by simp [s0], by simp [s2'], by simp [s3'], by simp [hw]⟩
      rcases List.mem_append.1 hp with hp | hp
      · exact hls p hp
      · simp at hp; subst hp; show (⟨#[70, 66]⟩ : ByteArray).size ≤ 20; decide
    · obtain ⟨e1', e2'⟩ := fin_bk 60 is a code (k + 500) m m' _ st ls b jd his ⟨by omega, hls, hsm.2.2⟩ hbut (hsrc.mono (by omega)) hjd o0 hL
      simp -dsimp -implicitDefEqProofs [s0, s2', s3', s4', hlt, withO_of o3, withO_of o0, withO_of e1']
      exact ⟨_, _, GC.refl _ _ _, e2'⟩
  have e4 : (x == 4) = false := by simpa using h4
  obtain ⟨e1', e2'⟩ := fin_bk 60 is a code (k + 500) m m3 _ st ls b j his ⟨by have := hsm.1; omega, hsm.2.1, hsm.2.2⟩ b23 (s3.mono (by omega)) (by omega) r0 ⟨kd, ro, ho1, ho2⟩
  simp -dsimp -implicitDefEqProofs [hm2', e0, e1, e2, e3, e4, withO_of r3, withO_of r0, withO_of e1']
  exact ⟨_, _, GC.refl _ _ _, e2'⟩
end Go.Proofs.YtmbijgnmbapchaaGreatDoor
namespace Go.Proofs.YtmbijgnmbapchaaGreatDoor
open Go.Abs Go.RowKit

def DrawnBX (m : Mem) (v : Value) (m' : Mem) : Prop :=
  ∃ st ls b j, SmallB 60 ls b ∧ v = .agg (bkC st (some ⟨j, 0, none⟩) ls.length b).toArray ∧ m <+: m' ∧ m.length ≤ j ∧ LyObj m' j ls
def DrawnBN (p : Int → Prop) (m : Mem) (v : Value) (m' : Mem) : Prop :=
  ∃ st ls b j x, (SmallB 60 ls b ∧ p x) ∧ v = .tuple #[.agg (bkC st (some ⟨j, 0, none⟩) ls.length b).toArray, .int .i64 x] ∧ m <+: m' ∧ m.length ≤ j ∧ LyObj m' j ls
end Go.Proofs.YtmbijgnmbapchaaGreatDoor
namespace Go.Proofs.YtmbijgnmbapchaaGreatDoor
open Go.Abs Go.RowKit

def OwnQ (st : Int) (ls : List LyT) (b : ByteArray) (m : Mem) (v : Value) (m' : Mem) : Prop :=
  ∃ j, v = .agg (bkC st (some ⟨j, 0, none⟩) ls.length b).toArray ∧ m <+: m' ∧ m.length ≤ j ∧ LyObj m' j ls
theorem l17Own_c (st : Int) (ls : List LyT) (b : ByteArray) (xi kd j : Nat) (m : Mem) (hx : m[xi]? = some ⟨[.int .i64 st, .slice (some ⟨j, 0, none⟩) ls.length ls.length, .string b], 27, 3, kd⟩) (hk : kd ≤ 2) (hL : LyObj m j ls) (hn : ls.length ≤ 1000) :
    ∃ v m', ACalls Tryz.prog 29 [.pointer (some ⟨xi, 0, none⟩)] m v m' ∧ OwnQ st ls b m v m' := by
  obtain ⟨m0, hm0⟩ : ∃ m0 : Mem, m0 = m ++ [⟨[.int .i64 0, .slice none 0 0, .string ⟨#[]⟩], 27, 3, 1⟩] := ⟨_, rfl⟩
  have hm0' := hm0.symm
  have hl0 : m0.length = m.length + 1 := by rw [hm0]; simp
  have hx0 : m0[xi]? = some ⟨[.int .i64 st, .slice (some ⟨j, 0, none⟩) ls.length ls.length, .string b], 27, 3, kd⟩ := by rw [hm0]; exact get_old hx
  have t0 : m0[m.length]? = some ⟨[.int .i64 0, .slice none 0 0, .string ⟨#[]⟩], 27, 3, 1⟩ := by rw [hm0]; simp
  have hp0 : m <+: m0 := by rw [hm0]; exact ⟨_, rfl⟩
  refine ecalls_of_vcF [1] Tryz.func29 rfl Tryz.fol (by kernel_rfl) ?_
  simp only [Tryz.f29]
  simp -dsimp -implicitDefEqProofs [hm0', withO_of hx0, fun l => withO_of (get_old (l := l) hx0), hk]
  refine regF [[], [], [], [], [3], [], [], [], [4], [3], [], [], [], [4, 9], [], []] 1 (by kernel_rfl) (by kernel_rfl) ?_
  simp -dsimp -implicitDefEqProofs [hm0', withO_of hx0, fun l => withO_of (get_old (l := l) hx0), hk]
  have hxl := lt_of_get hx
  obtain ⟨kdj, ho, ho1, ho2⟩ := hL
  have hol := lt_of_get ho
  obtain ⟨m1, hm1⟩ : ∃ m1 : Mem, m1 = m0 ++ [⟨[], 54, 2, 1⟩] := ⟨_, rfl⟩
  have x1 : m1[xi]? = some ⟨[.int .i64 st, .slice (some ⟨j, 0, none⟩) ls.length ls.length, .string b], 27, 3, kd⟩ := by rw [hm1]; exact get_old hx0
  have o1 : m1[j]? = some ⟨(ls.map vl).flatten, 54, 2, kdj⟩ := by rw [hm1, hm0]; exact get_old (get_old ho)
  have n1 : m1[m0.length]? = some ⟨[], 54, 2, 1⟩ := by rw [hm1]; simp
  have c1 : m1[m.length]? = some ⟨[.int .i64 0, .slice none 0 0, .string ⟨#[]⟩], 27, 3, 1⟩ := by rw [hm1]; exact get_old t0
  have hl1 : m1.length = m0.length + 1 := by rw [hm1]; simp
  rw [← hm1]
  refine need_intro (by omega) (need_intro (by omega) ?_)
  have hfl : (ls.map vl).flatten.length = ls.length * 2 := by simp [flatten_length (sz := 2) (rows := ls.map vl) (by intro r hr; obtain ⟨x, _, rfl⟩ := List.mem_map.1 hr; rfl)]
  have fin : ∀ (m2 : Mem) (j2 kd2 : Nat), m1 <+: m2 ∨ (∀ (i : Nat) o, i ≠ m0.length → m1[i]? = some o → m2[i]? = some o) → m0.length ≤ j2 → m2[j2]? = some ⟨(ls.map vl).flatten, 54, 2, kd2⟩ → 1 ≤ kd2 ∧ kd2 ≤ 2 →
      m2[xi]? = m1[xi]? ∧ m2[m.length]? = some ⟨[.int .i64 0, .slice none 0 0, .string ⟨#[]⟩], 27, 3, 1⟩ ∧ ∀ mF, mF = m2.set m.length ⟨[.int .i64 st, .slice (some ⟨j2, 0, none⟩) ls.length ls.length, .string b], 27, 3, 1⟩ →
        mF[m.length]? = some ⟨[.int .i64 st, .slice (some ⟨j2, 0, none⟩) ls.length ls.length, .string b], 27, 3, 1⟩ ∧ OwnQ st ls b m (.agg #[.int .i64 st, .slice (some ⟨j2, 0, none⟩) ls.length ls.length, .string b]) mF := by
    intro m2 j2 kd2 hk2 hj2 h2 hkk
    have keep : ∀ (i : Nat) o, i ≠ m0.length → m1[i]? = some o → m2[i]? = some o := by
      rcases hk2 with hp | hp
      · exact fun i o _ h => prefix_get hp h
      · exact hp
    have c2 := keep _ _ (by omega) c1
    refine ⟨by rw [keep _ _ (by omega) x1, x1], c2, fun mF hF => ?_⟩
    subst hF
    refine ⟨get_set c2 _, j2, by simp [bkC], pre_of_get fun i o hi => ?_, by omega, kd2, by rw [List.getElem?_set_ne (by omega)]; exact h2, hkk.1, hkk.2⟩
    have := lt_of_get hi
    rw [List.getElem?_set_ne (by omega)]
    exact keep _ _ (by omega) (by rw [hm1]; exact get_old (prefix_get hp0 hi))
  have hm1' := hm1.symm
  by_cases hl : ls = []
  · subst hl
    have hset := set_self n1
    obtain ⟨f1, f2, f3⟩ := fin m1 m0.length 1 (.inl (pre_refl _)) (Nat.le_refl _) n1 (by omega)
    obtain ⟨mF, hF⟩ : ∃ mF : Mem, mF = m1.set m.length ⟨[.int .i64 st, .slice (some ⟨m0.length, 0, none⟩) 0 0, .string b], 27, 3, 1⟩ := ⟨_, rfl⟩
    obtain ⟨f4, f5⟩ := f3 mF hF
    refine .inl (appTo_in (n := 0) (c := 0) (e := 54) (sz := 2) (by_ := 24) (z := .agg #[.string ⟨#[]⟩, .int .i64 0]) (by kernel_rfl) (by kernel_rfl) ⟨by decide, rfl⟩ n1 rfl ⟨rfl, rfl⟩ (by simp) (by simp) (Src.nil _ _ _) ?_)
    have e0 : (⟨Abs.splice [] (0 * 2) [], 54, 2, 1⟩ : AObj) = ⟨[], 54, 2, 1⟩ := by rfl
    simp only [List.length_nil] at f4
    simp -dsimp -implicitDefEqProofs [hm0', withO_of x1, hk, hm1', hset, hF.symm, withO_of f2, withO_of c1, withO_of f4]
    exact ⟨by omega, _, _, GC.refl _ _ _, f5⟩
  · refine .inl (appTo_grow (n := 0) (c := ls.length) (e := 54) (sz := 2) (by_ := 24) (z := .agg #[.string ⟨#[]⟩, .int .i64 0]) (by kernel_rfl) (by kernel_rfl) ⟨by decide, rfl⟩ n1 (by simp) ⟨rfl, rfl⟩ (by simp) (by omega) (Src.obj o1 ho2 rfl (by simpa using hfl.symm)) ?_)
    intro m2 id2 gr
    have hat := gr.at_
    obtain ⟨f1, f2, f3⟩ := fin m2 id2 2 (.inr fun i o h1 h2 => gr.old i o h1 h2) (by omega) (by rw [gr.new]; simp) (by omega)
    obtain ⟨mF, hF⟩ : ∃ mF : Mem, mF = m2.set m.length ⟨[.int .i64 st, .slice (some ⟨id2, 0, none⟩) ls.length ls.length, .string b], 27, 3, 1⟩ := ⟨_, rfl⟩
    obtain ⟨f4, f5⟩ := f3 mF hF
    have g1 := f1.trans x1
    simp -dsimp -implicitDefEqProofs [hm0', withO_of g1, hk, hm1', f1, hF.symm, withO_of f2, withO_of f4]
    exact ⟨by omega, _, _, GC.refl _ _ _, f5⟩
def DrawnTwo (m : Mem) (v : Value) (m' : Mem) : Prop :=
  ∃ st ls b j st' ls' b' j', (ls.length ≤ 100 ∧ ls'.length ≤ 100) ∧ v = .tuple #[.agg (bkC st (some ⟨j, 0, none⟩) ls.length b).toArray, .agg (bkC st' (some ⟨j', 0, none⟩) ls'.length b').toArray] ∧ m <+: m' ∧ LyObj m' j ls ∧ LyObj m' j' ls'
theorem fin_two (m mX : Mem) (i5 i6 jl jc : Nat) (st st' : Int) (ls ls' : List LyT) (b b' : ByteArray) (hp : m <+: mX) (h0 : mX[m.length]? = some ⟨[.int .i64 0, .slice none 0 0, .string ⟨#[]⟩], 27, 3, 1⟩) (h1 : mX[m.length + 1]? = some ⟨[.int .i64 0, .slice none 0 0, .string ⟨#[]⟩], 27, 3, 1⟩) (h5 : mX[i5]? = some ⟨[.int .i64 st, .slice (some ⟨jl, 0, none⟩) ls.length ls.length, .string b], 27, 3, 1⟩) (h6 : mX[i6]? = some ⟨[.int .i64 st', .slice (some ⟨jc, 0, none⟩) ls'.length ls'.length, .string b'], 27, 3, 1⟩)
    (hL : LyObj mX jl ls) (hC : LyObj mX jc ls') (hb : m.length + 2 ≤ i5 ∧ m.length + 2 ≤ i6 ∧ m.length + 2 ≤ jl ∧ m.length + 2 ≤ jc) (hn : ls.length ≤ 100 ∧ ls'.length ≤ 100) :
    ∃ mA mF : Mem, mX.set m.length ⟨[.int .i64 st, .slice (some ⟨jl, 0, none⟩) ls.length ls.length, .string b], 27, 3, 1⟩ = mA ∧ mA.set (m.length + 1) ⟨[.int .i64 st', .slice (some ⟨jc, 0, none⟩) ls'.length ls'.length, .string b'], 27, 3, 1⟩ = mF ∧ mA[m.length + 1]? = some ⟨[.int .i64 0, .slice none 0 0, .string ⟨#[]⟩], 27, 3, 1⟩ ∧ mF[m.length]? = some ⟨[.int .i64 st, .slice (some ⟨jl, 0, none⟩) ls.length ls.length, .string b], 27, 3, 1⟩ ∧ mF[m.length + 1]? = some ⟨[.int .i64 st', .slice (some ⟨jc, 0, none⟩) ls'.length ls'.length, .string b'], 27, 3, 1⟩ ∧
      DrawnTwo m (.tuple #[.agg #[.int .i64 st, .slice (some ⟨jl, 0, none⟩) ls.length ls.length, .string b], .agg #[.int .i64 st', .slice (some ⟨jc, 0, none⟩) ls'.length ls'.length, .string b']]) mF := by
  refine ⟨_, _, rfl, rfl, ?_, ?_, ?_, ?_⟩
  · rw [List.getElem?_set_ne (by omega)]; exact h1
  · rw [List.getElem?_set_ne (by omega)]; exact get_set h0 _
  · refine get_set (o := ⟨[.int .i64 0, .slice none 0 0, .string ⟨#[]⟩], 27, 3, 1⟩) ?_ _
    rw [List.getElem?_set_ne (by omega)]; exact h1
  · obtain ⟨k1, q1, q2, q3⟩ := hL
    obtain ⟨k2, p1, p2, p3⟩ := hC
    refine ⟨st, ls, b, jl, st', ls', b', jc, hn, by simp [bkC], pre_set (pre_set hp (Nat.le_refl _) _) (by omega) _, ⟨k1, ?_, q2, q3⟩, ⟨k2, ?_, p2, p3⟩⟩
    · rw [List.getElem?_set_ne (by omega), List.getElem?_set_ne (by omega)]; exact q1
    · rw [List.getElem?_set_ne (by omega), List.getElem?_set_ne (by omega)]; exact p1
set_option maxRecDepth 20000 in
theorem drawSame_c (a : Option Addr) (code : List Int) (m : Mem) (h : RdB m a code) (hl : code.length ≤ 1048576) :
    ∃ v m', ACalls Tryz.prog 10 [.slice a code.length code.length] m v m' ∧ DrawnTwo m v m' := by
  obtain ⟨mZ, hmZ⟩ : ∃ mZ : Mem, mZ = m ++ [⟨[.int .i64 0, .slice none 0 0, .string ⟨#[]⟩], 27, 3, 1⟩, ⟨[.int .i64 0, .slice none 0 0, .string ⟨#[]⟩], 27, 3, 1⟩] := ⟨_, rfl⟩
  have hmZ' := hmZ.symm
  have hz : RdB mZ a code := by rw [hmZ]; exact ⟨h.1.ext _, h.2⟩
  have z0 : mZ[m.length]? = some ⟨[.int .i64 0, .slice none 0 0, .string ⟨#[]⟩], 27, 3, 1⟩ := by rw [hmZ]; simp
  have z1 : mZ[m.length + 1]? = some ⟨[.int .i64 0, .slice none 0 0, .string ⟨#[]⟩], 27, 3, 1⟩ := by rw [hmZ]; simp
  have hlZ : mZ.length = m.length + 2 := by rw [hmZ]; simp
  have hpZ : m <+: mZ := by rw [hmZ]; exact ⟨_, rfl⟩
  obtain ⟨m0, hm0⟩ : ∃ m0 : Mem, m0 = mZ ++ [⟨[.slice a code.length code.length, .int .i64 0, .int .u64 0], 70, 3, 1⟩] := ⟨_, rfl⟩
  have hp0 : mZ <+: m0 := by rw [hm0]; exact ⟨_, rfl⟩
  have hs0 : SrcA mZ.length a code 0 m0 := by rw [hm0]; exact srcNew hz hl
  have hc0 := l00From_c a code mZ
  rw [← hm0] at hc0
  have hl0 : m0.length = m.length + 3 := by rw [hm0]; simp [hlZ]
  obtain ⟨v1, m1, hc1, st, ls, b, jl, hsm, rfl, b1, s1, hj, hLl⟩ := l17Draw_c mZ.length a code 0 (by omega) m0 hs0
  obtain ⟨M1, hM1⟩ : ∃ M1 : Mem, M1 = m1 ++ [⟨[.int .i64 st, .slice (some ⟨jl, 0, none⟩) ls.length ls.length, .string b], 27, 3, 1⟩] := ⟨_, rfl⟩
  have hM1' := hM1.symm
  have p1 : m1 <+: M1 := by rw [hM1]; exact ⟨_, rfl⟩
  have t5 : M1[m1.length]? = some ⟨[.int .i64 st, .slice (some ⟨jl, 0, none⟩) ls.length ls.length, .string b], 27, 3, 1⟩ := by rw [hM1]; simp
  have hLl1 : LyObj M1 jl ls := by obtain ⟨kd, q1, q2, q3⟩ := hLl; exact ⟨kd, prefix_get p1 q1, q2, q3⟩
  obtain ⟨v2, m2, hc2, jc, rfl, p2, hjc, hLc⟩ := l17Own_c st ls b m1.length 1 jl M1 t5 (by decide) hLl1 (by have := hsm.1; omega)
  obtain ⟨M2, hM2⟩ : ∃ M2 : Mem, M2 = m2 ++ [⟨[.int .i64 st, .slice (some ⟨jc, 0, none⟩) ls.length ls.length, .string b], 27, 3, 1⟩] := ⟨_, rfl⟩
  have hM2' := hM2.symm
  have p3 : m2 <+: M2 := by rw [hM2]; exact ⟨_, rfl⟩
  have t6 : M2[m2.length]? = some ⟨[.int .i64 st, .slice (some ⟨jc, 0, none⟩) ls.length ls.length, .string b], 27, 3, 1⟩ := by rw [hM2]; simp
  have hl1 := b1.len
  have hlM1 : M1.length = m1.length + 1 := by rw [hM1]; simp
  have hl2 := p2.length_le
  have hlM2 : M2.length = m2.length + 1 := by rw [hM2]; simp
  have p12 : M1 <+: M2 := p2.trans p3
  have sM2 : SrcA mZ.length a code 400 M2 := by
    have q : But (mZ.length + 1000000000000) m1 M2 := ⟨(p1.trans p12).length_le, fun i o _ h2 => prefix_get (p1.trans p12) h2⟩
    exact (s1.mono (by omega)).keep q (by omega) (fun q x hx => by have := hs0.off q x hx; omega)
  obtain ⟨v3, m3, hc3, x, rfl, hx, b3, s3, hl3⟩ := pick_c mZ.length a code 400 5 (by omega) M2 sM2
  have bZ : But mZ.length m0 m3 := ⟨by omega, fun i o h1 h2 => b3.get i o h1 (prefix_get (p1.trans p12) (b1.get i o h1 h2))⟩
  have pm : m <+: m3 := hpZ.trans (bZ.pre hp0 (Nat.le_refl _))
  have w0 := bZ.get _ _ (by omega) (prefix_get hp0 z0)
  have w1 := bZ.get _ _ (by omega) (prefix_get hp0 z1)
  have w5 := b3.get _ _ (by omega) (prefix_get p12 t5)
  have w6 := b3.get _ _ (by omega) t6
  obtain ⟨kl, ql, ql1, ql2⟩ := hLl1
  obtain ⟨kc, qc, qc1, qc2⟩ := hLc
  have wl := b3.get _ _ (by omega) (prefix_get p12 ql)
  have wc := b3.get _ _ (by omega) (prefix_get p3 qc)
  have hjcl := lt_of_get qc
  have hjll := lt_of_get ql
  have hLX : LyObj m3 jl ls := ⟨kl, wl, ql1, ql2⟩
  have hn100 : ls.length ≤ 100 := by have := hsm.1; omega
  simp only [bkC] at hc1 hc2
  refine ecalls_of_vcF [14] Tryz.func10 rfl Tryz.fol (by kernel_rfl) ?_
  simp only [Tryz.f10]
  simp -dsimp -implicitDefEqProofs [hmZ', hM1', hM2']
  refine callsTo Tryz.cal20 hc0 ?_
  simp -dsimp -implicitDefEqProofs [hmZ', hM1', hM2']
  refine callsTo Tryz.cal28 hc1 ?_
  simp -dsimp -implicitDefEqProofs [hmZ', hM1', hM2']
  refine callsTo Tryz.cal29 hc2 ?_
  simp -dsimp -implicitDefEqProofs [hmZ', hM1', hM2']
  refine callsTo Tryz.cal30 hc3 ?_
  simp -dsimp -implicitDefEqProofs [hmZ', hM1', hM2']
  have hcl : jc ≠ m2.length ∧ jl ≠ m2.length := by omega
  have upd6 : ∀ (oN : AObj) (m4 : Mem), m3.set m2.length oN = m4 → m <+: m4 ∧ m4[m.length]? = some ⟨[.int .i64 0, .slice none 0 0, .string ⟨#[]⟩], 27, 3, 1⟩ ∧ m4[m.length + 1]? = some ⟨[.int .i64 0, .slice none 0 0, .string ⟨#[]⟩], 27, 3, 1⟩ ∧ m4[m1.length]? = some ⟨[.int .i64 st, .slice (some ⟨jl, 0, none⟩) ls.length ls.length, .string b], 27, 3, 1⟩ ∧ m4[m2.length]? = some oN ∧ LyObj m4 jl ls ∧ LyObj m4 jc ls := by
    intro oN m4 h4
    subst h4
    refine ⟨pre_set pm (by omega) _, ?_, ?_, ?_, get_set w6 _, ⟨kl, ?_, ql1, ql2⟩, ⟨kc, ?_, qc1, qc2⟩⟩
    · rw [List.getElem?_set_ne (by omega)]; exact w0
    · rw [List.getElem?_set_ne (by omega)]; exact w1
    · rw [List.getElem?_set_ne (by omega)]; exact w5
    · rw [List.getElem?_set_ne (by omega)]; exact wl
    · rw [List.getElem?_set_ne (by omega)]; exact wc
  have hne6 : ¬ m.length = m2.length := by omega
  by_cases h0 : x = 0
  · have e0 : (x == 0) = true := by simpa using h0
    obtain ⟨su, hsu⟩ : ∃ su, IntKind.i64.wrap (st + 1) = su := ⟨_, rfl⟩
    obtain ⟨m4, hm4⟩ : ∃ m4, m3.set m2.length ⟨[.int .i64 su, .slice (some ⟨jc, 0, none⟩) ls.length ls.length, .string b], 27, 3, 1⟩ = m4 := ⟨_, rfl⟩
    obtain ⟨g0, g1, g2, g3, g4, g5, g6⟩ := upd6 _ m4 hm4
    obtain ⟨mA, mF, f1, f2, f3, f4, f5, f6⟩ := fin_two m m4 m1.length m2.length jl jc st su ls ls b b g0 g1 g2 g3 g4 g5 g6 (by omega) ⟨hn100, hn100⟩
    simp -dsimp -implicitDefEqProofs [e0, withO_of w6, hsu, hm4]
    refine regF [[], [], [1], []] 0 (by kernel_rfl) (by kernel_rfl) ?_
    simp -dsimp -implicitDefEqProofs [withO_of g1, withO_of g3, withO_of g4, hne6, f1, f2, withO_of f3, withO_of f4, withO_of f5]
    exact ⟨_, _, GC.refl _ _ _, f6⟩
  have e0 : (x == 0) = false := by simpa using h0
  by_cases h1 : x = 1
  · have e1 : (x == 1) = true := by simpa using h1
    simp -dsimp -implicitDefEqProofs [e0, e1, withO_of w6, madeL]
    refine appTo_grow (n := ls.length) (c := 1) (e := 54) (sz := 2) (by_ := 24) (z := .agg #[.string ⟨#[]⟩, .int .i64 0]) (by kernel_rfl) (by kernel_rfl) ⟨by decide, rfl⟩ (get_old wc) ⟨qc1, qc2⟩ ⟨rfl, rfl⟩ (by simp [flatten_length (sz := 2) (rows := ls.map vl) (by intro r hr; obtain ⟨x, _, rfl⟩ := List.mem_map.1 hr; rfl)]) (by omega) (Src.obj (o := ⟨[.string ⟨#[]⟩, .int .i64 0], 54, 2, 1⟩) (by simp) (by simp) rfl rfl) ?_
    intro m4 id4 gr
    have hat := gr.at_
    simp at hat
    have k0 := gr.old _ _ (by omega) (get_old w0)
    have k1 := gr.old _ _ (by omega) (get_old w1)
    have k5 := gr.old _ _ (by omega) (get_old w5)
    have k6 := gr.old _ _ (by omega) (get_old w6)
    have kl5 := gr.old _ _ (show jl ≠ jc by omega) (get_old wl)
    have pg : m <+: m4 := gr.pre _ (pre_app pm _) (by omega)
    have h2l : m2.length < m3.length := lt_of_get w6
    obtain ⟨m5, hm5⟩ : ∃ m5, m4.set m2.length ⟨[.int .i64 st, .slice (some ⟨id4, 0, none⟩) (ls.length + 1) (ls.length + 1), .string b], 27, 3, 1⟩ = m5 := ⟨_, rfl⟩
    have g0 : m <+: m5 := by rw [← hm5]; exact pre_set pg (by omega) _
    have g1 : m5[m.length]? = some ⟨[.int .i64 0, .slice none 0 0, .string ⟨#[]⟩], 27, 3, 1⟩ := by rw [← hm5, List.getElem?_set_ne (by omega)]; exact k0
    have g2 : m5[m.length + 1]? = some ⟨[.int .i64 0, .slice none 0 0, .string ⟨#[]⟩], 27, 3, 1⟩ := by rw [← hm5, List.getElem?_set_ne (by omega)]; exact k1
    have g3 : m5[m1.length]? = some ⟨[.int .i64 st, .slice (some ⟨jl, 0, none⟩) ls.length ls.length, .string b], 27, 3, 1⟩ := by rw [← hm5, List.getElem?_set_ne (by omega)]; exact k5
    have g4 : m5[m2.length]? = some ⟨[.int .i64 st, .slice (some ⟨id4, 0, none⟩) (ls.length + 1) (ls.length + 1), .string b], 27, 3, 1⟩ := by rw [← hm5]; exact get_set k6 _
    have g5 : LyObj m5 jl ls := ⟨kl, by rw [← hm5, List.getElem?_set_ne (by omega)]; exact kl5, ql1, ql2⟩
    have g6 : LyObj m5 id4 (ls ++ [(⟨#[]⟩, 0)]) := ⟨2, by rw [← hm5, List.getElem?_set_ne (by omega), gr.new]; simp [vl], by decide, by decide⟩
    have hL1 : (ls ++ [((⟨#[]⟩, 0) : LyT)]).length = ls.length + 1 := by simp
    obtain ⟨mA, mF, f1, f2, f3, f4, f5, f6⟩ := fin_two m m5 m1.length m2.length jl id4 st st ls (ls ++ [(⟨#[]⟩, 0)]) b b g0 g1 g2 g3 (by rw [hL1]; exact g4) g5 g6 (by omega) ⟨hn100, by have := hsm.1; omega⟩
    rw [hL1] at f2 f5 f6
    simp -dsimp -implicitDefEqProofs [e0, e1, withO_of k6, hm5]
    refine regF [[], [], [1], []] 0 (by kernel_rfl) (by kernel_rfl) ?_
    simp -dsimp -implicitDefEqProofs [withO_of g1, withO_of g3, withO_of g4, hne6, f1, f2, withO_of f3, withO_of f4, withO_of f5]
    exact ⟨_, _, GC.refl _ _ _, f6⟩
  have e1 : (x == 1) = false := by simpa using h1
  by_cases h2 : x = 2
  · have e2 : (x == 2) = true := by simpa using h2
    have hb20 := hsm.2.2
    obtain ⟨bb, hbb⟩ : ∃ bb, b ++ (⟨#[98]⟩ : ByteArray) = bb := ⟨_, rfl⟩
    have hz1 : (⟨#[98]⟩ : ByteArray).size = 1 := rfl
    obtain ⟨m4, hm4⟩ : ∃ m4, m3.set m2.length ⟨[.int .i64 st, .slice (some ⟨jc, 0, none⟩) ls.length ls.length, .string bb], 27, 3, 1⟩ = m4 := ⟨_, rfl⟩
    obtain ⟨g0, g1, g2, g3, g4, g5, g6⟩ := upd6 _ m4 hm4
    obtain ⟨mA, mF, f1, f2, f3, f4, f5, f6⟩ := fin_two m m4 m1.length m2.length jl jc st st ls ls b bb g0 g1 g2 g3 g4 g5 g6 (by omega) ⟨hn100, hn100⟩
    simp -dsimp -implicitDefEqProofs [e0, e1, e2, withO_of w6, hbb, hm4]
    refine ⟨by rw [hz1]; omega, ?_⟩
    refine regF [[], [], [1], []] 0 (by kernel_rfl) (by kernel_rfl) ?_
    simp -dsimp -implicitDefEqProofs [withO_of g1, withO_of g3, withO_of g4, hne6, f1, f2, withO_of f3, withO_of f4, withO_of f5]
    exact ⟨_, _, GC.refl _ _ _, f6⟩
  have e2 : (x == 2) = false := by simpa using h2
  by_cases h3 : x = 3
  · have e3 : (x == 3) = true := by simpa using h3
    cases hls : ls with
    | nil =>
      subst hls
      obtain ⟨mA, mF, f1, f2, f3, f4, f5, f6⟩ := fin_two m m3 m1.length m2.length jl jc st st [] [] b b pm w0 w1 w5 w6 hLX ⟨kc, wc, qc1, qc2⟩ (by omega) ⟨hn100, hn100⟩
      simp only [List.length_nil] at w5 w6 f1 f2 f4 f5 f6
      simp -dsimp -implicitDefEqProofs [e0, e1, e2, e3, withO_of w6]
      refine regF [[], [], [1], []] 0 (by kernel_rfl) (by kernel_rfl) ?_
      simp -dsimp -implicitDefEqProofs [withO_of w0, withO_of w5, withO_of w6, hne6, f1, f2, withO_of f3, withO_of f4, withO_of f5]
      exact ⟨_, _, GC.refl _ _ _, f6⟩
    | cons p rest =>
      obtain ⟨p1', p2'⟩ := p
      subst hls
      simp only [List.map_cons, List.flatten_cons, vl] at wc
      have hkc2 : kc ≤ 2 := qc2
      obtain ⟨wv, hwv⟩ : ∃ wv, IntKind.i64.wrap (p2' + 1) = wv := ⟨_, rfl⟩
      obtain ⟨m4, hm4⟩ : ∃ m4, m3.set jc ⟨.string p1' :: .int .i64 wv :: (rest.map vl).flatten, 54, 2, kc⟩ = m4 := ⟨_, rfl⟩
      simp only [List.length_cons] at w5 w6
      have g0 : m <+: m4 := by rw [← hm4]; exact pre_set pm (by omega) _
      have g1 := (show m4[m.length]? = m3[m.length]? by rw [← hm4, List.getElem?_set_ne (by omega)]).trans w0
      have g2 := (show m4[m.length + 1]? = m3[m.length + 1]? by rw [← hm4, List.getElem?_set_ne (by omega)]).trans w1
      have g3 := (show m4[m1.length]? = m3[m1.length]? by rw [← hm4, List.getElem?_set_ne (by omega)]).trans w5
      have g4 := (show m4[m2.length]? = m3[m2.length]? by rw [← hm4, List.getElem?_set_ne (by omega)]).trans w6
      have g5 : LyObj m4 jl ((p1', p2') :: rest) := ⟨kl, by rw [← hm4, List.getElem?_set_ne (by omega)]; exact wl, ql1, ql2⟩
      have g6 : LyObj m4 jc ((p1', wv) :: rest) := ⟨kc, by rw [← hm4, get_set wc]; simp [vl], qc1, qc2⟩
      obtain ⟨mA, mF, f1, f2, f3, f4, f5, f6⟩ := fin_two m m4 m1.length m2.length jl jc st st ((p1', p2') :: rest) ((p1', wv) :: rest) b b g0 g1 g2 g3 g4 g5 g6 (by omega) ⟨hn100, by simpa using hn100⟩
      simp only [List.length_cons] at f1 f2 f4 f5 f6
      simp -dsimp -implicitDefEqProofs [e0, e1, e2, e3, withO_of w6, withO_of wc, hkc2, hwv, hm4]
      refine need_intro qc1 ?_
      refine regF [[], [], [1], []] 0 (by kernel_rfl) (by kernel_rfl) ?_
      simp -dsimp -implicitDefEqProofs [withO_of g1, withO_of g3, withO_of g4, hne6, f1, f2, withO_of f3, withO_of f4, withO_of f5]
      exact ⟨_, _, GC.refl _ _ _, f6⟩
  have e3 : (x == 3) = false := by simpa using h3
  obtain ⟨mA, mF, f1, f2, f3, f4, f5, f6⟩ := fin_two m m3 m1.length m2.length jl jc st st ls ls b b pm w0 w1 w5 w6 hLX ⟨kc, wc, qc1, qc2⟩ (by omega) ⟨hn100, hn100⟩
  simp -dsimp -implicitDefEqProofs [e0, e1, e2, e3]
  refine regF [[], [], [1], []] 0 (by kernel_rfl) (by kernel_rfl) ?_
  simp -dsimp -implicitDefEqProofs [withO_of w0, withO_of w5, withO_of w6, hne6, f1, f2, withO_of f3, withO_of f4, withO_of f5]
  exact ⟨_, _, GC.refl _ _ _, f6⟩
end Go.Proofs.YtmbijgnmbapchaaGreatDoor
namespace Go.Proofs.YtmbijgnmbapchaaGreatDoor
open Go.Abs Go.RowKit

def DrawnT (m : Mem) (v : Value) (m' : Mem) : Prop := ∃ t : ByteArray, t.size ≤ 40000 ∧ v = .string t ∧ m <+: m'
theorem drawRead_c (a : Option Addr) (code : List Int) (m : Mem) (h : RdB m a code) (hl : code.length ≤ 1048576) :
    ∃ v m', ACalls Tryz.prog 5 [.slice a code.length code.length] m v m' ∧ DrawnT m v m' := by
  obtain ⟨v1, m1, hc1, t, ht, rfl, b1, s1⟩ := l17DrawText_c m.length a code 0 (by omega) _ (srcNew h hl)
  refine ecalls_of_vc Tryz.func5 rfl Tryz.fol (by kernel_rfl) ?_
  simp only [Tryz.f5]
  simp -dsimp -implicitDefEqProofs
  refine callsTo Tryz.cal20 (l00From_c a code m) ?_
  simp -dsimp -implicitDefEqProofs
  refine callsTo Tryz.cal19 hc1 ?_
  simp -dsimp -implicitDefEqProofs
  exact ⟨_, _, GC.refl _ _ _, t, ht, rfl, b1.pre ⟨_, rfl⟩ (Nat.le_refl _)⟩
theorem drawText_c (a : Option Addr) (code : List Int) (m : Mem) (h : RdB m a code) (hl : code.length ≤ 1048576) :
    ∃ v m', ACalls Tryz.prog 8 [.slice a code.length code.length] m v m' ∧ DrawnBX m v m' := by
  have hz : RdB (m ++ [⟨[.int .i64 0, .slice none 0 0, .string ⟨#[]⟩], 27, 3, 1⟩]) a code := ⟨h.1.ext _, h.2⟩
  obtain ⟨m0, hm0⟩ : ∃ m0 : Mem, m0 = m ++ [⟨[.int .i64 0, .slice none 0 0, .string ⟨#[]⟩], 27, 3, 1⟩] := ⟨_, rfl⟩
  have hm0' := hm0.symm
  have q0 : m0[m.length]? = some ⟨[.int .i64 0, .slice none 0 0, .string ⟨#[]⟩], 27, 3, 1⟩ := by rw [hm0]; simp
  rw [← hm0] at hz
  have hl0 : m0.length = m.length + 1 := by rw [hm0]; simp
  have hp0 : m <+: m0 := by rw [hm0]; exact ⟨_, rfl⟩
  obtain ⟨v1, m1, hc1, st, ls, b, j, hsm, rfl, b1, s1, hj, kd, ho, ho1, ho2⟩ := l17Bent_c m0.length a code 0 (by omega) _ (srcNew hz hl)
  simp only [bkC] at hc1
  simp at hj
  have hp1 : m0 <+: m1 := b1.pre ⟨_, rfl⟩ (Nat.le_refl _)
  have r0 := prefix_get hp1 q0
  refine ecalls_of_vc Tryz.func8 rfl Tryz.fol (by kernel_rfl) ?_
  simp only [Tryz.f8]
  simp -dsimp -implicitDefEqProofs [hm0']
  refine callsTo Tryz.cal20 (l00From_c a code m0) ?_
  simp -dsimp -implicitDefEqProofs [hm0']
  refine callsTo Tryz.cal26 hc1 ?_
  simp -dsimp -implicitDefEqProofs [hm0']
  obtain ⟨m2, hm2⟩ : ∃ m2 : Mem, m2 = m1.set m.length ⟨[.int .i64 st, .slice (some ⟨j, 0, none⟩) ls.length ls.length, .string b], 27, 3, 1⟩ := ⟨_, rfl⟩
  have y0 : m2[m.length]? = some ⟨[.int .i64 st, .slice (some ⟨j, 0, none⟩) ls.length ls.length, .string b], 27, 3, 1⟩ := by rw [hm2]; exact get_set r0 _
  simp -dsimp -implicitDefEqProofs [withO_of r0, hm2.symm, withO_of y0]
  exact ⟨_, _, GC.refl _ _ _, st, ls, b, j, hsm, by simp [bkC], by rw [hm2]; exact pre_set (hp0.trans hp1) (Nat.le_refl _) _, by omega, kd, by rw [hm2, List.getElem?_set_ne (by omega)]; exact ho, ho1, ho2⟩
def DrawnR (m : Mem) (v : Value) (m' : Mem) : Prop := ∃ p : I2, v = .agg (v2 p).toArray ∧ m <+: m'
theorem drawReport_c (a : Option Addr) (code : List Int) (m : Mem) (h : RdB m a code) (hl : code.length ≤ 1048576) :
    ∃ v m', ACalls Tryz.prog 11 [.slice a code.length code.length] m v m' ∧ DrawnR m v m' := by
  obtain ⟨mZ, hmZ⟩ : ∃ mZ : Mem, mZ = m ++ [⟨[.int .i64 0, .int .i64 0], 36, 2, 1⟩] := ⟨_, rfl⟩
  have hmZ' := hmZ.symm
  have hz : RdB mZ a code := by rw [hmZ]; exact ⟨h.1.ext _, h.2⟩
  have z0 : mZ[m.length]? = some ⟨[.int .i64 0, .int .i64 0], 36, 2, 1⟩ := by rw [hmZ]; simp
  have hlZ : mZ.length = m.length + 1 := by rw [hmZ]; simp
  have hpZ : m <+: mZ := by rw [hmZ]; exact ⟨_, rfl⟩
  obtain ⟨m0, hm0⟩ : ∃ m0 : Mem, m0 = mZ ++ [⟨[.slice a code.length code.length, .int .i64 0, .int .u64 0], 70, 3, 1⟩] := ⟨_, rfl⟩
  have hp0 : mZ <+: m0 := by rw [hm0]; exact ⟨_, rfl⟩
  have hs0 : SrcA mZ.length a code 0 m0 := by rw [hm0]; exact srcNew hz hl
  have hc0 := l00From_c a code mZ
  rw [← hm0] at hc0
  obtain ⟨v1, m1, hc1, y, rfl, b1, s1, hl1⟩ := amongLit_c mZ.length a code 0 (by omega) [-1, 0, 1, 8, 3001, 3002] 6 rfl m0 hs0 (by decide)
  simp only [List.map_cons, List.map_nil] at hc1
  obtain ⟨M1, hM1⟩ : ∃ M1 : Mem, M1 = m1 ++ [⟨[.int .i64 y, .int .i64 0], 36, 2, 1⟩] := ⟨_, rfl⟩
  have hM1' := hM1.symm
  have t1 : M1[m1.length]? = some ⟨[.int .i64 y, .int .i64 0], 36, 2, 1⟩ := by rw [hM1]; simp
  have hl0 : m0.length = m.length + 2 := by rw [hm0]; simp [hlZ]
  have sM1 : SrcA mZ.length a code 2 M1 := by rw [hM1]; exact s1.app _
  obtain ⟨v2', m2, hc2, x, rfl, hx, b2, s2, hl2⟩ := pick_c mZ.length a code 2 10 (by omega) M1 sM1
  have bZ : But mZ.length m0 m2 := by
    have q : But mZ.length m1 M1 := by rw [hM1]; exact But.app _ _ _
    exact (b1.trans q).trans b2
  have pm : m <+: m2 := hpZ.trans (bZ.pre hp0 (Nat.le_refl _))
  have w0 := bZ.get _ _ (by omega) (prefix_get hp0 z0)
  have w1 := b2.get _ _ (by omega) t1
  obtain ⟨q, hq⟩ : ∃ q, IntKind.i64.wrap (x - 1) = q := ⟨_, rfl⟩
  obtain ⟨m3, hm3⟩ : ∃ m3, m2.set m1.length ⟨[.int .i64 y, .int .i64 q], 36, 2, 1⟩ = m3 := ⟨_, rfl⟩
  have y1 : m3[m1.length]? = some ⟨[.int .i64 y, .int .i64 q], 36, 2, 1⟩ := by rw [← hm3]; exact get_set w1 _
  have y0 : m3[m.length]? = some ⟨[.int .i64 0, .int .i64 0], 36, 2, 1⟩ := by rw [← hm3, List.getElem?_set_ne (by omega)]; exact w0
  obtain ⟨m4, hm4⟩ : ∃ m4, m3.set m.length ⟨[.int .i64 y, .int .i64 q], 36, 2, 1⟩ = m4 := ⟨_, rfl⟩
  have u0 : m4[m.length]? = some ⟨[.int .i64 y, .int .i64 q], 36, 2, 1⟩ := by rw [← hm4]; exact get_set y0 _
  have p4 : m <+: m4 := by rw [← hm4, ← hm3]; exact pre_set (pre_set pm (by omega) _) (Nat.le_refl _) _
  refine ecalls_of_vc Tryz.func11 rfl Tryz.fol (by kernel_rfl) ?_
  simp only [Tryz.f11]
  simp -dsimp -implicitDefEqProofs [hmZ', hM1', withO_of w1, hq, hm3, withO_of y1, withO_of y0, hm4, withO_of u0]
  refine callsTo Tryz.cal20 hc0 ?_
  simp -dsimp -implicitDefEqProofs [hmZ', hM1', withO_of w1, hq, hm3, withO_of y1, withO_of y0, hm4, withO_of u0]
  refine callsTo Tryz.cal31 hc1 ?_
  simp -dsimp -implicitDefEqProofs [hmZ', hM1', withO_of w1, hq, hm3, withO_of y1, withO_of y0, hm4, withO_of u0]
  refine callsTo Tryz.cal30 hc2 ?_
  simp -dsimp -implicitDefEqProofs [hmZ', hM1', withO_of w1, hq, hm3, withO_of y1, withO_of y0, hm4, withO_of u0]
  exact ⟨_, _, GC.refl _ _ _, (y, q), by simp [v2], p4⟩
/-- The text of any basket, both ways. -/
theorem okB_in {st : Int} {ls : List LyT} {b : ByteArray} (h : okB st ls b = true) : in64 st ∧ ∀ p ∈ ls, in64 p.2 := by
  unfold okB at h
  split at h
  · rename_i h0
    simp only [Bool.and_eq_true, decide_eq_true_eq] at h
    obtain ⟨rfl, _⟩ := h
    exact ⟨by rw [h0]; unfold in64; omega, by simp⟩
  · simp only [Bool.and_eq_true] at h
    obtain ⟨⟨h1, h2⟩, _⟩ := h
    simp [inB] at h1
    refine ⟨by unfold in64; omega, fun p hp => ?_⟩
    obtain ⟨i, hi, rfl⟩ := List.getElem_of_mem hp
    have := of_decide_eq_true (allTo_get h2 hi)
    rw [getL hi] at this
    unfold layerK at this
    split at this
    · omega
    · split at this
      · omega
      · rename_i g1 g2
        simp [inB] at g2
        unfold in64; omega
theorem specTextA_c (st : Int) (ls : List LyT) (b : ByteArray) (A : Option Addr) (m : Mem) (hr : RdG vl 2 m A ls) (hn : ls.length ≤ 1048576) (hs : ∀ p ∈ ls, p.1.size ≤ maxLen) (hb : b.size ≤ maxLen) :
    ACalls Tryz.prog 13 [.agg (bkC st A ls.length b).toArray] m (.string (if okB st ls b then textV st ls b else ⟨#[]⟩)) m := by
  cases hok : okB st ls b
  · refine acalls_of_vc Tryz.func13 rfl Tryz.fol (by kernel_rfl) ?_
    simp only [Tryz.f13, bkC]
    simp -dsimp -implicitDefEqProofs
    refine callsTo Tryz.cal32 (l17Ok_c st ls b A m.length _ _ (get_len _ _) (by simp) rfl (hr.ext _) hn hs hb) ?_
    simp -dsimp -implicitDefEqProofs
    rw [hok]
    simp -dsimp -implicitDefEqProofs
    exact GC.dropEq rfl rfl
  · obtain ⟨h1, h2⟩ := okB_in hok
    have := specText_c st ls b A m hr hn h1 (fun p hp => ⟨h2 p hp, hs p hp⟩) hb
    rwa [hok] at this
theorem implTextA_c (st : Int) (ls : List LyT) (b : ByteArray) (A : Option Addr) (m : Mem) (hr : RdG vl 2 m A ls) (hn : ls.length ≤ 1048576) (hs : ∀ p ∈ ls, p.1.size ≤ maxLen) (hb : b.size ≤ maxLen) :
    ACalls Tryz.prog 9 [.agg (bkC st A ls.length b).toArray] m (.string (if okB st ls b then textV st ls b else ⟨#[]⟩)) m := by
  cases hok : okB st ls b
  · obtain ⟨m1, hm1⟩ : ∃ m1 : Mem, m1 = m ++ [⟨[.int .i64 st, .slice A ls.length ls.length, .string b], 27, 3, 1⟩] := ⟨_, rfl⟩
    have hp1 : m <+: m1 := by rw [hm1]; exact ⟨_, rfl⟩
    have hx : m1[m.length]? = some ⟨[.int .i64 st, .slice A ls.length ls.length, .string b], 27, 3, 1⟩ := by rw [hm1]; simp
    have hval := validBasket_c st ls b A m1 (hr.pre hp1) hn hs hb
    simp only [bkC, hok] at hval
    refine acalls_of_vc Tryz.func9 rfl Tryz.fol (by kernel_rfl) ?_
    simp only [Tryz.f9, bkC]
    simp -dsimp -implicitDefEqProofs [hm1.symm, withO_of hx]
    refine callsTo Tryz.cal17 hval ?_
    simp -dsimp -implicitDefEqProofs [hm1.symm, withO_of hx]
    exact GC.dropP hp1 rfl rfl
  · obtain ⟨h1, h2⟩ := okB_in hok
    have := implText_c st ls b A m hr hn h1 (fun p hp => ⟨h2 p hp, hs p hp⟩) hb
    rwa [hok] at this
end Go.Proofs.YtmbijgnmbapchaaGreatDoor
