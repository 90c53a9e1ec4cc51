/-
  Abs, part 8: 'vop' is sound: append. Conditions: none; generic in the program.
-/
import Derived.Test.YtmbijgnmbapchaaGreatDoorAbsSound4
set_option linter.unusedSimpArgs false
set_option linter.unusedVariables false
set_option linter.unusedSectionVars false
namespace Go.Abs
open Go.RowKit

variable {P : Program} {σ : Fr} {m : Mem} {k : Value → Mem → Prop}

theorem Rel.same {W0 : World} {ρ : List (Option Row)} {w w' : World} (hr : Rel W0 ρ m w) (hg : w.grownBy w' none) : Rel W0 ρ m w' := by
  have hB := hr.below.size
  refine ⟨hr.below.grown hg hB (by simp), hr.tab, hr.len, hr.row, hr.off, fun i o r hm hri => ?_, hr.inj⟩
  have ho := hr.obj i o r hm hri
  exact ho.world fun hk => hg.block _ (ho.blk_lt hB hk) (by simp)

theorem splice_eq : ∀ (vs xs : List Value) (off : Nat), off + vs.length ≤ xs.length → splice xs off vs = xs.take off ++ vs ++ xs.drop (off + vs.length)
  | [], xs, off, _ => by simp [splice]
  | v :: vs, xs, off, h => by
    simp only [List.length_cons] at h
    have hlt : off < xs.length := by omega
    rw [splice, splice_eq vs _ (off + 1) (by simp; omega)]
    rw [List.take_succ_eq_append_getElem (by simpa using hlt)]
    simp only [List.getElem_set_self, List.take_set_of_le (Nat.le_refl off)]
    rw [List.drop_set_of_lt (by omega)]
    simp [Nat.add_assoc, Nat.add_comm 1]

theorem Rel.rewrite {W0 : World} {ρ : List (Option Row)} {w w' : World} (h : Rel W0 ρ m w) {i : Nat} {o : AObj} {r : Row} (hm : m[i]? = some o) (hr : ρ[i]? = some (some r)) (hlive : o.live) (hg : w.grownBy w' (some r.blk))
    {cur : Array Value} (hh : w'.heap[r.blk]? = some (.cells cur o.elem (0, 0))) (hcs : cur.size = r.cap * r.sz) {cells : List Value} (hl : cells.length = o.cells.length)
    (hcc : ∀ (j : Nat) v, cells[j]? = some v → ∃ v', cur[j]? = some v' ∧ conc1 ρ v v') : Rel W0 ρ (m.set i { o with cells := cells }) w' := by
  have ho := h.obj i o r hm hr
  obtain ⟨g1, g2, g3, g4, c, g5, g6, g7, g8, g9⟩ := ho.2 hlive
  have hB := h.below.size
  have himi : i < m.length := (List.getElem?_eq_some_iff.1 hm).1
  have hkind : ∀ (k : Nat) o', (m.set i { o with cells := cells })[k]? = some o' → ∃ o'', m[k]? = some o'' ∧ o''.kind = o'.kind := fun k o' hk => by
    rcases get_set_or hk with ⟨rfl, rfl⟩ | ⟨_, hk⟩
    · exact ⟨o, hm, rfl⟩
    · exact ⟨o', hk, rfl⟩
  refine ⟨h.below.grown hg hB (by rintro k hk; injection hk with hk; omega), h.tab, by simp [h.len], fun k o' hk hkk => let ⟨o'', h1, h2⟩ := hkind k o' hk; h.row k o'' h1 (by omega), fun k o' hk hkk => let ⟨o'', h1, h2⟩ := hkind k o' hk; h.off k o'' h1 (by omega), ?_, ?_⟩
  · intro k o' r' hmk hrk
    by_cases hik : i = k
    · subst hik
      rw [List.getElem?_set_self himi] at hmk
      injection hmk with hmk
      subst hmk
      rw [hr] at hrk
      injection hrk with hrk
      injection hrk with hrk
      subst hrk
      refine ⟨fun hk => ?_, fun _ => ⟨g1, g2, g3, g4, cur, hh, hcs, by simp only; omega, fun hk => ?_, hcc⟩⟩
      · rcases hlive with hl | hl <;> simp [hl] at hk
      · have := g8 hk; simp only; omega
    · rw [List.getElem?_set_ne hik] at hmk
      have ho' := h.obj k o' r' hmk hrk
      refine ho'.world fun hk => hg.block _ (ho'.blk_lt hB hk) ?_
      rcases hk with hk | hk
      · have := (ho'.1 hk).2.1
        intro e; injection e with e; omega
      · intro e; injection e with e; exact h.inj i k o o' r r' hik hm hmk hlive hk hr hrk e.symm
  · intro a b oa ob ra rb hab ha hb hla hlb hra hrb
    have back : ∀ (k : Nat) o' , (m.set i { o with cells := cells })[k]? = some o' → o'.live → ∃ o'', m[k]? = some o'' ∧ o''.live := by
      intro k o' hk hl
      by_cases hik : i = k
      · subst hik; exact ⟨o, hm, hlive⟩
      · rw [List.getElem?_set_ne hik] at hk; exact ⟨o', hk, hl⟩
    obtain ⟨oa', ha', hla'⟩ := back a oa ha hla
    obtain ⟨ob', hb', hlb'⟩ := back b ob hb hlb
    exact h.inj a b oa' ob' ra rb hab ha' hb' hla' hlb' hra hrb

theorem run_append_nilsrc {t ty e : TypeId} {i : TypeInfo} {w : World} (ht : P.underlying t = some (.slice e)) (hi : P.info? e = some i) (v : Value) (n cap : Nat) (A : Option Addr) (hv : v = .slice A n cap) (hn : n ≤ cap) :
    (Builtin.append_ #[t, t] ty #[v, .slice none 0 0]).run P w = .ok v w := by
  subst hv
  cases A <;> simp [Builtin.append_, run_underlying ht, sizeOf, typeInfo, hi, Builtin.lenOf, Builtin.firstCells, hn, storeCells]

theorem good_append {dst : Option Nat} {t t' : TypeId} {x y : Operand} {ty : TypeId} {pos : String} {aft : Array Edge} {g : Option (Nat × Bool)}
    (h : vappend P σ m k t t' x y) : Good P σ m ⟨dst, .call ⟨.builtin .append, #[x, y], #[t, t']⟩, ty, pos, aft, g⟩ k := by
  unfold vappend at h
  split at h
  · rename_i A n cx B c cy e hx hy he
    split at h
    · rename_i sz by_ z hti
      obtain ⟨rfl, hsz, hzs, hbytes, hbig, news, hsrc, h⟩ := h
      obtain ⟨i0, hi0, g1, g2, g3⟩ := tinf_spec hti
      have hu := slElem_spec he
      have hexec : ∀ (a : Act) (w w' : World) (v' : Value), (Builtin.append_ #[t', t'] ty #[a.eval x, a.eval y]).run P w = .ok v' w' → (execOp a.eval ⟨dst, .call ⟨.builtin .append, #[x, y], #[t', t']⟩, ty, pos, aft, g⟩).run P w = .ok (.value v') w' := by
        intro a w w' v' hrun
        simp only [execOp, resolve, invoke, builtin, Sem.run_bind, Sem.run_pure, Result.andThen_ok, List.map_toArray, List.map_cons, List.map_nil, hrun]
      cases A with
      | none =>
        simp only at h
        by_cases hc : c = 0
        · subst hc
          refine ⟨.slice none 0 0, m, OpOK.step fun W0 ρ w a hr ho => ?_, h.1 rfl⟩
          obtain ⟨hn0, _, ex⟩ := ho x (by simp [Op.operands, Call.operands]) _ hx
          obtain ⟨B', c', ey, hnl, hB⟩ := hsrc.spec hr (ho y (by simp [Op.operands, Call.operands]) _ hy)
          rcases hB with ⟨rfl, _, _, rfl⟩ | ⟨b', news', rfl, hnl', ha, hcell⟩
          · exact ⟨ρ, w, .slice none 0 0, Ext.refl _, hr, ⟨rfl, rfl, rfl⟩, .inl (hexec a w w _ (by rw [ex, ey]; exact run_append_nilsrc hu hi0 _ 0 0 none rfl (Nat.le_refl 0)))⟩
          · obtain ⟨v', w', hrun, hown, hg, hnil, _⟩ := run_append_own_at (P := P) w W0.heap.size t' ty e i0 z sz by_ hu hi0 g3 g1 g2 hzs hsz (.slice none 0 0) 0 [] (World.ownsRow_nil w _ e sz) b' 0 c' news' hnl' hcell (fun u hu => let ⟨_, hR⟩ := ha.mem_right u hu; conc1_oneCell hR) (by simp [maxLen]) (by simp) hr.below.size
            have hv' : v' = .slice none 0 0 := hnil.2 ⟨rfl, rfl⟩
            subst hv'
            exact ⟨ρ, w', .slice none 0 0, Ext.refl _, hr.same hg, ⟨rfl, rfl, rfl⟩, .inl (hexec a w w' _ (by rw [ex, ey]; exact hrun))⟩
        · refine ⟨.slice (some ⟨m.length, 0, none⟩) c c, _, OpOK.step fun W0 ρ w a hr ho => ?_, h.2 (by omega)⟩
          obtain ⟨hn0, _, ex⟩ := ho x (by simp [Op.operands, Call.operands]) _ hx
          obtain ⟨B', c', ey, hnl, hB⟩ := hsrc.spec hr (ho y (by simp [Op.operands, Call.operands]) _ hy)
          rcases hB with ⟨_, h0, _⟩ | ⟨b', news', rfl, hnl', ha, hcell⟩
          · exact absurd h0 hc
          · obtain ⟨v', w', hrun, hown, hg, hnil, hblk⟩ := run_append_own_at (P := P) w W0.heap.size t' ty e i0 z sz by_ hu hi0 g3 g1 g2 hzs hsz (.slice none 0 0) 0 [] (World.ownsRow_nil w _ e sz) b' c c' news' hnl' hcell (fun u hu => let ⟨_, hR⟩ := ha.mem_right u hu; conc1_oneCell hR) (by simp [maxLen]; omega) (by rw [Nat.zero_add]; exact Nat.le_trans (Nat.mul_le_mul_right _ (Nat.le_add_left c n)) hbytes) hr.below.size
            simp only [Nat.zero_add, List.nil_append] at hown
            obtain ⟨hlen, ⟨rfl, _⟩ | ⟨gg, cap, cur, rfl, hbg, hh, hnc, hcm, hcs, htake⟩⟩ := hown
            · exact absurd (hnil.1 rfl).2 hc
            · have hgg : gg = w.heap.size := by
                rcases hblk with hb | hb <;> simp [Value.ownBlock] at hb
                exact hb
              have hml : (c * sz) ≤ cur.size := by rw [hcs]; exact Nat.mul_le_mul_right _ hnc
              have := Rel.appended (m := m) (m1 := m) (dead := none) (row := none) (e := e) (sz := sz) (n := c) hr (by simp) rfl (by simp) (by simpa [Value.ownBlock] using hg) (by simp) (.inr hgg) hbg hh hcm hcs (cells := news) (by omega) (fun j v hj => by
                obtain ⟨y, hy, hR⟩ := ha.get j v hj
                refine ⟨y, ?_, hR⟩
                rw [← htake, List.getElem?_take] at hy
                split at hy
                · simpa using hy
                · cases hy)
              refine ⟨_, w', _, Ext.app _ _, this, ⟨rfl, .inl ⟨rfl, ⟨gg, 0, sz, cap⟩, ?_, by simpa using hnc, ?_⟩⟩, .inl (hexec a w w' _ (by rw [ex, ey]; exact hrun))⟩
              · rw [List.getElem?_append_right (by rw [hr.len]; exact Nat.le_refl _)]; simp [hr.len]
              · simp
      | some a0 =>
        simp only at h
        obtain ⟨hsp, hoff, o, hm, hlive, hosz, helem, h | h⟩ := h
        · obtain ⟨hfull, h⟩ := h
          refine ⟨_, _, OpOK.step fun W0 ρ w a hr ho => ?_, h⟩
          obtain ⟨_, ⟨_, r, hrr, hle, ex⟩ | ⟨hsp', _⟩⟩ := ho x (by simp [Op.operands, Call.operands]) _ hx
          · obtain ⟨q1, q2, q3, q4, cc, q5, q6, q7, q8, q9⟩ := (hr.obj _ o r hm hrr).2 hlive
            have ex' : a.eval x = .slice (some ⟨r.blk, 0, none⟩) n r.cap := by rw [ex, q1, hoff]; simp
            have hown : w.ownsRow W0.heap.size e sz (.slice (some ⟨r.blk, 0, none⟩) n r.cap) n (cc.toList.take (n * sz)) := by
              refine ⟨?_, .inr ⟨r.blk, r.cap, cc, rfl, q3, by rw [← helem]; exact q5, by omega, q4, by rw [q6, q2, hosz], rfl⟩⟩
              rw [List.length_take]; simp only [Array.length_toList]; omega
            have hold : All2 (conc1 ρ) o.cells (cc.toList.take (n * sz)) := by
              refine All2.of_get (by rw [List.length_take]; simp only [Array.length_toList]; omega) fun j u v hu hv => ?_
              obtain ⟨v', h1, h2⟩ := q9 j u hu
              rw [List.getElem?_take] at hv
              split at hv
              · simp at hv; rw [h1] at hv; injection hv with hv; rw [← hv]; exact h2
              · cases hv
            obtain ⟨B', c', ey, hnl, hB⟩ := hsrc.spec hr (ho y (by simp [Op.operands, Call.operands]) _ hy)
            have hdead : ∀ i, (m.set a0.block { o with kind := 3 })[i]? = if some a0.block = some i then (m[i]?).map fun o => { o with kind := 3 } else m[i]? := by
              intro i
              by_cases hi : a0.block = i
              · subst hi; rw [List.getElem?_set_self (List.getElem?_eq_some_iff.1 hm).1, if_pos rfl, hm]; rfl
              · rw [List.getElem?_set_ne hi, if_neg (by simpa using hi)]
            have fin : ∀ (gg cap : Nat) (cur : Array Value) (news' : List Value) (w' : World), All2 (conc1 ρ) news news' → w.grownBy w' (some r.blk) → (gg = r.blk ∨ gg = w.heap.size) → W0.heap.size ≤ gg → w'.heap[gg]? = some (.cells cur e (0, 0)) → n + c ≤ cap → cap ≤ maxLen → cur.size = cap * sz →
                cur.toList.take ((n + c) * sz) = cc.toList.take (n * sz) ++ news' → (execOp a.eval ⟨dst, .call ⟨.builtin .append, #[x, y], #[t', t']⟩, ty, pos, aft, g⟩).run P w = .ok (.value (.slice (some ⟨gg, 0, none⟩) (n + c) cap)) w' →
                ∃ ρ' w' v', Ext ρ ρ' ∧ Rel W0 ρ' (m.set a0.block { o with kind := 3 } ++ [⟨o.cells ++ news, e, sz, 2⟩]) w' ∧ conc3 ρ' (.slice (some ⟨m.length, 0, none⟩) (n + c) (n + c)) v' ∧ ((execOp a.eval ⟨dst, .call ⟨.builtin .append, #[x, y], #[t', t']⟩, ty, pos, aft, g⟩).run P w = .ok (.value v') w' ∨ ((execOp a.eval ⟨dst, .call ⟨.builtin .append, #[x, y], #[t', t']⟩, ty, pos, aft, g⟩).run P w = .ok .skip w' ∧ v' = undef)) := by
              intro gg cap cur news' w' ha hg hgg hbg hh hnc hcm hcs htake hrun
              have hall := hold.append ha
              have hml : (n + c) * sz ≤ cur.size := by rw [hcs]; exact Nat.mul_le_mul_right _ hnc
              have := Rel.appended (m := m) (m1 := m.set a0.block { o with kind := 3 }) (dead := some a0.block) (row := some r.blk) (e := e) (sz := sz) (n := n + c) hr hdead (by simp) (fun i o' hi hl he => by injection he with he; subst he; rw [hm] at hi; injection hi with hi; subst hi; exact hl hlive) hg
                (by rintro k hk; injection hk with hk; exact ⟨a0.block, o, r, rfl, hm, hlive, hrr, hk⟩) (by rcases hgg with h | h; exact .inl (by rw [h]); exact .inr h) hbg hh hcm hcs (cells := o.cells ++ news)
                (by rw [List.length_append, hnl, ← hfull, ← Nat.add_mul]; exact hml) (fun j v hj => by
                  obtain ⟨y, hy, hR⟩ := hall.get j v hj
                  refine ⟨y, ?_, hR⟩
                  rw [← htake, List.getElem?_take] at hy
                  split at hy
                  · simpa using hy
                  · cases hy)
              refine ⟨_, w', .slice (some ⟨gg, 0, none⟩) (n + c) cap, Ext.app _ _, this, ⟨rfl, .inl ⟨rfl, ⟨gg, 0, sz, cap⟩, ?_, by simpa using hnc, by simp⟩⟩, .inl hrun⟩
              rw [List.getElem?_append_right (by rw [hr.len]; exact Nat.le_refl _)]; simp [hr.len]
            rcases hB with ⟨rfl, rfl, rfl, rfl⟩ | ⟨b', news', rfl, hnl', ha, hcell⟩
            · exact fin r.blk r.cap cc [] w trivial ⟨rfl, rfl, rfl, Nat.le_refl _, fun _ _ _ => rfl⟩ (.inl rfl) q3 (by rw [← helem]; exact q5) (by omega) q4 (by rw [q6, q2, hosz]) (by simp)
                (hexec a w w _ (by rw [ex', ey]; exact run_append_nilsrc hu hi0 _ n r.cap _ rfl (by omega)))
            · obtain ⟨v', w', hrun, hown', hg, hnil, hblk⟩ := run_append_own_at (P := P) w W0.heap.size t' ty e i0 z sz by_ hu hi0 g3 g1 g2 hzs hsz _ n _ hown b' c c' news' hnl' hcell (fun u hu => let ⟨_, hR⟩ := ha.mem_right u hu; conc1_oneCell hR) (by simp [maxLen]; omega) hbytes hr.below.size
              obtain ⟨hlen, ⟨rfl, _⟩ | ⟨gg, cap, cur, rfl, hbg, hh, hnc, hcm, hcs, htake⟩⟩ := hown'
              · exact absurd (hnil.1 rfl).1 (by simp)
              · exact fin gg cap cur news' w' ha (by simpa [Value.ownBlock] using hg) (by simpa [Value.ownBlock] using hblk) hbg hh hnc hcm hcs htake (hexec a w w' _ (by rw [ex', ey]; exact hrun))
          · rw [hsp] at hsp'; cases hsp'
        · obtain ⟨hk1, hfit, h⟩ := h
          refine ⟨_, _, OpOK.step fun W0 ρ w a hr ho => ?_, h⟩
          obtain ⟨_, ⟨_, r, hrr, hle, ex⟩ | ⟨hsp', _⟩⟩ := ho x (by simp [Op.operands, Call.operands]) _ hx
          · obtain ⟨q1, q2, q3, q4, cc, q5, q6, q7, q8, q9⟩ := (hr.obj _ o r hm hrr).2 hlive
            have q8' := q8 hk1
            have ex' : a.eval x = .slice (some ⟨r.blk, 0, none⟩) n r.cap := by rw [ex, q1, hoff]; simp
            have hroom : n + c ≤ r.cap := by
              have : (n + c) * sz ≤ r.cap * sz := by rw [← hosz, ← q2, ← q6, ← q8', q2, hosz]; exact hfit
              exact Nat.le_of_mul_le_mul_right this hsz
            obtain ⟨B', c', ey, hnl, hB⟩ := hsrc.spec hr (ho y (by simp [Op.operands, Call.operands]) _ hy)
            have hv3 : conc3 ρ (.slice (some a0) (n + c) (n + c)) (.slice (some ⟨r.blk, 0, none⟩) (n + c) r.cap) := by
              refine ⟨rfl, .inl ⟨hsp, r, hrr, by omega, ?_⟩⟩
              rw [q1, hoff]; simp
            rcases hB with ⟨rfl, rfl, rfl, rfl⟩ | ⟨b', news', rfl, hnl', ha, hcell⟩
            · refine ⟨ρ, w, _, Ext.refl _, ?_, hv3, .inl (hexec a w w _ (by rw [ex', ey]; exact run_append_nilsrc hu hi0 _ n r.cap _ rfl (by omega)))⟩
              have hlt := (List.getElem?_eq_some_iff.1 hm).1
              have : m.set a0.block { o with cells := splice o.cells (n * sz) [] } = m := by
                simp only [splice]
                have ho' : m[a0.block] = o := (List.getElem?_eq_some_iff.1 hm).2
                conv => rhs; rw [← List.set_getElem_self (as := m) (i := a0.block) hlt]
                rw [ho']
              rw [this]; exact hr
            · have hcl : n * sz + news'.length ≤ cc.size := by rw [hnl', ← Nat.add_mul, ← q8']; exact hfit
              have hrun := run_append_room (P := P) w t' ty e i0 hu hi0 r.blk n r.cap cc (by rw [← helem]; exact q5) b' c c' news' (by rw [g1]; exact hnl') hcell (fun u hu => let ⟨_, hR⟩ := ha.mem_right u hu; conc1_oneCell hR) hroom (by rw [g1]; exact hcl)
              rw [g1] at hrun
              have hset := setRow_heap w r.blk cc (cc.toList.take (n * sz) ++ news' ++ cc.toList.drop (n * sz + news'.length)).toArray e (0, 0) (by rw [← helem]; exact q5)
              have hsz2 : (cc.toList.take (n * sz) ++ news' ++ cc.toList.drop (n * sz + news'.length)).toArray.size = cc.size := by
                simp only [List.size_toArray, List.length_append, List.length_take, List.length_drop, Array.length_toList]; omega
              have hsp2 : splice cc.toList (n * sz) news' = cc.toList.take (n * sz) ++ news' ++ cc.toList.drop (n * sz + news'.length) := splice_eq _ _ _ (by simpa using hcl)
              have hall : All2 (conc1 ρ) o.cells cc.toList := by
                refine All2.of_get (by simpa using q8') fun j u v hu hv => ?_
                obtain ⟨v', h1, h2⟩ := q9 j u hu
                simp at hv; rw [h1] at hv; injection hv with hv; rw [← hv]; exact h2
              have hall2 := splice_rel (n * sz) hall ha
              refine ⟨ρ, _, _, Ext.refl _, Rel.rewrite hr hm hrr hlive (w' := w.setRow r.blk (cc.toList.take (n * sz) ++ news' ++ cc.toList.drop (n * sz + news'.length)).toArray) ⟨rfl, rfl, rfl, by simp, fun k _ hk => setRow_other w r.blk k _ (fun e => hk (by rw [e]))⟩ (by rw [helem]; exact hset) (by rw [hsz2, q6]) (splice_length _ _ _) (fun j v hj => ?_), hv3, .inl (hexec a w _ _ (by rw [ex', ey]; exact hrun))⟩
              obtain ⟨y, hy, hR⟩ := hall2.get j v hj
              rw [hsp2] at hy
              exact ⟨y, by simpa using hy, hR⟩
          · rw [hsp] at hsp'; cases hsp'
    · exact h.elim
  · exact h.elim

end Go.Abs
