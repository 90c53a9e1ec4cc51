/-
  Abs, part 16: a law's row out of its contract. Conditions: none; generic in the program.
-/
import Derived.Test.YtmbijgnmbapchaaGreatDoorAbsPack
set_option linter.unusedSimpArgs false
set_option linter.unusedVariables false
set_option linter.unusedSectionVars false
namespace Go.Abs
open Go.RowKit Go.WideShapes Go.ChangeShapes

section
variable {H : Type} {enc : TypeId × Value → H} {P : Program}
theorem post_of_below {f : Func} {s : ChangeSpec} {apart fresh handsOn again : Bool} {W W' : World} {args : Array Value} {v : Value} {ds gs : List (DataW H)} {before pa pv : List MemPlace}
    (hW : DataW.Whole enc P f.params.toList s.vars apart W args.toList ds gs before)
    (hres : ∀ (b : Nat) (sp : Nat → Bool) (hd : Bool), DataW.TrodAll enc P W' b sp hd f.resultTypes.toList (v.resultList f.resultTypes.size) (s.fn H (ds ++ gs)).results [])
    (hargs : ∀ sp : Nat → Bool, (∀ p ∈ before, sp p.block = true) → DataW.TrodAll enc P W' 0 sp true f.params.toList args.toList (s.fn H (ds ++ gs)).args pa)
    (hvars : ∀ sp : Nat → Bool, (∀ p ∈ before, sp p.block = true) → DataW.TrodVars enc P W' sp s.vars (s.fn H (ds ++ gs)).vars pv)
    (hps : before = pa ++ pv) (hb : Below W.heap.size W W')
    (hok : ∀ (j : Nat) (t : TypeId) (r : Value), f.resultTypes[j]? = some t → (v.resultList f.resultTypes.size)[j]? = some r → Value.okWide P W' .any 0 t r) :
    s.post enc P f apart fresh handsOn again W args v W' := by
  have hlt : ∀ p ∈ before, p.block < W.heap.size := fun p hp => hW.lt p hp
  have hold : ∀ p ∈ before, (fun b => decide (b < W.heap.size)) p.block = true := fun p hp => by simpa using hlt p hp
  refine ⟨ds, gs, before, [], pa, pv, hW, hres _ _ _, hargs _ hold, hvars _ hold, World.keptBut_mono (fun p hp => ⟨hp, ?_⟩) (hb.frame (· ∈ before)), fun _ => ?_⟩
  · rw [hps, List.mem_append] at hp
    exact Or.inr hp
  · obtain ⟨_, _, _, _, _, hz, hn⟩ := hW
    refine ⟨hok, _, _, ([] ++ pa) ++ pv, ⟨[] ++ pa, pv, trodAll_append (hargs _ (fun _ _ => rfl)) (hres _ _ _), hvars _ (fun _ _ => rfl), rfl, ?_, ?_⟩, ?_⟩
    · intro b off hp
      have hin : MemPlace.cell b off ∈ before := by rw [hps]; simpa using hp
      rw [hb.frozen (hlt _ hin)]
      exact hz b off hin
    · intro ha
      have := hn ha
      rw [hps] at this
      simpa using this
    · intro p hp _
      rw [hps]
      simpa using hp

theorem trodAll_stays (hl : laidOutB P = true) {W W' : World} (hb : Below W.heap.size W W') {sp : Nat → Bool} : ∀ {ts : List TypeId} {vs : List Value} {ds : List (DataW H)} {ps : List MemPlace},
    (ts.all fun t => P.readableRec t && decide (t < P.types.size)) = true → DataW.TrodAll enc P W 0 (fun _ => true) true ts vs ds ps → (∀ x ∈ ps, x.block < W.heap.size) → (∀ x ∈ ps, sp x.block = true) →
    DataW.TrodAll enc P W' 0 sp true ts vs ds ps
  | [], vs, ds, ps, _, h, _, _ => by
    obtain ⟨rfl, rfl, rfl⟩ := trodAll_nil h
    rfl
  | t :: ts, vs, ds, ps, hr, h, hlt, hsp => by
    obtain ⟨v, vs1, d, ds1, p, q, rfl, rfl, rfl, h1, h2⟩ := trodAll_cons h
    simp only [List.all_cons, Bool.and_eq_true, decide_eq_true_eq] at hr
    exact ⟨p, q, WideElems.Trod_stays hl hr.1.1 hr.1.2 h1 (fun x hx => hb.same (hlt x (by simp [hx]))) (fun x hx => hsp x (by simp [hx])),
      trodAll_stays hl hb hr.2 h2 (fun x hx => hlt x (by simp [hx])) (fun x hx => hsp x (by simp [hx])), rfl⟩

theorem trodAll_len {w : World} {base : Nat} {sp : Nat → Bool} {held : Bool} : ∀ {ts : List TypeId} {vs : List Value} {ds : List (DataW H)} {ps : List MemPlace}, DataW.TrodAll enc P w base sp held ts vs ds ps → ds.length = ts.length
  | [], _, _, _, h => by obtain ⟨_, rfl, _⟩ := trodAll_nil h; rfl
  | t :: ts, _, _, _, h => by
    obtain ⟨v, vs1, d, ds1, p, q, rfl, rfl, rfl, h1, h2⟩ := trodAll_cons h
    simp [trodAll_len h2]

theorem ACalls.toTrue {f : FuncId} {args : List Value} {m m' : Mem} (hc : ACalls P f args m (.bool true) m') {W : World} {ρ : List (Option Row)} {args' : Array Value} (hr : Rel W ρ m W) (ha : All2 (conc3 ρ) args args'.toList) :
    Calls P f args' W fun e W' => e = .returned (.bool true) ∧ Below W.heap.size W W' :=
  (hc.run W ρ W args' hr ha).mono fun e w' ⟨_, v', _, hR, hv, he⟩ => by
    have : v' = .bool true := by simpa [conc3, conc2, conc1, conc0] using hv
    exact ⟨by rw [he, this], hR.below⟩

theorem lawLifted {C : Checked} {os : Os} {f : FuncId} {fn : Func} {s : ChangeSpec} {conds : List PathCond} {apart fresh handsOn again : Bool} (as : List A) (fl : Nat) (tb : TypeId)
    (own : ownKnob C.prog.godebug = none) (started : os.Started) (noInit : C.prog.inits.idxOf? f = none) (hfn : C.prog.funcs[f]? = some fn)
    (witness : ∃ (w : World) (tape : Tape) (i : Input), w.os = os ∧ (w.forCall tape i).Shaped C.prog ∧ i.vars = [] ∧ Input.okWide C.prog (w.forCall tape i) .any w.heap.size f i ∧
      s.pre6 enc C.prog fn conds apart (w.forCall tape i).memory i.args ∧ ({} : Assume).holds C.prog (lone (Frame.enter C.prog f i.args .normal) [] (w.forCall tape i)))
    (laid : laidOutB C.prog = true) (hts : TAs C.prog fl fn.params.toList as = true)
    (hread : (fn.params.toList.all fun t => C.prog.readableRec t && decide (t < C.prog.types.size)) = true) (hT : ∀ W : World, Tabs W)
    (hres : fn.resultTypes = #[tb]) (htb : C.prog.underlying tb = some .bool) (hvars : s.vars = [])
    (hs : ∀ ds : List (DataW H), ds.length = fn.params.toList.length → s.fn H ds = { results := [.lit (.bool true)], args := ds })
    (hc : ∀ m vs, AVs fl m as vs → ∃ m', ACalls C.prog f vs m (.bool true) m') :
    ReturnsInHanded {} C os f .any (s.pre6 enc C.prog fn conds apart) (s.post enc C.prog fn apart fresh handsOn again) := by
  refine returnsInHanded_of_change own started noInit hfn witness ?_
  intro W base args ds gs before hval hW _ _
  have hW' := hW
  obtain ⟨p, q, hA, hV, rfl, hfz, hnd⟩ := hW
  rw [hvars] at hV
  obtain ⟨rfl, rfl⟩ := trodVars_none hV
  obtain ⟨ρ1, m1, vs, r1, c1, a1⟩ := packAll (P := C.prog) hts (fun j t v hj hv => hval j t v (by simpa using hj) (by simpa using hv)) hA (Rel0.nil W)
  obtain ⟨m', hcall⟩ := hc _ _ a1
  refine (hcall.toTrue (r1.rel (hT W)) c1).mono fun e W' ⟨he, hb⟩ => ?_
  have hlen := trodAll_len hA
  have hsd := hs ds hlen
  refine ⟨_, he, post_of_below (pa := p) (pv := []) hW' ?_ ?_ ?_ rfl hb ?_⟩
  · intro b sp hd
    rw [List.append_nil, hsd, hres]
    exact trodAll_mk1 (⟨1, by simp [DataW.trod, Value.cells, htb]⟩)
  · intro sp hsp
    rw [List.append_nil, hsd]
    exact trodAll_stays laid hb hread hA (fun x hx => hW'.lt x (by simp [hx])) (fun x hx => hsp x (by simp [hx]))
  · intro sp _
    rw [List.append_nil, hsd, hvars]
    rfl
  · intro j t r hj hv
    rw [hres] at hj hv
    cases j with
    | zero =>
      simp [Value.resultList] at hj hv
      subst hj; subst hv
      simp [Value.okWide, htb, Cell.okWide, Cell.ok]
    | succ j => simp at hj
end

/-! ### What the arguments are, written out -/
theorem AVs.one {f : Nat} {m : Mem} {a : A} {vs : List Value} (h : AVs f m [a] vs) : ∃ v, vs = [v] ∧ AV f m a v := by
  match vs, h with
  | [v], h => exact ⟨v, rfl, h.1⟩
theorem AVs.two {f : Nat} {m : Mem} {a b : A} {vs : List Value} (h : AVs f m [a, b] vs) : ∃ v u, vs = [v, u] ∧ AV f m a v ∧ AV f m b u := by
  match vs, h with
  | [v, u], h => exact ⟨v, u, rfl, h.1, h.2.1⟩
theorem AVs.three {f : Nat} {m : Mem} {a b c : A} {vs : List Value} (h : AVs f m [a, b, c] vs) : ∃ v u w, vs = [v, u, w] ∧ AV f m a v ∧ AV f m b u ∧ AV f m c w := by
  match vs, h with
  | [v, u, w], h => exact ⟨v, u, w, rfl, h.1, h.2.1, h.2.2.1⟩
theorem AVs.four {f : Nat} {m : Mem} {a b c d : A} {vs : List Value} (h : AVs f m [a, b, c, d] vs) : ∃ v u w x, vs = [v, u, w, x] ∧ AV f m a v ∧ AV f m b u ∧ AV f m c w ∧ AV f m d x := by
  match vs, h with
  | [v, u, w, x], h => exact ⟨v, u, w, x, rfl, h.1, h.2.1, h.2.2.1, h.2.2.2.1⟩

/-- Whole numbers of 64 bits. -/
def in64 (n : Int) : Prop := -9223372036854775808 ≤ n ∧ n ≤ 9223372036854775807
abbrev I64 : S := .int .i64
theorem CV.int {f : Nat} {m : Mem} {v : Value} (h : CV f m I64 v) : ∃ n, v = .int .i64 n ∧ in64 n := by
  cases f with
  | zero => exact h.elim
  | succ f =>
    obtain ⟨n, hv, h1, h2⟩ := h
    rw [show IntKind.i64.min = -9223372036854775808 by simp [IntKind.min, IntKind.signed, IntKind.bits]] at h1
    rw [show IntKind.i64.max = 9223372036854775807 by simp [IntKind.max, IntKind.signed, IntKind.bits]] at h2
    exact ⟨n, hv, h1, h2⟩
theorem list2 {l : List Value} (h : l.length = 2) : ∃ a b, l = [a, b] := by
  match l, h with
  | [a, b], _ => exact ⟨a, b, rfl⟩
theorem list3 {l : List Value} (h : l.length = 3) : ∃ a b c, l = [a, b, c] := by
  match l, h with
  | [a, b, c], _ => exact ⟨a, b, c, rfl⟩
theorem list4 {l : List Value} (h : l.length = 4) : ∃ a b c d, l = [a, b, c, d] := by
  match l, h with
  | [a, b, c, d], _ => exact ⟨a, b, c, d, rfl⟩

/-- Structs of three whole numbers. -/
abbrev I3 := Int × Int × Int
def v3 (p : I3) : List Value := [.int .i64 p.1, .int .i64 p.2.1, .int .i64 p.2.2]
def in3 (p : I3) : Prop := in64 p.1 ∧ in64 p.2.1 ∧ in64 p.2.2
theorem AV.agg3 {f : Nat} {m : Mem} {v : Value} (h : AV f m (.agg [I64, I64, I64]) v) : ∃ p : I3, v = .agg (v3 p).toArray ∧ in3 p := by
  obtain ⟨cs, rfl, hl, hc⟩ := h
  obtain ⟨a, b, c, rfl⟩ := list3 hl
  obtain ⟨x, rfl, hx⟩ := CV.int (hc 0 _ _ rfl rfl)
  obtain ⟨y, rfl, hy⟩ := CV.int (hc 1 _ _ rfl rfl)
  obtain ⟨z, rfl, hz⟩ := CV.int (hc 2 _ _ rfl rfl)
  exact ⟨(x, y, z), rfl, hx, hy, hz⟩
abbrev I2 := Int × Int
def v2 (p : I2) : List Value := [.int .i64 p.1, .int .i64 p.2]
def in2 (p : I2) : Prop := in64 p.1 ∧ in64 p.2

/-- Rows that are all of one form are the forms of a list. -/
theorem rows_map {α : Type} {g : α → List Value} {q : α → Prop} : ∀ {rows : List (List Value)}, (∀ r ∈ rows, ∃ x, r = g x ∧ q x) → ∃ xs : List α, rows = xs.map g ∧ ∀ x ∈ xs, q x
  | [], _ => ⟨[], rfl, by simp⟩
  | r :: rows, h => by
    obtain ⟨x, hx, hq⟩ := h r (by simp)
    obtain ⟨xs, hxs, hqs⟩ := rows_map (rows := rows) fun y hy => h y (by simp [hy])
    refine ⟨x :: xs, by simp [hx, hxs], fun y hy => ?_⟩
    rcases List.mem_cons.1 hy with rfl | hy
    · exact hq
    · exact hqs y hy
theorem CV.sl3 {f : Nat} {m : Mem} {v : Value} (h : CV f m (.sl [I64, I64, I64]) v) : ∃ a, ∃ xs : List I3, v = .slice a xs.length xs.length ∧ xs.length ≤ maxLen ∧ Rd m a xs.length 3 (xs.map v3) ∧ ∀ x ∈ xs, in3 x := by
  cases f with
  | zero => exact h.elim
  | succ f =>
    obtain ⟨a, n, rows, rfl, hn, hr, hc⟩ := h
    obtain ⟨xs, rfl, hq⟩ := rows_map (g := v3) (q := in3) (rows := rows) fun r hr' => by
      obtain ⟨x, y, z, rfl⟩ := list3 (hr.2.1 r hr')
      obtain ⟨x, rfl, hx⟩ := CV.int (hc _ hr' 0 _ _ rfl rfl)
      obtain ⟨y, rfl, hy⟩ := CV.int (hc _ hr' 1 _ _ rfl rfl)
      obtain ⟨z, rfl, hz⟩ := CV.int (hc _ hr' 2 _ _ rfl rfl)
      exact ⟨(x, y, z), rfl, hx, hy, hz⟩
    have : xs.length = n := by simpa using hr.1
    subst this
    exact ⟨a, xs, rfl, hn, hr, hq⟩
theorem CV.sl2 {f : Nat} {m : Mem} {v : Value} (h : CV f m (.sl [I64, I64]) v) : ∃ a, ∃ xs : List I2, v = .slice a xs.length xs.length ∧ xs.length ≤ maxLen ∧ Rd m a xs.length 2 (xs.map v2) ∧ ∀ x ∈ xs, in2 x := by
  cases f with
  | zero => exact h.elim
  | succ f =>
    obtain ⟨a, n, rows, rfl, hn, hr, hc⟩ := h
    obtain ⟨xs, rfl, hq⟩ := rows_map (g := v2) (q := in2) (rows := rows) fun r hr' => by
      obtain ⟨x, y, rfl⟩ := list2 (hr.2.1 r hr')
      obtain ⟨x, rfl, hx⟩ := CV.int (hc _ hr' 0 _ _ rfl rfl)
      obtain ⟨y, rfl, hy⟩ := CV.int (hc _ hr' 1 _ _ rfl rfl)
      exact ⟨(x, y), rfl, hx, hy⟩
    have : xs.length = n := by simpa using hr.1
    subst this
    exact ⟨a, xs, rfl, hn, hr, hq⟩
theorem CV.sl1 {f : Nat} {m : Mem} {v : Value} (h : CV f m (.sl [I64]) v) : ∃ a, ∃ xs : List Int, v = .slice a xs.length xs.length ∧ xs.length ≤ maxLen ∧ RdI m a xs ∧ ∀ x ∈ xs, in64 x := by
  cases f with
  | zero => exact h.elim
  | succ f =>
    obtain ⟨a, n, rows, rfl, hn, hr, hc⟩ := h
    obtain ⟨xs, rfl, hq⟩ := rows_map (g := vI) (q := in64) (rows := rows) fun r hr' => by
      have hl := hr.2.1 r hr'
      match r, hl, hr' with
      | [x], _, hr' =>
        obtain ⟨x, rfl, hx⟩ := CV.int (hc _ hr' 0 _ _ rfl rfl)
        exact ⟨x, rfl, hx⟩
    have : xs.length = n := by simpa using hr.1
    subst this
    exact ⟨a, xs, rfl, hn, hr, hq⟩

end Go.Abs
