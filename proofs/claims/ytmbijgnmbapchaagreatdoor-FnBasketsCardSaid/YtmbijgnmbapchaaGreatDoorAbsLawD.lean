/-
  Abs, part 16b: a law's row out of its contract, where the row tells what the program's own variables hold. Conditions: none; generic in the program.
-/
import Derived.Test.YtmbijgnmbapchaaGreatDoorAbsLaw
import Derived.Test.YtmbijgnmbapchaaGreatDoorAbsStr
import Derived.LaidMore
import Derived.OpenShut
import Derived.Stop.Joined
import Derived.Stop.LaidErr
import Derived.MakeChecks
import Derived.ProofKit
set_option linter.unusedSimpArgs false
set_option linter.unusedVariables false
set_option linter.unusedSectionVars false
namespace Go.Abs
open Go.RowKit Go.WideShapes Go.ChangeShapes

theorem lawLiftedD {H : Type} {enc : TypeId × Value → H} {C : Checked} {os : Os} {f : FuncId} {fn : Func} {s : ChangeSpec} {conds : List PathCond} {apart fresh handsOn again : Bool} (laidL : List (String × DataW Unit)) (as : List A) (fl : Nat) (tb : TypeId)
    (own : ownKnob C.prog.godebug = none) (started : os.Started) (noInit : C.prog.inits.idxOf? f = none) (hfn : C.prog.funcs[f]? = some fn)
    (witness : ∃ (w : World) (tape : Tape) (i : Input), w.os = os ∧ (w.forCall tape i).Shaped C.prog ∧ i.vars = [] ∧ Input.okWide C.prog (w.forCall tape i) .any w.heap.size f i ∧
      ((s.pre enc C.prog fn conds apart (w.forCall tape i).memory i.args ∧ laidMetH C.prog laidL (w.forCall tape i).memory) ∧ sizedMet enc C.prog fn (OpenSpec.ofChange s) apart (w.forCall tape i).memory i.args) ∧ ({} : Assume).holds C.prog (lone (Frame.enter C.prog f i.args .normal) [] (w.forCall tape i)))
    (laid : laidOutB C.prog = true) (hts : TAs C.prog fl fn.params.toList as = true)
    (hread : (fn.params.toList.all fun t => C.prog.readableRec t && decide (t < C.prog.types.size)) = true) (hT : ∀ W : World, W.ShapedOpen C.prog → laidMetH C.prog laidL W → Tabs W)
    (hres : fn.resultTypes = #[tb]) (htb : C.prog.underlying tb = some .bool) (hvars : s.vars = [])
    (hs : ∀ ds : List (DataW H), ds.length = fn.params.toList.length → s.fn H ds = { results := [.lit (.bool true)], args := ds })
    (hc : ∀ m vs, AVs fl m as vs → ∃ m', ACalls C.prog f vs m (.bool true) m') :
    ReturnsInHanded {} C os f .any (fun w args => (s.pre enc C.prog fn conds apart w args ∧ laidMetH C.prog laidL w) ∧ sizedMet enc C.prog fn (OpenSpec.ofChange s) apart w args) (s.post enc C.prog fn apart fresh handsOn again) := by
  refine returnsInHanded_of_calls own started noInit witness ?_
  intro w tape i _ hsh _ hok hpre hholds
  obtain ⟨_, _, _, fn', hfn', _, _, _, _, hval⟩ := hok
  have e : fn' = fn := Option.some.inj (hfn'.symm.trans hfn)
  subst e
  obtain ⟨⟨⟨ds, gs, before, hw, hcd⟩, hx⟩, hz⟩ := hpre
  have hW := DataW.Whole.of_heap (w' := w.forCall tape i) (by rfl) hw
  have hx' : laidMetH C.prog laidL (w.forCall tape i) := laidMetH.of_heap (by rfl) hx
  have hTW := hT _ hsh hx'
  generalize w.forCall tape i = W at hW hsh hx' hTW hholds hval ⊢
  have main : Calls C.prog f i.args W fun e W' => ∃ v, e = .returned v ∧ s.post enc C.prog fn' apart fresh handsOn again W i.args v W' := by
    have hW' := hW
    obtain ⟨p, q, hA, hV, rfl, hfz, hnd⟩ := hW
    rw [hvars] at hV
    obtain ⟨rfl, rfl⟩ := trodVars_none hV
    obtain ⟨ρ1, m1, vs, r1, c1, a1⟩ := packAll (P := C.prog) hts (fun j t v hj hv => hval j t v (by simpa using hj) (by simpa using hv)) hA (Rel0.nil W)
    obtain ⟨m', hcall⟩ := hc _ _ a1
    refine (hcall.toTrue (r1.rel hTW) c1).mono fun e W' ⟨he, hb⟩ => ?_
    have hlen := trodAll_len hA
    have hsd := hs ds hlen
    refine ⟨_, he, post_of_below (pa := p) (pv := []) hW' ?_ ?_ ?_ rfl hb ?_⟩
    · intro b sp hd
      rw [List.append_nil, hsd, hres]
      exact trodAll_mk1 (⟨1, by simp [DataW.trod, Value.cells, htb]⟩)
    · intro sp hsp
      rw [List.append_nil, hsd]
      exact trodAll_stays laid hb hread hA (fun x hx => hW'.lt x (by simp [hx])) (fun x hx => hsp x (by simp [hx]))
    · intro sp _
      rw [List.append_nil, hsd, hvars]
      rfl
    · intro j t r hj hv
      rw [hres] at hj hv
      cases j with
      | zero =>
        simp [Value.resultList] at hj hv
        subst hj; subst hv
        simp [Value.okWide, htb, Cell.okWide, Cell.ok]
      | succ j => simp at hj
  refine main.mono fun e W' ⟨v, he, hp⟩ => ?_
  subst he
  exact ChangeSpec.post_blind hp

/-- A table that the row tells, wherever it stands on the row's list. -/
theorem laidAt {P : Program} : ∀ {l : List (String × DataW Unit)} {W : World} (j : Nat) {name : String} {k : IntKind} {zs : List Int} {g : Nat} {t e : TypeId} {n : Nat}, laidMet P l W → l[j]? = some (name, Lib.tabData k zs) →
    P.globalNamed name = some g → (P.globals[g]?).map (·.type) = some t → P.underlying t = some (.array n e) → P.underlying e = some (.int k) → P.cellsOf e = 1 → P.cellsOf t = n → TabAt W g k zs
  | [], _, j, _, _, _, _, _, _, _, _, h, _, _, _, _, _, _ => by simp at h
  | x :: l, W, 0, name, k, zs, g, t, e, n, h, hj, hg, hty, ht, he, hce, hct => by
    simp at hj
    subst hj
    exact tabAt_of hg (Lib.tabIs_of_head hg hty ht he hce hct h)
  | x :: l, W, j + 1, name, k, zs, g, t, e, n, h, hj, hg, hty, ht, he, hce, hct => laidAt j h.tail (by simpa using hj) hg hty ht he hce hct
end Go.Abs
