/-
  All but some objects stand. Conditions: none.
-/
import Derived.Test.YtmbijgnmbapchaaGreatDoorBase
import Derived.Test.YtmbijgnmbapchaaGreatDoorAbsByte
set_option linter.unusedSimpArgs false
set_option linter.unusedVariables false
set_option linter.unusedSectionVars false
namespace Go.Proofs.YtmbijgnmbapchaaGreatDoor
open Go.Abs Go.RowKit

/-- All else stands. -/
structure RestS (S : List Nat) (m m' : Mem) : Prop where
  len : m.length ≤ m'.length
  get : ∀ (i : Nat) o, i ∉ S → m[i]? = some o → m'[i]? = some o
theorem RestS.refl (S : List Nat) (m : Mem) : RestS S m m := ⟨Nat.le_refl _, fun _ _ _ h => h⟩
theorem RestS.trans {S : List Nat} {m m' m'' : Mem} (h : RestS S m m') (h' : RestS S m' m'') : RestS S m m'' := ⟨Nat.le_trans h.len h'.len, fun i o h1 h2 => h'.get i o h1 (h.get i o h1 h2)⟩
theorem RestS.app (S : List Nat) (m l : Mem) : RestS S m (m ++ l) := ⟨by simp, fun i o _ h => get_old h⟩
theorem RestS.set {S : List Nat} (m : Mem) {k : Nat} (hk : k ∈ S) (o : AObj) : RestS S m (m.set k o) := ⟨by simp, fun i o' h1 h => by rw [List.getElem?_set_ne (by intro e; subst e; exact h1 hk)]; exact h⟩
theorem RestS.pre {S : List Nat} {m m' m'' : Mem} (h : RestS S m m') (h' : m' <+: m'') : RestS S m m'' := ⟨Nat.le_trans h.len h'.length_le, fun i o h1 h2 => prefix_get h' (h.get i o h1 h2)⟩
theorem RestS.of_pre {S : List Nat} {m m' : Mem} (h : m <+: m') : RestS S m m' := (RestS.refl S m).pre h
theorem RestS.mono {S S' : List Nat} {m m' : Mem} (h : RestS S m m') (hs : ∀ i ∈ S, i ∈ S' ∨ m.length ≤ i) : RestS S' m m' := ⟨h.len, fun i o h1 h2 => h.get i o (fun h3 => by
  rcases hs i h3 with h4 | h4
  · exact h1 h4
  · have := lt_of_get h2; omega) h2⟩
theorem RestS.base {S : List Nat} {m0 m m' : Mem} (h : RestS S m m') (h0 : m0 <+: m) (hs : ∀ i ∈ S, m0.length ≤ i) : m0 <+: m' :=
  pre_of_get fun i o hi => h.get i o (fun h3 => by have := hs i h3; have := lt_of_get hi; omega) (prefix_get h0 hi)
theorem RestS.rdG {α : Type} {g : α → List Value} {sz : Nat} {S : List Nat} {m m' : Mem} (h : RestS S m m') {ks : List α} {la : Option Addr} (hl : ∀ a, la = some a → a.block ∉ S) (hr : RdG g sz m la ks) : RdG g sz m' la ks := by
  obtain ⟨h1, h2, h3⟩ := hr
  refine ⟨h1, h2, fun hn => ?_⟩
  obtain ⟨id, off, o, rfl, hm, g⟩ := h3 hn
  exact ⟨id, off, o, rfl, h.get id o (hl _ rfl) hm, g⟩
theorem RestS.rdI {S : List Nat} {m m' : Mem} (h : RestS S m m') {ks : List Int} {la : Option Addr} (hl : ∀ a, la = some a → a.block ∉ S) (hr : RdI m la ks) : RdI m' la ks := by
  obtain ⟨h1, h2, h3⟩ := hr
  refine ⟨h1, h2, fun hn => ?_⟩
  obtain ⟨id, off, o, rfl, hm, g⟩ := h3 hn
  exact ⟨id, off, o, rfl, h.get id o (hl _ rfl) hm, g⟩
end Go.Proofs.YtmbijgnmbapchaaGreatDoor
