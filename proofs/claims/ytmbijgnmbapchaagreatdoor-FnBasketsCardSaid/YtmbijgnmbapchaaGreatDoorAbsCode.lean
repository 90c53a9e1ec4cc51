/-
  Abs, part 12: the code, loops, calls. Conditions: none; generic in the program.
-/
import Derived.Test.YtmbijgnmbapchaaGreatDoorAbsSlot
set_option linter.unusedSimpArgs false
set_option linter.unusedVariables false
set_option linter.unusedSectionVars false
namespace Go.Abs
open Go.RowKit

variable {P : Program} {fm : List Nat}

/-! ### What is asked of the code once -/
def dstB (N : Nat) (ops : List Oper) : Bool := ops.all fun o => match o.dst with | some d => decide (d < N) | none => true
def codeOK (N : Nat) (fm : List Nat) : Code → Bool
  | .region id ops draw => dstB N ops.toList && (!draw || (if fm.contains id then Region.lexB .any ops else drawOK ops.toList))
  | .seq a b => codeOK N fm a && codeOK N fm b
  | .cond _ a b => codeOK N fm a && codeOK N fm b
  | .block _ b => codeOK N fm b
  | .loop b => codeOK N fm b
  | _ => true
theorem dstB_spec {N : Nat} {ops : Array Oper} (h : dstB N ops.toList = true) : ∀ o ∈ ops, ∀ d, o.dst = some d → d < N := by
  intro o ho d hd
  have := List.all_eq_true.1 h o (by simpa using ho)
  rw [hd] at this
  simpa using this

abbrev Post := Exit → Fr → Mem → Prop
def thenA (next : Fr → Mem → Prop) (K : Post) : Post
  | .normal, σ, m => next σ m
  | e, σ, m => K e σ m
def blockA (id : Nat) (K : Post) : Post
  | .exit i, σ, m => if i = id then K .normal σ m else K (.exit i) σ m
  | e, σ, m => K e σ m

/-- What a Post means of the model's state. -/
def Lift (W0 : World) (ρ : List (Option Row)) (N : Nat) (K : Post) (e : Exit) (a : Act) (w : World) : Prop :=
  ∃ σ m ρ', Ext ρ ρ' ∧ Rel W0 ρ' m w ∧ FRel ρ' N a σ ∧ K e σ m

/-- The code does what is said, from every state that fits. -/
def AWP0 (P : Program) (N : Nat) (fm : List Nat) (c : Code) (K : Post) (σ : Fr) (m : Mem) : Prop :=
  codeOK N fm c = true → P.follows .mixedOrders = true → ∀ (W0 : World) (ρ : List (Option Row)) (w : World) (a : Act), Rel W0 ρ m w → FRel ρ N a σ → c.wp P (Lift W0 ρ N K) a w
/-- One outcome. -/
def only (e : Exit) (σ : Fr) (m : Mem) : Post := fun e1 σ1 m1 => e1 = e ∧ σ1 = σ ∧ m1 = m
/-- From every state that fits the code leads to one outcome, and that is as said. -/
def AWP (P : Program) (N : Nat) (fm : List Nat) (c : Code) (K : Post) (σ : Fr) (m : Mem) : Prop :=
  codeOK N fm c = true → P.follows .mixedOrders = true → ∃ e σ' m', K e σ' m' ∧ AWP0 P N fm c (only e σ' m') σ m

def vc (P : Program) (N : Nat) (fm : List Nat) : Code → Post → Fr → Mem → Prop
  | .skip, K, σ, m => K .normal σ m
  | .seq a b, K, σ, m => vc P N fm a (thenA (vc P N fm b K) K) σ m
  | .cond x t f, K, σ, m => match ev σ x with
    | some (.bool b) => split2 b (vc P N fm t K σ m) (vc P N fm f K σ m)
    | _ => False
  | .block id b, K, σ, m => vc P N fm b (blockA id K) σ m
  | .exit id, K, σ, m => K (.exit id) σ m
  | .ret, K, σ, m => K .ret σ m
  | .region id ops draw, K, σ, m => match draw with
    | true => if fm.contains id then RegF0 P ops.toList (K .normal) σ m else vopsD P ops.toList (extB ops.toList (masks ops.toList)) 0 ops.toList σ m (K .normal)
    | false => vops P ops.toList ops.toList σ m (K .normal)
  | .loop b, K, σ, m => AWP P N fm (.loop b) K σ m
  | _, _, _, _ => False

theorem Lift.mono {W0 : World} {ρ ρ0 : List (Option Row)} {N : Nat} {K K' : Post} (hp : Ext ρ0 ρ) (hK : ∀ e σ m, K e σ m → K' e σ m) {e : Exit} {a : Act} {w : World} (h : Lift W0 ρ N K e a w) : Lift W0 ρ0 N K' e a w :=
  let ⟨σ, m, ρ', h1, h2, h3, h4⟩ := h
  ⟨σ, m, ρ', hp.trans h1, h2, h3, hK _ _ _ h4⟩

theorem AWP0.mono {N : Nat} {c : Code} {K K' : Post} {σ : Fr} {m : Mem} (h : AWP0 P N fm c K σ m) (hK : ∀ e σ m, K e σ m → K' e σ m) : AWP0 P N fm c K' σ m :=
  fun h1 h2 W0 ρ w a hr hf => wp_mono (h h1 h2 W0 ρ w a hr hf) fun _ _ _ h => h.mono (Ext.refl _) hK
theorem AWP.mono {N : Nat} {c : Code} {K K' : Post} {σ : Fr} {m : Mem} (h : AWP P N fm c K σ m) (hK : ∀ e σ m, K e σ m → K' e σ m) : AWP P N fm c K' σ m :=
  fun h1 h2 => let ⟨e, σ', m', h3, h4⟩ := h h1 h2; ⟨e, σ', m', hK _ _ _ h3, h4⟩

theorem awp_of_vc {N : Nat} : ∀ (c : Code) (K : Post) (σ : Fr) (m : Mem), vc P N fm c K σ m → AWP P N fm c K σ m := by
  intro c
  induction c with
  | skip => exact fun K σ m h _ _ => ⟨.normal, σ, m, h, fun _ _ W0 ρ w a hr hf => wp_skip ⟨σ, m, ρ, Ext.refl _, hr, hf, rfl, rfl, rfl⟩⟩
  | region id ops draw =>
    intro K σ m h hok hfol
    simp only [codeOK, Bool.and_eq_true] at hok
    obtain ⟨hd, hdr⟩ := hok
    have hN := dstB_spec hd
    cases draw with
    | true =>
      simp only [vc] at h
      by_cases hfm : fm.contains id = true
      · rw [if_pos hfm] at h
        have hl : Region.lexB .any ops.toList.toArray = true := by
          simpa only [hfm, Bool.not_true, Bool.false_or, if_true, Array.toArray_toList] using hdr
        obtain ⟨σ', m', h1, h2⟩ := drawF_leads (id := id) (l := ops.toList) (N := N) hfol hl (by simpa using hN) h
        refine ⟨.normal, σ', m', h1, fun _ _ W0 ρ w a hr hf => ?_⟩
        have : ops = ops.toList.toArray := by simp
        rw [this]
        exact h2 _ W0 ρ (fun ρ' a' w' hp hr' hf' => ⟨σ', m', ρ', hp, hr', hf', rfl, rfl, rfl⟩) ρ a w (Ext.refl _) hr hf
      rw [if_neg hfm] at h
      have hdr : drawOK ops.toList = true := by
        have : fm.contains id = false := by simpa using hfm
        simpa only [this, Bool.not_true, Bool.false_or, Bool.false_eq_true, if_false] using hdr
      have h' := h
      obtain ⟨σ', m', h1, h2⟩ := draw_leads (id := id) (l := ops.toList) (N := N) hfol (by simpa using hdr) (by simpa using hN) (kk := K .normal) (by simpa using h')
      refine ⟨.normal, σ', m', h1, fun _ _ W0 ρ w a hr hf => ?_⟩
      have : ops = ops.toList.toArray := by simp
      rw [this]
      exact h2 _ W0 ρ (fun ρ' a' w' hp hr' hf' => ⟨σ', m', ρ', hp, hr', hf', rfl, rfl, rfl⟩) ρ a w (Ext.refl _) hr hf
    | false =>
      obtain ⟨σ', m', h1, h2⟩ := vops_leads (P := P) (all := ops) (N := N) (kk := K .normal) hN ops.toList 0 σ m (by simp) h
      refine ⟨.normal, σ', m', h1, fun _ _ W0 ρ w a hr hf => wp_region ?_⟩
      have := h2 (Lift W0 ρ N (only .normal σ' m')) W0 ρ (fun ρ' a' w' hp hr' hf' => ⟨σ', m', ρ', hp, hr', hf', rfl, rfl, rfl⟩) ρ a w (Ext.refl _) hr hf
      rw [List.range_eq_range']
      simpa using this
  | seq x y ihx ihy =>
    intro K σ m h hok hfol
    simp only [codeOK, Bool.and_eq_true] at hok
    obtain ⟨e, σ1, m1, h1, h2⟩ := ihx _ σ m h hok.1 hfol
    cases e with
    | normal =>
      obtain ⟨e, σ2, m2, h3, h4⟩ := ihy K σ1 m1 h1 hok.2 hfol
      refine ⟨e, σ2, m2, h3, fun _ _ W0 ρ w a hr hf => wp_seq (wp_mono (h2 hok.1 hfol W0 ρ w a hr hf) ?_)⟩
      rintro e' a' w' ⟨σ', m', ρ', hp, hr', hf', rfl, rfl, rfl⟩
      exact wp_mono (h4 hok.2 hfol W0 ρ' w' a' hr' hf') fun _ _ _ h => h.mono hp fun _ _ _ h => h
    | exit id => exact ⟨.exit id, σ1, m1, h1, fun _ _ W0 ρ w a hr hf => wp_seq (wp_mono (h2 hok.1 hfol W0 ρ w a hr hf) (by rintro e' a' w' ⟨σ', m', ρ', hp, hr', hf', rfl, rfl, rfl⟩; exact ⟨_, _, ρ', hp, hr', hf', rfl, rfl, rfl⟩))⟩
    | goto id => exact ⟨.goto id, σ1, m1, h1, fun _ _ W0 ρ w a hr hf => wp_seq (wp_mono (h2 hok.1 hfol W0 ρ w a hr hf) (by rintro e' a' w' ⟨σ', m', ρ', hp, hr', hf', rfl, rfl, rfl⟩; exact ⟨_, _, ρ', hp, hr', hf', rfl, rfl, rfl⟩))⟩
    | ret => exact ⟨.ret, σ1, m1, h1, fun _ _ W0 ρ w a hr hf => wp_seq (wp_mono (h2 hok.1 hfol W0 ρ w a hr hf) (by rintro e' a' w' ⟨σ', m', ρ', hp, hr', hf', rfl, rfl, rfl⟩; exact ⟨_, _, ρ', hp, hr', hf', rfl, rfl, rfl⟩))⟩
    | panic id => exact ⟨.panic id, σ1, m1, h1, fun _ _ W0 ρ w a hr hf => wp_seq (wp_mono (h2 hok.1 hfol W0 ρ w a hr hf) (by rintro e' a' w' ⟨σ', m', ρ', hp, hr', hf', rfl, rfl, rfl⟩; exact ⟨_, _, ρ', hp, hr', hf', rfl, rfl, rfl⟩))⟩
    | outgrown => exact ⟨.outgrown, σ1, m1, h1, fun _ _ W0 ρ w a hr hf => wp_seq (wp_mono (h2 hok.1 hfol W0 ρ w a hr hf) (by rintro e' a' w' ⟨σ', m', ρ', hp, hr', hf', rfl, rfl, rfl⟩; exact ⟨_, _, ρ', hp, hr', hf', rfl, rfl, rfl⟩))⟩
  | cond x t f iht ihf =>
    intro K σ m h hok hfol
    simp only [codeOK, Bool.and_eq_true] at hok
    simp only [vc] at h
    split at h
    · rename_i b hb
      cases b with
      | true =>
        obtain ⟨e, σ', m', h1, h2⟩ := iht K σ m (h.1 rfl) hok.1 hfol
        exact ⟨e, σ', m', h1, fun _ _ W0 ρ w a hr hf => wp_cond_split (conc3_bool ((Ops.of_frel hf [x]) x (by simp) _ hb)) (fun _ => h2 hok.1 hfol W0 ρ w a hr hf) (fun e => by simp at e)⟩
      | false =>
        obtain ⟨e, σ', m', h1, h2⟩ := ihf K σ m (h.2 rfl) hok.2 hfol
        exact ⟨e, σ', m', h1, fun _ _ W0 ρ w a hr hf => wp_cond_split (conc3_bool ((Ops.of_frel hf [x]) x (by simp) _ hb)) (fun e => by simp at e) (fun _ => h2 hok.2 hfol W0 ρ w a hr hf)⟩
    · exact h.elim
  | block id b ih =>
    intro K σ m h hok hfol
    obtain ⟨e, σ1, m1, h1, h2⟩ := ih _ σ m h hok hfol
    have key : ∀ e2 : Exit, K e2 σ1 m1 → (∀ W0 ρ a w, Lift W0 ρ N (only e σ1 m1) e a w → Exit.inBlock id (Lift W0 ρ N (only e2 σ1 m1)) e a w) → ∃ e σ' m', K e σ' m' ∧ AWP0 P N fm (.block id b) (only e σ' m') σ m := by
      intro e2 hk hl
      refine ⟨e2, σ1, m1, hk, fun _ _ W0 ρ w a hr hf => wp_block (wp_mono (h2 hok hfol W0 ρ w a hr hf) ?_)⟩
      intro e' a' w' h
      have he : e' = e := by obtain ⟨_, _, _, _, _, _, h, _⟩ := h; exact h
      subst he
      exact hl W0 ρ a' w' h
    cases e with
    | exit i =>
      simp only [blockA] at h1
      by_cases hi : i = id
      · rw [if_pos hi] at h1
        exact key .normal h1 fun W0 ρ a w ⟨σ', m', ρ', hp, hr', hf', _, e2, e3⟩ => by
          simp only [Exit.inBlock, if_pos hi]; exact ⟨σ', m', ρ', hp, hr', hf', rfl, e2, e3⟩
      · rw [if_neg hi] at h1
        exact key (.exit i) h1 fun W0 ρ a w ⟨σ', m', ρ', hp, hr', hf', _, e2, e3⟩ => by
          simp only [Exit.inBlock, if_neg hi]; exact ⟨σ', m', ρ', hp, hr', hf', rfl, e2, e3⟩
    | normal => exact key .normal h1 fun W0 ρ a w h => h
    | goto l => exact key (.goto l) h1 fun W0 ρ a w h => h
    | ret => exact key .ret h1 fun W0 ρ a w h => h
    | panic ch => exact key (.panic ch) h1 fun W0 ρ a w h => h
    | outgrown => exact key .outgrown h1 fun W0 ρ a w h => h
  | loop b ih => exact fun K σ m h => h
  | exit id => exact fun K σ m h _ _ => ⟨.exit id, σ, m, h, fun _ _ W0 ρ w a hr hf => wp_exit ⟨σ, m, ρ, Ext.refl _, hr, hf, rfl, rfl, rfl⟩⟩
  | ret => exact fun K σ m h _ _ => ⟨.ret, σ, m, h, fun _ _ W0 ρ w a hr hf => wp_ret ⟨σ, m, ρ, Ext.refl _, hr, hf, rfl, rfl, rfl⟩⟩
  | rangeFunc f p a b _ _ => exact fun K σ m h => h.elim
  | scope b _ => exact fun K σ m h => h.elim
  | label l => exact fun K σ m h => h.elim
  | goto l => exact fun K σ m h => h.elim
  | refuse s => exact fun K σ m h => h.elim

/-- A rule for loops: an invariant with a number that each round lowers. -/
theorem awp0_loop {N : Nat} {b : Code} {K : Post} {σ : Fr} {m : Mem} (I : Nat → Fr → Mem → Prop) (n : Nat) (h0 : I n σ m)
    (round : ∀ n σ m, I n σ m → AWP0 P N fm b (thenA (fun σ' m' => ∃ n', n' < n ∧ I n' σ' m') K) σ m) : AWP0 P N fm (.loop b) K σ m := by
  intro hok hfol W0 ρ w a hr hf
  have hok' : codeOK N fm b = true := hok
  let J : Nat → Act → World → Prop := fun n a w => ∃ σ m ρ', Ext ρ ρ' ∧ Rel W0 ρ' m w ∧ FRel ρ' N a σ ∧ I n σ m
  have least : ∀ (a : Act) (w : World), ∃ k, (∃ n, J n a w) → J k a w ∧ ∀ n, J n a w → k ≤ n := by
    intro a w
    have key : ∀ n, J n a w → ∃ k, J k a w ∧ ∀ n, J n a w → k ≤ n := by
      intro n
      induction n using Nat.strongRecOn with
      | _ n ih =>
        intro hn
        by_cases hex : ∃ k, k < n ∧ J k a w
        · obtain ⟨k, hk, hj⟩ := hex; exact ih k hk hj
        · exact ⟨n, hn, fun k hk => by
            rcases Nat.lt_or_ge k n with h' | h'
            · exact absurd ⟨k, h', hk⟩ hex
            · exact h'⟩
    by_cases hex : ∃ n, J n a w
    · obtain ⟨n, hn⟩ := hex
      obtain ⟨k, hk⟩ := key n hn
      exact ⟨k, fun _ => hk⟩
    · exact ⟨0, fun h => absurd h hex⟩
  let μ : Act → World → Nat := fun a w => Classical.choose (least a w)
  have hμ : ∀ a w, (∃ n, J n a w) → J (μ a w) a w ∧ ∀ n, J n a w → μ a w ≤ n := fun a w => Classical.choose_spec (least a w)
  refine wp_loop (fun a w => ∃ n, J n a w) μ ⟨n, σ, m, ρ, Ext.refl _, hr, hf, h0⟩ ?_
  intro a w hI
  obtain ⟨⟨σ1, m1, ρ1, hp1, hr1, hf1, hI1⟩, hleast⟩ := hμ a w hI
  refine wp_mono (round _ σ1 m1 hI1 hok' hfol W0 ρ1 w a hr1 hf1) ?_
  rintro e a' w' ⟨σ', m', ρ', hp, hr', hf', hk⟩
  cases e with
  | normal =>
    obtain ⟨n', hlt, hI'⟩ := hk
    have hJ : J n' a' w' := ⟨σ', m', ρ', hp1.trans hp, hr', hf', hI'⟩
    exact ⟨⟨n', hJ⟩, Nat.lt_of_le_of_lt ((hμ a' w' ⟨n', hJ⟩).2 n' hJ) hlt⟩
  | exit id => exact ⟨σ', m', ρ', hp1.trans hp, hr', hf', hk⟩
  | goto l => exact ⟨σ', m', ρ', hp1.trans hp, hr', hf', hk⟩
  | ret => exact ⟨σ', m', ρ', hp1.trans hp, hr', hf', hk⟩
  | panic ch => exact ⟨σ', m', ρ', hp1.trans hp, hr', hf', hk⟩
  | outgrown => exact ⟨σ', m', ρ', hp1.trans hp, hr', hf', hk⟩

/-- The rounds of a loop, to the one that leaves it. -/
inductive Rounds (P : Program) (N : Nat) (fm : List Nat) (b : Code) (e : Exit) (σ' : Fr) (m' : Mem) : Nat → Fr → Mem → Prop
  | stop {σ : Fr} {m : Mem} : e ≠ .normal → AWP0 P N fm b (only e σ' m') σ m → Rounds P N fm b e σ' m' 0 σ m
  | step {k : Nat} {σ σ1 : Fr} {m m1 : Mem} : AWP0 P N fm b (only .normal σ1 m1) σ m → Rounds P N fm b e σ' m' k σ1 m1 → Rounds P N fm b e σ' m' (k + 1) σ m

theorem awp_loopA {N : Nat} {b : Code} {K : Post} {σ : Fr} {m : Mem} (I : Nat → Fr → Mem → Prop) (n : Nat) (h0 : I n σ m)
    (round : ∀ n σ m, I n σ m → AWP P N fm b (thenA (fun σ' m' => ∃ n', n' < n ∧ I n' σ' m') K) σ m) : AWP P N fm (.loop b) K σ m := by
  intro hok hfol
  have key : ∀ n σ m, I n σ m → ∃ e σ' m', K e σ' m' ∧ ∃ k, Rounds P N fm b e σ' m' k σ m := by
    intro n
    induction n using Nat.strongRecOn with
    | _ n ih =>
      intro σ m hI
      obtain ⟨e, σ1, m1, h1, h2⟩ := round n σ m hI hok hfol
      have stop : ∀ e', e = e' → e' ≠ .normal → K e' σ1 m1 → ∃ e σ' m', K e σ' m' ∧ ∃ k, Rounds P N fm b e σ' m' k σ m := by
        rintro e' rfl hn hk
        exact ⟨e, σ1, m1, hk, 0, .stop hn h2⟩
      cases e with
      | normal =>
        obtain ⟨n', hlt, hI'⟩ := h1
        obtain ⟨e, σ', m', h3, k, h4⟩ := ih n' hlt σ1 m1 hI'
        exact ⟨e, σ', m', h3, k + 1, .step h2 h4⟩
      | exit id => exact stop _ rfl (by simp) h1
      | goto l => exact stop _ rfl (by simp) h1
      | ret => exact stop _ rfl (by simp) h1
      | panic ch => exact stop _ rfl (by simp) h1
      | outgrown => exact stop _ rfl (by simp) h1
  obtain ⟨e, σ', m', h1, k, h2⟩ := key n σ m h0
  refine ⟨e, σ', m', h1, awp0_loop (fun k σ m => Rounds P N fm b e σ' m' k σ m) k h2 ?_⟩
  intro k σ m hR
  cases hR with
  | stop hn h =>
    refine h.mono fun e1 σ1 m1 ⟨g1, g2, g3⟩ => ?_
    subst g1
    cases e1 <;> first | exact absurd rfl hn | exact ⟨rfl, g2, g3⟩
  | step h hr =>
    refine h.mono fun e1 σ1 m1 ⟨g1, g2, g3⟩ => ?_
    subst g1; subst g2; subst g3
    exact ⟨_, Nat.lt_succ_self _, hr⟩
theorem awp_loop {N : Nat} {b : Code} {K : Post} {σ : Fr} {m : Mem} (I : Nat → Fr → Mem → Prop) (n : Nat) (h0 : I n σ m)
    (round : ∀ n σ m, I n σ m → vc P N fm b (thenA (fun σ' m' => ∃ n', n' < n ∧ I n' σ' m') K) σ m) : AWP P N fm (.loop b) K σ m :=
  awp_loopA I n h0 fun n σ m h => awp_of_vc b _ σ m (round n σ m h)
theorem thenA_mono {next next' : Fr → Mem → Prop} {K : Post} (h : ∀ σ m, next σ m → next' σ m) (e : Exit) (σ : Fr) (m : Mem) (hk : thenA next K e σ m) : thenA next' K e σ m := by
  cases e <;> first | exact h _ _ hk | exact hk

/-! ### A function -/
def vres (P : Program) (σ : Fr) (m : Mem) : List ResultVar → (List Value → Prop) → Prop
  | [], k => k []
  | .tmp t :: rs, k => match σ t with
    | some v => noTup v = true ∧ vres P σ m rs fun vs => k (v :: vs)
    | none => False
  | .cell t ty :: rs, k => vload P σ m (fun v _ => noTup v = true ∧ vres P σ m rs fun vs => k (v :: vs)) ty (.tmp t)
def packR : List Value → Value
  | [v] => v
  | vs => .tuple vs.toArray

theorem conc2_of_conc3 {ρ : List (Option Row)} {v v' : Value} (h : conc3 ρ v v') (hn : noTup v = true) : conc2 ρ v v' := by
  unfold conc3 at h
  split at h
  · simp [noTup] at hn
  · exact h

def resM (P : Program) (tmps : Array Value) (r : ResultVar) : Sem Value :=
  match r with
  | .tmp t => pure (tmps.getD t undef)
  | .cell a t => do loadVar t (← asAddr (tmps.getD a undef))

theorem vres_run {W0 : World} {ρ : List (Option Row)} {N : Nat} {a : Act} {σ : Fr} {m : Mem} {w : World} (hr : Rel W0 ρ m w) (hf : FRel ρ N a σ) : ∀ (rs : List ResultVar) (k : List Value → Prop), vres P σ m rs k →
    ∃ vs vs', k vs ∧ All2 (conc2 ρ) vs vs' ∧ (rs.mapM (resM P a.tmps)).run P w = .ok vs' w
  | [], k, h => ⟨[], [], h, trivial, by simp⟩
  | .tmp t :: rs, k, h => by
    simp only [vres] at h
    split at h
    · rename_i v hv
      obtain ⟨vs, vs', h1, h2, h3⟩ := vres_run hr hf rs _ h.2
      refine ⟨v :: vs, a.tmps.getD t undef :: vs', h1, ⟨conc2_of_conc3 (hf.2.2 t v hv) h.1, h2⟩, ?_⟩
      rw [List.mapM_cons]
      simp only [resM, Sem.run_bind, Sem.run_pure, Result.andThen_ok, h3]
    · exact h.elim
  | .cell t ty :: rs, k, h => by
    simp only [vres] at h
    obtain ⟨v, ⟨hn, hk⟩, hload⟩ := vload_spec h
    obtain ⟨vs, vs', h1, h2, h3⟩ := vres_run hr hf rs _ hk
    obtain ⟨v', a', hc, hpv, hrun⟩ := hload W0 ρ w (a.tmps.getD t undef) hr (fun u hu => hf.2.2 t u hu)
    refine ⟨v :: vs, v' :: vs', h1, ⟨conc2_of_conc3 hc hn, h2⟩, ?_⟩
    rw [List.mapM_cons]
    simp only [resM, hpv, asAddr, Sem.run_bind, Sem.run_pure, Result.andThen_ok, hrun, h3]

theorem run_results {fn : Func} {tmps : Array Value} {vs : List Value} {w : World} (h : (fn.results.toList.mapM (resM P tmps)).run P w = .ok vs w) : (results fn tmps).run P w = .ok (packR vs) w := by
  have hm : (fn.results.mapM (resM P tmps)).run P w = .ok vs.toArray w := by
    rw [Array.mapM_eq_mapM_toList]
    show ((fn.results.toList.mapM (resM P tmps) >>= fun l => pure l.toArray : Sem (Array Value))).run P w = _
    simp only [Sem.run_bind, h, Result.andThen_ok, Sem.run_pure]
  have he : (results fn tmps).run P w = ((fn.results.mapM (resM P tmps)).run P w).andThen fun vs w => .ok (if h : vs.size = 1 then vs[0] else .tuple vs) w := by
    unfold results
    simp only [Sem.run_bind, Sem.run_pure]
    rfl
  rw [he, hm]
  simp only [Result.andThen_ok]
  congr 1
  match vs with
  | [] => rfl
  | [v] => rfl
  | _ :: _ :: _ => simp [packR]

theorem packR_conc {ρ : List (Option Row)} {vs vs' : List Value} (h : All2 (conc2 ρ) vs vs') : conc3 ρ (packR vs) (packR vs') := by
  match vs, vs', h with
  | [], [], _ => exact ⟨#[], rfl, trivial⟩
  | [v], [v'], h =>
    simp only [packR]
    unfold conc3
    split
    · simp [All2, conc2, conc1, conc0] at h
    · exact h.1
  | a :: b :: l, a' :: b' :: l', h => exact ⟨_, rfl, by simpa [packR] using h⟩

/-- What is left behind a call: some objects are forgotten, and the result is what it was. -/
def GC (m m1 : Mem) (v1 : Value) (m2 : Mem) (v2 : Value) : Prop :=
  ∀ (W0 : World) (ρ ρ1 : List (Option Row)) (w w1 : World) (v' : Value), Rel W0 ρ m w → Ext ρ ρ1 → Rel W0 ρ1 m1 w1 → conc3 ρ1 v1 v' → ∃ ρ2, Ext ρ ρ2 ∧ Rel W0 ρ2 m2 w1 ∧ conc3 ρ2 v2 v'

theorem GC.refl (m m1 : Mem) (v1 : Value) : GC m m1 v1 m1 v1 := fun _ _ ρ1 _ _ _ _ hp hr hc => ⟨ρ1, hp, hr, hc⟩

def retK (P : Program) (rs : List ResultVar) (k : Value → Mem → Prop) : Post
  | .normal, σ, m => vres P σ m rs fun vs => k (packR vs) m
  | .ret, σ, m => vres P σ m rs fun vs => k (packR vs) m
  | _, _, _ => False

/-- The arguments in the first slots. -/
def frameOf (args : List Value) : Fr := fun i => args[i]?

/-- The results are one list of values. -/
theorem vres_one {σ : Fr} {m : Mem} : ∀ (rs : List ResultVar) (k : List Value → Prop), vres P σ m rs k → ∃ vs, k vs ∧ ∀ (W0 : World) (ρ : List (Option Row)) (N : Nat) (a : Act) (w : World), Rel W0 ρ m w → FRel ρ N a σ →
    ∃ vs', All2 (conc2 ρ) vs vs' ∧ (rs.mapM (resM P a.tmps)).run P w = .ok vs' w
  | [], k, h => ⟨[], h, fun W0 ρ N a w _ _ => ⟨[], trivial, by simp⟩⟩
  | .tmp t :: rs, k, h => by
    simp only [vres] at h
    split at h
    · rename_i v hv
      obtain ⟨vs, h1, h2⟩ := vres_one rs _ h.2
      refine ⟨v :: vs, h1, fun W0 ρ N a w hr hf => ?_⟩
      obtain ⟨vs', h3, h4⟩ := h2 W0 ρ N a w hr hf
      refine ⟨a.tmps.getD t undef :: vs', ⟨conc2_of_conc3 (hf.2.2 t v hv) h.1, h3⟩, ?_⟩
      rw [List.mapM_cons]
      simp only [resM, Sem.run_bind, Sem.run_pure, Result.andThen_ok, h4]
    · exact h.elim
  | .cell t ty :: rs, k, h => by
    simp only [vres] at h
    obtain ⟨v, ⟨hn, hk⟩, hload⟩ := vload_spec h
    obtain ⟨vs, h1, h2⟩ := vres_one rs _ hk
    refine ⟨v :: vs, h1, fun W0 ρ N a w hr hf => ?_⟩
    obtain ⟨vs', h3, h4⟩ := h2 W0 ρ N a w hr hf
    obtain ⟨v', a', hc, hpv, hrun⟩ := hload W0 ρ w (a.tmps.getD t undef) hr (fun u hu => hf.2.2 t u hu)
    refine ⟨v' :: vs', ⟨conc2_of_conc3 hc hn, h3⟩, ?_⟩
    rw [List.mapM_cons]
    simp only [resM, hpv, asAddr, Sem.run_bind, Sem.run_pure, Result.andThen_ok, hrun, h4]

/-- What a call leads to, where it is not told in full beforehand. -/
theorem ecalls_of_vcF (fm : List Nat) {f : FuncId} {fn : Func} {body : Code} {args : List Value} {m : Mem} {Q : Value → Mem → Prop} (hf : P.funcs[f]? = some fn) (hb : fn.body = some body) (hfol : P.follows .mixedOrders = true)
    (hok : (codeOK fn.ntmps fm body && decide (args.length ≤ fn.ntmps)) = true)
    (h : vc P fn.ntmps fm body (retK P fn.results.toList fun v1 m1 => ∃ v m', GC m m1 v1 m' v ∧ Q v m') (frameOf args) m) : ∃ v m', ACalls P f args m v m' ∧ Q v m' := by
  simp only [Bool.and_eq_true, decide_eq_true_eq] at hok
  obtain ⟨e, σ', m1, hk, hw⟩ := awp_of_vc body _ _ m h hok.1 hfol
  have h' : (e = .normal ∨ e = .ret) ∧ vres P σ' m1 fn.results.toList (fun vs => ∃ v m', GC m m1 (packR vs) m' v ∧ Q v m') := by
    cases e with
    | normal => exact ⟨.inl rfl, hk⟩
    | ret => exact ⟨.inr rfl, hk⟩
    | exit id => exact hk.elim
    | goto l => exact hk.elim
    | panic ch => exact hk.elim
    | outgrown => exact hk.elim
  obtain ⟨he, h'⟩ := h'
  obtain ⟨vs, ⟨v, m', hg, hq⟩, hres⟩ := vres_one _ _ h'
  refine ⟨v, m', ⟨?_⟩, hq⟩
  intro W0 ρ w args' hr hargs
  refine calls_of_wp hf hb ?_
  have hlen := hargs.length
  have hfr : FRel ρ fn.ntmps { tmps := args' ++ Array.replicate (fn.ntmps - args'.size) undef, defers := [] } (frameOf args) := by
    refine ⟨rfl, by simp only [Array.size_append, Array.size_replicate]; simp at hlen; omega, fun t u hu => ?_⟩
    obtain ⟨y, hy, hR⟩ := hargs.get t u hu
    have hlt : t < args'.size := by simpa using (List.getElem?_eq_some_iff.1 hy).1
    have : (args' ++ Array.replicate (fn.ntmps - args'.size) undef).getD t undef = y := by
      rw [Array.getD_eq_getD_getElem?, Array.getElem?_append_left hlt]
      have : args'[t]? = some y := by simpa using hy
      rw [this]; rfl
    rw [this]; exact hR
  refine wp_mono (hw hok.1 hfol W0 ρ w _ hr hfr) ?_
  rintro e' a' w' ⟨σ2, m2, ρ1, hp, hr', hf', rfl, rfl, rfl⟩
  have fin : a'.defers = [] ∧ ∃ u, (results fn a'.tmps).run P w' = .ok u w' ∧ ∃ ρ'' v', Ext ρ ρ'' ∧ Rel W0 ρ'' m' w' ∧ conc3 ρ'' v v' ∧ Ending.returned u = .returned v' := by
    obtain ⟨vs', h2, h3⟩ := hres W0 ρ1 fn.ntmps a' w' hr' hf'
    obtain ⟨ρ2, g1, g2, g3⟩ := hg W0 ρ ρ1 w w' _ hr hp hr' (packR_conc h2)
    exact ⟨hf'.1, _, run_results h3, ρ2, _, g1, g2, g3, rfl⟩
  rcases he with rfl | rfl
  · exact fin
  · exact fin

theorem acalls_of_vcF (fm : List Nat) {f : FuncId} {fn : Func} {body : Code} {args : List Value} {m m' : Mem} {v : Value} (hf : P.funcs[f]? = some fn) (hb : fn.body = some body) (hfol : P.follows .mixedOrders = true)
    (hok : (codeOK fn.ntmps fm body && decide (args.length ≤ fn.ntmps)) = true)
    (h : vc P fn.ntmps fm body (retK P fn.results.toList fun v1 m1 => GC m m1 v1 m' v) (frameOf args) m) : ACalls P f args m v m' := by
  simp only [Bool.and_eq_true, decide_eq_true_eq] at hok
  obtain ⟨e, σ', m1, hk, hw⟩ := awp_of_vc body _ _ m h hok.1 hfol
  have h' : (e = .normal ∨ e = .ret) ∧ vres P σ' m1 fn.results.toList (fun vs => GC m m1 (packR vs) m' v) := by
    cases e with
    | normal => exact ⟨.inl rfl, hk⟩
    | ret => exact ⟨.inr rfl, hk⟩
    | exit id => exact hk.elim
    | goto l => exact hk.elim
    | panic ch => exact hk.elim
    | outgrown => exact hk.elim
  obtain ⟨he, h'⟩ := h'
  refine ⟨?_⟩
  intro W0 ρ w args' hr hargs
  refine calls_of_wp hf hb ?_
  have hlen := hargs.length
  have hfr : FRel ρ fn.ntmps { tmps := args' ++ Array.replicate (fn.ntmps - args'.size) undef, defers := [] } (frameOf args) := by
    refine ⟨rfl, by simp only [Array.size_append, Array.size_replicate]; simp at hlen; omega, fun t u hu => ?_⟩
    obtain ⟨y, hy, hR⟩ := hargs.get t u hu
    have hlt : t < args'.size := by simpa using (List.getElem?_eq_some_iff.1 hy).1
    have : (args' ++ Array.replicate (fn.ntmps - args'.size) undef).getD t undef = y := by
      rw [Array.getD_eq_getD_getElem?, Array.getElem?_append_left hlt]
      have : args'[t]? = some y := by simpa using hy
      rw [this]; rfl
    rw [this]; exact hR
  refine wp_mono (hw hok.1 hfol W0 ρ w _ hr hfr) ?_
  rintro e' a' w' ⟨σ2, m2, ρ1, hp, hr', hf', rfl, rfl, rfl⟩
  have fin : a'.defers = [] ∧ ∃ u, (results fn a'.tmps).run P w' = .ok u w' ∧ ∃ ρ'' v', Ext ρ ρ'' ∧ Rel W0 ρ'' m' w' ∧ conc3 ρ'' v v' ∧ Ending.returned u = .returned v' := by
    obtain ⟨vs, vs', h1, h2, h3⟩ := vres_run hr' hf' _ _ h'
    obtain ⟨ρ2, g1, g2, g3⟩ := h1 W0 ρ ρ1 w w' _ hr hp hr' (packR_conc h2)
    exact ⟨hf'.1, _, run_results h3, ρ2, _, g1, g2, g3, rfl⟩
  rcases he with rfl | rfl
  · exact fin
  · exact fin

theorem ecalls_of_vc {f : FuncId} {fn : Func} {body : Code} {args : List Value} {m : Mem} {Q : Value → Mem → Prop} (hf : P.funcs[f]? = some fn) (hb : fn.body = some body) (hfol : P.follows .mixedOrders = true)
    (hok : (codeOK fn.ntmps [] body && decide (args.length ≤ fn.ntmps)) = true)
    (h : vc P fn.ntmps [] body (retK P fn.results.toList fun v1 m1 => ∃ v m', GC m m1 v1 m' v ∧ Q v m') (frameOf args) m) : ∃ v m', ACalls P f args m v m' ∧ Q v m' := ecalls_of_vcF [] hf hb hfol hok h
theorem acalls_of_vc {f : FuncId} {fn : Func} {body : Code} {args : List Value} {m m' : Mem} {v : Value} (hf : P.funcs[f]? = some fn) (hb : fn.body = some body) (hfol : P.follows .mixedOrders = true)
    (hok : (codeOK fn.ntmps [] body && decide (args.length ≤ fn.ntmps)) = true)
    (h : vc P fn.ntmps [] body (retK P fn.results.toList fun v1 m1 => GC m m1 v1 m' v) (frameOf args) m) : ACalls P f args m v m' := acalls_of_vcF [] hf hb hfol hok h

/-! ### Forgetting -/
theorem conc0_back {ρ ρ1 : List (Option Row)} (hp : Ext ρ ρ1) {v x y : Value} (hx : conc0 ρ v x) (hy : conc0 ρ1 v y) : conc0 ρ v y := by
  unfold conc0 at *
  split at hx <;> simp only at hy ⊢ <;> first
    | exact hy
    | skip
  · obtain ⟨hs, r, hr, _⟩ := hx
    obtain ⟨_, r', hr', hy⟩ := hy
    rw [get_of_prefix hp hr] at hr'
    injection hr' with hr'
    injection hr' with hr'
    subst hr'
    exact ⟨hs, r, hr, hy⟩
  · obtain ⟨hc, hx⟩ := hx
    obtain ⟨_, hy⟩ := hy
    refine ⟨hc, ?_⟩
    rcases hx with ⟨hs, r, hr, hl, _⟩ | ⟨hs, hn, _⟩
    · rcases hy with ⟨_, r', hr', _, hy⟩ | ⟨hs', _⟩
      · rw [get_of_prefix hp hr] at hr'
        injection hr' with hr'
        injection hr' with hr'
        subst hr'
        exact .inl ⟨hs, r, hr, hl, hy⟩
      · rw [hs] at hs'; cases hs'
    · rcases hy with ⟨hs', _⟩ | ⟨_, _, hy⟩
      · rw [hs] at hs'; cases hs'
      · exact .inr ⟨hs, hn, hy⟩
theorem All2.back {R S T : Value → Value → Prop} (h : ∀ v x y, R v x → S v y → T v y) : ∀ {vs xs ys : List Value}, All2 R vs xs → All2 S vs ys → All2 T vs ys
  | [], [], [], _, _ => trivial
  | _ :: _, _ :: _, _ :: _, h1, h2 => ⟨h _ _ _ h1.1 h2.1, All2.back h h1.2 h2.2⟩
  | [], _ :: _, _, h1, _ => h1.elim
  | _ :: _, [], _, h1, _ => h1.elim
  | [], [], _ :: _, _, h2 => h2.elim
  | _ :: _, _ :: _, [], _, h2 => h2.elim
theorem concA_back {ρ ρ1 : List (Option Row)} (hp : Ext ρ ρ1) {v x y : Value} (hx : concA ρ v x) (hy : concA ρ1 v y) : concA ρ v y := by
  unfold concA at *
  split at hx
  · obtain ⟨h1, c, _, h3⟩ := hx
    obtain ⟨_, c', h2', h3'⟩ := hy
    exact ⟨h1, c', h2', All2.back (R := conc0 ρ) (S := conc0 ρ1) (T := conc0 ρ) (fun _ _ _ => conc0_back hp) h3 h3'⟩
  · rename_i hn
    split at hy
    · exact absurd rfl (hn _ _ _)
    · exact conc0_back hp hx hy
theorem conc1_back {ρ ρ1 : List (Option Row)} (hp : Ext ρ ρ1) {v x y : Value} (hx : conc1 ρ v x) (hy : conc1 ρ1 v y) : conc1 ρ v y := by
  unfold conc1 at *
  split at hx
  · obtain ⟨h1, c, _, h3⟩ := hx
    obtain ⟨_, c', h2', h3'⟩ := hy
    exact ⟨h1, c', h2', All2.back (R := concA ρ) (S := concA ρ1) (T := concA ρ) (fun _ _ _ => concA_back hp) h3 h3'⟩
  · rename_i hn
    split at hy
    · exact absurd rfl (hn _ _ _)
    · exact conc0_back hp hx hy

def litV : Value → Bool
  | .agg cs => cs.toList.all litB
  | .tuple vs => vs.toList.all fun v => match v with | .agg cs => cs.toList.all litB | v => litB v
  | v => litB v
theorem conc1_of_lit {ρ : List (Option Row)} {v : Value} (h : litB v = true) : conc1 ρ v v := by
  unfold litB at h
  split at h <;> simp_all [conc1, conc0]
theorem All2.lits {ρ ρ1 : List (Option Row)} : ∀ {vs ys : List Value}, vs.all litB = true → All2 (conc1 ρ1) vs ys → All2 (conc1 ρ) vs ys
  | [], [], _, _ => trivial
  | v :: vs, y :: ys, h, h2 => by
    simp only [List.all_cons, Bool.and_eq_true] at h
    exact ⟨by rw [conc1_lit h.1 h2.1]; exact conc1_of_lit h.1, All2.lits h.2 h2.2⟩
  | [], _ :: _, _, h2 => h2.elim
  | _ :: _, [], _, h2 => h2.elim
theorem conc2_litV {ρ ρ1 : List (Option Row)} {v y : Value} (h : (match v with | .agg cs => cs.toList.all litB | v => litB v) = true) (hy : conc2 ρ1 v y) : conc2 ρ v y := by
  unfold conc2 at *
  split at hy
  · obtain ⟨c, h1, h2⟩ := hy
    exact ⟨c, h1, All2.lits h h2⟩
  · rename_i hn
    split at h
    · exact absurd rfl (hn _)
    · rw [conc1_lit h hy]; exact conc1_of_lit h
theorem conc3_litV {ρ ρ1 : List (Option Row)} {v y : Value} (h : litV v = true) (hy : conc3 ρ1 v y) : conc3 ρ v y := by
  unfold conc3 at *
  split at hy
  · rename_i vs
    obtain ⟨c, h1, h2⟩ := hy
    refine ⟨c, h1, ?_⟩
    simp only [litV] at h
    generalize vs.toList = l at *
    generalize c.toList = l' at *
    clear h1
    induction l generalizing l' with
    | nil => cases l' with
      | nil => trivial
      | cons _ _ => exact h2.elim
    | cons v l ih => cases l' with
      | nil => exact h2.elim
      | cons y l' =>
        simp only [List.all_cons, Bool.and_eq_true] at h
        exact ⟨conc2_litV h.1 h2.1, ih h.2 l' h2.2⟩
  · rename_i hn
    refine conc2_litV ?_ hy
    unfold litV at h
    split at h
    · exact h
    · exact absurd rfl (hn _)
    · rename_i h1 h2
      split
      · exact absurd rfl (h1 _)
      · exact h

/-- All objects of the call's own are forgotten; what was there has not turned. -/
theorem Rel.drop {W0 : World} {ρ ρ1 : List (Option Row)} {m j : Mem} {w w1 : World} (hr : Rel W0 ρ m w) (hp : Ext ρ ρ1) (hr1 : Rel W0 ρ1 (m ++ j) w1) : Rel W0 ρ m w1 := by
  have hm : ∀ {i : Nat} {o : AObj}, m[i]? = some o → (m ++ j)[i]? = some o := fun h => prefix_get ⟨j, rfl⟩ h
  refine ⟨hr1.below, hr.tab, hr.len, hr.row, hr.off, fun i o r hi hri => ?_, fun a b oa ob ra rb hab ha hb hla hlb hra hrb => hr1.inj a b oa ob ra rb hab (hm ha) (hm hb) hla hlb (get_of_prefix hp hra) (get_of_prefix hp hrb)⟩
  have h0 := hr.obj i o r hi hri
  have h1 := hr1.obj i o r (hm hi) (get_of_prefix hp hri)
  refine ⟨fun hk => ?_, fun hl => ?_⟩
  · obtain ⟨a1, a2, a3⟩ := h1.1 hk
    refine ⟨a1, a2, fun j v hj => ?_⟩
    obtain ⟨v', b1, b2⟩ := a3 j v hj
    obtain ⟨x, _, b3⟩ := (h0.1 hk).2.2 j v hj
    exact ⟨v', b1, conc1_back hp b3 b2⟩
  · obtain ⟨a1, a2, a3, a4, c, a5, a6, a7, a8, a9⟩ := h1.2 hl
    refine ⟨a1, a2, a3, a4, c, a5, a6, a7, a8, fun j v hj => ?_⟩
    obtain ⟨v', b1, b2⟩ := a9 j v hj
    obtain ⟨x, _, b3⟩ := h0.read (.inr hl) hj
    exact ⟨v', b1, conc1_back hp b3 b2⟩

theorem GC.drop {m j : Mem} {v : Value} (hl : litV v = true) : GC m (m ++ j) v m v :=
  fun _ ρ _ _ _ _ hr hp hr1 hc => ⟨ρ, Ext.refl _, hr.drop hp hr1, conc3_litV hl hc⟩

end Go.Abs
