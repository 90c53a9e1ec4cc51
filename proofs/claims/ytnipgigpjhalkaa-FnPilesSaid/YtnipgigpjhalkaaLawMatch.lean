/-
  Plain law: looking for lids or pots one after the other, moving others if need be, matches as many as can be matched. Conditions: none; no program in sight.
-/
import Derived.Test.YtnipgigpjhalkaaAbsCore
set_option linter.unusedSimpArgs false
set_option linter.unusedVariables false
set_option linter.unusedSectionVars false
namespace Go.Law

/-- What is kept while one looks: for each left one its right one, for each right one its left one (-1: none), and which right ones have been looked at. -/
structure KSt where
  left : List Int
  right : List Int
  seen : List Bool

def kscan (find : Nat → KSt → Bool × KSt) (may : Nat → Nat → Bool) (a : Nat) : List Nat → KSt → Bool × KSt
  | [], st => (false, st)
  | b :: bs, st =>
    if st.seen.getD b false || !may a b then kscan find may a bs st
    else
      let st1 : KSt := ⟨st.left, st.right, st.seen.set b true⟩
      if st.right.getD b 0 < 0 then (true, ⟨st.left.set a b, st.right.set b a, st1.seen⟩)
      else match find (st.right.getD b 0).toNat st1 with
        | (true, st2) => (true, ⟨st2.left.set a b, st2.right.set b a, st2.seen⟩)
        | (false, st2) => kscan find may a bs st2
def kfind (may : Nat → Nat → Bool) (m : Nat) : Nat → Nat → KSt → Bool × KSt
  | 0, _, st => (false, st)
  | f + 1, a, st => kscan (kfind may m f) may a (List.range m) st
/-- All left ones, one after the other. -/
def kall (may : Nat → Nat → Bool) (m : Nat) : Nat → List Int → List Int → List Int × List Int × Nat
  | 0, l, r => (l, r, 0)
  | k + 1, l, r =>
    match kall may m k l r with
    | (l1, r1, c) => match kfind may m (m + 1) k ⟨l1, r1, List.replicate m false⟩ with
      | (true, st) => (st.left, st.right, c + 1)
      | (false, st) => (st.left, st.right, c)

def unseen (s : List Bool) : Nat := s.count false
theorem unseen_set {s : List Bool} {b : Nat} (hb : b < s.length) (h : s.getD b false = false) : unseen (s.set b true) + 1 = unseen s := by
  unfold unseen
  have hs : s[b] = false := by simpa [List.getD_eq_getElem?_getD, List.getElem?_eq_getElem hb] using h
  rw [List.count_set hb]
  have : 0 < s.count false := List.count_pos_iff.2 (by rw [← hs]; exact List.getElem_mem hb)
  simp [hs]; omega

/-- A way by which one more is matched: what stood there before is looked at no more. -/
inductive Aug (may : Nat → Nat → Bool) (m : Nat) : (Nat → Prop) → Nat → List Int → List Int → Prop
  | free {seen : Nat → Prop} {a b : Nat} {r : List Int} : b < m → ¬ seen b → may a b = true → r.getD b 0 < 0 → Aug may m seen a r (r.set b a)
  | step {seen seen2 : Nat → Prop} {a b a' : Nat} {r r1 : List Int} : b < m → ¬ seen b → may a b = true → r.getD b 0 = (a' : Int) → seen2 b → (∀ x, seen x → seen2 x) → Aug may m seen2 a' r r1 → Aug may m seen a r (r1.set b a)

def Seen (s : List Bool) (b : Nat) : Prop := s.getD b false = true

/-- What looking does. -/
structure KPost (may : Nat → Nat → Bool) (m : Nat) (a : Nat) (st : KSt) (p : Bool × KSt) : Prop where
  len : p.2.seen.length = st.seen.length
  rlen : p.2.right.length = st.right.length
  grow : ∀ b, Seen st.seen b → Seen p.2.seen b
  less : unseen p.2.seen ≤ unseen st.seen
  yes : p.1 = true → Aug may m (Seen st.seen) a st.right p.2.right
  no : p.1 = false → p.2.right = st.right ∧ (∀ b, b < m → may a b = true → Seen p.2.seen b) ∧
    ∀ b, b < m → Seen p.2.seen b → ¬ Seen st.seen b → ∃ x : Nat, st.right.getD b 0 = (x : Int) ∧ ∀ b', b' < m → may x b' = true → Seen p.2.seen b'

theorem Seen_set {s : List Bool} {b c : Nat} (hb : b < s.length) : Seen (s.set b true) c ↔ c = b ∨ Seen s c := by
  unfold Seen
  by_cases h : b = c
  · subst h; simp [List.getD_eq_getElem?_getD, hb]
  · simp [List.getD_eq_getElem?_getD, List.getElem?_set_ne h, Ne.symm h]

theorem Aug.mono {may : Nat → Nat → Bool} {m : Nat} {seen seen' : Nat → Prop} {a : Nat} {r r' : List Int} (h : Aug may m seen a r r') (hs : ∀ b, seen' b → seen b) : Aug may m seen' a r r' := by
  cases h with
  | free h1 h2 h3 h4 => exact .free h1 (fun h => h2 (hs _ h)) h3 h4
  | step h1 h2 h3 h4 h5 h6 h7 => exact .step h1 (fun h => h2 (hs _ h)) h3 h4 h5 (fun x hx => h6 x (hs x hx)) h7

theorem kscan_post {may : Nat → Nat → Bool} {m : Nat} {find : Nat → KSt → Bool × KSt} {f : Nat} (hfind : ∀ a st, st.seen.length = m → st.right.length = m → unseen st.seen < f → KPost may m a st (find a st)) (a : Nat) :
    ∀ (bs : List Nat) (st : KSt), (∀ b ∈ bs, b < m) → st.seen.length = m → st.right.length = m → unseen st.seen < f + 1 →
      (kscan find may a bs st).2.seen.length = m ∧ (kscan find may a bs st).2.right.length = m ∧ (∀ b, Seen st.seen b → Seen (kscan find may a bs st).2.seen b) ∧ unseen (kscan find may a bs st).2.seen ≤ unseen st.seen ∧
      ((kscan find may a bs st).1 = true → Aug may m (Seen st.seen) a st.right (kscan find may a bs st).2.right) ∧
      ((kscan find may a bs st).1 = false → (kscan find may a bs st).2.right = st.right ∧ (∀ b ∈ bs, may a b = true → Seen (kscan find may a bs st).2.seen b) ∧
        ∀ b, b < m → Seen (kscan find may a bs st).2.seen b → ¬ Seen st.seen b → ∃ x : Nat, st.right.getD b 0 = (x : Int) ∧ ∀ b', b' < m → may x b' = true → Seen (kscan find may a bs st).2.seen b')
  | [], st, _, h1, h2, _ => ⟨h1, h2, fun _ h => h, Nat.le_refl _, fun h => by simp [kscan] at h, fun _ => ⟨rfl, by simp, fun b _ h h' => absurd h h'⟩⟩
  | b :: bs, st, hbs, h1, h2, h3 => by
    have hb : b < m := hbs b (by simp)
    have hbs' : ∀ x ∈ bs, x < m := fun x hx => hbs x (by simp [hx])
    by_cases hc : (st.seen.getD b false || !may a b) = true
    · have e : kscan find may a (b :: bs) st = kscan find may a bs st := by simp only [kscan, hc, if_true]
      rw [e]
      obtain ⟨g1, g2, g3, g4, g5, g6⟩ := kscan_post hfind a bs st hbs' h1 h2 h3
      refine ⟨g1, g2, g3, g4, g5, fun h => ?_⟩
      obtain ⟨k1, k2, k3⟩ := g6 h
      refine ⟨k1, fun x hx hm => ?_, k3⟩
      rcases List.mem_cons.1 hx with rfl | hx
      · refine g3 _ ?_
        rw [hm] at hc
        simpa [Seen] using hc
      · exact k2 x hx hm
    · have hc' : (st.seen.getD b false || !may a b) = false := by simpa using hc
      obtain ⟨hs, hm⟩ : st.seen.getD b false = false ∧ may a b = true := by
        simpa using hc'
      have hns : ¬ Seen st.seen b := by unfold Seen; rw [hs]; simp
      have hsl : (st.seen.set b true).length = m := by simpa using h1
      have hun := unseen_set (s := st.seen) (b := b) (by omega) hs
      have hset : ∀ c, Seen (st.seen.set b true) c ↔ c = b ∨ Seen st.seen c := fun c => Seen_set (by omega)
      by_cases hr : st.right.getD b 0 < 0
      · have e : kscan find may a (b :: bs) st = (true, ⟨st.left.set a b, st.right.set b a, st.seen.set b true⟩) := by
          simp only [kscan, hc', Bool.false_eq_true, if_false, hr, if_true]
        rw [e]
        exact ⟨hsl, by simpa using h2, fun c hc => (hset c).2 (.inr hc), by simp only; omega, fun _ => .free hb hns hm hr, fun h => by simp at h⟩
      · obtain ⟨x, hx⟩ : ∃ x : Nat, st.right.getD b 0 = (x : Int) := ⟨(st.right.getD b 0).toNat, by omega⟩
        have hp := hfind x ⟨st.left, st.right, st.seen.set b true⟩ hsl h2 (by simp only; omega)
        rcases hq : find x ⟨st.left, st.right, st.seen.set b true⟩ with ⟨ok, st2⟩
        rw [hq] at hp
        have e0 : kscan find may a (b :: bs) st = (match (ok, st2) with
            | (true, st2) => (true, ⟨st2.left.set a b, st2.right.set b a, st2.seen⟩)
            | (false, st2) => kscan find may a bs st2) := by
          have hx0 : ¬ ((x : Int) < 0) := by omega
          simp only [kscan, hc', Bool.false_eq_true, if_false, hx, hx0, Int.toNat_natCast, hq]
        have pl := hp.len
        have pr := hp.rlen
        have pu := hp.less
        simp only at pl pr pu
        have pg : ∀ c, Seen st.seen c → Seen st2.seen c := fun c hc => hp.grow c ((hset c).2 (.inr hc))
        have pb : Seen st2.seen b := hp.grow b ((hset b).2 (.inl rfl))
        cases ok with
        | true =>
          rw [e0]
          refine ⟨by simp only; omega, by simp only [List.length_set]; omega, pg, by simp only; omega, fun _ => ?_, fun h => by simp at h⟩
          exact .step (seen2 := Seen (st.seen.set b true)) hb hns hm hx ((hset b).2 (.inl rfl)) (fun c hc => (hset c).2 (.inr hc)) (hp.yes rfl)
        | false =>
          have e : kscan find may a (b :: bs) st = kscan find may a bs st2 := e0
          rw [e]
          obtain ⟨n1, n2, n3⟩ := hp.no rfl
          simp only at n1 n2 n3
          obtain ⟨g1, g2, g3, g4, g5, g6⟩ := kscan_post hfind a bs st2 hbs' (by omega) (by omega) (by omega)
          rw [n1] at g5 g6
          refine ⟨g1, g2, fun c hc => g3 c (pg c hc), by omega, fun h => (g5 h).mono pg, fun h => ?_⟩
          obtain ⟨k1, k2, k3⟩ := g6 h
          refine ⟨k1, fun c hc hm' => ?_, fun c hc hs' hn' => ?_⟩
          · rcases List.mem_cons.1 hc with rfl | hc
            · exact g3 _ pb
            · exact k2 c hc hm'
          · by_cases h2s : Seen st2.seen c
            · by_cases hcb : c = b
              · subst hcb
                exact ⟨x, hx, fun b' hb' hm' => g3 _ (n2 b' hb' hm')⟩
              · obtain ⟨y, hy, hy'⟩ := n3 c hc h2s (fun h => by rcases (hset c).1 h with h | h; exact hcb h; exact hn' h)
                exact ⟨y, hy, fun b' hb' hm' => g3 _ (hy' b' hb' hm')⟩
            · exact k3 c hc hs' h2s

theorem kfind_post {may : Nat → Nat → Bool} {m : Nat} : ∀ (f a : Nat) (st : KSt), st.seen.length = m → st.right.length = m → unseen st.seen < f → KPost may m a st (kfind may m f a st)
  | 0, _, _, _, _, h => absurd h (by omega)
  | f + 1, a, st, h1, h2, h3 => by
    obtain ⟨g1, g2, g3, g4, g5, g6⟩ := kscan_post (may := may) (find := kfind may m f) (fun a st h1 h2 h3 => kfind_post f a st h1 h2 h3) a (List.range m) st (by simp) h1 h2 h3
    exact ⟨g1.trans h1.symm, g2.trans h2.symm, g3, g4, g5, fun h => ⟨(g6 h).1, fun b hb => (g6 h).2.1 b (by simpa using hb), (g6 h).2.2⟩⟩

/-! ### What a way does -/
theorem Aug.at_seen {may : Nat → Nat → Bool} {m : Nat} {seen : Nat → Prop} {a : Nat} {r r' : List Int} (h : Aug may m seen a r r') : ∀ b, seen b → r'.getD b 0 = r.getD b 0 := by
  induction h with
  | @free seen a b r h1 h2 h3 h4 =>
    intro c hc
    have : c ≠ b := fun e => by subst e; exact h2 hc
    simp [List.getD_eq_getElem?_getD, List.getElem?_set_ne (Ne.symm this)]
  | @step seen seen2 a b a' r r1 h1 h2 h3 h4 h5 h6 h7 ih =>
    intro c hc
    have : c ≠ b := fun e => by subst e; exact h2 hc
    rw [← ih c (h6 c hc)]
    simp [List.getD_eq_getElem?_getD, List.getElem?_set_ne (Ne.symm this)]
theorem Aug.length {may : Nat → Nat → Bool} {m : Nat} {seen : Nat → Prop} {a : Nat} {r r' : List Int} (h : Aug may m seen a r r') : r'.length = r.length := by
  induction h with
  | free => simp
  | step _ _ _ _ _ _ _ ih => simpa using ih
theorem count_setI {r : List Int} {b : Nat} {x y : Int} (hb : b < r.length) : (r.set b y).count x + (if r.getD b 0 = x then 1 else 0) = r.count x + (if y = x then 1 else 0) := by
  have e : r.getD b 0 = r[b] := by simp [List.getD_eq_getElem?_getD, List.getElem?_eq_getElem hb]
  rw [List.count_set hb, e]
  by_cases h : r[b] = x
  · have : 0 < r.count x := List.count_pos_iff.2 (h ▸ List.getElem_mem hb)
    simp [h]; omega
  · simp [h]
/-- A left one more is matched, and a right one. -/
theorem Aug.count {may : Nat → Nat → Bool} {m : Nat} {seen : Nat → Prop} {a : Nat} {r r' : List Int} (h : Aug may m seen a r r') (hm : r.length = m) (hr : ∀ b, b < m → r.getD b 0 = -1 ∨ 0 ≤ r.getD b 0) :
    ∀ x : Int, r'.count x + (if x = -1 then 1 else 0) = r.count x + (if (a : Int) = x then 1 else 0) := by
  induction h with
  | @free seen a b r h1 h2 h3 h4 =>
    intro x
    have := count_setI (r := r) (b := b) (x := x) (y := (a : Int)) (by omega)
    have e : r.getD b 0 = -1 := by rcases hr b h1 with h | h <;> omega
    rw [e] at this
    simp only [eq_comm (a := (-1 : Int))] at this
    exact this
  | @step seen seen2 a b a' r r1 h1 h2 h3 h4 h5 h6 h7 ih =>
    intro x
    have h0 := ih hm hr x
    have hl := h7.length
    have := count_setI (r := r1) (b := b) (x := x) (y := (a : Int)) (by omega)
    rw [h7.at_seen b h5, h4] at this
    omega
theorem Aug.may {may : Nat → Nat → Bool} {m : Nat} {seen : Nat → Prop} {a : Nat} {r r' : List Int} (h : Aug may m seen a r r') (hm : r.length = m) {P : Nat → Prop} (ha : P a) (hr : ∀ b, b < m → r.getD b 0 = -1 ∨ ∃ x : Nat, P x ∧ r.getD b 0 = x ∧ may x b = true) :
    ∀ b, b < m → r'.getD b 0 = -1 ∨ ∃ x : Nat, P x ∧ r'.getD b 0 = x ∧ may x b = true := by
  induction h with
  | @free seen a b r h1 h2 h3 h4 =>
    intro c hc
    by_cases hcb : c = b
    · subst hcb
      exact .inr ⟨a, ha, by simp [List.getD_eq_getElem?_getD, hm, hc], h3⟩
    · have := hr c hc
      rwa [show (r.set b (a : Int)).getD c 0 = r.getD c 0 by simp [List.getD_eq_getElem?_getD, List.getElem?_set_ne (Ne.symm hcb)]]
  | @step seen seen2 a b a' r r1 h1 h2 h3 h4 h5 h6 h7 ih =>
    intro c hc
    have hl := h7.length
    have ha' : P a' := by
      rcases hr b h1 with h | ⟨x, hx, h, _⟩
      · omega
      · have : x = a' := by omega
        exact this ▸ hx
    by_cases hcb : c = b
    · subst hcb
      exact .inr ⟨a, ha, by simp [List.getD_eq_getElem?_getD, hl, hm, hc], h3⟩
    · have := ih hm ha' hr c hc
      rwa [show (r1.set b (a : Int)).getD c 0 = r1.getD c 0 by simp [List.getD_eq_getElem?_getD, List.getElem?_set_ne (Ne.symm hcb)]]

/-- Left ones whose right ones are all taken by such left ones. -/
structure Shut (may : Nat → Nat → Bool) (m : Nat) (r : List Int) (S T : Nat → Prop) : Prop where
  out : ∀ a, S a → ∀ b, b < m → may a b = true → T b
  back : ∀ b, T b → b < m ∧ ∃ a : Nat, S a ∧ r.getD b 0 = (a : Int)
theorem Aug.not_shut {may : Nat → Nat → Bool} {m : Nat} {seen : Nat → Prop} {a : Nat} {r r' : List Int} (h : Aug may m seen a r r') {S T : Nat → Prop} (hs : Shut may m r S T) : ¬ S a := by
  induction h with
  | free h1 h2 h3 h4 =>
    intro ha
    obtain ⟨_, x, _, hx⟩ := hs.back _ (hs.out _ ha _ h1 h3)
    omega
  | step h1 h2 h3 h4 h5 h6 h7 ih =>
    intro ha
    obtain ⟨_, x, hS, hx⟩ := hs.back _ (hs.out _ ha _ h1 h3)
    refine ih hs ?_
    rw [h4] at hx
    have : _ = x := Int.ofNat.inj hx
    exact this ▸ hS
theorem Aug.shut {may : Nat → Nat → Bool} {m : Nat} {seen : Nat → Prop} {a : Nat} {r r' : List Int} (h : Aug may m seen a r r') {S T : Nat → Prop} (hs : Shut may m r S T) : Shut may m r' S T := by
  have key : ∀ b, T b → r'.getD b 0 = r.getD b 0 := by
    induction h with
    | @free seen a b r h1 h2 h3 h4 =>
      intro c hc
      have : c ≠ b := by
        rintro rfl
        obtain ⟨_, x, _, hx⟩ := hs.back _ hc
        omega
      simp [List.getD_eq_getElem?_getD, List.getElem?_set_ne (Ne.symm this)]
    | @step seen seen2 a b a' r r1 h1 h2 h3 h4 h5 h6 h7 ih =>
      intro c hc
      have : c ≠ b := by
        rintro rfl
        obtain ⟨_, x, hS, hx⟩ := hs.back _ hc
        rw [h4] at hx
        have hx' : a' = x := Int.ofNat.inj hx
        exact h7.not_shut hs (hx' ▸ hS)
      rw [← ih hs c hc]
      simp [List.getD_eq_getElem?_getD, List.getElem?_set_ne (Ne.symm this)]
  exact ⟨hs.out, fun b hb => by rw [key b hb]; exact hs.back b hb⟩

/-- The first k left ones have been seen to. -/
structure KInv (may : Nat → Nat → Bool) (m k : Nat) (r : List Int) (c : Nat) : Prop where
  len : r.length = m
  may_ : ∀ b, b < m → r.getD b 0 = -1 ∨ ∃ x : Nat, x < k ∧ r.getD b 0 = x ∧ may x b = true
  once : ∀ x : Nat, r.count (x : Int) ≤ 1
  cnt : c + r.count (-1) = m
  shut : ∃ S T : Nat → Prop, Shut may m r S T ∧ ∀ a, a < k → r.count (a : Int) = 0 → S a

theorem count_zero_of {r : List Int} {x : Int} (h : ∀ b, b < r.length → r.getD b 0 ≠ x) : r.count x = 0 := by
  rw [List.count_eq_zero]
  intro hx
  obtain ⟨b, hb, e⟩ := List.getElem_of_mem hx
  exact h b hb (by simp [List.getD_eq_getElem?_getD, List.getElem?_eq_getElem hb, e])

theorem kall_inv (may : Nat → Nat → Bool) (m : Nat) : ∀ (k : Nat) (l : List Int), KInv may m k (kall may m k l (List.replicate m (-1))).2.1 (kall may m k l (List.replicate m (-1))).2.2
  | 0, l => by
    refine ⟨by simp [kall], fun b hb => .inl (by simp [kall, List.getD_eq_getElem?_getD, hb]), fun x => ?_, by simp [kall], fun _ => False, fun _ => False, ⟨fun _ h => h.elim, fun _ h => h.elim⟩, fun a h => by omega⟩
    have : (kall may m 0 l (List.replicate m (-1))).2.1.count (x : Int) = 0 := by
      rw [List.count_eq_zero]
      intro h
      have := (List.mem_replicate.1 h).2
      omega
    omega
  | k + 1, l => by
    have ih := kall_inv may m k l
    rcases hk : kall may m k l (List.replicate m (-1)) with ⟨l1, r1, c⟩
    rw [hk] at ih
    simp only at ih
    have hp := kfind_post (may := may) (m := m) (m + 1) k ⟨l1, r1, List.replicate m false⟩ (by simp) ih.len (by simp [unseen])
    rcases hq : kfind may m (m + 1) k ⟨l1, r1, List.replicate m false⟩ with ⟨ok, st⟩
    rw [hq] at hp
    have hfalse : ∀ b, ¬ Seen (List.replicate m false) b := by
      intro b h
      unfold Seen at h
      by_cases hb : b < m <;> simp [List.getD_eq_getElem?_getD, hb] at h
    have hnew : r1.count (k : Int) = 0 := count_zero_of fun b hb e => by
      rcases ih.may_ b (by rw [← ih.len]; exact hb) with h | ⟨x, hx, h, _⟩ <;> omega
    have hneg : ∀ b, b < m → r1.getD b 0 = -1 ∨ 0 ≤ r1.getD b 0 := fun b hb => by
      rcases ih.may_ b hb with h | ⟨x, hx, h, _⟩
      · exact .inl h
      · exact .inr (by omega)
    obtain ⟨S, T, hS, hfree⟩ := ih.shut
    cases ok with
    | true =>
      have e : kall may m (k + 1) l (List.replicate m (-1)) = (st.left, st.right, c + 1) := by simp only [kall, hk, hq]
      rw [e]
      have ha := hp.yes rfl
      simp only at ha
      have hcnt := ha.count ih.len hneg
      refine ⟨ha.length.trans ih.len, ?_, fun x => ?_, ?_, S, T, ha.shut hS, fun a h1 h2 => ?_⟩
      · refine ha.may (P := fun x => x < k + 1) ih.len (by omega) fun b hb => ?_
        rcases ih.may_ b hb with h | ⟨x, hx, h⟩
        · exact .inl h
        · exact .inr ⟨x, by omega, h⟩
      · have h1 := hcnt x
        have h2 := ih.once x
        by_cases hxk : (k : Int) = x
        · rw [← hxk] at h1 ⊢
          rw [hnew] at h1
          simp at h1
          simp only
          omega
        · rw [if_neg hxk, if_neg (by omega)] at h1
          simp only
          omega
      · have h1 := hcnt (-1)
        have h2 := ih.cnt
        rw [if_pos rfl, if_neg (by omega)] at h1
        simp only
        omega
      · have h3 := hcnt a
        simp only at h2
        rw [h2] at h3
        by_cases hak : (k : Int) = a
        · rw [if_pos hak, if_neg (by omega)] at h3; omega
        · rw [if_neg hak, if_neg (by omega)] at h3
          exact hfree a (by omega) (by omega)
    | false =>
      have e : kall may m (k + 1) l (List.replicate m (-1)) = (st.left, st.right, c) := by simp only [kall, hk, hq]
      rw [e]
      obtain ⟨n1, n2, n3⟩ := hp.no rfl
      simp only at n1 n2 n3
      rw [n1]
      refine ⟨ih.len, fun b hb => ?_, ih.once, ih.cnt, fun a => S a ∨ a = k ∨ ∃ b, b < m ∧ Seen st.seen b ∧ r1.getD b 0 = (a : Int), fun b => T b ∨ (b < m ∧ Seen st.seen b), ⟨?_, ?_⟩, ?_⟩
      · rcases ih.may_ b hb with h | ⟨x, hx, h⟩
        · exact .inl h
        · exact .inr ⟨x, by omega, h⟩
      · rintro a (ha | rfl | ⟨b0, hb0, hs0, h0⟩) b hb hm
        · exact .inl (hS.out a ha b hb hm)
        · exact .inr ⟨hb, n2 b hb hm⟩
        · obtain ⟨x, hx, hx'⟩ := n3 b0 hb0 hs0 (hfalse b0)
          have : x = a := by omega
          subst this
          exact .inr ⟨hb, hx' b hb hm⟩
      · rintro b (hb | ⟨hb, hs⟩)
        · obtain ⟨h1, a, h2, h3⟩ := hS.back b hb
          exact ⟨h1, a, .inl h2, h3⟩
        · obtain ⟨x, hx, _⟩ := n3 b hb hs (hfalse b)
          exact ⟨hb, x, .inr (.inr ⟨b, hb, hs, hx⟩), hx⟩
      · intro a h1 h2
        by_cases hak : a = k
        · exact .inr (.inl hak)
        · exact .inl (hfree a (by omega) h2)

/-- Pairs of which no two share a left one or a right one. -/
structure IsMatching (may : Nat → Nat → Bool) (n m : Nat) (M : List (Nat × Nat)) : Prop where
  left : (M.map (·.1)).Nodup
  right : (M.map (·.2)).Nodup
  mem : ∀ p ∈ M, p.1 < n ∧ p.2 < m ∧ may p.1 p.2 = true

theorem nodup_le : ∀ {l l' : List Nat}, l.Nodup → (∀ x ∈ l, x ∈ l') → l.length ≤ l'.length
  | [], _, _, _ => Nat.zero_le _
  | a :: l, l', h, hs => by
    have ha : a ∈ l' := hs a (by simp)
    have hn := List.nodup_cons.1 h
    have := nodup_le (l := l) (l' := l'.erase a) hn.2 fun x hx => (List.mem_erase_of_ne (fun e => by subst e; exact hn.1 hx)).2 (hs x (by simp [hx]))
    rw [List.length_erase_of_mem ha] at this
    have := List.length_pos_of_mem ha
    simp; omega

theorem count_getD {r : List Int} {x : Int} (h : 0 < r.count x) : ∃ b, b < r.length ∧ r.getD b 0 = x := by
  obtain ⟨b, hb, e⟩ := List.getElem_of_mem (List.count_pos_iff.1 h)
  exact ⟨b, hb, by simp [List.getD_eq_getElem?_getD, List.getElem?_eq_getElem hb, e]⟩
theorem count_two {r : List Int} {x : Int} : ∀ {b c : Nat}, b < r.length → c < r.length → b ≠ c → r.getD b 0 = x → r.getD c 0 = x → 2 ≤ r.count x := by
  induction r with
  | nil => intro b c hb; simp at hb
  | cons y r ih =>
    intro b c hb hc hbc h1 h2
    have pos : ∀ d, d < r.length → r.getD d 0 = x → 0 < r.count x := fun d hd e => List.count_pos_iff.2 (by
      have : r[d] = x := by simpa [List.getD_eq_getElem?_getD, List.getElem?_eq_getElem hd] using e
      exact this ▸ List.getElem_mem hd)
    cases b with
    | zero =>
      cases c with
      | zero => exact absurd rfl hbc
      | succ c =>
        have h1' : y = x := by simpa using h1
        have := pos c (by simpa using hc) (by simpa using h2)
        rw [List.count_cons, h1', beq_self_eq_true, if_pos rfl]; omega
    | succ b =>
      cases c with
      | zero =>
        have h2' : y = x := by simpa using h2
        have := pos b (by simpa using hb) (by simpa using h1)
        rw [List.count_cons, h2', beq_self_eq_true, if_pos rfl]; omega
      | succ c =>
        have := ih (b := b) (c := c) (by simpa using hb) (by simpa using hc) (by omega) (by simpa using h1) (by simpa using h2)
        rw [List.count_cons]; omega

theorem length_filter_count (r : List Int) : ((List.range r.length).filter fun b => decide (0 ≤ r.getD b 0)).length + (r.countP fun x => decide (x < 0)) = r.length := by
  have h1 : (List.range r.length).map (fun b => r.getD b 0) = r := by
    apply List.ext_getElem
    · simp
    · intro i h1 h2
      simp [List.getD_eq_getElem?_getD, List.getElem?_eq_getElem h2]
  have h2 : (r.countP fun x => decide (x < 0)) = (List.range r.length).countP fun b => decide (r.getD b 0 < 0) := by
    conv => lhs; rw [← h1]
    rw [List.countP_map]
    rfl
  rw [h2, ← List.countP_eq_length_filter]
  have := List.length_eq_countP_add_countP (fun b => decide (0 ≤ r.getD b 0)) (l := List.range r.length)
  rw [List.length_range] at this
  have e : (List.range r.length).countP (fun b => decide (r.getD b 0 < 0)) = (List.range r.length).countP (fun a => decide ¬(decide (0 ≤ r.getD a 0)) = true) := by
    congr 1
    funext b
    simp
  rw [e]
  exact this.symm

/-- The right ones that are matched. -/
def taken (r : List Int) : List Nat := (List.range r.length).filter fun b => decide (0 ≤ r.getD b 0)
theorem taken_nodup (r : List Int) : (taken r).Nodup := List.Pairwise.filter _ List.nodup_range
theorem mem_taken {r : List Int} {b : Nat} : b ∈ taken r ↔ b < r.length ∧ 0 ≤ r.getD b 0 := by simp [taken]
theorem KInv.taken_length {may : Nat → Nat → Bool} {m k c : Nat} {r : List Int} (h : KInv may m k r c) : (taken r).length = c := by
  have h1 := length_filter_count r
  have h2 : (r.countP fun x => decide (x < 0)) = r.count (-1) := by
    rw [List.count]
    refine List.countP_congr fun x hx => ?_
    obtain ⟨b, hb, e⟩ := List.getElem_of_mem hx
    have e' : r.getD b 0 = x := by simp [List.getD_eq_getElem?_getD, List.getElem?_eq_getElem hb, e]
    have : x = -1 ∨ 0 ≤ x := by
      rcases h.may_ b (by rw [← h.len]; exact hb) with h | ⟨y, _, h, _⟩ <;> omega
    simp
    omega
  have h3 := h.cnt
  have h4 := h.len
  unfold taken
  omega

/-- What has been matched is a matching. -/
theorem KInv.matching {may : Nat → Nat → Bool} {m k c : Nat} {r : List Int} (h : KInv may m k r c) : ∃ M, IsMatching may k m M ∧ M.length = c := by
  refine ⟨(taken r).map fun b => ((r.getD b 0).toNat, b), ⟨?_, ?_, ?_⟩, by rw [List.length_map]; exact h.taken_length⟩
  · rw [List.map_map]
    refine List.pairwise_map.2 ((taken_nodup r).imp_of_mem fun {b c'} hb hc' hne => ?_)
    intro e
    simp only [Function.comp] at e
    refine hne ?_
    obtain ⟨hb1, hb2⟩ := mem_taken.1 hb
    obtain ⟨hc1, hc2⟩ := mem_taken.1 hc'
    rcases Decidable.em (b = c') with hbc | hbc
    · exact hbc
    · have := count_two (r := r) (x := ((r.getD b 0).toNat : Int)) hb1 hc1 hbc (by omega) (by omega)
      have := h.once (r.getD b 0).toNat
      omega
  · rw [List.map_map]
    simpa [Function.comp_def] using taken_nodup r
  · intro p hp
    obtain ⟨b, hb, rfl⟩ := List.mem_map.1 hp
    obtain ⟨hb1, hb2⟩ := mem_taken.1 hb
    rw [h.len] at hb1
    rcases h.may_ b hb1 with h' | ⟨x, hx, h', hm⟩
    · omega
    · have : (r.getD b 0).toNat = x := by omega
      rw [this]
      exact ⟨hx, hb1, hm⟩

/-- No matching is greater. -/
theorem KInv.most {may : Nat → Nat → Bool} {m k c : Nat} {r : List Int} (h : KInv may m k r c) {M : List (Nat × Nat)} (hM : IsMatching may k m M) : M.length ≤ c := by
  obtain ⟨S, T, hs, hfree⟩ := h.shut
  rw [← h.taken_length]
  have mate : ∀ a, a < k → ¬ S a → ∃ b, b < m ∧ r.getD b 0 = (a : Int) := fun a ha hn => by
    have : 0 < r.count (a : Int) := Nat.pos_of_ne_zero fun e => hn (hfree a ha e)
    obtain ⟨b, hb, e⟩ := count_getD this
    exact ⟨b, by rw [← h.len]; exact hb, e⟩
  have dec : ∀ p : Nat × Nat, p ∈ M → ∃ b, b ∈ taken r ∧ ((T p.2 ∧ b = p.2) ∨ (¬ T p.2 ∧ r.getD b 0 = (p.1 : Int))) := fun p hp => by
    obtain ⟨h1, h2, h3⟩ := hM.mem p hp
    rcases Classical.em (T p.2) with ht | ht
    · obtain ⟨g1, a, _, g3⟩ := hs.back _ ht
      exact ⟨p.2, mem_taken.2 ⟨by rw [h.len]; exact g1, by omega⟩, .inl ⟨ht, rfl⟩⟩
    · obtain ⟨b, hb, e⟩ := mate p.1 h1 fun hS => ht (hs.out _ hS _ h2 h3)
      exact ⟨b, mem_taken.2 ⟨by rw [h.len]; exact hb, by omega⟩, .inr ⟨ht, e⟩⟩
  -- a list of what they are sent to
  have key : ∀ M' : List (Nat × Nat), (∀ p ∈ M', p ∈ M) → (M'.map (·.1)).Nodup → (M'.map (·.2)).Nodup → ∃ l : List Nat, l.length = M'.length ∧ l.Nodup ∧ (∀ b ∈ l, b ∈ taken r) ∧ ∀ b ∈ l, ∃ p ∈ M', (T p.2 ∧ b = p.2) ∨ (¬ T p.2 ∧ r.getD b 0 = (p.1 : Int)) := by
    intro M'
    induction M' with
    | nil => exact fun _ _ _ => ⟨[], rfl, by simp, by simp, by simp⟩
    | cons p M' ih =>
      intro hsub hl hr
      simp only [List.map_cons, List.nodup_cons] at hl hr
      obtain ⟨l, h1, h2, h3, h4⟩ := ih (fun q hq => hsub q (by simp [hq])) hl.2 hr.2
      obtain ⟨b, hb, hbp⟩ := dec p (hsub p (by simp))
      refine ⟨b :: l, by simp [h1], List.nodup_cons.2 ⟨fun hbl => ?_, h2⟩, ?_, ?_⟩
      · obtain ⟨q, hq, hbq⟩ := h4 b hbl
        rcases hbp with ⟨hT, e⟩ | ⟨hT, e⟩ <;> rcases hbq with ⟨hT', e'⟩ | ⟨hT', e'⟩
        · exact hr.1 (List.mem_map.2 ⟨q, hq, by omega⟩)
        · rw [e] at e'
          obtain ⟨_, a, g2, g3⟩ := hs.back _ hT
          have : a = q.1 := by omega
          subst this
          obtain ⟨q1, q2, q3⟩ := hM.mem q (hsub q (by simp [hq]))
          exact hT' (hs.out _ g2 _ q2 q3)
        · rw [e'] at e
          obtain ⟨_, a, g2, g3⟩ := hs.back _ hT'
          have : a = p.1 := by omega
          subst this
          obtain ⟨q1, q2, q3⟩ := hM.mem p (hsub p (by simp))
          exact hT (hs.out _ g2 _ q2 q3)
        · exact hl.1 (List.mem_map.2 ⟨q, hq, by omega⟩)
      · intro x hx
        rcases List.mem_cons.1 hx with rfl | hx
        · exact hb
        · exact h3 x hx
      · intro x hx
        rcases List.mem_cons.1 hx with rfl | hx
        · exact ⟨p, by simp, hbp⟩
        · obtain ⟨q, hq, h⟩ := h4 x hx
          exact ⟨q, by simp [hq], h⟩
  obtain ⟨l, h1, h2, h3, _⟩ := key M (fun p hp => hp) hM.left hM.right
  rw [← h1]
  exact nodup_le h2 h3

/-- As many as can be matched. -/
theorem IsMatching.swap {may : Nat → Nat → Bool} {n m : Nat} {M : List (Nat × Nat)} (h : IsMatching may n m M) : IsMatching (fun a b => may b a) m n (M.map fun p => (p.2, p.1)) := by
  refine ⟨by rw [List.map_map]; exact h.right, by rw [List.map_map]; exact h.left, fun p hp => ?_⟩
  obtain ⟨q, hq, rfl⟩ := List.mem_map.1 hp
  obtain ⟨h1, h2, h3⟩ := h.mem q hq
  exact ⟨h2, h1, h3⟩
/-- From either side the same number is matched. -/
theorem kall_swap (may : Nat → Nat → Bool) (n m : Nat) (l l' : List Int) :
    (kall may m n l (List.replicate m (-1))).2.2 = (kall (fun a b => may b a) n m l' (List.replicate n (-1))).2.2 := by
  have h1 := kall_inv may m n l
  have h2 := kall_inv (fun a b => may b a) n m l'
  obtain ⟨M1, a1, b1⟩ := h1.matching
  obtain ⟨M2, a2, b2⟩ := h2.matching
  have c1 := h2.most a1.swap
  have c2 := h1.most a2.swap
  rw [List.length_map] at c1 c2
  omega
end Go.Law
