/-
  Plain law: all numbers of rods that can be taken, one after the other. Conditions: none; no program in sight.
-/
import Derived.Test.YtmbijgnmbapchaaDoorAbsLaw
set_option linter.unusedSimpArgs false
set_option linter.unusedVariables false
set_option linter.unusedSectionVars false
namespace Go.Law
open Go.Abs

/-- What is had of each kind, and what is taken. -/
def zerosT (hs : List Int) : List Int := hs.map fun _ => 0
def nextT : List Int → List Int → Option (List Int)
  | h :: hs, x :: xs => match nextT hs xs with
    | some ys => some (x :: ys)
    | none => if x < h then some ((x + 1) :: zerosT hs) else none
  | _, _ => none
def upTo (h : Int) : List Int := (List.range (h.toNat + 1)).map fun (n : Nat) => (n : Int)
def tuples : List Int → List (List Int)
  | [] => [[]]
  | h :: hs => (upTo h).flatMap fun n => (tuples hs).map (n :: ·)
def aboveT (x h : Int) : List Int := (List.range (h - x).toNat).map fun (n : Nat) => x + 1 + (n : Int)
def fromT : List Int → List Int → List (List Int)
  | h :: hs, x :: xs => (fromT hs xs).map (x :: ·) ++ (aboveT x h).flatMap fun n => (tuples hs).map (n :: ·)
  | _, _ => [[]]

theorem upTo_eq {h : Int} (hh : 0 ≤ h) : upTo h = 0 :: aboveT 0 h := by
  unfold upTo aboveT
  rw [List.range_succ_eq_map]
  simp
  intro a _
  omega
theorem aboveT_lt {x h : Int} (hx : x < h) : aboveT x h = (x + 1) :: aboveT (x + 1) h := by
  unfold aboveT
  rw [show (h - x).toNat = (h - (x + 1)).toNat + 1 by omega, List.range_succ_eq_map]
  simp
  intro a _
  omega
theorem aboveT_ge {x h : Int} (hx : ¬ x < h) : aboveT x h = [] := by
  unfold aboveT
  rw [show (h - x).toNat = 0 by omega]
  rfl
theorem zerosT_length (hs : List Int) : (zerosT hs).length = hs.length := by simp [zerosT]
theorem fromT_zeros : ∀ {hs : List Int}, (∀ h ∈ hs, 0 ≤ h) → fromT hs (zerosT hs) = tuples hs
  | [], _ => rfl
  | h :: hs, hh => by
    have e : zerosT (h :: hs) = 0 :: zerosT hs := rfl
    rw [e]
    simp only [fromT, tuples]
    rw [fromT_zeros fun x hx => hh x (by simp [hx]), upTo_eq (hh h (by simp)), List.flatMap_cons]
theorem fromT_eq : ∀ {hs xs : List Int}, (∀ h ∈ hs, 0 ≤ h) → xs.length = hs.length → fromT hs xs = xs :: (match nextT hs xs with | some ys => fromT hs ys | none => [])
  | [], [], _, _ => rfl
  | h :: hs, x :: xs, hh, hl => by
    have ih := fromT_eq (hs := hs) (xs := xs) (fun y hy => hh y (by simp [hy])) (by simpa using hl)
    simp only [fromT, nextT]
    rw [ih]
    cases hn : nextT hs xs with
    | some ys => simp [fromT]
    | none =>
      by_cases hx : x < h
      · simp only [hx, if_true]
        rw [aboveT_lt hx, List.flatMap_cons]
        simp only [fromT]
        rw [fromT_zeros fun y hy => hh y (by simp [hy])]
        simp
      · simp only [hx, if_false]
        rw [aboveT_ge hx]
        simp
  | [], _ :: _, _, hl => by simp at hl
  | _ :: _, [], _, hl => by simp at hl
theorem nextT_length : ∀ {hs xs ys : List Int}, xs.length = hs.length → nextT hs xs = some ys → ys.length = hs.length
  | h :: hs, x :: xs, ys, hl, hn => by
    simp only [nextT] at hn
    split at hn
    · rename_i zs hz
      injection hn with hn
      subst hn
      have := nextT_length (by simpa using hl) hz
      simp [this]
    · split at hn
      · injection hn with hn; subst hn; simp [zerosT]
      · cases hn
  | [], [], ys, _, hn => by simp [nextT] at hn
  | [], _ :: _, _, hl, _ => by simp at hl
  | _ :: _, [], _, hl, _ => by simp at hl

/-- The tuples are those within bounds. -/
def Within : List Int → List Int → Prop
  | [], [] => True
  | h :: hs, x :: xs => (0 ≤ x ∧ x ≤ h) ∧ Within hs xs
  | _, _ => False
theorem mem_upTo {h n : Int} : n ∈ upTo h ↔ 0 ≤ n ∧ n ≤ max h 0 := by
  unfold upTo
  simp only [List.mem_map, List.mem_range]
  constructor
  · rintro ⟨a, ha, rfl⟩; omega
  · intro hn; exact ⟨n.toNat, by omega, by omega⟩
theorem mem_tuples : ∀ {hs xs : List Int}, (∀ h ∈ hs, 0 ≤ h) → (xs ∈ tuples hs ↔ Within hs xs)
  | [], xs, _ => by cases xs <;> simp [tuples, Within]
  | h :: hs, xs, hh => by
    have ih := fun xs => mem_tuples (hs := hs) (xs := xs) fun x hx => hh x (by simp [hx])
    have h0 := hh h (by simp)
    simp only [tuples, List.mem_flatMap, List.mem_map]
    cases xs with
    | nil => simp [Within]
    | cons x xs =>
      simp only [Within]
      constructor
      · rintro ⟨n, hn, ys, hy, e⟩
        injection e with e1 e2
        subst e1; subst e2
        have := mem_upTo.1 hn
        exact ⟨by omega, (ih _).1 hy⟩
      · rintro ⟨hx, hw⟩
        exact ⟨x, mem_upTo.2 (by omega), xs, (ih _).2 hw, rfl⟩

/-- How many rods, and over how many stakes they reach. -/
def sumT (xs : List Int) : Int := xs.foldl (· + ·) 0
def reachT : List I2 → List Int → Int
  | k :: ks, x :: xs => x * k.1 + reachT ks xs
  | _, _ => 0
theorem foldl_add_start (xs : List Int) : ∀ a : Int, xs.foldl (· + ·) a = a + xs.foldl (· + ·) 0 := by
  induction xs with
  | nil => intro a; simp
  | cons x xs ih => intro a; rw [List.foldl_cons, List.foldl_cons, ih (a + x), ih (0 + x)]; omega
theorem sumT_cons (x : Int) (xs : List Int) : sumT (x :: xs) = x + sumT xs := by
  unfold sumT
  rw [List.foldl_cons, foldl_add_start]; omega
theorem sumT_nil : sumT [] = 0 := rfl
theorem sumT_append : ∀ (xs ys : List Int), sumT (xs ++ ys) = sumT xs + sumT ys
  | [], ys => by simp [sumT_nil]
  | x :: xs, ys => by rw [List.cons_append, sumT_cons, sumT_cons, sumT_append xs ys]; omega

/-- The state of the search, and what one more choice does to it. -/
structure RodSt where
  best : Option (List Int)
  ways : Int
def betterT (few : Bool) (rods reach rods' reach' : Int) : Bool :=
  if few then decide (rods < rods') || (decide (rods = rods') && decide (reach < reach')) else decide (reach < reach') || (decide (reach = reach') && decide (rods < rods'))
def leafT (ks : List I2) (wanted : Int) (few : Bool) (st : RodSt) (xs : List Int) : RodSt :=
  let reach := reachT ks xs
  ⟨if decide (wanted ≤ reach) && (match st.best with | none => true | some b => betterT few (sumT xs) reach (sumT b) (reachT ks b)) then some xs else st.best, if reach = wanted then st.ways + 1 else st.ways⟩
def searchT (ks : List I2) (wanted : Int) (few : Bool) : RodSt := (tuples (ks.map (·.2))).foldl (leafT ks wanted few) ⟨none, 0⟩

/-- Kind by kind, behind what has been taken. -/
def walkT (ks : List I2) (wanted : Int) (few : Bool) : List I2 → List Int → RodSt → RodSt
  | [], taken, st => leafT ks wanted few st taken
  | k :: rest, taken, st => (upTo k.2).foldl (fun st n => walkT ks wanted few rest (taken ++ [n]) st) st
theorem walkT_eq (ks : List I2) (wanted : Int) (few : Bool) : ∀ (rest : List I2) (taken : List Int) (st : RodSt),
    walkT ks wanted few rest taken st = ((tuples (rest.map (·.2))).map (taken ++ ·)).foldl (leafT ks wanted few) st
  | [], taken, st => by simp [walkT, tuples]
  | k :: rest, taken, st => by
    simp only [walkT, List.map_cons, tuples]
    have : ∀ (l : List Int) (st : RodSt), l.foldl (fun st n => walkT ks wanted few rest (taken ++ [n]) st) st =
        ((l.flatMap fun n => (tuples (rest.map (·.2))).map (n :: ·)).map (taken ++ ·)).foldl (leafT ks wanted few) st := by
      intro l
      induction l with
      | nil => intro st; rfl
      | cons n l ih =>
        intro st
        rw [List.foldl_cons, ih, walkT_eq ks wanted few rest, List.flatMap_cons, List.map_append, List.foldl_append, List.map_map]
        congr 3
        funext x
        simp
    exact this _ _
theorem walkT_all (ks : List I2) (wanted : Int) (few : Bool) : walkT ks wanted few ks [] ⟨none, 0⟩ = searchT ks wanted few := by
  rw [walkT_eq]; simp [searchT]

/-! ### What the search finds -/
structure Found (ks : List I2) (wanted : Int) (few : Bool) (seen : List (List Int)) (st : RodSt) : Prop where
  none_ : st.best = none → ∀ xs ∈ seen, ¬ wanted ≤ reachT ks xs
  some_ : ∀ b, st.best = some b → b ∈ seen ∧ wanted ≤ reachT ks b ∧ ∀ xs ∈ seen, wanted ≤ reachT ks xs → betterT few (sumT xs) (reachT ks xs) (sumT b) (reachT ks b) = false
  ways : st.ways = ((seen.filter fun xs => decide (reachT ks xs = wanted)).length : Int)
theorem betterT_trans {few : Bool} {a b c d e f : Int} (h : betterT few a b c d = true) (h' : betterT few e f c d = false) : betterT few e f a b = false := by
  unfold betterT at *
  cases few <;> simp at * <;> omega
theorem betterT_irrefl (few : Bool) (a b : Int) : betterT few a b a b = false := by unfold betterT; cases few <;> simp
theorem Found.step {ks : List I2} {wanted : Int} {few : Bool} {seen : List (List Int)} {st : RodSt} (h : Found ks wanted few seen st) (xs : List Int) : Found ks wanted few (seen ++ [xs]) (leafT ks wanted few st xs) := by
  have hw : (leafT ks wanted few st xs).ways = (((seen ++ [xs]).filter fun xs => decide (reachT ks xs = wanted)).length : Int) := by
    simp only [leafT, List.filter_append, List.length_append, h.ways]
    by_cases hr : reachT ks xs = wanted <;> simp [hr]
  by_cases hc : wanted ≤ reachT ks xs
  · cases hb : st.best with
    | none =>
      have hbest : (leafT ks wanted few st xs).best = some xs := by simp [leafT, hc, hb]
      refine ⟨fun e => (by rw [hbest] at e; cases e), fun b e => ?_, hw⟩
      rw [hbest] at e
      injection e with e
      subst e
      refine ⟨by simp, hc, fun ys hy hy' => ?_⟩
      rcases List.mem_append.1 hy with hy | hy
      · exact absurd hy' (h.none_ hb ys hy)
      · simp at hy; subst hy; exact betterT_irrefl _ _ _
    | some b =>
      obtain ⟨b1, b2, b3⟩ := h.some_ b hb
      cases hbt : betterT few (sumT xs) (reachT ks xs) (sumT b) (reachT ks b) with
      | true =>
        have hbest : (leafT ks wanted few st xs).best = some xs := by simp [leafT, hc, hb, hbt]
        refine ⟨fun e => (by rw [hbest] at e; cases e), fun c e => ?_, hw⟩
        rw [hbest] at e
        injection e with e
        subst e
        refine ⟨by simp, hc, fun ys hy hy' => ?_⟩
        rcases List.mem_append.1 hy with hy | hy
        · exact betterT_trans hbt (b3 ys hy hy')
        · simp at hy; subst hy; exact betterT_irrefl _ _ _
      | false =>
        have hbest : (leafT ks wanted few st xs).best = some b := by simp [leafT, hc, hb, hbt]
        refine ⟨fun e => (by rw [hbest] at e; cases e), fun c e => ?_, hw⟩
        rw [hbest] at e
        injection e with e
        subst e
        refine ⟨by simp [b1], b2, fun ys hy hy' => ?_⟩
        rcases List.mem_append.1 hy with hy | hy
        · exact b3 ys hy hy'
        · simp at hy; subst hy; exact hbt
  · have hbest : (leafT ks wanted few st xs).best = st.best := by simp [leafT, hc]
    refine ⟨fun e ys hy => ?_, fun b e => ?_, hw⟩
    · rw [hbest] at e
      rcases List.mem_append.1 hy with hy | hy
      · exact h.none_ e ys hy
      · simp at hy; subst hy; exact hc
    · rw [hbest] at e
      obtain ⟨b1, b2, b3⟩ := h.some_ b e
      refine ⟨by simp [b1], b2, fun ys hy hy' => ?_⟩
      rcases List.mem_append.1 hy with hy | hy
      · exact b3 ys hy hy'
      · simp at hy; subst hy; exact absurd hy' hc
theorem Found.steps {ks : List I2} {wanted : Int} {few : Bool} : ∀ (l seen : List (List Int)) (st : RodSt), Found ks wanted few seen st → Found ks wanted few (seen ++ l) (l.foldl (leafT ks wanted few) st)
  | [], seen, st, h => by simpa using h
  | x :: l, seen, st, h => by
    have := Found.steps l (seen ++ [x]) _ (h.step x)
    simpa using this
theorem searchT_found (ks : List I2) (wanted : Int) (few : Bool) : Found ks wanted few (tuples (ks.map (·.2))) (searchT ks wanted few) := by
  have := Found.steps (ks := ks) (wanted := wanted) (few := few) (tuples (ks.map (·.2))) [] ⟨none, 0⟩ ⟨fun _ => by simp, fun b e => (by cases e), rfl⟩
  simpa [searchT] using this
end Go.Law
