/-
  Abs, part 20: appends. Conditions: none; generic in the program.
-/
import Derived.Test.YtmbijgnmbapchaaGreatDoorAbsMark
set_option linter.unusedSimpArgs false
set_option linter.unusedVariables false
set_option linter.unusedSectionVars false
namespace Go.Abs
open Go.RowKit

variable {P : Program}

theorem Src.nil (m : Mem) (B : Option Addr) (sz : Nat) : Src m B 0 sz [] := .inl ⟨rfl, rfl⟩
theorem Src.obj {m : Mem} {id n sz : Nat} {o : AObj} (h : m[id]? = some o) (hk : o.kind ≤ 2) (hs : o.sz = sz) (hn : n * sz = o.cells.length) : Src m (some ⟨id, 0, none⟩) n sz o.cells := by
  refine .inr ⟨⟨id, 0, none⟩, o, rfl, rfl, h, (rd_iff o).2 hk, hs, by simp [hn], ?_⟩
  rw [Nat.zero_mul, List.drop_zero, List.take_of_length_le (by omega)]
theorem Src.rd {m : Mem} {a : Option Addr} {n sz : Nat} {rows : List (List Value)} (h : Rd m a n sz rows) : Src m a n sz rows.flatten := by
  obtain ⟨hl, hr, hn⟩ := h
  by_cases h0 : n = 0
  · subst h0
    have : rows = [] := List.length_eq_zero_iff.1 hl
    subst this
    exact .inl ⟨rfl, rfl⟩
  · obtain ⟨id, off, o, ha, hm, hk, hsz, hc⟩ := hn (by omega)
    refine .inr ⟨⟨id, off, none⟩, o, ha, rfl, hm, (rd_iff o).2 hk, hsz, ?_, hc.symm⟩
    have h1 := congrArg List.length hc
    rw [List.length_take, List.length_drop, flatten_length hr, hl] at h1
    by_cases hs0 : sz = 0
    · subst hs0; simp
    · have : 0 < n * sz := Nat.mul_pos (by omega) (by omega)
      show (off + n) * sz ≤ o.cells.length
      rw [Nat.add_mul]; omega
theorem Src.rdI {m : Mem} {a : Option Addr} {xs : List Int} (h : RdI m a xs) : Src m a xs.length 1 (xs.map (Value.int .i64)) := by
  have := Src.rd h
  rwa [flatten_vI] at this

/-- The memory has grown by one object, and what was there stands but for one. -/
structure Grown (m : Mem) (id : Nat) (o : AObj) (m2 : Mem) (id2 : Nat) : Prop where
  new : m2[id2]? = some o
  len : m2.length = m.length + 1
  at_ : id2 = m.length
  old : ∀ (i : Nat) (o' : AObj), i ≠ id → m[i]? = some o' → m2[i]? = some o'
  pre : ∀ m0 : Mem, m0 <+: m → m0.length ≤ id → m0 <+: m2

theorem pre_set {m0 m : Mem} (h : m0 <+: m) {i : Nat} (hi : m0.length ≤ i) (o : AObj) : m0 <+: m.set i o := by
  obtain ⟨t, rfl⟩ := h
  rw [List.set_append_right _ _ hi]
  exact ⟨_, rfl⟩
theorem pre_app {m0 m : Mem} (h : m0 <+: m) (l : Mem) : m0 <+: m ++ l := h.trans ⟨l, rfl⟩
theorem pre_refl (m : Mem) : m <+: m := ⟨[], by simp⟩

section
variable {t e : TypeId} {sz by_ : Nat} {z : Value} {m : Mem} {id n c : Nat} {o : AObj} {B : Option Addr} {news : List Value} {k : Value → Mem → Prop} {tok : Tok k}
/-- An append to a slice of one's own that is full, or that append has made. -/
theorem appTo_grow (h1 : slElem P t = some e) (h2 : tinf P e = some (sz, by_, some z)) (h3 : 0 < sz ∧ z.cells.size = sz) (ho : m[id]? = some o) (hk : 1 ≤ o.kind ∧ o.kind ≤ 2) (hs : o.sz = sz ∧ o.elem = e)
    (hl : n * sz = o.cells.length) (hb : (n + c) * by_ ≤ 140737488355328 ∧ n + c ≤ 4611686018427387904) (hsrc : Src m B c sz news)
    (hkk : ∀ m2 id2, Grown m id ⟨o.cells ++ news, e, sz, 2⟩ m2 id2 → k (.slice (some ⟨id2, 0, none⟩) (n + c) (n + c)) m2) : AppTo P t t m (some ⟨id, 0, none⟩) n B c k tok := by
  refine ⟨e, sz, by_, z, h1, h2, rfl, h3.1, h3.2, hb.1, hb.2, news, hsrc, rfl, rfl, o, ho, (live_iff o).2 hk, hs.1, hs.2, .inl ⟨hl, hkk _ _ ⟨?_, ?_, rfl, ?_, ?_⟩⟩⟩
  · rw [List.getElem?_append_right (by simp)]; simp
  · simp
  · intro i o' hi hm
    rw [List.getElem?_append_left (by simpa using (List.getElem?_eq_some_iff.1 hm).1), List.getElem?_set_ne (Ne.symm hi)]; exact hm
  · intro m0 hp hle
    exact pre_app (pre_set hp hle _) _
/-- An append to no slice. -/
theorem appTo_nil (h1 : slElem P t = some e) (h2 : tinf P e = some (sz, by_, some z)) (h3 : 0 < sz ∧ z.cells.size = sz) (hc : 0 < c) (hb : (n + c) * by_ ≤ 140737488355328 ∧ n + c ≤ 4611686018427387904) (hsrc : Src m B c sz news)
    (hkk : k (.slice (some ⟨m.length, 0, none⟩) c c) (m ++ [⟨news, e, sz, 2⟩])) : AppTo P t t m none n B c k tok :=
  ⟨e, sz, by_, z, h1, h2, rfl, h3.1, h3.2, hb.1, hb.2, news, hsrc, fun h => by omega, fun _ => hkk⟩
/-- An append in its place. -/
theorem appTo_in (h1 : slElem P t = some e) (h2 : tinf P e = some (sz, by_, some z)) (h3 : 0 < sz ∧ z.cells.size = sz) (ho : m[id]? = some o) (hk : o.kind = 1) (hs : o.sz = sz ∧ o.elem = e)
    (hl : (n + c) * sz ≤ o.cells.length) (hb : (n + c) * by_ ≤ 140737488355328 ∧ n + c ≤ 4611686018427387904) (hsrc : Src m B c sz news)
    (hkk : k (.slice (some ⟨id, 0, none⟩) (n + c) (n + c)) (m.set id ⟨splice o.cells (n * sz) news, o.elem, o.sz, o.kind⟩)) : AppTo P t t m (some ⟨id, 0, none⟩) n B c k tok :=
  ⟨e, sz, by_, z, h1, h2, rfl, h3.1, h3.2, hb.1, hb.2, news, hsrc, rfl, rfl, o, ho, (live_iff o).2 (by omega), hs.1, hs.2, .inr ⟨hk, hl, hkk⟩⟩
end

/-! ### Forgetting, where the memory is one of which the old one is the beginning -/
theorem GC.dropP {m m1 : Mem} (hp : m <+: m1) {v u : Value} (h : v = u) (hl : litV u = true) : GC m m1 v m u := by
  obtain ⟨j, rfl⟩ := hp
  exact GC.dropEq h hl
theorem GC.turnedP {m m' m1 : Mem} (hm : Fits m m') (hp : m' <+: m1) {v u : Value} (h : v = u) (hl : litV u = true) : GC m m1 v m' u := by
  obtain ⟨j, rfl⟩ := hp
  exact GC.turnedEq hm h hl
theorem GC.keepSP {m m' m1 : Mem} {id off n : Nat} {o1 o2 : AObj} (hm : Fits m m') (hp : m' <+: m1) (h1 : m1[id]? = some o1) (hge : m.length ≤ id) (hs : o2.sz = o1.sz) (he : o2.elem = o1.elem)
    (hk : o2.kind = o1.kind ∨ (o1.kind = 1 ∧ o2.kind = 2)) (hc : o2.cells = o1.cells) (hl : o1.cells.all litB = true) :
    GC m m1 (.slice (some ⟨id, off, none⟩) n n) (m' ++ [o2]) (.slice (some ⟨m.length, off, none⟩) n n) := by
  obtain ⟨j, rfl⟩ := hp
  exact GC.keepS hm h1 hge hs he hk hc hl
theorem GC.keepTP {m m' m1 : Mem} {id off n : Nat} {o1 o2 : AObj} {l : List Value} (hm : Fits m m') (hp : m' <+: m1) (h1 : m1[id]? = some o1) (hge : m.length ≤ id) (hs : o2.sz = o1.sz) (he : o2.elem = o1.elem)
    (hk : o2.kind = o1.kind ∨ (o1.kind = 1 ∧ o2.kind = 2)) (hc : o2.cells = o1.cells) (hl : o1.cells.all litB = true) (hll : l.all litB = true) :
    GC m m1 (.tuple (.slice (some ⟨id, off, none⟩) n n :: l).toArray) (m' ++ [o2]) (.tuple (.slice (some ⟨m.length, off, none⟩) n n :: l).toArray) := by
  obtain ⟨j, rfl⟩ := hp
  exact GC.keepT hm h1 hge hs he hk hc hl hll
/-! ### One cell of a row -/
theorem set_flat {sz : Nat} (y : Value) : ∀ {rows : List (List Value)} {k j : Nat}, (∀ r ∈ rows, r.length = sz) → (hk : k < rows.length) → j < sz → rows.flatten.set (k * sz + j) y = (rows.set k (rows[k].set j y)).flatten
  | [], k, j, _, hk, _ => by simp at hk
  | r :: rows, 0, j, hr, _, hj => by
    have h := hr r (by simp)
    rw [Nat.zero_mul, Nat.zero_add, List.flatten_cons, List.set_append_left _ _ (by omega)]
    simp
  | r :: rows, k + 1, j, hr, hk, hj => by
    have h := hr r (by simp)
    have ih := set_flat y (rows := rows) (k := k) (j := j) (fun x hx => hr x (by simp [hx])) (by simpa using hk) hj
    rw [List.flatten_cons, List.set_append_right _ _ (by rw [h, Nat.add_mul]; omega), h, show (k + 1) * sz + j - sz = k * sz + j by rw [Nat.add_mul]; omega, ih]
    simp
/-- The first k anew. -/
def overL {α : Type} (news olds : List α) (k : Nat) : List α := news.take k ++ olds.drop k
theorem overL_zero {α : Type} (news olds : List α) : overL news olds 0 = olds := by simp [overL]
theorem overL_all {α : Type} {news olds : List α} (h : news.length = olds.length) : overL news olds olds.length = news := by
  rw [overL, List.take_of_length_le (by omega), List.drop_of_length_le (Nat.le_refl _), List.append_nil]
theorem overL_length {α : Type} {news olds : List α} (h : news.length = olds.length) (k : Nat) : (overL news olds k).length = olds.length := by simp [overL]; omega
theorem overL_get {α : Type} {news olds : List α} (h : news.length = olds.length) {k : Nat} (hk : k < olds.length) : (overL news olds k)[k]'(by rw [overL_length h]; exact hk) = olds[k] := by
  unfold overL
  rw [List.getElem_append_right (by simp; omega)]
  simp [Nat.min_eq_left (show k ≤ news.length by omega)]
theorem overL_set {α : Type} {news olds : List α} (h : news.length = olds.length) {k : Nat} (hk : k < olds.length) : (overL news olds k).set k (news[k]'(by omega)) = overL news olds (k + 1) := by
  unfold overL
  have hl : (news.take k).length = k := by simp; omega
  rw [List.set_append_right _ _ (by omega), hl, Nat.sub_self, List.drop_eq_getElem_cons hk, List.set_cons_zero, List.take_add_one, List.getElem?_eq_getElem (by omega), Option.toList_some, List.append_assoc, List.singleton_append]
theorem set_rows {α : Type} {g : α → List Value} {sz : Nat} (hg : ∀ x, (g x).length = sz) {xs : List α} {k j : Nat} (hk : k < xs.length) (hj : j < sz) {y : Value} {x : α} (hx : (g xs[k]).set j y = g x) :
    ((xs.map g).flatten).set (k * sz + j) y = ((xs.set k x).map g).flatten := by
  rw [set_flat y (by intro r hr; obtain ⟨z, _, rfl⟩ := List.mem_map.1 hr; exact hg z) (by simpa using hk) hj, List.getElem_map, hx, List.map_set]
theorem rows_lit {α : Type} {g : α → List Value} (hg : ∀ x, (g x).all litB = true) (xs : List α) : ((xs.map g).flatten).all litB = true := by
  rw [List.all_eq_true]
  intro v hv
  obtain ⟨r, hr, hv⟩ := List.mem_flatten.1 hv
  obtain ⟨x, _, rfl⟩ := List.mem_map.1 hr
  exact List.all_eq_true.1 (hg x) v hv

theorem RdG.pre {α : Type} {g : α → List Value} {sz : Nat} {m m' : Mem} {a : Option Addr} {xs : List α} (h : RdG g sz m a xs) (hp : m <+: m') : RdG g sz m' a xs := by
  obtain ⟨j, rfl⟩ := hp
  exact h.ext j
theorem RdI.pre {m m' : Mem} {a : Option Addr} {xs : List Int} (h : RdI m a xs) (hp : m <+: m') : RdI m' a xs := by
  obtain ⟨j, rfl⟩ := hp
  exact h.ext j

theorem sp2 {b : Bool} {A B : Prop} (h : b = true → A) (h' : b = false → B) : split2 b A B := ⟨h, h'⟩

/-! ### Parts of slices -/
theorem flatten_take {sz : Nat} : ∀ {rows : List (List Value)} (k : Nat), (∀ r ∈ rows, r.length = sz) → rows.flatten.take (k * sz) = (rows.take k).flatten
  | [], k, _ => by simp
  | r :: rows, 0, _ => by simp
  | r :: rows, k + 1, h => by
    have hr := h r (by simp)
    rw [List.flatten_cons, List.take_succ_cons, List.flatten_cons, List.take_append, List.take_of_length_le (by rw [hr, Nat.add_mul]; omega), hr, show (k + 1) * sz - sz = k * sz by rw [Nat.add_mul]; omega,
      flatten_take k fun x hx => h x (by simp [hx])]
theorem flatten_drop {sz : Nat} : ∀ {rows : List (List Value)} (k : Nat), (∀ r ∈ rows, r.length = sz) → rows.flatten.drop (k * sz) = (rows.drop k).flatten
  | [], k, _ => by simp
  | r :: rows, 0, _ => by simp
  | r :: rows, k + 1, h => by
    have hr := h r (by simp)
    rw [List.flatten_cons, List.drop_succ_cons, List.drop_append, List.drop_of_length_le (by rw [hr, Nat.add_mul]; omega), hr, show (k + 1) * sz - sz = k * sz by rw [Nat.add_mul]; omega,
      flatten_drop k fun x hx => h x (by simp [hx]), List.nil_append]
theorem Rd.take {m : Mem} {a : Option Addr} {n sz : Nat} {rows : List (List Value)} (h : Rd m a n sz rows) {k : Nat} (hk : k ≤ n) : Rd m a k sz (rows.take k) := by
  obtain ⟨hl, hr, hn⟩ := h
  refine ⟨by simp; omega, fun r hr' => hr r (List.mem_of_mem_take hr'), fun h0 => ?_⟩
  obtain ⟨id, off, o, ha, hm, hkd, hsz, hc⟩ := hn (by omega)
  refine ⟨id, off, o, ha, hm, hkd, hsz, ?_⟩
  rw [← flatten_take k hr, ← hc, List.take_take, Nat.min_eq_left (Nat.mul_le_mul_right _ hk)]
theorem Rd.drop {m : Mem} {id off n sz : Nat} {rows : List (List Value)} (h : Rd m (some ⟨id, off, none⟩) n sz rows) {k : Nat} (hk : k ≤ n) : Rd m (some ⟨id, off + k, none⟩) (n - k) sz (rows.drop k) := by
  obtain ⟨hl, hr, hn⟩ := h
  refine ⟨by simp; omega, fun r hr' => hr r (List.mem_of_mem_drop hr'), fun h0 => ?_⟩
  obtain ⟨id', off', o, ha, hm, hkd, hsz, hc⟩ := hn (by omega)
  simp at ha
  obtain ⟨rfl, rfl⟩ := ha
  refine ⟨id, off + k, o, rfl, hm, hkd, hsz, ?_⟩
  rw [← flatten_drop k hr, ← hc, List.drop_take, List.drop_drop, ← Nat.sub_mul, ← Nat.add_mul]
theorem RdI.take {m : Mem} {a : Option Addr} {xs : List Int} (h : RdI m a xs) (k : Nat) : RdI m a (xs.take k) := by
  by_cases hk : k ≤ xs.length
  · have := Rd.take h hk
    unfold RdI
    rw [List.length_take, Nat.min_eq_left hk, List.map_take]
    exact this
  · rw [List.take_of_length_le (by omega)]; exact h
theorem RdI.drop {m : Mem} {id off : Nat} {xs : List Int} (h : RdI m (some ⟨id, off, none⟩) xs) {k : Nat} (hk : k ≤ xs.length) : RdI m (some ⟨id, off + k, none⟩) (xs.drop k) := by
  have := Rd.drop h hk
  unfold RdI
  rw [List.length_drop, List.map_drop]
  exact this
theorem RdG.take {α : Type} {g : α → List Value} {sz : Nat} {m : Mem} {a : Option Addr} {xs : List α} (h : RdG g sz m a xs) (k : Nat) : RdG g sz m a (xs.take k) := by
  by_cases hk : k ≤ xs.length
  · have := Rd.take h hk
    unfold RdG
    rw [List.length_take, Nat.min_eq_left hk, List.map_take]
    exact this
  · rw [List.take_of_length_le (by omega)]; exact h
theorem RdG.drop {α : Type} {g : α → List Value} {sz : Nat} {m : Mem} {id off : Nat} {xs : List α} (h : RdG g sz m (some ⟨id, off, none⟩) xs) {k : Nat} (hk : k ≤ xs.length) : RdG g sz m (some ⟨id, off + k, none⟩) (xs.drop k) := by
  have := Rd.drop h hk
  unfold RdG
  rw [List.length_drop, List.map_drop]
  exact this
/-- A call that is met by a contract that does not tell all. -/
theorem callsToE {g : FuncId} {args : List Value} {m : Mem} {Q : Value → Mem → Prop} (hc : callable P g = true) (h : ∃ v m', ACalls P g args m v m' ∧ Q v m') {k : Value → Mem → Prop} {t : Tok k} (hk : ∀ v m', Q v m' → k v m') : CallsTo P g args m k t :=
  let ⟨v, m', h1, h2⟩ := h
  ⟨hc, v, m', h1, hk v m' h2⟩

/-! ### Lists of lists of whole numbers -/
def RdSS (m : Mem) (a : Option Addr) (xss : List (List Int)) : Prop :=
  ∀ (i : Nat) (h : i < xss.length), ∃ id off o ad, a = some ⟨id, off, none⟩ ∧ m[id]? = some o ∧ o.kind ≤ 2 ∧ o.sz = 1 ∧ o.cells[off + i]? = some (.slice ad xss[i].length xss[i].length) ∧ RdI m ad xss[i]
theorem RdSS.pre {m m' : Mem} {a : Option Addr} {xss : List (List Int)} (h : RdSS m a xss) (hp : m <+: m') : RdSS m' a xss := fun i hi => by
  obtain ⟨id, off, o, ad, h1, h2, h3, h4, h5, h6⟩ := h i hi
  refine ⟨id, off, o, ad, h1, prefix_get hp h2, h3, h4, h5, ?_⟩
  obtain ⟨j, rfl⟩ := hp
  exact h6.ext j
def sumLen (xss : List (List Int)) : Nat := (xss.map List.length).sum
theorem sumLen_succ {xss : List (List Int)} {k : Nat} (h : k < xss.length) : sumLen (xss.take (k + 1)) = sumLen (xss.take k) + xss[k].length := by
  unfold sumLen
  rw [List.take_add_one, List.getElem?_eq_getElem h, List.map_append, List.sum_append]; simp
theorem sumLen_take (xss : List (List Int)) (k : Nat) : sumLen (xss.take k) ≤ sumLen xss := by
  have : sumLen xss = sumLen (xss.take k) + sumLen (xss.drop k) := by
    conv => lhs; rw [← List.take_append_drop k xss]
    unfold sumLen
    rw [List.map_append, List.sum_append]
  omega
theorem sumLen_at {xss : List (List Int)} {k : Nat} (h : k < xss.length) : xss[k].length ≤ sumLen xss := by
  have := sumLen_succ h
  have := sumLen_take xss (k + 1)
  omega
theorem CV.sls {f : Nat} {m : Mem} {v : Value} (h : CV f m (.sl [.sl [I64]]) v) : ∃ a, ∃ xss : List (List Int), v = .slice a xss.length xss.length ∧ xss.length ≤ maxLen ∧ (∀ xs ∈ xss, xs.length ≤ maxLen) ∧ RdSS m a xss := by
  cases f with
  | zero => exact h.elim
  | succ f =>
    obtain ⟨a, n, rows, rfl, hn, hr, hc⟩ := h
    have hrow : ∀ r ∈ rows, ∃ ad, ∃ xs : List Int, r = [.slice ad xs.length xs.length] ∧ xs.length ≤ maxLen ∧ RdI m ad xs := fun r hr' => by
      have hl := hr.2.1 r hr'
      match r, hl, hr' with
      | [x], _, hr' =>
        obtain ⟨ad, xs, rfl, h1, h2, _⟩ := CV.sl1 (hc _ hr' 0 _ _ rfl rfl)
        exact ⟨ad, xs, rfl, h1, h2⟩
    have key : ∀ l : List (List Value), (∀ r ∈ l, ∃ ad, ∃ xs : List Int, r = [.slice ad xs.length xs.length] ∧ xs.length ≤ maxLen ∧ RdI m ad xs) →
        ∃ xss : List (List Int), xss.length = l.length ∧ (∀ xs ∈ xss, xs.length ≤ maxLen) ∧ ∀ (i : Nat) (h : i < xss.length), ∃ ad, l[i]? = some [.slice ad xss[i].length xss[i].length] ∧ RdI m ad xss[i] := by
      intro l
      induction l with
      | nil => exact fun _ => ⟨[], rfl, by simp, fun i h => by simp at h⟩
      | cons r l ih =>
        intro h
        obtain ⟨xss, h1, h2, h3⟩ := ih fun x hx => h x (by simp [hx])
        obtain ⟨ad, xs, rfl, g1, g2⟩ := h r (by simp)
        refine ⟨xs :: xss, by simp [h1], fun y hy => ?_, fun i hi => ?_⟩
        · rcases List.mem_cons.1 hy with rfl | hy
          · exact g1
          · exact h2 y hy
        · cases i with
          | zero => exact ⟨ad, rfl, g2⟩
          | succ i => simpa using h3 i (by simpa using hi)
    obtain ⟨xss, h1, h2, h3⟩ := key rows hrow
    have hlen : xss.length = n := h1.trans hr.1
    refine ⟨a, xss, by rw [hlen], by rw [hlen]; exact hn, h2, fun i hi => ?_⟩
    obtain ⟨ad, g1, g2⟩ := h3 i hi
    obtain ⟨id, off, o, r, e1, e2, e3, e4, e5, _, _, _, e6⟩ := Rd.at_ hr (i := i) (by omega)
    rw [g1] at e5
    injection e5 with e5
    subst e5
    exact ⟨id, off, o, ad, e1, e2, e3, e4, by have := e6 0 _ rfl; simpa using this, g2⟩

/-! ### All of the first -/
theorem allTo_succ {p : Nat → Bool} {k : Nat} (h : (List.range k).all p = true) (h' : p k = true) : (List.range (k + 1)).all p = true := by
  rw [List.range_succ, List.all_append, h]; simpa using h'
theorem allTo_false {p : Nat → Bool} {n k : Nat} (hk : k < n) (h' : p k = false) : (List.range n).all p = false := by
  rw [List.all_eq_false]
  exact ⟨k, by simpa using hk, by simpa using h'⟩
theorem allTo_get {p : Nat → Bool} {n k : Nat} (h : (List.range n).all p = true) (hk : k < n) : p k = true := List.all_eq_true.1 h k (by simpa using hk)

/-! ### Results that are no slice, or one of one's own -/
def optV (l : Nat) : Option (List Int) → Value
  | none => .slice none 0 0
  | some ys => .slice (some ⟨l, 0, none⟩) ys.length ys.length
def optM (e : TypeId) : Option (List Int) → Mem
  | none => []
  | some ys => [⟨ys.map (Value.int .i64), e, 1, 2⟩]
def optVG {α : Type} (l : Nat) : Option (List α) → Value
  | none => .slice none 0 0
  | some ys => .slice (some ⟨l, 0, none⟩) ys.length ys.length
def optMG {α : Type} (g : α → List Value) (sz : Nat) (e : TypeId) : Option (List α) → Mem
  | none => []
  | some ys => [⟨(ys.map g).flatten, e, sz, 2⟩]
end Go.Abs
