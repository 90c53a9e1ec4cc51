/-
  Baskets, part 34: what is read, marked and held. Conditions: none.
-/
import Derived.Test.YtmbijgnmbapchaaDoorBkGG
import Derived.Test.YtmbijgnmbapchaaDoorBkM
import Derived.Test.YtmbijgnmbapchaaDoorRowReport
set_option linter.unusedSimpArgs false
set_option linter.unusedVariables false
set_option linter.unusedSectionVars false
namespace Go.Proofs.YtmbijgnmbapchaaDoor
open Go.Abs Go.RowKit Go.Law

theorem LyO.rd {m : Mem} {lo : Nat} {A : Option Addr} {ls : List LyT} (h : LyO m lo A ls) : RdG vl 2 m A ls := by
  rcases h with ⟨rfl, rfl⟩ | ⟨j, kd, rfl, _, h1, h2, h3⟩
  · exact RdG.nil _ _ _ _
  · exact RdG.of_get (g := vl) (sz := 2) (fun _ => rfl) ls h1 h3 rfl rfl
theorem RpO.rd {m : Mem} {lo : Nat} {R : Option Addr} {rs : List I2} (h : RpO m lo R rs) : RdG v2 2 m R rs := by
  rcases h with ⟨rfl, rfl⟩ | ⟨j, kd, rfl, _, h1, h2, h3⟩
  · exact RdG.nil _ _ _ _
  · exact RdG.of_get (g := v2) (sz := 2) (fun _ => rfl) rs h1 h3 rfl rfl
/-- The objects of what is read. -/
def blk : Option Addr → List Nat
  | none => []
  | some a => [a.block]
theorem LyO.rest {S : List Nat} {m m' : Mem} {lo : Nat} {A : Option Addr} {ls : List LyT} (h : LyO m lo A ls) (hr : RestS S m m') (hs : ∀ i ∈ blk A, i ∉ S) : LyO m' lo A ls := by
  rcases h with ⟨rfl, rfl⟩ | ⟨j, kd, rfl, h0, h1, h2, h3⟩
  · exact .inl ⟨rfl, rfl⟩
  · exact .inr ⟨j, kd, rfl, h0, hr.get _ _ (hs j (by simp [blk])) h1, h2, h3⟩
theorem RpO.rest {S : List Nat} {m m' : Mem} {lo : Nat} {R : Option Addr} {rs : List I2} (h : RpO m lo R rs) (hr : RestS S m m') (hs : ∀ i ∈ blk R, i ∉ S) : RpO m' lo R rs := by
  rcases h with ⟨rfl, rfl⟩ | ⟨j, kd, rfl, h0, h1, h2, h3⟩
  · exact .inl ⟨rfl, rfl⟩
  · exact .inr ⟨j, kd, rfl, h0, hr.get _ _ (hs j (by simp [blk])) h1, h2, h3⟩
theorem LyO.in_ {m : Mem} {lo : Nat} {A : Option Addr} {ls : List LyT} (h : LyO m lo A ls) : ∀ i ∈ blk A, lo ≤ i ∧ i < m.length := by
  intro i hi
  rcases h with ⟨rfl, rfl⟩ | ⟨j, kd, rfl, h0, h1, h2, h3⟩
  · cases hi
  · have : i = j := by simpa [blk] using hi
    subst this
    exact ⟨h0, lt_of_get h1⟩
theorem RpO.in_ {m : Mem} {lo : Nat} {R : Option Addr} {rs : List I2} (h : RpO m lo R rs) : ∀ i ∈ blk R, lo ≤ i ∧ i < m.length := by
  intro i hi
  rcases h with ⟨rfl, rfl⟩ | ⟨j, kd, rfl, h0, h1, h2, h3⟩
  · cases hi
  · have : i = j := by simpa [blk] using hi
    subst this
    exact ⟨h0, lt_of_get h1⟩
theorem blk_apart {A R : Option Addr} (h : ∀ a a' : Addr, A = some a → R = some a' → a.block ≠ a'.block) : ∀ i ∈ blk A, i ∉ blk R := by
  intro i hi hj
  cases A with
  | none => cases hi
  | some a =>
    cases R with
    | none => cases hj
    | some a' =>
      have e1 : i = a.block := by simpa [blk] using hi
      have e2 : i = a'.block := by simpa [blk] using hj
      exact h a a' rfl rfl (by omega)
def MkBk (A : Option Addr) (n : Nat) (m : Mem) (v : Value) (m' : Mem) : Prop := v = .int .i64 (1 + 2 * (n : Int)) ∧ RestS (blk A) m m' ∧ RdG vl 2 m' A (mkLy 1 n)
theorem markRd_c (st : Int) (ls : List LyT) (bo : ByteArray) (A : Option Addr) (lo : Nat) (m : Mem) (h : LyO m lo A ls) (hn : ls.length ≤ 1048576) :
    ∃ v m', ACalls Tryd.prog 16 [.agg (bkC st A ls.length bo).toArray, .int .i64 1] m v m' ∧ MkBk A ls.length m v m' := by
  rcases h with ⟨rfl, rfl⟩ | ⟨j, kd, rfl, _, h1, h2, h3⟩
  · exact ⟨_, _, markBasket_nil st none bo 1 m, rfl, RestS.refl _ _, RdG.nil _ _ _ _⟩
  · obtain ⟨v, m', hc, rfl, hr, hg⟩ := markBasket_c st ls bo 1 j _ _ m h1 ⟨h2, h3⟩ hn (by omega)
    refine ⟨_, m', hc, by simp, hr, RdG.of_get (g := vl) (sz := 2) (fun _ => rfl) (mkLy 1 ls.length) hg h3 rfl rfl |> fun x => x⟩
def MkRp (R : Option Addr) (b : Int) (n : Nat) (m : Mem) (v : Value) (m' : Mem) : Prop := v = .int .i64 (b + (n : Int) * 2) ∧ RestS (blk R) m m' ∧ RdG (mkRow 2 b) 2 m' R (List.range n)
theorem markRp_c (rs : List I2) (R : Option Addr) (b : Int) (lo : Nat) (m : Mem) (h : RpO m lo R rs) (hn : rs.length ≤ 1048576) (hb : 0 ≤ b ∧ b ≤ 10000000) :
    ∃ v m', ACalls Tryd.prog 22 [.slice R rs.length rs.length, .int .i64 b] m v m' ∧ MkRp R b rs.length m v m' := by
  rcases h with ⟨rfl, rfl⟩ | ⟨j, kd, rfl, _, h1, h2, h3⟩
  · exact ⟨_, _, markReportS_nil none b m, by simp, RestS.refl _ _, RdMk.nil _ _ _ _⟩
  · have hc := markReportS_c rs b j _ m h1 rfl rfl ⟨h2, h3⟩ hn hb
    refine ⟨_, _, hc, rfl, RestS.set m (by simp [blk]) _, RdMk.of_get rs.length (get_set h1 _) h3 rfl rfl⟩
theorem readR_small (t : ByteArray) : (readR t).1.2.1.length ≤ 40 ∧ (readR t).2.1.length ≤ 20 := by
  unfold readR
  split
  · exact ⟨Nat.zero_le _, Nat.zero_le _⟩
  · exact ⟨(run_ok _ _).nl, run_reports _ _⟩
end Go.Proofs.YtmbijgnmbapchaaDoor
