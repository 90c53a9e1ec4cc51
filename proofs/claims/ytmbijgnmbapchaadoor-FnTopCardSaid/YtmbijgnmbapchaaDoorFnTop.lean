/-
  'FnTop': what is told of a drawn stroke and drawn rods fits together. Conditions: none.
-/
import Derived.Test.YtmbijgnmbapchaaDoorKinJ
import Derived.Test.YtmbijgnmbapchaaDoorBkN
import Derived.Test.YtmbijgnmbapchaaDoorBkO
import Derived.Test.YtmbijgnmbapchaaDoorBkG
import Derived.Test.YtmbijgnmbapchaaDoorDoor
set_option linter.unusedSimpArgs false
set_option linter.unusedVariables false
set_option linter.unusedSectionVars false
namespace Go.Proofs.YtmbijgnmbapchaaDoor
open Go.Abs Go.RowKit Go.Law

def DrawnSX (m : Mem) (v : Value) (m' : Mem) : Prop := ∃ s, StrokeS s ∧ v = .string s ∧ m <+: m'
theorem a2Stroke_c (a : Option Addr) (code : List Int) (m : Mem) (h : RdB m a code) (hl : code.length ≤ 1048576) :
    ∃ v m', ACalls Tryd.prog 40 [.slice a code.length code.length] m v m' ∧ DrawnSX m v m' := by
  obtain ⟨v, m', hc, s, hs, rfl, hbut, hsrc⟩ := l06Draw_c m.length a code 0 (by omega) _ (srcNew h hl)
  refine ecalls_of_vc Tryd.func40 rfl Tryd.fol (by kernel_rfl) ?_
  simp only [Tryd.f40]
  simp -dsimp -implicitDefEqProofs
  refine callsTo Tryd.cal75 (l00From_c a code m) ?_
  simp -dsimp -implicitDefEqProofs
  refine callsTo Tryd.cal81 hc ?_
  simp -dsimp -implicitDefEqProofs
  exact ⟨_, _, GC.refl _ _ _, s, hs, rfl, hbut.pre ⟨_, rfl⟩ (Nat.le_refl _)⟩
theorem a2Sum_c (xs : List Int) (a : Option Addr) (m : Mem) (hr : RdI m a xs) (hf : FewT xs) (hn : xs.length ≤ 1048576) : ACalls Tryd.prog 54 [.slice a xs.length xs.length] m (.int .i64 (sumT xs)) m := by
  refine acalls_of_vc Tryd.func54 rfl Tryd.fol (by kernel_rfl) ?_
  simp only [Tryd.f54]
  simp -dsimp -implicitDefEqProofs
  refine loopN xs.length (fun k σ m' => m' = m ∧ σ 0 = some (.slice a xs.length xs.length) ∧ σ 3 = some (.int .i64 (sumT (xs.take k))) ∧ σ 4 = some (.int .i64 k)) ⟨rfl, by simp [sumT_nil]⟩ ?_
  rintro k σ m' hk ⟨rfl, s0, s3, s4⟩
  by_cases hlt : k < xs.length
  · obtain ⟨id, off, o, rfl, hm, hkd, hsz, hc⟩ := hr.at_ hlt
    have hw : IntKind.i64.wrap ((k : Int) + 1) = k + 1 := wrapI (by omega) (by omega)
    have hs : sumT (xs.take (k + 1)) = sumT (xs.take k) + xs[k] := by rw [List.take_add_one, List.getElem?_eq_getElem hlt, Option.toList_some, sumT_append, sumT_cons, sumT_nil]; omega
    have hft : FewT (xs.take (k + 1)) := fun x hx => hf x (List.mem_of_mem_take hx)
    have hb := hft.sum
    have hl : (xs.take (k + 1)).length = k + 1 := by rw [List.length_take]; omega
    rw [hl] at hb
    have hw2 : IntKind.i64.wrap (sumT (xs.take k) + xs[k]) = sumT (xs.take (k + 1)) := by rw [← hs]; exact wrapI (by omega) (by omega)
    simp -dsimp -implicitDefEqProofs [s0, s3, s4, hlt, withO_of hm, hkd, hsz, withC_of hc, hw]
    exact next_ hlt ⟨rfl, by simp [s0, hw, hw2]⟩
  · simp -dsimp -implicitDefEqProofs [s0, s3, s4, hlt]
    rw [List.take_of_length_le (by omega)]
    exact GC.refl _ _ _
section
variable {ks : List I2} (hks : SmallK ks) {n : Int}
include hks
theorem few_none (h : (searchT ks n true).best = none) : reachT ks (hv ks) < n := by
  have h1 := (searchT_found ks n true).none_ h (hv ks) ((mem_all hks).2 (within_hv fun k hk => (hks.bounds k hk).2.1))
  omega
theorem few_some {b : List Int} (h : (searchT ks n true).best = some b) : Within (hv ks) b ∧ n ≤ reachT ks b ∧ reachT ks b ≤ reachT ks (hv ks) ∧ ∀ xs, Within (hv ks) xs → n ≤ reachT ks xs → betterT true (sumT xs) (reachT ks xs) (sumT b) (reachT ks b) = false := by
  obtain ⟨h1, h2, h3⟩ := (searchT_found ks n true).some_ b h
  have hw := (mem_all hks).1 h1
  exact ⟨hw, h2, reach_le (fun k hk => by have := (hks.bounds k hk).1; omega) hw, fun xs hxs hn => h3 xs ((mem_all hks).2 hxs) hn⟩
end
theorem sound_ways (s : ByteArray) (st : Nat) (fl : Int) :
    (floatC s = 6 ∧ soundB s st fl = false ∧ True ∧ True) ∨ (floatC s = 0 ∧ soundB s st fl = true ∧ ((floatN s : Int) ≤ fl) ∧ (looseTo s.data.toList st st).length = 0) ∨
    (floatC s = 0 ∧ soundB s st fl = false ∧ (¬ (floatN s : Int) ≤ fl) ∧ True) ∨ (floatC s = 0 ∧ soundB s st fl = false ∧ ((floatN s : Int) ≤ fl) ∧ (((looseTo s.data.toList st st).length : Int) == 0) = false) := by
  unfold floatC soundB floatN
  cases hb : bothL s.data.toList
  · simp
  · by_cases h1 : (runS s.data.toList : Int) ≤ fl <;> by_cases h2 : (looseTo s.data.toList st st).length = 0 <;> simp [h1, h2]
theorem again_few {n st : Nat} (h : 1 ≤ n ∧ n ≤ 12) : 1 ≤ againN n st ∧ againN n st ≤ 12 := by
  unfold againN
  have hg : 0 < Nat.gcd n st := Nat.gcd_pos_of_pos_left _ (by omega)
  have := Nat.gcd_le_left (m := n) st (by omega)
  exact ⟨Nat.div_pos this hg, Nat.le_trans (Nat.div_le_self _ _) h.2⟩
set_option maxRecDepth 20000 in
set_option maxHeartbeats 16000000 in
theorem lawTop_c (xs : List Int) (a : Option Addr) (ys : List Int) (b : Option Addr) (m : Mem) (hr0 : RdB m a xs) (hm0 : xs.length ≤ maxLen) (hr1 : RdB m b ys) (hm1 : ys.length ≤ maxLen) :
    ∃ v m', ACalls Tryd.prog 7 [.slice a xs.length xs.length, .slice b ys.length ys.length] m v m' ∧ IsT v m' := by
  refine ecalls_of_vc Tryd.func7 rfl Tryd.fol (by kernel_rfl) ?_
  simp only [Tryd.f7]
  simp -dsimp -implicitDefEqProofs
  refine callsTo Tryd.cal39 (a2Long_c a b _ _ _) ?_
  simp -dsimp -implicitDefEqProofs
  by_cases hlong : (3000 : Int) < xs.length ∨ (3000 : Int) < ys.length
  · have h1 : (decide ((3000 : Int) < xs.length) || decide ((3000 : Int) < ys.length)) = true := by simpa using hlong
    simp -dsimp -implicitDefEqProofs [h1]
    exact ⟨_, _, GC.refl _ _ _, rfl⟩
  have h1 : (decide ((3000 : Int) < xs.length) || decide ((3000 : Int) < ys.length)) = false := by simp; omega
  simp -dsimp -implicitDefEqProofs [h1]
  obtain ⟨vs, m0, hcs, s, ⟨hsB, hs8⟩, rfl, hp1⟩ := a2Stroke_c a xs m hr0 (by omega)
  have hz := stroke_size hsB
  refine callsTo Tryd.cal40 hcs ?_
  simp -dsimp -implicitDefEqProofs [h1]
  have hrx0 : RdB m0 a xs := ⟨hr0.1.pre hp1, hr0.2⟩
  have hry0 : RdB m0 b ys := ⟨hr1.1.pre hp1, hr1.2⟩
  obtain ⟨vx, m1, hcx, x, rfl, hx, hmx⟩ := a2At_c b ys 0 22 m0 hry0 (by omega) (by omega) (by omega)
  have hmx := hmx.symm
  subst hmx
  obtain ⟨vy, m1, hcy, y, rfl, hy, hmy⟩ := a2At_c b ys 1 4 m0 hry0 (by omega) (by omega) (by omega)
  have hmy := hmy.symm
  subst hmy
  obtain ⟨st, hst⟩ : ∃ st : Nat, (st : Int) = 3 + x := ⟨(3 + x).toNat, by omega⟩
  obtain ⟨fl, hfl⟩ : ∃ fl : Int, fl = 1 + y := ⟨_, rfl⟩
  have hwst : IntKind.i64.wrap (3 + x) = (st : Int) := by rw [hst]; exact wrapI (by omega) (by omega)
  have hwfl : IntKind.i64.wrap (1 + y) = fl := by rw [hfl]; exact wrapI (by omega) (by omega)
  refine callsTo Tryd.cal41 hcx ?_
  simp -dsimp -implicitDefEqProofs [h1, hwst, hwfl]
  refine callsTo Tryd.cal41 hcy ?_
  simp -dsimp -implicitDefEqProofs [h1, hwst, hwfl]
  have hst1 : 3 ≤ st ∧ st ≤ 60 := by omega
  have hflB : inB fl 1 12 = true := by simp [inB]; omega
  obtain ⟨ag, hag⟩ : ∃ ag, ag = againN s.size st := ⟨_, rfl⟩
  have hag1 := again_few (n := s.size) (st := st) ⟨hz.2, hz.1⟩
  have eA := beginsAgainT_c s st hsB hst1
  have eR0 := roundOf_c s st 0 hsB hst1 (by omega)
  have eR1 := roundOf_c s st ag hsB hst1 (by omega)
  have hsl : s.data.toList.length = s.size := by rw [Array.length_toList]; rfl
  have hsame := again_same s.data.toList st (by omega)
  rw [hsl, ← hag] at hsame
  rw [hsame] at eR1
  rw [← hag] at eA hag1
  obtain ⟨rs, hrs⟩ : ∃ rs : ByteArray, rs = ⟨(stepL s.data.toList (0 * st) 1 st).toArray⟩ := ⟨_, rfl⟩
  have hrsz : rs.size = st := by
    rw [hrs]
    show (stepL s.data.toList (0 * st) 1 st).toArray.size = st
    rw [List.size_toArray, stepL_length]
  rw [← hrs] at eR0 eR1
  simp only [Int.natCast_zero] at eR0
  have eL := looseStakesT_c s st hsB hst1 m0
  obtain ⟨ol, hol⟩ : ∃ ol : AObj, ol = ⟨(looseTo s.data.toList st st).map (Value.int .i64), 2, 1, 2⟩ := ⟨_, rfl⟩
  rw [← hol] at eL
  obtain ⟨ll, hll⟩ : ∃ ll, ll = (looseTo s.data.toList st st).length := ⟨_, rfl⟩
  have hways := sound_ways s st fl
  rw [← hll] at eL hways
  obtain ⟨va, ma, hca, hadd, hma⟩ := stakesToAdd_c s st fl hsB hst1 hflB (m0 ++ [ol])
  have hma := hma.symm
  subst hma
  obtain ⟨vk, m2, hck, ks, id, hks, rfl, hp2, hid, ok, hok, hok1, hok2, hok3, hok4⟩ := a2Kinds_c b ys (m0 ++ [ol]) ⟨hry0.1.ext _, hry0.2⟩ (by omega)
  have hp02 : m0 <+: m2 := List.IsPrefix.trans ⟨_, rfl⟩ hp2
  have hrx2 : RdB m2 a xs := ⟨hrx0.1.pre hp02, hrx0.2⟩
  obtain ⟨vn, m3, hcn, n, rfl, hn, hmn⟩ := a2At_c a xs 0 120 m2 hrx2 (by omega) (by omega) (by omega)
  have hmn := hmn.symm
  subst hmn
  have hg2 : ∀ x, (v2 x).length = 2 := fun _ => rfl
  have hrk : RdG v2 2 m2 (some ⟨id, 0, none⟩) ks := RdG.of_get hg2 ks hok hok2 hok3 hok4
  have hlk : ks.length ≤ 1048576 := by have := hks.2.1; omega
  have hcode : codeK ks n = 0 := by simp [codeK, hks.1, inB]; omega
  obtain ⟨eAll, hA0, hA1⟩ := allW_eq hks
  have hidl := lt_of_get hok
  have hallV : allV ks = .tuple #[.int .i64 (reachT ks (hv ks)), .int .i64 0] := by simp [allV, hks.1, eAll]
  have hFew := implFew_c ks (some ⟨id, 0, none⟩) n m2 hrk hlk (fun x hx => by injection hx with hx; subst hx; exact hidl)
  have eS := implIsSound_c s st fl hsB hst1 hflB
  have eF := longestFloat_c s hsB
  obtain ⟨fc, hfc⟩ : ∃ fc, fc = floatC s := ⟨_, rfl⟩
  obtain ⟨fn, hfn⟩ : ∃ fn, fn = floatN s := ⟨_, rfl⟩
  rw [← hfc, ← hfn] at hways eF
  have g1 : ¬ ((ag : Int) < 1) := by omega
  have g2 : ¬ ((12 : Int) < ag) := by omega
  cases hbest : (searchT ks n true).best with
  | none =>
    have hlt := few_none hks hbest
    have hV : bestV m2.length ks n true = .tuple #[.slice none 0 0, .int .i64 0, .int .i64 3] := by simp [bestV, bestO, bestN, bestC, hcode, hbest, optV]
    have hM : optM 2 (bestO ks n true) = [] := by simp [bestO, hcode, hbest, optM]
    rw [hV, hM, List.append_nil] at hFew
    have hcmp : ¬ (n ≤ reachT ks (hv ks)) := by omega
    have hAll := hallV ▸ implAll_c ks _ _ hrk hlk
    rcases hadd with ⟨k, hva, hk1, hk2, hk3⟩ | ⟨hva, hno⟩
    · subst hva
      obtain ⟨kv, hkv⟩ : ∃ kv : Int, kv = (k : Int) := ⟨_, rfl⟩
      obtain ⟨q, hq⟩ : ∃ q, q = st + k := ⟨_, rfl⟩
      rw [← hkv] at hca
      rw [← hq] at hk2
      have hwq : IntKind.i64.wrap ((st : Int) + kv) = (q : Int) := by rw [wrapI (by omega) (by omega)]; omega
      obtain ⟨d60, hd60⟩ : ∃ d : Int, d = 60 - (st : Int) := ⟨_, rfl⟩
      have hw60 : IntKind.i64.wrap (60 - (st : Int)) = d60 := by rw [wrapI (by omega) (by omega), hd60]
      have hk0 : ¬ (kv < 0) := by omega
      have hk60 : ¬ (d60 < kv) := by omega
      have eSS := specIsSound_c s q fl hsB (by omega) hflB
      rw [hk2] at eSS
      have hkz : soundB s st fl = true ↔ kv = 0 := by
        constructor
        · intro h
          by_cases h0 : k = 0
          · omega
          · have := hk3 0 (by omega)
            rw [Nat.add_zero, h] at this
            cases this
        · intro h
          have : q = st := by omega
          rw [← this]; exact hk2
      rcases hways with ⟨w1, w2, w3, w4⟩ | ⟨w1, w2, w3, w4⟩ | ⟨w1, w2, w3, w4⟩ | ⟨w1, w2, w3, w4⟩
      · have w5 : (kv == 0) = false := beq_eq_false_iff_ne.2 (fun h => by rw [hkz.2 h] at w2; cases w2)
        rw [w1] at eF
        rw [w2] at eS
        refine callsTo Tryd.cal37 (eS _) ?_
        simp -dsimp -implicitDefEqProofs [h1, hwst, hwfl, w3, w4, g1, g2, hrsz]
        refine callsTo Tryd.cal42 (eF _) ?_
        simp -dsimp -implicitDefEqProofs [h1, hwst, hwfl, w3, w4, g1, g2, hrsz]
        refine callsTo Tryd.cal43 eL ?_
        simp -dsimp -implicitDefEqProofs [h1, hwst, hwfl, w3, w4, g1, g2, hrsz]
        refine callsTo Tryd.cal44 (eA _) ?_
        simp -dsimp -implicitDefEqProofs [h1, hwst, hwfl, w3, w4, g1, g2, hrsz]
        refine callsTo Tryd.cal45 (eR0 _) ?_
        simp -dsimp -implicitDefEqProofs [h1, hwst, hwfl, w3, w4, g1, g2, hrsz]
        refine callsTo Tryd.cal45 (eR1 _) ?_
        simp -dsimp -implicitDefEqProofs [h1, hwst, hwfl, w3, w4, g1, g2, hrsz]
        refine callsTo Tryd.cal46 hca ?_
        simp -dsimp -implicitDefEqProofs [h1, hwst, hwfl, w3, w4, g1, g2, hrsz, hk0, hk60, hw60, w5, hwq]
        refine callsTo Tryd.cal47 (eSS _) ?_
        simp -dsimp -implicitDefEqProofs [h1, hwst, hwfl, w3, w4, g1, g2, hrsz, hk0, hk60, hw60, w5, hwq]
        refine callsTo Tryd.cal48 hck ?_
        simp -dsimp -implicitDefEqProofs [h1, hwst, hwfl, w3, w4, g1, g2, hrsz, hk0, hk60, hw60, w5, hwq, hcmp]
        refine callsTo Tryd.cal41 hcn ?_
        simp -dsimp -implicitDefEqProofs [h1, hwst, hwfl, w3, w4, g1, g2, hrsz, hk0, hk60, hw60, w5, hwq, hcmp]
        refine callsTo Tryd.cal49 hFew ?_
        simp -dsimp -implicitDefEqProofs [h1, hwst, hwfl, w3, w4, g1, g2, hrsz, hk0, hk60, hw60, w5, hwq, hcmp]
        refine callsTo Tryd.cal50 hAll ?_
        simp -dsimp -implicitDefEqProofs [h1, hwst, hwfl, w3, w4, g1, g2, hrsz, hk0, hk60, hw60, w5, hwq, hcmp]
        exact ⟨_, _, GC.refl _ _ _, rfl⟩
      · have w5 : (kv == 0) = true := beq_iff_eq.2 (hkz.1 w2)
        rw [w1] at eF
        rw [w2] at eS
        refine callsTo Tryd.cal37 (eS _) ?_
        simp -dsimp -implicitDefEqProofs [h1, hwst, hwfl, w3, w4, g1, g2, hrsz]
        refine callsTo Tryd.cal42 (eF _) ?_
        simp -dsimp -implicitDefEqProofs [h1, hwst, hwfl, w3, w4, g1, g2, hrsz]
        refine callsTo Tryd.cal43 eL ?_
        simp -dsimp -implicitDefEqProofs [h1, hwst, hwfl, w3, w4, g1, g2, hrsz]
        refine callsTo Tryd.cal44 (eA _) ?_
        simp -dsimp -implicitDefEqProofs [h1, hwst, hwfl, w3, w4, g1, g2, hrsz]
        refine callsTo Tryd.cal45 (eR0 _) ?_
        simp -dsimp -implicitDefEqProofs [h1, hwst, hwfl, w3, w4, g1, g2, hrsz]
        refine callsTo Tryd.cal45 (eR1 _) ?_
        simp -dsimp -implicitDefEqProofs [h1, hwst, hwfl, w3, w4, g1, g2, hrsz]
        refine callsTo Tryd.cal46 hca ?_
        simp -dsimp -implicitDefEqProofs [h1, hwst, hwfl, w3, w4, g1, g2, hrsz, hk0, hk60, hw60, w5, hwq]
        refine callsTo Tryd.cal47 (eSS _) ?_
        simp -dsimp -implicitDefEqProofs [h1, hwst, hwfl, w3, w4, g1, g2, hrsz, hk0, hk60, hw60, w5, hwq]
        refine callsTo Tryd.cal48 hck ?_
        simp -dsimp -implicitDefEqProofs [h1, hwst, hwfl, w3, w4, g1, g2, hrsz, hk0, hk60, hw60, w5, hwq, hcmp]
        refine callsTo Tryd.cal41 hcn ?_
        simp -dsimp -implicitDefEqProofs [h1, hwst, hwfl, w3, w4, g1, g2, hrsz, hk0, hk60, hw60, w5, hwq, hcmp]
        refine callsTo Tryd.cal49 hFew ?_
        simp -dsimp -implicitDefEqProofs [h1, hwst, hwfl, w3, w4, g1, g2, hrsz, hk0, hk60, hw60, w5, hwq, hcmp]
        refine callsTo Tryd.cal50 hAll ?_
        simp -dsimp -implicitDefEqProofs [h1, hwst, hwfl, w3, w4, g1, g2, hrsz, hk0, hk60, hw60, w5, hwq, hcmp]
        exact ⟨_, _, GC.refl _ _ _, rfl⟩
      · have w5 : (kv == 0) = false := beq_eq_false_iff_ne.2 (fun h => by rw [hkz.2 h] at w2; cases w2)
        rw [w1] at eF
        rw [w2] at eS
        refine callsTo Tryd.cal37 (eS _) ?_
        simp -dsimp -implicitDefEqProofs [h1, hwst, hwfl, w3, w4, g1, g2, hrsz]
        refine callsTo Tryd.cal42 (eF _) ?_
        simp -dsimp -implicitDefEqProofs [h1, hwst, hwfl, w3, w4, g1, g2, hrsz]
        refine callsTo Tryd.cal43 eL ?_
        simp -dsimp -implicitDefEqProofs [h1, hwst, hwfl, w3, w4, g1, g2, hrsz]
        refine callsTo Tryd.cal44 (eA _) ?_
        simp -dsimp -implicitDefEqProofs [h1, hwst, hwfl, w3, w4, g1, g2, hrsz]
        refine callsTo Tryd.cal45 (eR0 _) ?_
        simp -dsimp -implicitDefEqProofs [h1, hwst, hwfl, w3, w4, g1, g2, hrsz]
        refine callsTo Tryd.cal45 (eR1 _) ?_
        simp -dsimp -implicitDefEqProofs [h1, hwst, hwfl, w3, w4, g1, g2, hrsz]
        refine callsTo Tryd.cal46 hca ?_
        simp -dsimp -implicitDefEqProofs [h1, hwst, hwfl, w3, w4, g1, g2, hrsz, hk0, hk60, hw60, w5, hwq]
        refine callsTo Tryd.cal47 (eSS _) ?_
        simp -dsimp -implicitDefEqProofs [h1, hwst, hwfl, w3, w4, g1, g2, hrsz, hk0, hk60, hw60, w5, hwq]
        refine callsTo Tryd.cal48 hck ?_
        simp -dsimp -implicitDefEqProofs [h1, hwst, hwfl, w3, w4, g1, g2, hrsz, hk0, hk60, hw60, w5, hwq, hcmp]
        refine callsTo Tryd.cal41 hcn ?_
        simp -dsimp -implicitDefEqProofs [h1, hwst, hwfl, w3, w4, g1, g2, hrsz, hk0, hk60, hw60, w5, hwq, hcmp]
        refine callsTo Tryd.cal49 hFew ?_
        simp -dsimp -implicitDefEqProofs [h1, hwst, hwfl, w3, w4, g1, g2, hrsz, hk0, hk60, hw60, w5, hwq, hcmp]
        refine callsTo Tryd.cal50 hAll ?_
        simp -dsimp -implicitDefEqProofs [h1, hwst, hwfl, w3, w4, g1, g2, hrsz, hk0, hk60, hw60, w5, hwq, hcmp]
        exact ⟨_, _, GC.refl _ _ _, rfl⟩
      · have w5 : (kv == 0) = false := beq_eq_false_iff_ne.2 (fun h => by rw [hkz.2 h] at w2; cases w2)
        rw [w1] at eF
        rw [w2] at eS
        refine callsTo Tryd.cal37 (eS _) ?_
        simp -dsimp -implicitDefEqProofs [h1, hwst, hwfl, w3, w4, g1, g2, hrsz]
        refine callsTo Tryd.cal42 (eF _) ?_
        simp -dsimp -implicitDefEqProofs [h1, hwst, hwfl, w3, w4, g1, g2, hrsz]
        refine callsTo Tryd.cal43 eL ?_
        simp -dsimp -implicitDefEqProofs [h1, hwst, hwfl, w3, w4, g1, g2, hrsz]
        refine callsTo Tryd.cal44 (eA _) ?_
        simp -dsimp -implicitDefEqProofs [h1, hwst, hwfl, w3, w4, g1, g2, hrsz]
        refine callsTo Tryd.cal45 (eR0 _) ?_
        simp -dsimp -implicitDefEqProofs [h1, hwst, hwfl, w3, w4, g1, g2, hrsz]
        refine callsTo Tryd.cal45 (eR1 _) ?_
        simp -dsimp -implicitDefEqProofs [h1, hwst, hwfl, w3, w4, g1, g2, hrsz]
        refine callsTo Tryd.cal46 hca ?_
        simp -dsimp -implicitDefEqProofs [h1, hwst, hwfl, w3, w4, g1, g2, hrsz, hk0, hk60, hw60, w5, hwq]
        refine callsTo Tryd.cal47 (eSS _) ?_
        simp -dsimp -implicitDefEqProofs [h1, hwst, hwfl, w3, w4, g1, g2, hrsz, hk0, hk60, hw60, w5, hwq]
        refine callsTo Tryd.cal48 hck ?_
        simp -dsimp -implicitDefEqProofs [h1, hwst, hwfl, w3, w4, g1, g2, hrsz, hk0, hk60, hw60, w5, hwq, hcmp]
        refine callsTo Tryd.cal41 hcn ?_
        simp -dsimp -implicitDefEqProofs [h1, hwst, hwfl, w3, w4, g1, g2, hrsz, hk0, hk60, hw60, w5, hwq, hcmp]
        refine callsTo Tryd.cal49 hFew ?_
        simp -dsimp -implicitDefEqProofs [h1, hwst, hwfl, w3, w4, g1, g2, hrsz, hk0, hk60, hw60, w5, hwq, hcmp]
        refine callsTo Tryd.cal50 hAll ?_
        simp -dsimp -implicitDefEqProofs [h1, hwst, hwfl, w3, w4, g1, g2, hrsz, hk0, hk60, hw60, w5, hwq, hcmp]
        exact ⟨_, _, GC.refl _ _ _, rfl⟩
    · subst hva
      have hs0 := hno 0 (by omega)
      rw [Nat.add_zero] at hs0
      rcases hways with ⟨w1, w2, w3, w4⟩ | ⟨w1, w2, w3, w4⟩ | ⟨w1, w2, w3, w4⟩ | ⟨w1, w2, w3, w4⟩
      · rw [w1] at eF
        rw [w2] at eS
        refine callsTo Tryd.cal37 (eS _) ?_
        simp -dsimp -implicitDefEqProofs [h1, hwst, hwfl, w3, w4, g1, g2, hrsz]
        refine callsTo Tryd.cal42 (eF _) ?_
        simp -dsimp -implicitDefEqProofs [h1, hwst, hwfl, w3, w4, g1, g2, hrsz]
        refine callsTo Tryd.cal43 eL ?_
        simp -dsimp -implicitDefEqProofs [h1, hwst, hwfl, w3, w4, g1, g2, hrsz]
        refine callsTo Tryd.cal44 (eA _) ?_
        simp -dsimp -implicitDefEqProofs [h1, hwst, hwfl, w3, w4, g1, g2, hrsz]
        refine callsTo Tryd.cal45 (eR0 _) ?_
        simp -dsimp -implicitDefEqProofs [h1, hwst, hwfl, w3, w4, g1, g2, hrsz]
        refine callsTo Tryd.cal45 (eR1 _) ?_
        simp -dsimp -implicitDefEqProofs [h1, hwst, hwfl, w3, w4, g1, g2, hrsz]
        refine callsTo Tryd.cal46 hca ?_
        simp -dsimp -implicitDefEqProofs [h1, hwst, hwfl, w3, w4, g1, g2, hrsz]
        refine callsTo Tryd.cal48 hck ?_
        simp -dsimp -implicitDefEqProofs [h1, hwst, hwfl, w3, w4, g1, g2, hrsz, hcmp]
        refine callsTo Tryd.cal41 hcn ?_
        simp -dsimp -implicitDefEqProofs [h1, hwst, hwfl, w3, w4, g1, g2, hrsz, hcmp]
        refine callsTo Tryd.cal49 hFew ?_
        simp -dsimp -implicitDefEqProofs [h1, hwst, hwfl, w3, w4, g1, g2, hrsz, hcmp]
        refine callsTo Tryd.cal50 hAll ?_
        simp -dsimp -implicitDefEqProofs [h1, hwst, hwfl, w3, w4, g1, g2, hrsz, hcmp]
        exact ⟨_, _, GC.refl _ _ _, rfl⟩
      · rw [hs0] at w2; cases w2
      · rw [w1] at eF
        rw [w2] at eS
        refine callsTo Tryd.cal37 (eS _) ?_
        simp -dsimp -implicitDefEqProofs [h1, hwst, hwfl, w3, w4, g1, g2, hrsz]
        refine callsTo Tryd.cal42 (eF _) ?_
        simp -dsimp -implicitDefEqProofs [h1, hwst, hwfl, w3, w4, g1, g2, hrsz]
        refine callsTo Tryd.cal43 eL ?_
        simp -dsimp -implicitDefEqProofs [h1, hwst, hwfl, w3, w4, g1, g2, hrsz]
        refine callsTo Tryd.cal44 (eA _) ?_
        simp -dsimp -implicitDefEqProofs [h1, hwst, hwfl, w3, w4, g1, g2, hrsz]
        refine callsTo Tryd.cal45 (eR0 _) ?_
        simp -dsimp -implicitDefEqProofs [h1, hwst, hwfl, w3, w4, g1, g2, hrsz]
        refine callsTo Tryd.cal45 (eR1 _) ?_
        simp -dsimp -implicitDefEqProofs [h1, hwst, hwfl, w3, w4, g1, g2, hrsz]
        refine callsTo Tryd.cal46 hca ?_
        simp -dsimp -implicitDefEqProofs [h1, hwst, hwfl, w3, w4, g1, g2, hrsz]
        refine callsTo Tryd.cal48 hck ?_
        simp -dsimp -implicitDefEqProofs [h1, hwst, hwfl, w3, w4, g1, g2, hrsz, hcmp]
        refine callsTo Tryd.cal41 hcn ?_
        simp -dsimp -implicitDefEqProofs [h1, hwst, hwfl, w3, w4, g1, g2, hrsz, hcmp]
        refine callsTo Tryd.cal49 hFew ?_
        simp -dsimp -implicitDefEqProofs [h1, hwst, hwfl, w3, w4, g1, g2, hrsz, hcmp]
        refine callsTo Tryd.cal50 hAll ?_
        simp -dsimp -implicitDefEqProofs [h1, hwst, hwfl, w3, w4, g1, g2, hrsz, hcmp]
        exact ⟨_, _, GC.refl _ _ _, rfl⟩
      · rw [w1] at eF
        rw [w2] at eS
        refine callsTo Tryd.cal37 (eS _) ?_
        simp -dsimp -implicitDefEqProofs [h1, hwst, hwfl, w3, w4, g1, g2, hrsz]
        refine callsTo Tryd.cal42 (eF _) ?_
        simp -dsimp -implicitDefEqProofs [h1, hwst, hwfl, w3, w4, g1, g2, hrsz]
        refine callsTo Tryd.cal43 eL ?_
        simp -dsimp -implicitDefEqProofs [h1, hwst, hwfl, w3, w4, g1, g2, hrsz]
        refine callsTo Tryd.cal44 (eA _) ?_
        simp -dsimp -implicitDefEqProofs [h1, hwst, hwfl, w3, w4, g1, g2, hrsz]
        refine callsTo Tryd.cal45 (eR0 _) ?_
        simp -dsimp -implicitDefEqProofs [h1, hwst, hwfl, w3, w4, g1, g2, hrsz]
        refine callsTo Tryd.cal45 (eR1 _) ?_
        simp -dsimp -implicitDefEqProofs [h1, hwst, hwfl, w3, w4, g1, g2, hrsz]
        refine callsTo Tryd.cal46 hca ?_
        simp -dsimp -implicitDefEqProofs [h1, hwst, hwfl, w3, w4, g1, g2, hrsz]
        refine callsTo Tryd.cal48 hck ?_
        simp -dsimp -implicitDefEqProofs [h1, hwst, hwfl, w3, w4, g1, g2, hrsz, hcmp]
        refine callsTo Tryd.cal41 hcn ?_
        simp -dsimp -implicitDefEqProofs [h1, hwst, hwfl, w3, w4, g1, g2, hrsz, hcmp]
        refine callsTo Tryd.cal49 hFew ?_
        simp -dsimp -implicitDefEqProofs [h1, hwst, hwfl, w3, w4, g1, g2, hrsz, hcmp]
        refine callsTo Tryd.cal50 hAll ?_
        simp -dsimp -implicitDefEqProofs [h1, hwst, hwfl, w3, w4, g1, g2, hrsz, hcmp]
        exact ⟨_, _, GC.refl _ _ _, rfl⟩
  | some bs =>
    obtain ⟨hb1, hb2, hb3, hb4⟩ := few_some hks hbest
    have hbl : bs.length = ks.length := by have := within_length hb1; rw [hv_length] at this; exact this
    have hV : bestV m2.length ks n true = .tuple #[.slice (some ⟨m2.length, 0, none⟩) bs.length bs.length, .int .i64 (sumT bs), .int .i64 0] := by simp [bestV, bestO, bestN, bestC, hcode, hbest, optV]
    have hM : optM 2 (bestO ks n true) = [⟨bs.map (Value.int .i64), 2, 1, 2⟩] := by simp [bestO, hcode, hbest, optM]
    rw [hV, hM, hbl] at hFew
    have hcmp : n ≤ reachT ks (hv ks) := by omega
    obtain ⟨m4, hm4⟩ : ∃ m4 : Mem, m4 = m2 ++ [⟨bs.map (Value.int .i64), 2, 1, 2⟩] := ⟨_, rfl⟩
    rw [← hm4] at hFew
    have hp24 : m2 <+: m4 := by rw [hm4]; exact ⟨_, rfl⟩
    have t4 : m4[m2.length]? = some ⟨bs.map (Value.int .i64), 2, 1, 2⟩ := by rw [hm4]; simp
    have hrk4 : RdG v2 2 m4 (some ⟨id, 0, none⟩) ks := hrk.pre hp24
    have hAll := hallV ▸ implAll_c ks _ _ hrk4 hlk
    have hrb4 : RdI m4 (some ⟨m2.length, 0, none⟩) bs := RdI.of_get t4 (by simp) rfl rfl
    have htb : takenC ks bs = 0 := takenC_ok hks.1 hbl (within_get hb1)
    have hfb : FewT bs := Within.few hb1 (fun h hh => (hv_nonneg hks.1 h hh).2)
    have hrVb : reachV ks bs = .tuple #[.int .i64 (reachT ks bs), .int .i64 0] := by simp [reachV, htb, reachW_eq hks.1 hbl hfb]
    have eRb := implReach_c ks bs _ _ _ hrk4 hrb4 (by omega) hlk
    rw [hrVb, hbl] at eRb
    have hrx4 : RdB m4 a xs := ⟨hrx2.1.pre hp24, hrx2.2⟩
    obtain ⟨vz, m5, hcz, zs, zid, ⟨hzl, hzb⟩, rfl, hp5, hzid, oz, hoz, hoz1, hoz2, hoz3, hoz4⟩ := a2Taken_c a xs ks hks (some ⟨id, 0, none⟩) m4 hrx4 (by omega) hrk4 (fun x hx => by injection hx with hx; subst hx; have := hp24.length_le; simp; omega)
    rw [hzl] at hcz
    have hrk5 : RdG v2 2 m5 (some ⟨id, 0, none⟩) ks := hrk4.pre hp5
    have hrz5 : RdI m5 (some ⟨zid, 0, none⟩) zs := RdI.of_get hoz hoz2 hoz3 hoz4
    have hrb5 : RdI m5 (some ⟨m2.length, 0, none⟩) bs := hrb4.pre hp5
    have htz : takenC ks zs = 0 := takenC_ok hks.1 hzl hzb
    have hwz : Within (hv ks) zs := within_of hzl hzb
    have hfz : FewT zs := Within.few hwz (fun h hh => (hv_nonneg hks.1 h hh).2)
    have hrVz : reachV ks zs = .tuple #[.int .i64 (reachT ks zs), .int .i64 0] := by simp [reachV, htz, reachW_eq hks.1 hzl hfz]
    have eRz := specReach_c ks zs _ _ _ hrk5 hrz5 (by omega) hlk
    rw [hrVz, hzl] at eRz
    have eSb := a2Sum_c bs _ _ hrb5 hfb (by omega)
    rw [hbl] at eSb
    have eSz := a2Sum_c zs _ _ hrz5 hfz (by omega)
    rw [hzl] at eSz
    have hz4 := hb4 zs hwz
    obtain ⟨sb, hsb⟩ : ∃ sb, sb = sumT bs := ⟨_, rfl⟩
    obtain ⟨sz, hsz⟩ : ∃ sz, sz = sumT zs := ⟨_, rfl⟩
    obtain ⟨rb, hrb⟩ : ∃ rb, rb = reachT ks bs := ⟨_, rfl⟩
    obtain ⟨rz, hrz⟩ : ∃ rz, rz = reachT ks zs := ⟨_, rfl⟩
    rw [← hsb, ← hsz, ← hrb, ← hrz] at hz4
    rw [← hsb] at eSb hFew
    rw [← hsz] at eSz
    rw [← hrb] at eRb hb2
    rw [← hrz] at eRz
    have hfin : (rz < n) ∨ (¬ rz < n ∧ sb < sz) ∨ (¬ rz < n ∧ ¬ sb < sz ∧ sz = sb ∧ rb ≤ rz) := by
      by_cases q1 : rz < n
      · exact .inl q1
      have q2 := hz4 (by omega)
      simp [betterT] at q2
      by_cases q3 : sb < sz
      · exact .inr (.inl ⟨q1, q3⟩)
      have q4 : sz = sb := by omega
      exact .inr (.inr ⟨q1, q3, q4, by have := q2.2 q4; omega⟩)
    rcases hadd with ⟨k, hva, hk1, hk2, hk3⟩ | ⟨hva, hno⟩
    · subst hva
      obtain ⟨kv, hkv⟩ : ∃ kv : Int, kv = (k : Int) := ⟨_, rfl⟩
      obtain ⟨q, hq⟩ : ∃ q, q = st + k := ⟨_, rfl⟩
      rw [← hkv] at hca
      rw [← hq] at hk2
      have hwq : IntKind.i64.wrap ((st : Int) + kv) = (q : Int) := by rw [wrapI (by omega) (by omega)]; omega
      obtain ⟨d60, hd60⟩ : ∃ d : Int, d = 60 - (st : Int) := ⟨_, rfl⟩
      have hw60 : IntKind.i64.wrap (60 - (st : Int)) = d60 := by rw [wrapI (by omega) (by omega), hd60]
      have hk0 : ¬ (kv < 0) := by omega
      have hk60 : ¬ (d60 < kv) := by omega
      have eSS := specIsSound_c s q fl hsB (by omega) hflB
      rw [hk2] at eSS
      have hkz : soundB s st fl = true ↔ kv = 0 := by
        constructor
        · intro h
          by_cases h0 : k = 0
          · omega
          · have := hk3 0 (by omega)
            rw [Nat.add_zero, h] at this
            cases this
        · intro h
          have : q = st := by omega
          rw [← this]; exact hk2
      rcases hways with ⟨w1, w2, w3, w4⟩ | ⟨w1, w2, w3, w4⟩ | ⟨w1, w2, w3, w4⟩ | ⟨w1, w2, w3, w4⟩
      · have w5 : (kv == 0) = false := beq_eq_false_iff_ne.2 (fun h => by rw [hkz.2 h] at w2; cases w2)
        rw [w1] at eF
        rw [w2] at eS
        refine callsTo Tryd.cal37 (eS _) ?_
        simp -dsimp -implicitDefEqProofs [h1, hwst, hwfl, w3, w4, g1, g2, hrsz]
        refine callsTo Tryd.cal42 (eF _) ?_
        simp -dsimp -implicitDefEqProofs [h1, hwst, hwfl, w3, w4, g1, g2, hrsz]
        refine callsTo Tryd.cal43 eL ?_
        simp -dsimp -implicitDefEqProofs [h1, hwst, hwfl, w3, w4, g1, g2, hrsz]
        refine callsTo Tryd.cal44 (eA _) ?_
        simp -dsimp -implicitDefEqProofs [h1, hwst, hwfl, w3, w4, g1, g2, hrsz]
        refine callsTo Tryd.cal45 (eR0 _) ?_
        simp -dsimp -implicitDefEqProofs [h1, hwst, hwfl, w3, w4, g1, g2, hrsz]
        refine callsTo Tryd.cal45 (eR1 _) ?_
        simp -dsimp -implicitDefEqProofs [h1, hwst, hwfl, w3, w4, g1, g2, hrsz]
        refine callsTo Tryd.cal46 hca ?_
        simp -dsimp -implicitDefEqProofs [h1, hwst, hwfl, w3, w4, g1, g2, hrsz, hk0, hk60, hw60, w5, hwq]
        refine callsTo Tryd.cal47 (eSS _) ?_
        simp -dsimp -implicitDefEqProofs [h1, hwst, hwfl, w3, w4, g1, g2, hrsz, hk0, hk60, hw60, w5, hwq]
        refine callsTo Tryd.cal48 hck ?_
        simp -dsimp -implicitDefEqProofs [h1, hwst, hwfl, w3, w4, g1, g2, hrsz, hk0, hk60, hw60, w5, hwq, hcmp]
        refine callsTo Tryd.cal41 hcn ?_
        simp -dsimp -implicitDefEqProofs [h1, hwst, hwfl, w3, w4, g1, g2, hrsz, hk0, hk60, hw60, w5, hwq, hcmp]
        refine callsTo Tryd.cal49 hFew ?_
        simp -dsimp -implicitDefEqProofs [h1, hwst, hwfl, w3, w4, g1, g2, hrsz, hk0, hk60, hw60, w5, hwq, hcmp]
        refine callsTo Tryd.cal50 hAll ?_
        simp -dsimp -implicitDefEqProofs [h1, hwst, hwfl, w3, w4, g1, g2, hrsz, hk0, hk60, hw60, w5, hwq, hcmp]
        refine callsTo Tryd.cal51 eRb ?_
        simp -dsimp -implicitDefEqProofs [h1, hwst, hwfl, w3, w4, g1, g2, hrsz, hk0, hk60, hw60, w5, hwq, hcmp]
        refine callsTo Tryd.cal52 hcz ?_
        simp -dsimp -implicitDefEqProofs [h1, hwst, hwfl, w3, w4, g1, g2, hrsz, hk0, hk60, hw60, w5, hwq, hcmp]
        refine callsTo Tryd.cal53 eRz ?_
        simp -dsimp -implicitDefEqProofs [h1, hwst, hwfl, w3, w4, g1, g2, hrsz, hk0, hk60, hw60, w5, hwq, hcmp, hb2]
        refine callsTo Tryd.cal54 eSb ?_
        simp -dsimp -implicitDefEqProofs [h1, hwst, hwfl, w3, w4, g1, g2, hrsz, hk0, hk60, hw60, w5, hwq, hcmp, hb2]
        rcases hfin with f1 | ⟨f1, f2⟩ | ⟨f1, f2, f3, f4⟩
        · simp -dsimp -implicitDefEqProofs [h1, hwst, hwfl, w3, w4, g1, g2, hrsz, hk0, hk60, hw60, w5, hwq, hcmp, hb2, f1]
          exact ⟨_, _, GC.refl _ _ _, rfl⟩
        · simp -dsimp -implicitDefEqProofs [h1, hwst, hwfl, w3, w4, g1, g2, hrsz, hk0, hk60, hw60, w5, hwq, hcmp, hb2, f1, f1, f2]
          refine callsTo Tryd.cal54 eSz ?_
          simp -dsimp -implicitDefEqProofs [h1, hwst, hwfl, w3, w4, g1, g2, hrsz, hk0, hk60, hw60, w5, hwq, hcmp, hb2, f1, f1, f2]
          exact ⟨_, _, GC.refl _ _ _, rfl⟩
        · simp -dsimp -implicitDefEqProofs [h1, hwst, hwfl, w3, w4, g1, g2, hrsz, hk0, hk60, hw60, w5, hwq, hcmp, hb2, f1, f1, f2, f1, f2, f3, f4]
          refine callsTo Tryd.cal54 eSz ?_
          simp -dsimp -implicitDefEqProofs [h1, hwst, hwfl, w3, w4, g1, g2, hrsz, hk0, hk60, hw60, w5, hwq, hcmp, hb2, f1, f1, f2, f1, f2, f3, f4]
          refine callsTo Tryd.cal54 eSz ?_
          simp -dsimp -implicitDefEqProofs [h1, hwst, hwfl, w3, w4, g1, g2, hrsz, hk0, hk60, hw60, w5, hwq, hcmp, hb2, f1, f1, f2, f1, f2, f3, f4]
          exact ⟨_, _, GC.refl _ _ _, rfl⟩
      · have w5 : (kv == 0) = true := beq_iff_eq.2 (hkz.1 w2)
        rw [w1] at eF
        rw [w2] at eS
        refine callsTo Tryd.cal37 (eS _) ?_
        simp -dsimp -implicitDefEqProofs [h1, hwst, hwfl, w3, w4, g1, g2, hrsz]
        refine callsTo Tryd.cal42 (eF _) ?_
        simp -dsimp -implicitDefEqProofs [h1, hwst, hwfl, w3, w4, g1, g2, hrsz]
        refine callsTo Tryd.cal43 eL ?_
        simp -dsimp -implicitDefEqProofs [h1, hwst, hwfl, w3, w4, g1, g2, hrsz]
        refine callsTo Tryd.cal44 (eA _) ?_
        simp -dsimp -implicitDefEqProofs [h1, hwst, hwfl, w3, w4, g1, g2, hrsz]
        refine callsTo Tryd.cal45 (eR0 _) ?_
        simp -dsimp -implicitDefEqProofs [h1, hwst, hwfl, w3, w4, g1, g2, hrsz]
        refine callsTo Tryd.cal45 (eR1 _) ?_
        simp -dsimp -implicitDefEqProofs [h1, hwst, hwfl, w3, w4, g1, g2, hrsz]
        refine callsTo Tryd.cal46 hca ?_
        simp -dsimp -implicitDefEqProofs [h1, hwst, hwfl, w3, w4, g1, g2, hrsz, hk0, hk60, hw60, w5, hwq]
        refine callsTo Tryd.cal47 (eSS _) ?_
        simp -dsimp -implicitDefEqProofs [h1, hwst, hwfl, w3, w4, g1, g2, hrsz, hk0, hk60, hw60, w5, hwq]
        refine callsTo Tryd.cal48 hck ?_
        simp -dsimp -implicitDefEqProofs [h1, hwst, hwfl, w3, w4, g1, g2, hrsz, hk0, hk60, hw60, w5, hwq, hcmp]
        refine callsTo Tryd.cal41 hcn ?_
        simp -dsimp -implicitDefEqProofs [h1, hwst, hwfl, w3, w4, g1, g2, hrsz, hk0, hk60, hw60, w5, hwq, hcmp]
        refine callsTo Tryd.cal49 hFew ?_
        simp -dsimp -implicitDefEqProofs [h1, hwst, hwfl, w3, w4, g1, g2, hrsz, hk0, hk60, hw60, w5, hwq, hcmp]
        refine callsTo Tryd.cal50 hAll ?_
        simp -dsimp -implicitDefEqProofs [h1, hwst, hwfl, w3, w4, g1, g2, hrsz, hk0, hk60, hw60, w5, hwq, hcmp]
        refine callsTo Tryd.cal51 eRb ?_
        simp -dsimp -implicitDefEqProofs [h1, hwst, hwfl, w3, w4, g1, g2, hrsz, hk0, hk60, hw60, w5, hwq, hcmp]
        refine callsTo Tryd.cal52 hcz ?_
        simp -dsimp -implicitDefEqProofs [h1, hwst, hwfl, w3, w4, g1, g2, hrsz, hk0, hk60, hw60, w5, hwq, hcmp]
        refine callsTo Tryd.cal53 eRz ?_
        simp -dsimp -implicitDefEqProofs [h1, hwst, hwfl, w3, w4, g1, g2, hrsz, hk0, hk60, hw60, w5, hwq, hcmp, hb2]
        refine callsTo Tryd.cal54 eSb ?_
        simp -dsimp -implicitDefEqProofs [h1, hwst, hwfl, w3, w4, g1, g2, hrsz, hk0, hk60, hw60, w5, hwq, hcmp, hb2]
        rcases hfin with f1 | ⟨f1, f2⟩ | ⟨f1, f2, f3, f4⟩
        · simp -dsimp -implicitDefEqProofs [h1, hwst, hwfl, w3, w4, g1, g2, hrsz, hk0, hk60, hw60, w5, hwq, hcmp, hb2, f1]
          exact ⟨_, _, GC.refl _ _ _, rfl⟩
        · simp -dsimp -implicitDefEqProofs [h1, hwst, hwfl, w3, w4, g1, g2, hrsz, hk0, hk60, hw60, w5, hwq, hcmp, hb2, f1, f1, f2]
          refine callsTo Tryd.cal54 eSz ?_
          simp -dsimp -implicitDefEqProofs [h1, hwst, hwfl, w3, w4, g1, g2, hrsz, hk0, hk60, hw60, w5, hwq, hcmp, hb2, f1, f1, f2]
          exact ⟨_, _, GC.refl _ _ _, rfl⟩
        · simp -dsimp -implicitDefEqProofs [h1, hwst, hwfl, w3, w4, g1, g2, hrsz, hk0, hk60, hw60, w5, hwq, hcmp, hb2, f1, f1, f2, f1, f2, f3, f4]
          refine callsTo Tryd.cal54 eSz ?_
          simp -dsimp -implicitDefEqProofs [h1, hwst, hwfl, w3, w4, g1, g2, hrsz, hk0, hk60, hw60, w5, hwq, hcmp, hb2, f1, f1, f2, f1, f2, f3, f4]
          refine callsTo Tryd.cal54 eSz ?_
          simp -dsimp -implicitDefEqProofs [h1, hwst, hwfl, w3, w4, g1, g2, hrsz, hk0, hk60, hw60, w5, hwq, hcmp, hb2, f1, f1, f2, f1, f2, f3, f4]
          exact ⟨_, _, GC.refl _ _ _, rfl⟩
      · have w5 : (kv == 0) = false := beq_eq_false_iff_ne.2 (fun h => by rw [hkz.2 h] at w2; cases w2)
        rw [w1] at eF
        rw [w2] at eS
        refine callsTo Tryd.cal37 (eS _) ?_
        simp -dsimp -implicitDefEqProofs [h1, hwst, hwfl, w3, w4, g1, g2, hrsz]
        refine callsTo Tryd.cal42 (eF _) ?_
        simp -dsimp -implicitDefEqProofs [h1, hwst, hwfl, w3, w4, g1, g2, hrsz]
        refine callsTo Tryd.cal43 eL ?_
        simp -dsimp -implicitDefEqProofs [h1, hwst, hwfl, w3, w4, g1, g2, hrsz]
        refine callsTo Tryd.cal44 (eA _) ?_
        simp -dsimp -implicitDefEqProofs [h1, hwst, hwfl, w3, w4, g1, g2, hrsz]
        refine callsTo Tryd.cal45 (eR0 _) ?_
        simp -dsimp -implicitDefEqProofs [h1, hwst, hwfl, w3, w4, g1, g2, hrsz]
        refine callsTo Tryd.cal45 (eR1 _) ?_
        simp -dsimp -implicitDefEqProofs [h1, hwst, hwfl, w3, w4, g1, g2, hrsz]
        refine callsTo Tryd.cal46 hca ?_
        simp -dsimp -implicitDefEqProofs [h1, hwst, hwfl, w3, w4, g1, g2, hrsz, hk0, hk60, hw60, w5, hwq]
        refine callsTo Tryd.cal47 (eSS _) ?_
        simp -dsimp -implicitDefEqProofs [h1, hwst, hwfl, w3, w4, g1, g2, hrsz, hk0, hk60, hw60, w5, hwq]
        refine callsTo Tryd.cal48 hck ?_
        simp -dsimp -implicitDefEqProofs [h1, hwst, hwfl, w3, w4, g1, g2, hrsz, hk0, hk60, hw60, w5, hwq, hcmp]
        refine callsTo Tryd.cal41 hcn ?_
        simp -dsimp -implicitDefEqProofs [h1, hwst, hwfl, w3, w4, g1, g2, hrsz, hk0, hk60, hw60, w5, hwq, hcmp]
        refine callsTo Tryd.cal49 hFew ?_
        simp -dsimp -implicitDefEqProofs [h1, hwst, hwfl, w3, w4, g1, g2, hrsz, hk0, hk60, hw60, w5, hwq, hcmp]
        refine callsTo Tryd.cal50 hAll ?_
        simp -dsimp -implicitDefEqProofs [h1, hwst, hwfl, w3, w4, g1, g2, hrsz, hk0, hk60, hw60, w5, hwq, hcmp]
        refine callsTo Tryd.cal51 eRb ?_
        simp -dsimp -implicitDefEqProofs [h1, hwst, hwfl, w3, w4, g1, g2, hrsz, hk0, hk60, hw60, w5, hwq, hcmp]
        refine callsTo Tryd.cal52 hcz ?_
        simp -dsimp -implicitDefEqProofs [h1, hwst, hwfl, w3, w4, g1, g2, hrsz, hk0, hk60, hw60, w5, hwq, hcmp]
        refine callsTo Tryd.cal53 eRz ?_
        simp -dsimp -implicitDefEqProofs [h1, hwst, hwfl, w3, w4, g1, g2, hrsz, hk0, hk60, hw60, w5, hwq, hcmp, hb2]
        refine callsTo Tryd.cal54 eSb ?_
        simp -dsimp -implicitDefEqProofs [h1, hwst, hwfl, w3, w4, g1, g2, hrsz, hk0, hk60, hw60, w5, hwq, hcmp, hb2]
        rcases hfin with f1 | ⟨f1, f2⟩ | ⟨f1, f2, f3, f4⟩
        · simp -dsimp -implicitDefEqProofs [h1, hwst, hwfl, w3, w4, g1, g2, hrsz, hk0, hk60, hw60, w5, hwq, hcmp, hb2, f1]
          exact ⟨_, _, GC.refl _ _ _, rfl⟩
        · simp -dsimp -implicitDefEqProofs [h1, hwst, hwfl, w3, w4, g1, g2, hrsz, hk0, hk60, hw60, w5, hwq, hcmp, hb2, f1, f1, f2]
          refine callsTo Tryd.cal54 eSz ?_
          simp -dsimp -implicitDefEqProofs [h1, hwst, hwfl, w3, w4, g1, g2, hrsz, hk0, hk60, hw60, w5, hwq, hcmp, hb2, f1, f1, f2]
          exact ⟨_, _, GC.refl _ _ _, rfl⟩
        · simp -dsimp -implicitDefEqProofs [h1, hwst, hwfl, w3, w4, g1, g2, hrsz, hk0, hk60, hw60, w5, hwq, hcmp, hb2, f1, f1, f2, f1, f2, f3, f4]
          refine callsTo Tryd.cal54 eSz ?_
          simp -dsimp -implicitDefEqProofs [h1, hwst, hwfl, w3, w4, g1, g2, hrsz, hk0, hk60, hw60, w5, hwq, hcmp, hb2, f1, f1, f2, f1, f2, f3, f4]
          refine callsTo Tryd.cal54 eSz ?_
          simp -dsimp -implicitDefEqProofs [h1, hwst, hwfl, w3, w4, g1, g2, hrsz, hk0, hk60, hw60, w5, hwq, hcmp, hb2, f1, f1, f2, f1, f2, f3, f4]
          exact ⟨_, _, GC.refl _ _ _, rfl⟩
      · have w5 : (kv == 0) = false := beq_eq_false_iff_ne.2 (fun h => by rw [hkz.2 h] at w2; cases w2)
        rw [w1] at eF
        rw [w2] at eS
        refine callsTo Tryd.cal37 (eS _) ?_
        simp -dsimp -implicitDefEqProofs [h1, hwst, hwfl, w3, w4, g1, g2, hrsz]
        refine callsTo Tryd.cal42 (eF _) ?_
        simp -dsimp -implicitDefEqProofs [h1, hwst, hwfl, w3, w4, g1, g2, hrsz]
        refine callsTo Tryd.cal43 eL ?_
        simp -dsimp -implicitDefEqProofs [h1, hwst, hwfl, w3, w4, g1, g2, hrsz]
        refine callsTo Tryd.cal44 (eA _) ?_
        simp -dsimp -implicitDefEqProofs [h1, hwst, hwfl, w3, w4, g1, g2, hrsz]
        refine callsTo Tryd.cal45 (eR0 _) ?_
        simp -dsimp -implicitDefEqProofs [h1, hwst, hwfl, w3, w4, g1, g2, hrsz]
        refine callsTo Tryd.cal45 (eR1 _) ?_
        simp -dsimp -implicitDefEqProofs [h1, hwst, hwfl, w3, w4, g1, g2, hrsz]
        refine callsTo Tryd.cal46 hca ?_
        simp -dsimp -implicitDefEqProofs [h1, hwst, hwfl, w3, w4, g1, g2, hrsz, hk0, hk60, hw60, w5, hwq]
        refine callsTo Tryd.cal47 (eSS _) ?_
        simp -dsimp -implicitDefEqProofs [h1, hwst, hwfl, w3, w4, g1, g2, hrsz, hk0, hk60, hw60, w5, hwq]
        refine callsTo Tryd.cal48 hck ?_
        simp -dsimp -implicitDefEqProofs [h1, hwst, hwfl, w3, w4, g1, g2, hrsz, hk0, hk60, hw60, w5, hwq, hcmp]
        refine callsTo Tryd.cal41 hcn ?_
        simp -dsimp -implicitDefEqProofs [h1, hwst, hwfl, w3, w4, g1, g2, hrsz, hk0, hk60, hw60, w5, hwq, hcmp]
        refine callsTo Tryd.cal49 hFew ?_
        simp -dsimp -implicitDefEqProofs [h1, hwst, hwfl, w3, w4, g1, g2, hrsz, hk0, hk60, hw60, w5, hwq, hcmp]
        refine callsTo Tryd.cal50 hAll ?_
        simp -dsimp -implicitDefEqProofs [h1, hwst, hwfl, w3, w4, g1, g2, hrsz, hk0, hk60, hw60, w5, hwq, hcmp]
        refine callsTo Tryd.cal51 eRb ?_
        simp -dsimp -implicitDefEqProofs [h1, hwst, hwfl, w3, w4, g1, g2, hrsz, hk0, hk60, hw60, w5, hwq, hcmp]
        refine callsTo Tryd.cal52 hcz ?_
        simp -dsimp -implicitDefEqProofs [h1, hwst, hwfl, w3, w4, g1, g2, hrsz, hk0, hk60, hw60, w5, hwq, hcmp]
        refine callsTo Tryd.cal53 eRz ?_
        simp -dsimp -implicitDefEqProofs [h1, hwst, hwfl, w3, w4, g1, g2, hrsz, hk0, hk60, hw60, w5, hwq, hcmp, hb2]
        refine callsTo Tryd.cal54 eSb ?_
        simp -dsimp -implicitDefEqProofs [h1, hwst, hwfl, w3, w4, g1, g2, hrsz, hk0, hk60, hw60, w5, hwq, hcmp, hb2]
        rcases hfin with f1 | ⟨f1, f2⟩ | ⟨f1, f2, f3, f4⟩
        · simp -dsimp -implicitDefEqProofs [h1, hwst, hwfl, w3, w4, g1, g2, hrsz, hk0, hk60, hw60, w5, hwq, hcmp, hb2, f1]
          exact ⟨_, _, GC.refl _ _ _, rfl⟩
        · simp -dsimp -implicitDefEqProofs [h1, hwst, hwfl, w3, w4, g1, g2, hrsz, hk0, hk60, hw60, w5, hwq, hcmp, hb2, f1, f1, f2]
          refine callsTo Tryd.cal54 eSz ?_
          simp -dsimp -implicitDefEqProofs [h1, hwst, hwfl, w3, w4, g1, g2, hrsz, hk0, hk60, hw60, w5, hwq, hcmp, hb2, f1, f1, f2]
          exact ⟨_, _, GC.refl _ _ _, rfl⟩
        · simp -dsimp -implicitDefEqProofs [h1, hwst, hwfl, w3, w4, g1, g2, hrsz, hk0, hk60, hw60, w5, hwq, hcmp, hb2, f1, f1, f2, f1, f2, f3, f4]
          refine callsTo Tryd.cal54 eSz ?_
          simp -dsimp -implicitDefEqProofs [h1, hwst, hwfl, w3, w4, g1, g2, hrsz, hk0, hk60, hw60, w5, hwq, hcmp, hb2, f1, f1, f2, f1, f2, f3, f4]
          refine callsTo Tryd.cal54 eSz ?_
          simp -dsimp -implicitDefEqProofs [h1, hwst, hwfl, w3, w4, g1, g2, hrsz, hk0, hk60, hw60, w5, hwq, hcmp, hb2, f1, f1, f2, f1, f2, f3, f4]
          exact ⟨_, _, GC.refl _ _ _, rfl⟩
    · subst hva
      have hs0 := hno 0 (by omega)
      rw [Nat.add_zero] at hs0
      rcases hways with ⟨w1, w2, w3, w4⟩ | ⟨w1, w2, w3, w4⟩ | ⟨w1, w2, w3, w4⟩ | ⟨w1, w2, w3, w4⟩
      · rw [w1] at eF
        rw [w2] at eS
        refine callsTo Tryd.cal37 (eS _) ?_
        simp -dsimp -implicitDefEqProofs [h1, hwst, hwfl, w3, w4, g1, g2, hrsz]
        refine callsTo Tryd.cal42 (eF _) ?_
        simp -dsimp -implicitDefEqProofs [h1, hwst, hwfl, w3, w4, g1, g2, hrsz]
        refine callsTo Tryd.cal43 eL ?_
        simp -dsimp -implicitDefEqProofs [h1, hwst, hwfl, w3, w4, g1, g2, hrsz]
        refine callsTo Tryd.cal44 (eA _) ?_
        simp -dsimp -implicitDefEqProofs [h1, hwst, hwfl, w3, w4, g1, g2, hrsz]
        refine callsTo Tryd.cal45 (eR0 _) ?_
        simp -dsimp -implicitDefEqProofs [h1, hwst, hwfl, w3, w4, g1, g2, hrsz]
        refine callsTo Tryd.cal45 (eR1 _) ?_
        simp -dsimp -implicitDefEqProofs [h1, hwst, hwfl, w3, w4, g1, g2, hrsz]
        refine callsTo Tryd.cal46 hca ?_
        simp -dsimp -implicitDefEqProofs [h1, hwst, hwfl, w3, w4, g1, g2, hrsz]
        refine callsTo Tryd.cal48 hck ?_
        simp -dsimp -implicitDefEqProofs [h1, hwst, hwfl, w3, w4, g1, g2, hrsz, hcmp]
        refine callsTo Tryd.cal41 hcn ?_
        simp -dsimp -implicitDefEqProofs [h1, hwst, hwfl, w3, w4, g1, g2, hrsz, hcmp]
        refine callsTo Tryd.cal49 hFew ?_
        simp -dsimp -implicitDefEqProofs [h1, hwst, hwfl, w3, w4, g1, g2, hrsz, hcmp]
        refine callsTo Tryd.cal50 hAll ?_
        simp -dsimp -implicitDefEqProofs [h1, hwst, hwfl, w3, w4, g1, g2, hrsz, hcmp]
        refine callsTo Tryd.cal51 eRb ?_
        simp -dsimp -implicitDefEqProofs [h1, hwst, hwfl, w3, w4, g1, g2, hrsz, hcmp]
        refine callsTo Tryd.cal52 hcz ?_
        simp -dsimp -implicitDefEqProofs [h1, hwst, hwfl, w3, w4, g1, g2, hrsz, hcmp]
        refine callsTo Tryd.cal53 eRz ?_
        simp -dsimp -implicitDefEqProofs [h1, hwst, hwfl, w3, w4, g1, g2, hrsz, hcmp, hb2]
        refine callsTo Tryd.cal54 eSb ?_
        simp -dsimp -implicitDefEqProofs [h1, hwst, hwfl, w3, w4, g1, g2, hrsz, hcmp, hb2]
        rcases hfin with f1 | ⟨f1, f2⟩ | ⟨f1, f2, f3, f4⟩
        · simp -dsimp -implicitDefEqProofs [h1, hwst, hwfl, w3, w4, g1, g2, hrsz, hcmp, hb2, f1]
          exact ⟨_, _, GC.refl _ _ _, rfl⟩
        · simp -dsimp -implicitDefEqProofs [h1, hwst, hwfl, w3, w4, g1, g2, hrsz, hcmp, hb2, f1, f1, f2]
          refine callsTo Tryd.cal54 eSz ?_
          simp -dsimp -implicitDefEqProofs [h1, hwst, hwfl, w3, w4, g1, g2, hrsz, hcmp, hb2, f1, f1, f2]
          exact ⟨_, _, GC.refl _ _ _, rfl⟩
        · simp -dsimp -implicitDefEqProofs [h1, hwst, hwfl, w3, w4, g1, g2, hrsz, hcmp, hb2, f1, f1, f2, f1, f2, f3, f4]
          refine callsTo Tryd.cal54 eSz ?_
          simp -dsimp -implicitDefEqProofs [h1, hwst, hwfl, w3, w4, g1, g2, hrsz, hcmp, hb2, f1, f1, f2, f1, f2, f3, f4]
          refine callsTo Tryd.cal54 eSz ?_
          simp -dsimp -implicitDefEqProofs [h1, hwst, hwfl, w3, w4, g1, g2, hrsz, hcmp, hb2, f1, f1, f2, f1, f2, f3, f4]
          exact ⟨_, _, GC.refl _ _ _, rfl⟩
      · rw [hs0] at w2; cases w2
      · rw [w1] at eF
        rw [w2] at eS
        refine callsTo Tryd.cal37 (eS _) ?_
        simp -dsimp -implicitDefEqProofs [h1, hwst, hwfl, w3, w4, g1, g2, hrsz]
        refine callsTo Tryd.cal42 (eF _) ?_
        simp -dsimp -implicitDefEqProofs [h1, hwst, hwfl, w3, w4, g1, g2, hrsz]
        refine callsTo Tryd.cal43 eL ?_
        simp -dsimp -implicitDefEqProofs [h1, hwst, hwfl, w3, w4, g1, g2, hrsz]
        refine callsTo Tryd.cal44 (eA _) ?_
        simp -dsimp -implicitDefEqProofs [h1, hwst, hwfl, w3, w4, g1, g2, hrsz]
        refine callsTo Tryd.cal45 (eR0 _) ?_
        simp -dsimp -implicitDefEqProofs [h1, hwst, hwfl, w3, w4, g1, g2, hrsz]
        refine callsTo Tryd.cal45 (eR1 _) ?_
        simp -dsimp -implicitDefEqProofs [h1, hwst, hwfl, w3, w4, g1, g2, hrsz]
        refine callsTo Tryd.cal46 hca ?_
        simp -dsimp -implicitDefEqProofs [h1, hwst, hwfl, w3, w4, g1, g2, hrsz]
        refine callsTo Tryd.cal48 hck ?_
        simp -dsimp -implicitDefEqProofs [h1, hwst, hwfl, w3, w4, g1, g2, hrsz, hcmp]
        refine callsTo Tryd.cal41 hcn ?_
        simp -dsimp -implicitDefEqProofs [h1, hwst, hwfl, w3, w4, g1, g2, hrsz, hcmp]
        refine callsTo Tryd.cal49 hFew ?_
        simp -dsimp -implicitDefEqProofs [h1, hwst, hwfl, w3, w4, g1, g2, hrsz, hcmp]
        refine callsTo Tryd.cal50 hAll ?_
        simp -dsimp -implicitDefEqProofs [h1, hwst, hwfl, w3, w4, g1, g2, hrsz, hcmp]
        refine callsTo Tryd.cal51 eRb ?_
        simp -dsimp -implicitDefEqProofs [h1, hwst, hwfl, w3, w4, g1, g2, hrsz, hcmp]
        refine callsTo Tryd.cal52 hcz ?_
        simp -dsimp -implicitDefEqProofs [h1, hwst, hwfl, w3, w4, g1, g2, hrsz, hcmp]
        refine callsTo Tryd.cal53 eRz ?_
        simp -dsimp -implicitDefEqProofs [h1, hwst, hwfl, w3, w4, g1, g2, hrsz, hcmp, hb2]
        refine callsTo Tryd.cal54 eSb ?_
        simp -dsimp -implicitDefEqProofs [h1, hwst, hwfl, w3, w4, g1, g2, hrsz, hcmp, hb2]
        rcases hfin with f1 | ⟨f1, f2⟩ | ⟨f1, f2, f3, f4⟩
        · simp -dsimp -implicitDefEqProofs [h1, hwst, hwfl, w3, w4, g1, g2, hrsz, hcmp, hb2, f1]
          exact ⟨_, _, GC.refl _ _ _, rfl⟩
        · simp -dsimp -implicitDefEqProofs [h1, hwst, hwfl, w3, w4, g1, g2, hrsz, hcmp, hb2, f1, f1, f2]
          refine callsTo Tryd.cal54 eSz ?_
          simp -dsimp -implicitDefEqProofs [h1, hwst, hwfl, w3, w4, g1, g2, hrsz, hcmp, hb2, f1, f1, f2]
          exact ⟨_, _, GC.refl _ _ _, rfl⟩
        · simp -dsimp -implicitDefEqProofs [h1, hwst, hwfl, w3, w4, g1, g2, hrsz, hcmp, hb2, f1, f1, f2, f1, f2, f3, f4]
          refine callsTo Tryd.cal54 eSz ?_
          simp -dsimp -implicitDefEqProofs [h1, hwst, hwfl, w3, w4, g1, g2, hrsz, hcmp, hb2, f1, f1, f2, f1, f2, f3, f4]
          refine callsTo Tryd.cal54 eSz ?_
          simp -dsimp -implicitDefEqProofs [h1, hwst, hwfl, w3, w4, g1, g2, hrsz, hcmp, hb2, f1, f1, f2, f1, f2, f3, f4]
          exact ⟨_, _, GC.refl _ _ _, rfl⟩
      · rw [w1] at eF
        rw [w2] at eS
        refine callsTo Tryd.cal37 (eS _) ?_
        simp -dsimp -implicitDefEqProofs [h1, hwst, hwfl, w3, w4, g1, g2, hrsz]
        refine callsTo Tryd.cal42 (eF _) ?_
        simp -dsimp -implicitDefEqProofs [h1, hwst, hwfl, w3, w4, g1, g2, hrsz]
        refine callsTo Tryd.cal43 eL ?_
        simp -dsimp -implicitDefEqProofs [h1, hwst, hwfl, w3, w4, g1, g2, hrsz]
        refine callsTo Tryd.cal44 (eA _) ?_
        simp -dsimp -implicitDefEqProofs [h1, hwst, hwfl, w3, w4, g1, g2, hrsz]
        refine callsTo Tryd.cal45 (eR0 _) ?_
        simp -dsimp -implicitDefEqProofs [h1, hwst, hwfl, w3, w4, g1, g2, hrsz]
        refine callsTo Tryd.cal45 (eR1 _) ?_
        simp -dsimp -implicitDefEqProofs [h1, hwst, hwfl, w3, w4, g1, g2, hrsz]
        refine callsTo Tryd.cal46 hca ?_
        simp -dsimp -implicitDefEqProofs [h1, hwst, hwfl, w3, w4, g1, g2, hrsz]
        refine callsTo Tryd.cal48 hck ?_
        simp -dsimp -implicitDefEqProofs [h1, hwst, hwfl, w3, w4, g1, g2, hrsz, hcmp]
        refine callsTo Tryd.cal41 hcn ?_
        simp -dsimp -implicitDefEqProofs [h1, hwst, hwfl, w3, w4, g1, g2, hrsz, hcmp]
        refine callsTo Tryd.cal49 hFew ?_
        simp -dsimp -implicitDefEqProofs [h1, hwst, hwfl, w3, w4, g1, g2, hrsz, hcmp]
        refine callsTo Tryd.cal50 hAll ?_
        simp -dsimp -implicitDefEqProofs [h1, hwst, hwfl, w3, w4, g1, g2, hrsz, hcmp]
        refine callsTo Tryd.cal51 eRb ?_
        simp -dsimp -implicitDefEqProofs [h1, hwst, hwfl, w3, w4, g1, g2, hrsz, hcmp]
        refine callsTo Tryd.cal52 hcz ?_
        simp -dsimp -implicitDefEqProofs [h1, hwst, hwfl, w3, w4, g1, g2, hrsz, hcmp]
        refine callsTo Tryd.cal53 eRz ?_
        simp -dsimp -implicitDefEqProofs [h1, hwst, hwfl, w3, w4, g1, g2, hrsz, hcmp, hb2]
        refine callsTo Tryd.cal54 eSb ?_
        simp -dsimp -implicitDefEqProofs [h1, hwst, hwfl, w3, w4, g1, g2, hrsz, hcmp, hb2]
        rcases hfin with f1 | ⟨f1, f2⟩ | ⟨f1, f2, f3, f4⟩
        · simp -dsimp -implicitDefEqProofs [h1, hwst, hwfl, w3, w4, g1, g2, hrsz, hcmp, hb2, f1]
          exact ⟨_, _, GC.refl _ _ _, rfl⟩
        · simp -dsimp -implicitDefEqProofs [h1, hwst, hwfl, w3, w4, g1, g2, hrsz, hcmp, hb2, f1, f1, f2]
          refine callsTo Tryd.cal54 eSz ?_
          simp -dsimp -implicitDefEqProofs [h1, hwst, hwfl, w3, w4, g1, g2, hrsz, hcmp, hb2, f1, f1, f2]
          exact ⟨_, _, GC.refl _ _ _, rfl⟩
        · simp -dsimp -implicitDefEqProofs [h1, hwst, hwfl, w3, w4, g1, g2, hrsz, hcmp, hb2, f1, f1, f2, f1, f2, f3, f4]
          refine callsTo Tryd.cal54 eSz ?_
          simp -dsimp -implicitDefEqProofs [h1, hwst, hwfl, w3, w4, g1, g2, hrsz, hcmp, hb2, f1, f1, f2, f1, f2, f3, f4]
          refine callsTo Tryd.cal54 eSz ?_
          simp -dsimp -implicitDefEqProofs [h1, hwst, hwfl, w3, w4, g1, g2, hrsz, hcmp, hb2, f1, f1, f2, f1, f2, f3, f4]
          exact ⟨_, _, GC.refl _ _ _, rfl⟩
set_option maxRecDepth 100000 in
theorem fnTopLifted (os : Os) (started : os.Started) (H : Type) (enc : TypeId × Value → H) :
    ReturnsInHanded {} Tryd.checked os 7 .any (fun w args => (Rows.fnTopSpec.pre enc Tryd.prog Tryd.f7 [] false w args ∧ laidMetH Tryd.prog Rows.fnTopRow.laid w) ∧ sizedMet enc Tryd.prog Tryd.f7 (OpenSpec.ofChange Rows.fnTopSpec) false w args) (Rows.fnTopSpec.post enc Tryd.prog Tryd.f7 false true false false) :=
  lawLiftedD (C := Tryd.checked) Rows.fnTopRow.laid [.one (.sl [.int .u8]), .one (.sl [.int .u8])] 3 4 (by kernel_rfl) started (by kernel_rfl) Tryd.func7
    (ChangeSpec.witness_shaped (enc := enc) (C := Tryd.checked) (os := os) (X := fun w _ => laidMetH Tryd.prog Rows.fnTopRow.laid w) false (doorWorld os) #[.slice none 0 0, .slice none 0 0] 8 rfl (doorShaped os _) (by kernel_rfl) (by kernel_rfl) (by kernel_rfl) (doorMet os _))
    (by kernel_rfl) (by kernel_rfl) (by kernel_rfl) (fun W hs h => doorTabs W hs h) rfl (by kernel_rfl) rfl (fun ds h => match ds, h with | [_, _], _ => rfl) fun m vs h => by
      obtain ⟨u0, u1, rfl, hv0, hv1⟩ := h.two
      obtain ⟨a, xs, rfl, hl0, hr0⟩ := CV.slB hv0
      obtain ⟨b, ys, rfl, hl1, hr1⟩ := CV.slB hv1
      obtain ⟨v, m', hc, hv⟩ := lawTop_c xs a ys b m hr0 hl0 hr1 hl1
      have hv' : v = .bool true := hv
      exact ⟨m', hv' ▸ hc⟩

theorem fnTopRow : Rows.FnTopSaid :=
  OpenClaim.holds_of_wide 7 Tryd.f7 rfl rfl rfl rfl rfl rfl rfl ⟨rfl, rfl, rfl, rfl, rfl⟩ rfl rfl rfl rfl rfl (by kernel_rfl) Tryd.func7 (by kernel_rfl)
    (of_decide_eq_true (by kernel_rfl)) (by unfold Func.isWrapper; first | (rw [if_pos (by decide +kernel)]; kernel_rfl) | (rw [if_neg (by decide +kernel)]; exact ⟨rfl, rfl⟩))
    (fun os started H enc _ => fnTopLifted os started H enc)

theorem fnTopHolds : Rows.FnTopCardSaid :=
  Claim7.holds_tied_plain_at .later [] [.data, .pinned] true (true, "68bcc4c865424b8343f4614056183390edf6139d20cb2c7cc7fdeafc599d8833") false
    fnTopRow (fun _ h => by cases h) (by kernel_rfl) (fun _ h => by cases h) fnTop_row_tie rfl ⟨rfl, rfl⟩ (by kernel_rfl) rfl
    (fun f fn hf hfn => by
      obtain rfl : f = 7 := Option.some.inj ((show Tryd.prog.funcNamed Rows.fnTopRow.func = some 7 by kernel_rfl).symm.trans hf) |>.symm
      obtain rfl : fn = Tryd.f7 := (Option.some.inj (Tryd.func7.symm.trans hfn)).symm
      exact ⟨by kernel_rfl, fun j t ht => by
        have hall : (Tryd.f7.params.toList.all fun u => !Tryd.prog.wantsStandIn u) = true := by kernel_rfl
        have hm : t ∈ Tryd.f7.params.toList := by simpa using Array.mem_of_getElem? ht
        exact (show Tryd.prog.wantsStandIn t = false by simpa using List.all_eq_true.1 hall t hm)⟩)
    (by kernel_rfl)
end Go.Proofs.YtmbijgnmbapchaaDoor
