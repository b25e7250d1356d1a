/- The law FnRanks: for every input its call returns true and its arguments read as before. No condition besides what the row itself says. Here: functions of the program as plain functions, and plain lemmas. -/
import Derived.Test.YtkeockkepmljjaaCRanks0
import Derived.KernelRfl
import Derived.KernelRfl
import Derived.RowKit
import Derived.RowKit
import Derived.Test.YtkeockkepmljjaaRows
import Derived.WalkKit
import Derived.ProofKit
import Derived.OpenShut
import Derived.ShutString
import Derived.ChangeOld
import Derived.Below
import Derived.SizedLaws
import Derived.Test.YtkeockkepmljjaaRows
import Derived.WalkKit
import Derived.ProofKit
import Derived.OpenShut
import Derived.ShutString
import Derived.ChangeOld
import Derived.Below
import Derived.SizedLaws
set_option linter.unusedVariables false
set_option linter.unusedSimpArgs false
set_option maxRecDepth 100000
section
namespace Go.Proofs.Ytkeockkepmljjaa
open Go Go.Proofs Pl

def rdiv (a b : Int) : Int := (2 * a + b) / (2 * b)

theorem tdiv_bd (x d : Int) (hd : 0 < d) (B : Int) (h : -B ≤ x ∧ x ≤ B) (hB : 0 ≤ B) : -B ≤ x.tdiv d ∧ x.tdiv d ≤ B := by
  have h1 := Int.natAbs_tdiv_le_natAbs x d
  omega

theorem tdiv_floor (x d : Int) (hd : 0 < d) : (x.tmod d < 0 → x.tdiv d - 1 = x / d) ∧ (¬ x.tmod d < 0 → x.tdiv d = x / d) ∧ (0 ≤ x → ¬ x.tmod d < 0) ∧ (x < 0 → (x.tmod d ≠ 0 ↔ x.tmod d < 0)) := by
  have hm := Int.emod_nonneg x (show d ≠ 0 by omega)
  have hl := Int.emod_lt_of_pos x hd
  have e1 : x.tdiv d = x / d + if 0 ≤ x ∨ d ∣ x then 0 else d.sign := Int.tdiv_eq_ediv
  have e2 : x.tmod d = x % d - if 0 ≤ x ∨ d ∣ x then 0 else (d.natAbs : Int) := by
    rw [Int.tmod_eq_emod]; split <;> rfl
  have hs : d.sign = 1 := Int.sign_eq_one_of_pos hd
  by_cases h : 0 ≤ x ∨ d ∣ x
  · rw [if_pos h] at e1 e2
    refine ⟨fun h => by omega, fun _ => by omega, fun _ => by omega, fun hx => ?_⟩
    have hdv : d ∣ x := h.resolve_left (by omega)
    have : x % d = 0 := Int.emod_eq_zero_of_dvd hdv
    omega
  · rw [if_neg h] at e1 e2
    exact ⟨fun _ => by omega, fun h => by omega, fun h2 => (h (.inl h2)).elim, fun hx => by omega⟩

theorem l33Round_ok (num den : Int) (h1 : -10000000000000 ≤ num ∧ num ≤ 10000000000000) (h2 : 1 ≤ den ∧ den ≤ 1000000000) : spec_l33Round.f (num, den) = some (rdiv num den) := by
  rw [spec_l33Round.eq]
  have w1 : IntKind.wrap .i64 (2 * den) = 2 * den := w64 (by omega) (by omega)
  have w2 : IntKind.wrap .i64 (2 * num) = 2 * num := w64 (by omega) (by omega)
  have w3 : IntKind.wrap .i64 (2 * num + den) = 2 * num + den := w64 (by omega) (by omega)
  have hb := tdiv_bd (2 * num + den) (2 * den) (by omega) 30000000000000 (by omega) (by omega)
  have w4 : IntKind.wrap .i64 ((2 * num + den).tdiv (2 * den)) = (2 * num + den).tdiv (2 * den) := w64 (by omega) (by omega)
  have w5 : IntKind.wrap .i64 ((2 * num + den).tdiv (2 * den) - 1) = (2 * num + den).tdiv (2 * den) - 1 := w64 (by omega) (by omega)
  have hf := tdiv_floor (2 * num + den) (2 * den) (by omega)
  have hz : ¬ (2 * den = 0) := by omega
  simp only [w1, w2, w3, w4, w5, spec_l33Round.l1_eq, hz, decide_false, cond_false]
  by_cases h : (2 * num + den).tmod (2 * den) < 0
  · simp only [h, decide_true, cond_true, hf.1 h]; rfl
  · simp only [h, decide_false, cond_false, hf.2.1 h]; rfl

theorem rounded_ok (num den : Int) (h1 : -10000000000000 ≤ num ∧ num ≤ 10000000000000) (h2 : 1 ≤ den ∧ den ≤ 1000000000) : impl_rounded.f (num, den) = some (rdiv num den) := by
  rw [impl_rounded.eq]
  have w1 : IntKind.wrap .i64 (2 * den) = 2 * den := w64 (by omega) (by omega)
  have w2 : IntKind.wrap .i64 (2 * num) = 2 * num := w64 (by omega) (by omega)
  have w3 : IntKind.wrap .i64 (2 * num + den) = 2 * num + den := w64 (by omega) (by omega)
  have hb := tdiv_bd (2 * num + den) (2 * den) (by omega) 30000000000000 (by omega) (by omega)
  have w4 : IntKind.wrap .i64 ((2 * num + den).tdiv (2 * den)) = (2 * num + den).tdiv (2 * den) := w64 (by omega) (by omega)
  have w5 : IntKind.wrap .i64 ((2 * num + den).tdiv (2 * den) - 1) = (2 * num + den).tdiv (2 * den) - 1 := w64 (by omega) (by omega)
  have hf := tdiv_floor (2 * num + den) (2 * den) (by omega)
  have hz : ¬ (2 * den = 0) := by omega
  simp only [w1, w2, w3, w4, w5, impl_rounded.l1_eq, hz, decide_false, cond_false]
  by_cases hx : 2 * num + den < 0
  · simp only [hx, decide_true, cond_true]
    by_cases h : (2 * num + den).tmod (2 * den) < 0
    · have hn : ((2 * num + den).tmod (2 * den) != 0) = true := by rw [bne_iff_ne]; exact (hf.2.2.2 hx).mpr h
      simp only [hn, cond_true, hf.1 h]; rfl
    · have hn : ((2 * num + den).tmod (2 * den) != 0) = false := by
        rw [bne_eq_false_iff_eq]
        exact Classical.byContradiction fun h2 => h ((hf.2.2.2 hx).mp h2)
      simp only [hn, cond_false, hf.2.1 h]; rfl
  · simp only [hx, decide_false, cond_false, hf.2.1 (hf.2.2.1 (by omega))]; rfl

theorem okScores_mem {l : List Int} (h : okScores l = true) {n : Int} (hn : n ∈ l) : -1000000000 ≤ n ∧ n ≤ 1000000000 := by
  unfold okScores at h
  rw [Bool.and_eq_true, List.all_eq_true] at h
  have := h.2 n hn
  unfold okScore at this
  simpa using this
theorem okScores_len {l : List Int} (h : okScores l = true) : l.length ≤ 64 := by
  unfold okScores at h
  rw [Bool.and_eq_true] at h
  simpa using h.1

/-- What CarryOver returns. -/
def carry (l : List Int) (num den : Int) : List Int × Int :=
  if okScores l = true then if 1 ≤ den ∧ den ≤ 1000 then if 0 ≤ num ∧ num ≤ den then (l.map fun n => rdiv (n * num) den, 0) else ([], 2) else ([], 2) else ([], 1)

theorem carry_bd {n num den : Int} (hn : -1000000000 ≤ n ∧ n ≤ 1000000000) (hd : 1 ≤ den ∧ den ≤ 1000) (hm : 0 ≤ num ∧ num ≤ den) : -10000000000000 ≤ n * num ∧ n * num ≤ 10000000000000 := by
  have h1 : n * num ≤ 1000000000 * num := Int.mul_le_mul_of_nonneg_right hn.2 hm.1
  have h2 : -1000000000 * num ≤ n * num := Int.mul_le_mul_of_nonneg_right hn.1 hm.1
  omega

theorem spec_CarryOver_ok (l : List Int) (num den : Int) (h : l.length ≤ 1048576) : spec_CarryOver.f (l, num, den) = some (carry l num den) := by
  rw [spec_CarryOver.eq, l33Scores_ok l h, l01In_ok, l01In_ok]
  unfold carry
  by_cases hs : okScores l = true
  · by_cases hd : 1 ≤ den ∧ den ≤ 1000
    · by_cases hm : 0 ≤ num ∧ num ≤ den
      · have H := loop_fold (fun (s : List Int) i => spec_CarryOver.l1 l num den (i : Int) s) l (fun s n => s ++ [rdiv (n * num) den]) (fun i s => s.length = i) (fun i s hl hi => by
          refine ⟨?_, by simp [hl]⟩
          rw [spec_CarryOver.l1_eq]
          have hb := carry_bd (okScores_mem hs (List.getElem_mem hi)) hd hm
          have hw : IntKind.wrap .i64 (l[i] * num) = l[i] * num := w64 (by omega) (by omega)
          have e : s.length + 1 ≤ 17592186044416 := by omega
          simp only [Int.toNat_natCast, getD_nat hi, hw, l33Round_ok _ den hb (by omega), w64s hi (show l.length ≤ 9223372036854775807 by omega)]
          simp [hi, e]) [] rfl
        rw [foldl_snoc] at H
        have H := H.1
        simp only [Int.natCast_zero, Int.ofNat_zero] at H
        rw [H, spec_CarryOver.l1_eq]
        simp [hs, hd, hm]
      · rw [if_pos hs, if_pos hd, if_neg hm]
        have : (decide (0 ≤ num) && decide (num ≤ den)) = false := by simpa using hm
        simp [hs, hd, this]
    · rw [if_pos hs, if_neg hd]
      have : (decide (1 ≤ den) && decide (den ≤ 1000)) = false := by simpa using hd
      simp [hs, this]
  · rw [if_neg hs]
    simp [hs]

theorem impl_CarryOver_ok (l : List Int) (num den : Int) (h : l.length ≤ 1048576) : impl_CarryOver.f (l, num, den) = some (carry l num den) := by
  rw [impl_CarryOver.eq, isScoreList_ok l h, within_ok, within_ok]
  unfold carry
  by_cases hs : okScores l = true
  · by_cases hd : 1 ≤ den ∧ den ≤ 1000
    · by_cases hm : 0 ≤ num ∧ num ≤ den
      · have H := loop_fold (fun (s : List Int) i => impl_CarryOver.l1 num den l l.length (i : Int) s) l (fun s n => s ++ [rdiv (n * num) den]) (fun i s => s.length = i) (fun i s hl hi => by
          refine ⟨?_, by simp [hl]⟩
          rw [impl_CarryOver.l1_eq]
          have hb := carry_bd (okScores_mem hs (List.getElem_mem hi)) hd hm
          have hw : IntKind.wrap .i64 (l[i] * num) = l[i] * num := w64 (by omega) (by omega)
          have e : s.length + 1 ≤ 17592186044416 := by omega
          simp only [Int.toNat_natCast, getD_nat hi, hw, rounded_ok _ den hb (by omega), w64s hi (show l.length ≤ 9223372036854775807 by omega)]
          simp [hi, e]) [] rfl
        rw [foldl_snoc] at H
        have H := H.1
        simp only [Int.natCast_zero, Int.ofNat_zero] at H
        rw [H, impl_CarryOver.l1_eq]
        simp [hs, hd, hm]
      · rw [if_pos hs, if_pos hd, if_neg hm]
        have : (decide (0 ≤ num) && decide (num ≤ den)) = false := by simpa using hm
        simp [hs, hd, this]
    · rw [if_pos hs, if_neg hd]
      have : (decide (1 ≤ den) && decide (den ≤ 1000)) = false := by simpa using hd
      simp [hs, this]
  · rw [if_neg hs]
    simp [hs]

theorem carry_len (l : List Int) (num den : Int) : (carry l num den).1.length ≤ l.length := by
  unfold carry
  split
  · split
    · split <;> simp
    · simp
  · simp

/-- What Percentages returns. -/
def perc (l : List Int) (top : Int) : List Int × Int :=
  if okScores l = true then if 1 ≤ top ∧ top ≤ 1000000000 then if l.all (fun n => decide (0 ≤ n) && decide (n ≤ top)) = true then (l.map fun n => rdiv (10000 * n) top, 0) else ([], 2) else ([], 2) else ([], 1)

theorem perc_idx_ok (l : List Int) (top : Int) (h : l.length ≤ 1048576) : slices_ContainsFunc_int64_1.f (l, top) = some (l.any fun n => !(decide (0 ≤ n) && decide (n ≤ top))) := by
  have H := loop_find (fun i => slices_IndexFunc_int64_1.l1 l top l.length (i : Int)) l (fun n => !(decide (0 ≤ n) && decide (n ≤ top))) (fun i => some (i : Int)) (fun i hi => by
    rw [slices_IndexFunc_int64_1.l1_eq]
    have e : impl_Percentages_1.f (l.getD i 0, top) = some (!(decide (0 ≤ l[i]) && decide (l[i] ≤ top))) := by rw [impl_Percentages_1.eq, within_ok, getD_nat hi]; rfl
    simp only [Int.toNat_natCast, e, w64s hi (show l.length ≤ 9223372036854775807 by omega), Option.bind_some]
    simp [hi, cond_ite])
  rw [slices_ContainsFunc_int64_1.eq, slices_IndexFunc_int64_1.eq]
  simp only [Int.natCast_zero, Int.ofNat_zero] at H
  rw [H, slices_IndexFunc_int64_1.l1_eq]
  simp only [Int.lt_irrefl, decide_false, cond_false]
  cases hc : l.any fun n => !(decide (0 ≤ n) && decide (n ≤ top)) <;> simp

theorem any_not (l : List Int) (p : Int → Bool) : (l.any fun n => !p n) = !(l.all p) := by
  induction l with
  | nil => rfl
  | cons a l ih => rw [List.any_cons, List.all_cons, ih]; cases p a <;> simp

theorem impl_Percentages_ok (l : List Int) (top : Int) (h : l.length ≤ 1048576) : impl_Percentages.f (l, top) = some (perc l top) := by
  rw [impl_Percentages.eq, isScoreList_ok l h, within_ok, perc_idx_ok l top h, any_not]
  unfold perc
  by_cases hs : okScores l = true
  · by_cases hd : 1 ≤ top ∧ top ≤ 1000000000
    · by_cases hm : l.all (fun n => decide (0 ≤ n) && decide (n ≤ top)) = true
      · have H := loop_fold (fun (s : List Int) i => impl_Percentages.l1 top l l.length (i : Int) s) l (fun s n => s ++ [rdiv (10000 * n) top]) (fun i s => s.length = i) (fun i s hl hi => by
          refine ⟨?_, by simp [hl]⟩
          rw [impl_Percentages.l1_eq]
          have hb := List.all_eq_true.mp hm _ (List.getElem_mem hi)
          simp only [Bool.and_eq_true, decide_eq_true_eq] at hb
          have hw : IntKind.wrap .i64 (10000 * l[i]) = 10000 * l[i] := w64 (by omega) (by omega)
          have e : s.length + 1 ≤ 17592186044416 := by omega
          simp only [Int.toNat_natCast, getD_nat hi, hw, rounded_ok (10000 * l[i]) top (by omega) (by omega), w64s hi (show l.length ≤ 9223372036854775807 by omega)]
          simp [hi, e]) [] rfl
        rw [foldl_snoc] at H
        have H := H.1
        simp only [Int.natCast_zero, Int.ofNat_zero] at H
        rw [H, impl_Percentages.l1_eq]
        simp only [hs, hd, hm]
        simp
      · rw [if_pos hs, if_pos hd, if_neg hm]
        simp only [Bool.not_eq_true] at hm
        simp only [hs, hd, hm]
        simp
    · rw [if_pos hs, if_neg hd]
      have : (decide (1 ≤ top) && decide (top ≤ 1000000000)) = false := by simpa using hd
      simp [hs, this]
  · rw [if_neg hs]
    simp [hs]

theorem spec_Percentages_ok (l : List Int) (top : Int) (h : l.length ≤ 1048576) : spec_Percentages.f (l, top) = some (perc l top) := by
  rw [spec_Percentages.eq, l33Scores_ok l h, l01In_ok]
  unfold perc
  by_cases hs : okScores l = true
  · by_cases hd : 1 ≤ top ∧ top ≤ 1000000000
    · rw [if_pos hs, if_pos hd]
      -- the loop leaves at the first score beyond the top
      have H : ∀ d i (s : List Int), i + d = l.length → s.length = i → spec_Percentages.l1 l top (i : Int) s =
          some (if (l.drop i).all (fun n => decide (0 ≤ n) && decide (n ≤ top)) = true then (s ++ (l.drop i).map fun n => rdiv (10000 * n) top, 0) else ([], 2)) := by
        intro d
        induction d with
        | zero =>
          intro i s hi hl
          have hi : i = l.length := by omega
          subst hi
          rw [spec_Percentages.l1_eq]
          simp
        | succ d ih =>
          intro i s hi hl
          have hlt : i < l.length := by omega
          rw [spec_Percentages.l1_eq, List.drop_eq_getElem_cons hlt, List.all_cons, List.map_cons]
          have e : s.length + 1 ≤ 17592186044416 := by omega
          simp only [Int.toNat_natCast, getD_nat hlt, l01In_ok, w64s hlt (show l.length ≤ 9223372036854775807 by omega), Option.bind_some]
          cases hp : (decide (0 ≤ l[i]) && decide (l[i] ≤ top)) with
          | false => simp [hlt]
          | true =>
            have hb := hp
            simp only [Bool.and_eq_true, decide_eq_true_eq] at hb
            have hw : IntKind.wrap .i64 (10000 * l[i]) = 10000 * l[i] := w64 (by omega) (by omega)
            simp only [hw, l33Round_ok (10000 * l[i]) top (by omega) (by omega), Option.bind_some, Bool.true_and]
            have := ih (i + 1) (s ++ [rdiv (10000 * l[i]) top]) (by omega) (by simp [hl])
            simp only [Int.ofNat_lt, hlt, e, decide_true, cond_true, Int.natCast_nonneg, Bool.not_true, cond_false, this, List.append_assoc, List.cons_append, List.nil_append]
      have H := H l.length 0 [] (by omega) rfl
      simp only [Int.natCast_zero, Int.ofNat_zero, List.drop_zero, List.nil_append] at H
      simp only [hs, hd, H]
      simp
    · rw [if_pos hs, if_neg hd]
      have : (decide (1 ≤ top) && decide (top ≤ 1000000000)) = false := by simpa using hd
      simp [hs, this]
  · rw [if_neg hs]
    simp [hs]

theorem perc_len (l : List Int) (top : Int) : (perc l top).1.length ≤ l.length := by
  unfold perc
  split
  · split
    · split <;> simp
    · simp
  · simp

/-- What Qualifiers returns: the indices of the ranks of at most n. -/
def quals (r : List Int) (n : Int) : List Int := ((List.range r.length).filter fun i => decide (r.getD i 0 ≤ n)).map fun (i : Nat) => (i : Int)
def qual (l : List Int) (n : Int) : List Int × Int :=
  if okScores l = true then if 0 ≤ n ∧ n ≤ 64 then (quals (ranks l) n, 0) else ([], 2) else ([], 1)

theorem quals_fold (r : List Int) (n : Int) : (List.range r.length).foldl (fun (s : List Int) (i : Nat) => if decide (r.getD i 0 ≤ n) = true then s ++ [(i : Int)] else s) [] = quals r n := by
  have : ∀ (xs : List Nat) (s : List Int), xs.foldl (fun (s : List Int) (i : Nat) => if decide (r.getD i 0 ≤ n) = true then s ++ [(i : Int)] else s) s = s ++ (xs.filter fun i => decide (r.getD i 0 ≤ n)).map fun (i : Nat) => (i : Int) := by
    intro xs
    induction xs with
    | nil => simp
    | cons x xs ih =>
      intro s
      rw [List.foldl_cons, ih, List.filter_cons]
      split <;> simp
  rw [this]; rfl

theorem spec_quals_ok (r : List Int) (n : Int) (h : r.length ≤ 1048576) : spec_Qualifiers.l1 n 0 [] r = some (quals r n, 0) := by
  have H := loop_fold (fun (s : List Int) i => spec_Qualifiers.l1 n (i : Int) s r) (List.range r.length) (fun s i => if decide (r.getD i 0 ≤ n) = true then s ++ [(i : Int)] else s) (fun i s => s.length ≤ i) (fun i s hl hi => by
    simp only [List.length_range] at hi
    refine ⟨?_, by split <;> (try rw [List.length_append]) <;> (try simp only [List.length_singleton]) <;> omega⟩
    rw [spec_Qualifiers.l1_eq]
    have e : s.length + 1 ≤ 17592186044416 := by omega
    simp only [Int.toNat_natCast, getD_nat hi, spec_Qualifiers.l2_eq, w64s hi (show r.length ≤ 9223372036854775807 by omega)]
    by_cases hn : r[i] ≤ n <;> simp [hi, e, hn]) [] (by simp)
  rw [quals_fold] at H
  have H := H.1
  simp only [Int.natCast_zero, Int.ofNat_zero, List.length_range] at H
  rw [H, spec_Qualifiers.l1_eq]
  simp
theorem impl_quals_ok (r : List Int) (n : Int) (h : r.length ≤ 1048576) : impl_Qualifiers.l1 n r.length 0 [] r = some (quals r n, 0) := by
  have H := loop_fold (fun (s : List Int) i => impl_Qualifiers.l1 n r.length (i : Int) s r) (List.range r.length) (fun s i => if decide (r.getD i 0 ≤ n) = true then s ++ [(i : Int)] else s) (fun i s => s.length ≤ i) (fun i s hl hi => by
    simp only [List.length_range] at hi
    refine ⟨?_, by split <;> (try rw [List.length_append]) <;> (try simp only [List.length_singleton]) <;> omega⟩
    rw [impl_Qualifiers.l1_eq]
    have e : s.length + 1 ≤ 17592186044416 := by omega
    simp only [Int.toNat_natCast, getD_nat hi, impl_Qualifiers.l2_eq, w64s hi (show r.length ≤ 9223372036854775807 by omega)]
    by_cases hn : r[i] ≤ n <;> simp [hi, e, hn]) [] (by simp)
  rw [quals_fold] at H
  have H := H.1
  simp only [Int.natCast_zero, Int.ofNat_zero, List.length_range] at H
  rw [H, impl_Qualifiers.l1_eq]
  simp

theorem spec_Qualifiers_ok (l : List Int) (n : Int) (h : l.length ≤ 1048576) : spec_Qualifiers.f (l, n) = some (qual l n) := by
  rw [spec_Qualifiers.eq, l33Scores_ok l h, l01In_ok, l33Ranks_ok l h]
  unfold qual
  by_cases hs : okScores l = true
  · by_cases hd : 0 ≤ n ∧ n ≤ 64
    · simp [hs, hd, spec_quals_ok (ranks l) n (by rw [ranks_len]; exact h)]
    · rw [if_pos hs, if_neg hd]
      have : (decide (0 ≤ n) && decide (n ≤ 64)) = false := by simpa using hd
      simp [hs, this]
  · rw [if_neg hs]
    simp [hs]
theorem impl_Qualifiers_ok (l : List Int) (n : Int) (h : l.length ≤ 1048576) : impl_Qualifiers.f (l, n) = some (qual l n) := by
  rw [impl_Qualifiers.eq, isScoreList_ok l h, within_ok, rankScores_ok l h]
  unfold qual
  by_cases hs : okScores l = true
  · by_cases hd : 0 ≤ n ∧ n ≤ 64
    · simp [hs, hd, impl_quals_ok (ranks l) n (by rw [ranks_len]; exact h)]
    · rw [if_pos hs, if_neg hd]
      have : (decide (0 ≤ n) && decide (n ≤ 64)) = false := by simpa using hd
      simp [hs, this]
  · rw [if_neg hs]
    simp [hs]
theorem qual_len (l : List Int) (n : Int) : (qual l n).1.length ≤ l.length := by
  unfold qual
  split
  · split
    · unfold quals
      rw [List.length_map]
      exact Nat.le_trans (List.length_filter_le _ _) (by simp [ranks_len])
    · simp
  · simp
end Go.Proofs.Ytkeockkepmljjaa
end

section
namespace Go.Proofs.Ytkeockkepmljjaa
open Go Go.Proofs Pl

/-- A source of numbers. -/
def Src (s : List Int × Int × Int) : Prop :=
  (∀ b ∈ s.1, 0 ≤ b ∧ b ≤ 255) ∧ s.1.length ≤ 1048576 ∧ 0 ≤ s.2.1 ∧ s.2.1 ≤ s.1.length ∧ 0 ≤ s.2.2 ∧ s.2.2 < 2147483647

theorem tmod_nn {a b : Int} (ha : 0 ≤ a) (hb : 0 < b) : a.tmod b = a % b := Int.tmod_eq_emod_of_nonneg ha
theorem tdiv_nn {a b : Int} (ha : 0 ≤ a) : a.tdiv b = a / b := Int.tdiv_eq_ediv_of_nonneg ha
theorem getD_mem {l : List Int} {i : Nat} (h : i < l.length) (d : Int) : l.getD i d ∈ l := by rw [getD_nat h]; exact List.getElem_mem h

theorem seed_next {z : Int} (h : 0 ≤ z ∧ z < 2147483647) : ∃ y, (IntKind.wrap .i64 ((IntKind.wrap .i64 (z * 48271)) + 13)).tmod 2147483647 = y ∧ 0 ≤ y ∧ y < 2147483647 := by
  have w1 : IntKind.wrap .i64 (z * 48271) = z * 48271 := w64 (by omega) (by omega)
  have w2 : IntKind.wrap .i64 (z * 48271 + 13) = z * 48271 + 13 := w64 (by omega) (by omega)
  rw [w1, w2, tmod_nn (by omega) (by omega)]
  exact ⟨_, rfl, by omega, by omega⟩

theorem next_ok {s : List Int × Int × Int} {n : Int} (hs : Src s) (hn : n ≤ 4611686018427387904) : ∃ x s', spec_l01Next_1.f (s, n) = some (x, s', ()) ∧ Src s' ∧ 0 ≤ x ∧ (x < n ∨ x = 0) := by
  rw [spec_l01Next_1.eq]
  obtain ⟨c, a, z⟩ := s
  obtain ⟨h1, h2, h3, h4, h5, h6⟩ := hs
  simp only at h1 h2 h3 h4 h5 h6
  by_cases hn1 : n ≤ 1
  · simp only [hn1, decide_true, cond_true]
    exact ⟨0, (c, a, z), rfl, ⟨h1, h2, h3, h4, h5, h6⟩, by omega, .inr rfl⟩
  · obtain ⟨y, hy, hy1, hy2⟩ := seed_next ⟨h5, h6⟩
    have hz : ¬ (n = 0) := by omega
    have key : ∀ (x : Int) (s' : List Int × Int × Int), 0 ≤ x → Src s' → ∃ x1 s1, spec_l01Next_1.l2 n x s' = some (x1, s1, ()) ∧ Src s1 ∧ 0 ≤ x1 ∧ (x1 < n ∨ x1 = 0) := fun x s' hx hs' => by
      rw [spec_l01Next_1.l2_eq]
      simp only [hz, decide_false, cond_false]
      rw [tmod_nn hx (by omega)]
      exact ⟨_, _, rfl, hs', Int.emod_nonneg _ (by omega), .inl (Int.emod_lt_of_pos _ (by omega))⟩
    have w13 : (y.tdiv 13) = y / 13 := tdiv_nn hy1
    have w3 : IntKind.wrap .i64 (y / 13) = y / 13 := w64 (by omega) (by omega)
    simp only [hn1, decide_false, cond_false, hy, w13, w3, spec_l01Next_1.l1_eq]
    by_cases ha : a < (c.length : Int)
    · obtain ⟨k, rfl⟩ : ∃ k : Nat, a = k := ⟨a.toNat, by omega⟩
      have hk : k < c.length := by omega
      have w4 : IntKind.wrap .i64 ((k : Int) + 1) = (k : Int) + 1 := w64 (by omega) (by omega)
      have hb := h1 _ (getD_mem hk 0)
      have w5 : IntKind.wrap .i64 (c.getD k 0) = c.getD k 0 := w64 (by omega) (by omega)
      have w6 : IntKind.wrap .i64 (y / 13 + c.getD k 0) = y / 13 + c.getD k 0 := w64 (by omega) (by omega)
      have w7 : IntKind.wrap .i64 ((k : Int) + 1 - 1) = (k : Int) := by rw [w64 (by omega) (by omega)]; omega
      have hS : Src (c, (k : Int) + 1, y) := ⟨h1, h2, by simp only; omega, by simp only; omega, hy1, hy2⟩
      simp only [ha, h3, decide_true, cond_true, w4, w7, Int.toNat_natCast, w5, w6]
      by_cases hn2 : n ≤ 256
      · simp only [hn2, decide_true, cond_true]
        cases hev : (((k : Int) + 1).tmod 2 == 0) with
        | true => simp only [cond_true]; exact key _ _ hb.1 hS
        | false => simp only [cond_false]; exact key _ _ (by omega) hS
      · simp only [hn2, decide_false, cond_false]; exact key _ _ (by omega) hS
    · simp only [ha, decide_false, cond_false]
      exact key _ _ (by omega) ⟨h1, h2, h3, h4, hy1, hy2⟩

theorem from_ok {code : List Int} (hb : ∀ b ∈ code, 0 ≤ b ∧ b ≤ 255) (hl : code.length ≤ 1048576) : ∃ s, spec_l01From.f code = some s ∧ Src s := by
  rw [spec_l01From.eq]
  have H : ∀ d i (z : Int), i + d = code.length → 0 ≤ z → z < 2147483647 → ∃ s, spec_l01From.l1 code (i : Int) (code, 0, z) = some s ∧ Src s := by
    intro d
    induction d with
    | zero =>
      intro i z hi h1 h2
      rw [spec_l01From.l1_eq]
      have : ¬ ((i : Int) < (code.length : Int)) := by omega
      simp only [this, decide_false, cond_false]
      exact ⟨_, rfl, hb, hl, by simp only; omega, by simp only; omega, h1, h2⟩
    | succ d ih =>
      intro i z hi h1 h2
      rw [spec_l01From.l1_eq]
      have hlt : i < code.length := by omega
      have hbi := hb _ (getD_mem hlt 0)
      have w1 : IntKind.wrap .i64 (z * 41) = z * 41 := w64 (by omega) (by omega)
      have w2 : IntKind.wrap .i64 (code.getD i 0) = code.getD i 0 := w64 (by omega) (by omega)
      have w3 : IntKind.wrap .i64 (z * 41 + code.getD i 0) = z * 41 + code.getD i 0 := w64 (by omega) (by omega)
      have hlt2 : ((i : Int) < (code.length : Int)) := by omega
      by_cases h64 : (i : Int) < 64
      · simp only [hlt2, h64, Int.natCast_nonneg, decide_true, cond_true, Int.toNat_natCast, w1, w2, w3, w64s hlt (show code.length ≤ 9223372036854775807 by omega)]
        rw [tmod_nn (by omega) (by omega)]
        exact ih (i + 1) _ (by omega) (by omega) (by omega)
      · simp only [hlt2, h64, decide_true, decide_false, cond_true, cond_false]
        exact ⟨_, rfl, hb, hl, by simp only; omega, by simp only; omega, h1, h2⟩
  exact H code.length 0 86421 (by omega) (by omega) (by omega)

theorem l33Draw_ok {s : List Int × Int × Int} (hs : Src s) : ∃ l s', spec_l33Draw_1.f s = some (l, s', ()) ∧ Src s' ∧ l.length ≤ 1000 ∧ ∀ n ∈ l, -1000000001 ≤ n ∧ n ≤ 1000000001 := by
  rw [spec_l33Draw_1.eq]
  obtain ⟨w, s1, e1, hs1, hw1, hw2⟩ := next_ok (n := 8) hs (by omega)
  obtain ⟨k, s2, e2, hs2, hk1, hk2⟩ := next_ok (n := 9) hs1 (by omega)
  simp only [e1, e2, Option.bind_some]
  have ww : IntKind.wrap .i64 (1 + w) = 1 + w := w64 (by omega) (by omega)
  rw [ww]
  let OkL (l : List Int) : Prop := ∀ n ∈ l, -1000000001 ≤ n ∧ n ≤ 1000000001
  -- the last rounds: more scores up to some number
  have L3 : ∀ (d : Nat) (n6 : Int) (s : List Int × Int × Int) (out : List Int), n6 ≤ (out.length : Int) + d → Src s → n6 ≤ 100 → out.length ≤ 500 → OkL out → ∃ l s', spec_l33Draw_1.l3 n6 s out = some (l, s', ()) ∧ Src s' ∧ l.length ≤ 1000 ∧ OkL l := by
    intro d
    induction d with
    | zero =>
      intro n6 s out h1 h2 h3 h4 h5
      rw [spec_l33Draw_1.l3_eq]
      have : ¬ ((out.length : Int) < n6) := by omega
      simp only [this, decide_false, cond_false, spec_l33Draw_1.l4_eq, spec_l33Draw_1.l2_eq]
      exact ⟨out, s, rfl, h2, by omega, h5⟩
    | succ d ih =>
      intro n6 s out h1 h2 h3 h4 h5
      rw [spec_l33Draw_1.l3_eq]
      by_cases h : (out.length : Int) < n6
      · obtain ⟨x, s', e, hs', hx1, hx2⟩ := next_ok (n := 30) h2 (by omega)
        have ho : out.length + 1 ≤ 17592186044416 := by omega
        simp only [h, decide_true, cond_true, e, Option.bind_some, ho]
        refine ih n6 s' (out ++ [x]) (by simp; omega) hs' h3 (by simp; omega) fun n hn => ?_
        rcases List.mem_append.mp hn with hn | hn
        · exact h5 n hn
        · simp at hn; omega
      · simp only [h, decide_false, cond_false, spec_l33Draw_1.l4_eq, spec_l33Draw_1.l2_eq]
        exact ⟨out, s, rfl, h2, by omega, h5⟩
  have L1 : ∀ (d : Nat) (k : Int) (s : List Int × Int × Int) (out : List Int), k = d → Src s → out.length + d ≤ 100 → OkL out → ∃ l s', spec_l33Draw_1.l1 (1 + w) k s out = some (l, s', ()) ∧ Src s' ∧ l.length ≤ 1000 ∧ OkL l := by
    intro d
    induction d with
    | zero =>
      intro k s out hk h2 h3 h4
      rw [spec_l33Draw_1.l1_eq]
      have : ¬ (k > 0) := by omega
      obtain ⟨x, s', e, hs', hx1, hx2⟩ := next_ok (n := 24) h2 (by omega)
      have ho : out.length + 1 ≤ 17592186044416 := by omega
      simp only [this, decide_false, cond_false, e, Option.bind_some]
      by_cases h0 : x = 0
      · obtain ⟨y, s3, e3, hs3, hy1, hy2⟩ := next_ok (n := 4) hs' (by omega)
        have hy4 : y < 4 := by omega
        simp only [h0, beq_self_eq_true, cond_true, e3, Option.bind_some, hy1, hy4, decide_true, ho, spec_l33Draw_1.l2_eq]
        refine ⟨_, _, rfl, hs3, by simp; omega, fun n hn => ?_⟩
        rcases List.mem_append.mp hn with hn | hn
        · exact h4 n hn
        · simp only [List.mem_singleton] at hn
          subst hn
          obtain ⟨j, rfl⟩ : ∃ j : Nat, y = j := ⟨y.toNat, by omega⟩
          rw [Int.toNat_natCast]
          have : j < 4 := by omega
          match j, this with
          | 0, _ => decide
          | 1, _ => decide
          | 2, _ => decide
          | 3, _ => decide
      · have hb0 : (x == 0) = false := by simpa using h0
        rw [hb0, cond_false]
        by_cases h1 : x = 1
        · obtain ⟨y, s3, e3, hs3, hy1, hy2⟩ := next_ok (n := 2) hs' (by omega)
          have hw3 : IntKind.wrap .i64 (64 + y) = 64 + y := w64 (by omega) (by omega)
          simp only [h1, beq_self_eq_true, cond_true, e3, Option.bind_some, hw3]
          exact L3 100 (64 + y) s3 out (by omega) hs3 (by omega) (by omega) h4
        · have hb1 : (x == 1) = false := by simpa using h1
          rw [hb1, cond_false, spec_l33Draw_1.l4_eq, spec_l33Draw_1.l2_eq]
          exact ⟨_, _, rfl, hs', by omega, h4⟩
    | succ d ih =>
      intro k s out hk h2 h3 h4
      rw [spec_l33Draw_1.l1_eq]
      have hk0 : k > 0 := by omega
      have w2 : IntKind.wrap .i64 (2 * (1 + w)) = 2 * (1 + w) := w64 (by omega) (by omega)
      obtain ⟨x, s', e, hs', hx1, hx2⟩ := next_ok (n := 2 * (1 + w)) h2 (by omega)
      have ho : out.length + 1 ≤ 17592186044416 := by omega
      have w3 : (1 + w).tdiv 2 = (1 + w) / 2 := tdiv_nn (by omega)
      have w4 : IntKind.wrap .i64 ((1 + w) / 2) = (1 + w) / 2 := w64 (by omega) (by omega)
      have w5 : IntKind.wrap .i64 (x - (1 + w) / 2) = x - (1 + w) / 2 := w64 (by omega) (by omega)
      have w6 : IntKind.wrap .i64 (k - 1) = k - 1 := w64 (by omega) (by omega)
      simp only [hk0, decide_true, cond_true, w2, e, Option.bind_some, ho, w3, w4, w5, w6]
      refine ih (k - 1) s' _ (by omega) hs' (by simp; omega) fun n hn => ?_
      rcases List.mem_append.mp hn with hn | hn
      · exact h4 n hn
      · simp at hn; omega
  exact L1 k.toNat k s2 [] (by omega) hs2 (by simp; omega) (fun n hn => by simp at hn)

theorem big_ok (code : List Int) : laws_big.f code = some (decide ((code.length : Int) > 4096)) := laws_big.eq code

theorem bytes {code : List Int} (hw : ∀ n ∈ code, (Lit.int .u8 n).wf = true) : ∀ b ∈ code, 0 ≤ b ∧ b ≤ 255 := by
  intro b hb
  have := hw b hb
  unfold Lit.wf at this
  simp [IntKind.min, IntKind.max, IntKind.signed, IntKind.bits] at this
  omega

theorem DrawPercentages_ok {code : List Int} (hb : ∀ b ∈ code, 0 ≤ b ∧ b ≤ 255) (hl : code.length ≤ 1048576) : ∃ l top, spec_DrawPercentages.f code = some (l, top) ∧ l.length ≤ 1000 ∧ 0 ≤ top ∧ top ≤ 1000000001 := by
  rw [spec_DrawPercentages.eq]
  obtain ⟨s, e, hs⟩ := from_ok hb hl
  obtain ⟨l, s1, e1, hs1, hl1, hl2⟩ := l33Draw_ok hs
  simp only [e, e1, Option.bind_some]
  have pick : ∀ (l : List Int) (y : Int), 0 ≤ y → y < 8 → ∃ l' top, (some (l, List.getD [(7 : Int), 9, 12, 16, 1000000000, 1000000001, 0, 20] y.toNat 0) : Option (List Int × Int)) = some (l', top) ∧ l' = l ∧ 0 ≤ top ∧ top ≤ 1000000001 := fun l y h1 h2 => by
    refine ⟨_, _, rfl, rfl, ?_⟩
    obtain ⟨j, rfl⟩ : ∃ j : Nat, y = j := ⟨y.toNat, by omega⟩
    rw [Int.toNat_natCast]
    have : j < 8 := by omega
    match j, this with
    | 0, _ => decide
    | 1, _ => decide
    | 2, _ => decide
    | 3, _ => decide
    | 4, _ => decide
    | 5, _ => decide
    | 6, _ => decide
    | 7, _ => decide
  have H : ∀ d i (s : List Int × Int × Int) (l : List Int), i + d = l.length → Src s → l.length ≤ 1000 → ∃ l' top, spec_DrawPercentages.l1 (i : Int) s l = some (l', top) ∧ l'.length ≤ 1000 ∧ 0 ≤ top ∧ top ≤ 1000000001 := by
    intro d
    induction d with
    | zero =>
      intro i s l hi hs hl
      rw [spec_DrawPercentages.l1_eq]
      have : ¬ ((i : Int) < (l.length : Int)) := by omega
      obtain ⟨y, s3, e3, hs3, hy1, hy2⟩ := next_ok (n := 8) hs (by omega)
      have hy8 : y < 8 := by omega
      simp only [this, decide_false, cond_false, e3, Option.bind_some, hy1, hy8, decide_true, cond_true]
      obtain ⟨l', top, h1, h2, h3⟩ := pick l y hy1 hy8
      exact ⟨l', top, h1, by rw [h2]; exact hl, h3⟩
    | succ d ih =>
      intro i s l hi hs hl
      rw [spec_DrawPercentages.l1_eq]
      have hlt : i < l.length := by omega
      have hlt2 : ((i : Int) < (l.length : Int)) := by omega
      obtain ⟨x, s2, e2, hs2, hx1, hx2⟩ := next_ok (n := 12) hs (by omega)
      simp only [hlt2, decide_true, cond_true, e2, Option.bind_some, Int.natCast_nonneg, Int.toNat_natCast, w64s hlt (show l.length ≤ 9223372036854775807 by omega)]
      by_cases hx : x > 0
      · simp only [hx, decide_true, cond_true]
        exact ih (i + 1) s2 _ (by simp; omega) hs2 (by simpa using hl)
      · simp only [hx, decide_false, cond_false]
        obtain ⟨y, s3, e3, hs3, hy1, hy2⟩ := next_ok (n := 8) hs2 (by omega)
        have hy8 : y < 8 := by omega
        simp only [e3, Option.bind_some, hy1, hy8, decide_true, cond_true]
        obtain ⟨l', top, h1, h2, h3⟩ := pick l y hy1 hy8
        exact ⟨l', top, h1, by rw [h2]; exact hl, h3⟩
  exact H l.length 0 s1 l (by omega) hs1 hl1
end Go.Proofs.Ytkeockkepmljjaa
end

section
namespace Go.Proofs.Ytkeockkepmljjaa
open Go Go.Proofs Pl

/-- A reduced quotient. -/
def red (a b : Int) : Int × Int := (a / (Nat.gcd a.toNat b.toNat : Nat), b / (Nat.gcd a.toNat b.toNat : Nat))

theorem div_bd {a : Int} {g : Nat} (ha : 0 ≤ a ∧ a ≤ 4611686018427387904) : 0 ≤ a / (g : Int) ∧ a / (g : Int) ≤ 4611686018427387904 := by
  refine ⟨Int.ediv_nonneg ha.1 (by omega), ?_⟩
  have := Int.ediv_le_self (b := (g : Int)) ha.1
  omega

theorem l27_loop (num den : Int) (hn : 0 ≤ num ∧ num ≤ 4611686018427387904) (hd : 0 ≤ den ∧ den ≤ 4611686018427387904) (x : Int × Int) : ∀ (b a : Nat), 0 < Nat.gcd a b →
    spec_l27Reduced.l1 num den a b x = some (num / (Nat.gcd a b : Nat), den / (Nat.gcd a b : Nat)) := by
  intro b
  induction b using Nat.strongRecOn with
  | _ b ih =>
    intro a hg
    rw [spec_l27Reduced.l1_eq]
    by_cases hb : 0 < b
    · have c1 : ((b : Int) > 0) := by omega
      have c2 : ¬ ((b : Int) = 0) := by omega
      have e : (a : Int).tmod (b : Int) = ((a % b : Nat) : Int) := by rw [tmod_nn (by omega) (by omega)]; rfl
      have hgc : Nat.gcd b (a % b) = Nat.gcd a b := by rw [Nat.gcd_comm b (a % b), ← Nat.gcd_rec, Nat.gcd_comm]
      simp only [c1, c2, decide_true, decide_false, cond_true, cond_false, e]
      rw [ih (a % b) (Nat.mod_lt _ hb) b (by rw [hgc]; exact hg), hgc]
    · obtain rfl : b = 0 := by omega
      simp only [Nat.gcd_zero_right] at hg ⊢
      have c1 : ¬ (((0 : Nat) : Int) > 0) := by omega
      have c2 : ¬ ((a : Int) = 0) := by omega
      have b1 := div_bd (g := a) hn
      have b2 := div_bd (g := a) hd
      simp only [c1, c2, decide_false, cond_false, tdiv_nn hn.1, tdiv_nn hd.1, w64 (show -9223372036854775808 ≤ num / (a : Int) by omega) (by omega), w64 (show -9223372036854775808 ≤ den / (a : Int) by omega) (by omega)]

theorem l27Reduced_ok (num den : Int) (hn : 0 ≤ num ∧ num ≤ 4611686018427387904) (hd : 1 ≤ den ∧ den ≤ 4611686018427387904) : spec_l27Reduced.f (num, den) = some (red num den) := by
  rw [spec_l27Reduced.eq]
  obtain ⟨a, rfl⟩ : ∃ a : Nat, num = a := ⟨num.toNat, by omega⟩
  obtain ⟨b, rfl⟩ : ∃ b : Nat, den = b := ⟨den.toNat, by omega⟩
  rw [l27_loop a b hn (by omega) _ a b (Nat.gcd_pos_of_pos_left _ (by omega))]
  unfold red
  simp only [Int.toNat_natCast, Nat.gcd_comm b a]

theorem gcd_loop : ∀ (b a : Nat), a ≤ 4611686018427387904 → b ≤ 4611686018427387904 → impl_gcd.l1 a b = some ((Nat.gcd a b : Nat) : Int) := by
  intro b
  induction b using Nat.strongRecOn with
  | _ b ih =>
    intro a ha hb1
    rw [impl_gcd.l1_eq]
    by_cases hb : 0 < b
    · have c1 : ((b : Int) != 0) = true := by simp; omega
      have c2 : ¬ ((b : Int) = 0) := by omega
      have e : (a : Int).tmod (b : Int) = ((a % b : Nat) : Int) := by rw [tmod_nn (by omega) (by omega)]; rfl
      have hm := Nat.mod_lt a hb
      simp only [c1, c2, decide_false, cond_true, cond_false, e]
      rw [ih (a % b) hm b hb1 (by omega), Nat.gcd_comm b (a % b), ← Nat.gcd_rec, Nat.gcd_comm]
    · obtain rfl : b = 0 := by omega
      have c1 : (((0 : Nat) : Int) != 0) = false := rfl
      have w : IntKind.wrap .i64 (0 - (a : Int)) = 0 - (a : Int) := w64 (by omega) (by omega)
      have c2 : ¬ ((a : Int) < 0 - (a : Int)) := by omega
      simp only [c1, cond_false, w, c2, if_false, Nat.gcd_zero_right]

theorem chance_ok (num den : Int) (hn : 0 ≤ num ∧ num ≤ 4611686018427387904) (hd : 1 ≤ den ∧ den ≤ 4611686018427387904) : impl_chance.f (num, den) = some (red num den) := by
  rw [impl_chance.eq, impl_gcd.eq]
  obtain ⟨a, rfl⟩ : ∃ a : Nat, num = a := ⟨num.toNat, by omega⟩
  obtain ⟨b, rfl⟩ : ∃ b : Nat, den = b := ⟨den.toNat, by omega⟩
  have hg : 0 < Nat.gcd a b := Nat.gcd_pos_of_pos_right _ (by omega)
  have c : ¬ (((Nat.gcd a b : Nat) : Int) = 0) := by omega
  have b1 := div_bd (a := (a : Int)) (g := Nat.gcd a b) hn
  have b2 := div_bd (a := (b : Int)) (g := Nat.gcd a b) (by omega)
  rw [gcd_loop b a (by omega) (by omega)]
  simp only [Option.bind_some, c, decide_false, cond_false]
  rw [tdiv_nn (by omega), tdiv_nn (by omega), w64 (by omega) (by omega), w64 (by omega) (by omega)]
  unfold red
  simp only [Int.toNat_natCast]

/-! Equal scores have equal ranks, others have others. -/
theorem countP_strict {α : Type} {p q : α → Bool} : ∀ {l : List α}, (∀ x ∈ l, p x = true → q x = true) → (∃ x ∈ l, q x = true ∧ p x = false) → l.countP p < l.countP q := by
  intro l
  induction l with
  | nil => rintro _ ⟨x, hx, _⟩; simp at hx
  | cons a l ih =>
    intro h hx
    rw [List.countP_cons, List.countP_cons]
    have hle : l.countP p ≤ l.countP q := List.countP_mono_left fun x hx hp => h x (by simp [hx]) hp
    obtain ⟨x, hx, hq, hp⟩ := hx
    rcases List.mem_cons.mp hx with rfl | hx
    · rw [hq, hp]; simp; omega
    · have hlt := ih (fun y hy => h y (by simp [hy])) ⟨x, hx, hq, hp⟩
      have ha := h a (by simp)
      cases hpa : p a <;> cases hqa : q a <;> simp_all <;> omega

theorem rk_lt {l : List Int} {a b : Int} (hb : b ∈ l) (h : a < b) : rk l b < rk l a := by
  unfold rk
  have h1 : ∀ x ∈ l, decide (b < x) = true → decide (a < x) = true := by
    intro x _ hx
    have : b < x := by simpa using hx
    simp
    omega
  have := countP_strict h1 ⟨b, hb, by simpa using h, by simp⟩
  omega
theorem rk_inj {l : List Int} {a b : Int} (ha : a ∈ l) (hb : b ∈ l) : rk l a = rk l b ↔ a = b := by
  constructor
  · intro h
    rcases Int.lt_trichotomy a b with h1 | h1 | h1
    · have := rk_lt hb h1; omega
    · exact h1
    · have := rk_lt ha h1; omega
  · rintro rfl; rfl

def many (l : List Int) (a : Int) : Int := (l.countP fun b => b == a : Nat)
theorem many_bd (l : List Int) (a : Int) : 0 ≤ many l a ∧ many l a ≤ l.length := by
  unfold many
  have := List.countP_le_length (p := fun b => b == a) (l := l)
  omega
theorem many_pos {l : List Int} {a : Int} (h : a ∈ l) : 1 ≤ many l a := by
  unfold many
  have : 0 < l.countP fun b => b == a := List.countP_pos_iff.mpr ⟨a, h, by simp⟩
  omega
theorem many_ranks {l : List Int} {a : Int} (ha : a ∈ l) : many (ranks l) (rk l a) = many l a := by
  unfold many ranks
  rw [List.countP_map]
  congr 1
  apply List.countP_congr
  intro x hx
  have := rk_inj hx ha
  simp only [Function.comp_apply, beq_iff_eq]
  exact this

theorem count_fold' (p : Int → Bool) (l : List Int) : l.foldl (fun s b => s + if p b = true then 1 else 0) 0 = ((l.countP p : Nat) : Int) := by rw [count_fold]; omega

theorem l33Equal_ok (l : List Int) (a : Int) (h : l.length ≤ 1048576) : spec_l33Equal.f (l, a) = some (many l a) := by
  have H := loop_fold (fun (s : Int) i => spec_l33Equal.l1 l a s (i : Int)) l (fun s b => s + if (b == a) = true then 1 else 0) (fun i s => 0 ≤ s ∧ s ≤ i) (fun i s hs hi => by
    refine ⟨?_, by split <;> omega⟩
    rw [spec_l33Equal.l1_eq]
    have w1 : IntKind.wrap .i64 (s + 1) = s + 1 := w64 (by omega) (by omega)
    simp only [Int.toNat_natCast, getD_nat hi, spec_l33Equal.l2_eq, w1, w64s hi (show l.length ≤ 9223372036854775807 by omega)]
    cases hb : (l[i] == a) <;> simp [hi]) 0 (by omega)
  rw [count_fold'] at H
  rw [spec_l33Equal.eq]
  have H := H.1
  simp only [Int.natCast_zero, Int.ofNat_zero] at H
  rw [H, spec_l33Equal.l1_eq]
  simp [many]
theorem equals_ok (l : List Int) (a : Int) (h : l.length ≤ 1048576) : impl_equals.f (l, a) = some (many l a) := by
  have H := loop_fold (fun (s : Int) i => impl_equals.l1 a s l l.length (i : Int)) l (fun s b => s + if (b == a) = true then 1 else 0) (fun i s => 0 ≤ s ∧ s ≤ i) (fun i s hs hi => by
    refine ⟨?_, by split <;> omega⟩
    rw [impl_equals.l1_eq]
    have e1 : ∀ b : Bool, IntKind.wrap .i64 (s + if b = true then 1 else 0) = s + if b = true then 1 else 0 := fun b => w64 (by split <;> omega) (by split <;> omega)
    simp only [Int.toNat_natCast, getD_nat hi, flag_ok, Option.bind_some, e1, w64s hi (show l.length ≤ 9223372036854775807 by omega)]
    simp [hi]) 0 (by omega)
  rw [count_fold'] at H
  rw [impl_equals.eq]
  have H := H.1
  simp only [Int.natCast_zero, Int.ofNat_zero] at H
  rw [H, impl_equals.l1_eq]
  simp [many]

/-! Prizes -/
def okPrize (n : Int) : Bool := decide (0 ≤ n) && decide (n ≤ 1000000000)

theorem prize_idx_ok (l : List Int) (h : l.length ≤ 1048576) : slices_ContainsFunc_int64_2.f (l, ()) = some (l.any fun n => !okPrize n) := by
  have H := loop_find (fun i => slices_IndexFunc_int64_2.l1 l l.length (i : Int)) l (fun n => !okPrize n) (fun i => some (i : Int)) (fun i hi => by
    rw [slices_IndexFunc_int64_2.l1_eq]
    have e : impl_ShareOfPrizes_1.f (l.getD i 0) = some (!okPrize l[i]) := by rw [impl_ShareOfPrizes_1.eq, within_ok, getD_nat hi]; rfl
    simp only [Int.toNat_natCast, e, w64s hi (show l.length ≤ 9223372036854775807 by omega)]
    simp [hi, cond_ite])
  rw [slices_ContainsFunc_int64_2.eq, slices_IndexFunc_int64_2.eq]
  simp only [Int.natCast_zero, Int.ofNat_zero] at H
  rw [H, slices_IndexFunc_int64_2.l1_eq]
  simp only [Int.lt_irrefl, decide_false, cond_false]
  cases hc : l.any fun n => !okPrize n <;> simp

/-- The prizes of n places from the k-th on. -/
def prizeSum (p : List Int) (k n : Nat) : Int := ((p.drop k).take n).sum
theorem prizeSum_zero (p : List Int) (k : Nat) : prizeSum p k 0 = 0 := by simp [prizeSum]
theorem prizeSum_out (p : List Int) (k n : Nat) (h : p.length ≤ k) : prizeSum p k n = 0 := by unfold prizeSum; rw [List.drop_eq_nil_of_le h]; simp
theorem prizeSum_succ (p : List Int) (k n : Nat) (h : k < p.length) : prizeSum p k (n + 1) = p.getD k 0 + prizeSum p (k + 1) n := by
  unfold prizeSum
  rw [List.drop_eq_getElem_cons h, List.take_succ_cons, List.sum_cons, getD_nat h]

/-- The share of an entry. -/
def share (l p : List Int) (a : Int) : Int × Int := red (prizeSum p (rk l a - 1).toNat (many l a).toNat) (many l a)
def shares (l p : List Int) : List (Int × Int) × Int :=
  if okScores l = true then if (decide (p.length ≤ 64) && p.all okPrize) = true then (l.map (share l p), 0) else ([], 2) else ([], 1)

theorem sum_bd (p : List Int) (hp : ∀ x ∈ p, 0 ≤ x ∧ x ≤ 1000000000) : ∀ n k, 0 ≤ prizeSum p k n ∧ prizeSum p k n ≤ 1000000000 * n := by
  intro n
  induction n with
  | zero => intro k; rw [prizeSum_zero]; omega
  | succ n ih =>
    intro k
    by_cases h : k < p.length
    · rw [prizeSum_succ p k n h]
      have := ih (k + 1)
      have := hp _ (getD_mem h 0)
      omega
    · rw [prizeSum_out p k (n + 1) (by omega)]; omega

theorem rk_bd (l : List Int) (a : Int) : 1 ≤ rk l a ∧ rk l a ≤ 1 + l.length := by
  unfold rk
  have := List.countP_le_length (p := fun b => decide (a < b)) (l := l)
  omega

theorem spec_shares_ok (l p : List Int) (h : l.length ≤ 1048576) (h2 : p.length ≤ 1048576) : spec_ShareOfPrizes.f (l, p) = some (shares l p) := by
  rw [spec_ShareOfPrizes.eq, l33Scores_ok l h]
  unfold shares
  by_cases hs : okScores l = true
  · rw [if_pos hs, hs]
    simp only [Option.bind_some, Bool.not_true, cond_false]
    have h64 := okScores_len hs
    have H := loop_any (fun i => spec_ShareOfPrizes.l1 l p (i : Int)) p (fun n => !okPrize n) (some ([], 2)) (fun i hi => by
      rw [spec_ShareOfPrizes.l1_eq]
      have e : spec_l01In.f (p.getD i 0, 0, 1000000000) = some (okPrize p[i]) := by rw [l01In_ok, getD_nat hi]; rfl
      simp only [Int.toNat_natCast, e, w64s hi (show p.length ≤ 9223372036854775807 by omega)]
      simp [hi, cond_ite])
    simp only [Int.natCast_zero, Int.ofNat_zero] at H
    rw [H, any_not]
    by_cases hp : p.all okPrize = true
    · rw [hp, spec_ShareOfPrizes.l1_eq]
      have hpb : ∀ x ∈ p, 0 ≤ x ∧ x ≤ 1000000000 := fun x hx => by have := List.all_eq_true.mp hp x hx; unfold okPrize at this; simpa using this
      by_cases hp64 : p.length ≤ 64
      · have c1 : ¬ ((p.length : Int) > 64) := by omega
        simp only [Int.lt_irrefl, c1, decide_false, cond_false, Bool.not_true, Bool.false_eq_true, if_false, l33Ranks_ok l h, Option.bind_some, hp64, decide_true, Bool.and_self, if_true]
        have hrl : (ranks l).length = l.length := ranks_len l
        have L := loop_fold (fun (s : List (Int × Int)) i => spec_ShareOfPrizes.l2 l p (i : Int) (ranks l) s) l (fun s a => s ++ [share l p a]) (fun i s => s.length = i) (fun i s hl hi => by
          refine ⟨?_, by simp [hl]⟩
          rw [spec_ShareOfPrizes.l2_eq]
          have c1 : ((i : Int) < (l.length : Int)) := by omega
          have c2 : ((i : Int) < ((ranks l).length : Int)) := by omega
          have hr : (ranks l).getD i 0 = rk l l[i] := by simp [ranks, List.getD_eq_getElem?_getD, hi]
          have hrb := rk_bd l l[i]
          have hmb := many_bd l l[i]
          have hmp := many_pos (List.getElem_mem hi)
          have w1 : IntKind.wrap .i64 (rk l l[i] - 1) = rk l l[i] - 1 := w64 (by omega) (by omega)
          have w2 : IntKind.wrap .i64 (rk l l[i] - 1 + many l l[i]) = rk l l[i] - 1 + many l l[i] := w64 (by omega) (by omega)
          have ho : s.length + 1 ≤ 8796093022208 := by omega
          simp only [c1, c2, Int.natCast_nonneg, decide_true, cond_true, Int.toNat_natCast, getD_nat hi, l33Equal_ok l _ h, Option.bind_some, hr, w1]
          obtain ⟨m, hm⟩ : ∃ m : Nat, many l l[i] = m := ⟨(many l l[i]).toNat, by omega⟩
          -- the sum of the prizes
          have S : ∀ (d : Nat) (k : Nat) (sum : Int), (k : Int) + d = rk l l[i] - 1 + many l l[i] → 0 ≤ sum → sum + 1000000000 * d ≤ 1000000000 * 1048576 → sum + prizeSum p k d ≤ 4611686018427387904 →
              spec_ShareOfPrizes.l3 l p (i : Int) (many l l[i]) sum (k : Int) (ranks l) s = spec_ShareOfPrizes.l2 l p ((i + 1 : Nat) : Int) (ranks l) (s ++ [red (sum + prizeSum p k d) (many l l[i])]) := by
            intro d
            induction d with
            | zero =>
              intro k sum hk h0 h1 h2
              rw [prizeSum_zero, Int.add_zero] at h2 ⊢
              rw [spec_ShareOfPrizes.l3_eq]
              have c3 : ¬ ((k : Int) < rk l l[i] - 1 + many l l[i]) := by omega
              simp only [c2, c3, Int.natCast_nonneg, decide_true, decide_false, cond_true, cond_false, Int.toNat_natCast, hr, w1, w2, l27Reduced_ok sum _ ⟨h0, h2⟩ ⟨hmp, by omega⟩, Option.bind_some, ho, w64s hi (show l.length ≤ 9223372036854775807 by omega)]
            | succ d ih =>
              intro k sum hk h0 h1 h2
              rw [spec_ShareOfPrizes.l3_eq]
              have c3 : ((k : Int) < rk l l[i] - 1 + many l l[i]) := by omega
              by_cases hkp : k < p.length
              · have c4 : ((k : Int) < (p.length : Int)) := by omega
                have hpk := hpb _ (getD_mem hkp 0)
                rw [prizeSum_succ p k d hkp] at h2 ⊢
                have w3 : IntKind.wrap .i64 (sum + p.getD k 0) = sum + p.getD k 0 := w64 (by omega) (by omega)
                have w4 : IntKind.wrap .i64 ((k : Int) + 1) = ((k + 1 : Nat) : Int) := by rw [w64 (by omega) (by omega)]; rfl
                simp only [c2, c3, c4, Int.natCast_nonneg, decide_true, cond_true, Int.toNat_natCast, hr, w1, w2, w3, w4]
                rw [ih (k + 1) (sum + p.getD k 0) (by omega) (by omega) (by omega) (by omega), Int.add_assoc]
              · have c4 : ¬ ((k : Int) < (p.length : Int)) := by omega
                rw [prizeSum_out p k (d + 1) (by omega), Int.add_zero] at h2 ⊢
                simp only [c2, c3, c4, Int.natCast_nonneg, decide_true, decide_false, cond_true, cond_false, Int.toNat_natCast, hr, w1, w2, l27Reduced_ok sum _ ⟨h0, h2⟩ ⟨hmp, by omega⟩, Option.bind_some, ho, w64s hi (show l.length ≤ 9223372036854775807 by omega)]
          obtain ⟨k, hk⟩ : ∃ k : Nat, rk l l[i] - 1 = k := ⟨(rk l l[i] - 1).toNat, by omega⟩
          have hsb := sum_bd p hpb m k
          rw [hk]
          have := S m k 0 (by omega) (by omega) (by omega) (by omega)
          rw [this, Int.zero_add]
          unfold share
          rw [hk, hm]; rfl) [] rfl
        rw [foldl_snoc] at L
        have L := L.1
        simp only [Int.natCast_zero, Int.ofNat_zero, List.nil_append] at L
        rw [L, spec_ShareOfPrizes.l2_eq]
        simp
      · have c1 : ((p.length : Int) > 64) := by omega
        simp only [Int.lt_irrefl, c1, hp64, decide_false, decide_true, cond_false, cond_true, Bool.not_true, Bool.false_eq_true, if_false, Bool.false_and]
    · simp only [Bool.not_eq_true] at hp
      simp [hp]
  · rw [if_neg hs]
    simp [hs]

theorem impl_shares_ok (l p : List Int) (h : l.length ≤ 1048576) (h2 : p.length ≤ 1048576) : impl_ShareOfPrizes.f (l, p) = some (shares l p) := by
  rw [impl_ShareOfPrizes.eq, isScoreList_ok l h, prize_idx_ok p h2, any_not]
  unfold shares
  by_cases hs : okScores l = true
  · rw [if_pos hs, hs]
    simp only [Option.bind_some, Bool.not_true, cond_false]
    have h64 := okScores_len hs
    by_cases hp64 : p.length ≤ 64
    · have c1 : ¬ ((p.length : Int) > 64) := by omega
      by_cases hp : p.all okPrize = true
      · have hpb : ∀ x ∈ p, 0 ≤ x ∧ x ≤ 1000000000 := fun x hx => by have := List.all_eq_true.mp hp x hx; unfold okPrize at this; simpa using this
        simp only [c1, hp, decide_false, cond_false, Bool.not_true, rankScores_ok l h, Option.bind_some, hp64, decide_true, Bool.and_self, if_true]
        have hrl : (ranks l).length = l.length := ranks_len l
        have L := loop_fold (fun (s : List (Int × Int)) i => impl_ShareOfPrizes.l1 p ((ranks l).length : Int) (i : Int) s (ranks l)) l (fun s a => s ++ [share l p a]) (fun i s => s.length = i) (fun i s hl hi => by
          refine ⟨?_, by simp [hl]⟩
          rw [impl_ShareOfPrizes.l1_eq]
          have c2 : ((i : Int) < ((ranks l).length : Int)) := by omega
          have hr : (ranks l).getD i 0 = rk l l[i] := by simp [ranks, List.getD_eq_getElem?_getD, hi]
          have hrb := rk_bd l l[i]
          have hmb := many_bd l l[i]
          have hmp := many_pos (List.getElem_mem hi)
          have w1 : IntKind.wrap .i64 (rk l l[i] - 1) = rk l l[i] - 1 := w64 (by omega) (by omega)
          have w2 : IntKind.wrap .i64 (rk l l[i] - 1 + many l l[i]) = rk l l[i] - 1 + many l l[i] := w64 (by omega) (by omega)
          have ho : s.length + 1 ≤ 8796093022208 := by omega
          simp only [c2, Int.natCast_nonneg, decide_true, cond_true, Int.toNat_natCast, hr, equals_ok (ranks l) _ (by omega), many_ranks (List.getElem_mem hi), Option.bind_some, w1]
          obtain ⟨m, hm⟩ : ∃ m : Nat, many l l[i] = m := ⟨(many l l[i]).toNat, by omega⟩
          have S : ∀ (d : Nat) (k : Nat) (sum : Int), (k : Int) + d = rk l l[i] - 1 + many l l[i] → 0 ≤ sum → sum + 1000000000 * d ≤ 1000000000 * 1048576 → sum + prizeSum p k d ≤ 4611686018427387904 →
              impl_ShareOfPrizes.l2 p (rk l l[i]) (many l l[i]) sum (k : Int) ((ranks l).length : Int) (i : Int) s (ranks l) = impl_ShareOfPrizes.l1 p ((ranks l).length : Int) ((i + 1 : Nat) : Int) (s ++ [red (sum + prizeSum p k d) (many l l[i])]) (ranks l) := by
            intro d
            induction d with
            | zero =>
              intro k sum hk h0 h1 h2
              rw [prizeSum_zero, Int.add_zero] at h2 ⊢
              rw [impl_ShareOfPrizes.l2_eq]
              have c3 : ¬ ((k : Int) < rk l l[i] - 1 + many l l[i]) := by omega
              simp only [c3, decide_false, cond_false, decide_true, cond_true, w1, w2, chance_ok sum _ ⟨h0, h2⟩ ⟨hmp, by omega⟩, Option.bind_some, ho, w64s hi (show l.length ≤ 9223372036854775807 by omega)]
            | succ d ih =>
              intro k sum hk h0 h1 h2
              rw [impl_ShareOfPrizes.l2_eq]
              have c3 : ((k : Int) < rk l l[i] - 1 + many l l[i]) := by omega
              by_cases hkp : k < p.length
              · have c4 : ((k : Int) < (p.length : Int)) := by omega
                have hpk := hpb _ (getD_mem hkp 0)
                rw [prizeSum_succ p k d hkp] at h2 ⊢
                have w3 : IntKind.wrap .i64 (sum + p.getD k 0) = sum + p.getD k 0 := w64 (by omega) (by omega)
                have w4 : IntKind.wrap .i64 ((k : Int) + 1) = ((k + 1 : Nat) : Int) := by rw [w64 (by omega) (by omega)]; rfl
                simp only [c3, c4, Int.natCast_nonneg, decide_true, cond_true, Int.toNat_natCast, w1, w2, w3, w4]
                rw [ih (k + 1) (sum + p.getD k 0) (by omega) (by omega) (by omega) (by omega), Int.add_assoc]
              · have c4 : ¬ ((k : Int) < (p.length : Int)) := by omega
                rw [prizeSum_out p k (d + 1) (by omega), Int.add_zero] at h2 ⊢
                simp only [c3, c4, decide_true, decide_false, cond_true, cond_false, w1, w2, chance_ok sum _ ⟨h0, h2⟩ ⟨hmp, by omega⟩, Option.bind_some, ho, w64s hi (show l.length ≤ 9223372036854775807 by omega)]
          obtain ⟨k, hk⟩ : ∃ k : Nat, rk l l[i] - 1 = k := ⟨(rk l l[i] - 1).toNat, by omega⟩
          have hsb := sum_bd p hpb m k
          rw [hk]
          have := S m k 0 (by omega) (by omega) (by omega) (by omega)
          rw [this, Int.zero_add]
          unfold share
          rw [hk, hm]; rfl) [] rfl
        rw [foldl_snoc] at L
        have L := L.1
        simp only [Int.natCast_zero, Int.ofNat_zero, List.nil_append] at L
        rw [L, impl_ShareOfPrizes.l1_eq]
        simp [hrl]
      · simp only [Bool.not_eq_true] at hp
        simp [hp, c1]
    · have c1 : ((p.length : Int) > 64) := by omega
      simp [c1, hp64]
  · rw [if_neg hs]
    simp [hs]

theorem shares_len (l p : List Int) : (shares l p).1.length ≤ l.length := by
  unfold shares
  split
  · split <;> simp
  · simp

/-! What the laws' helpers do with lists of chances. -/
theorem getD_pair {xs : List (Int × Int)} {i : Nat} (h : i < xs.length) (d : Int × Int) : xs.getD i d = xs[i] := by simp [List.getD_eq_getElem?_getD, h]
theorem eqChance_ok (a b : Int × Int) : laws_eqChance.f (a, b) = some (decide (a = b)) := by
  rw [laws_eqChance.eq]
  obtain ⟨a1, a2⟩ := a
  obtain ⟨b1, b2⟩ := b
  by_cases h1 : a1 = b1
  · subst h1
    by_cases h2 : a2 = b2
    · subst h2; simp
    · have : (a2 != b2) = true := by simpa using h2
      simp [this, h2]
  · have : (a1 != b1) = true := by simpa using h1
    simp [this, h1]
theorem eqChanceS_refl (a : List (Int × Int)) (h : a.length ≤ 1048576) : laws_eqChanceS.f (a, a) = some true := by
  have H := loop_any (fun i => laws_eqChanceS.l1 a a (i : Int)) a (fun _ => false) (some false) (fun i hi => by
    rw [laws_eqChanceS.l1_eq]
    simp [hi, eqChance_ok, w64s hi (show a.length ≤ 9223372036854775807 by omega)])
  rw [laws_eqChanceS.eq]
  simp only [Int.natCast_zero, Int.ofNat_zero] at H
  have e : a.any (fun _ => false) = false := by simp
  rw [e] at H
  simp only [Bool.false_eq_true, if_false] at H
  rw [bne_self_eq_false, cond_false, H, laws_eqChanceS.l1_eq]
  simp

def upPairs (k : Int) (n : Nat) : List (Int × Int) := (List.range n).map fun (i : Nat) => (k + 2 * (i : Int), k + 2 * (i : Int) + 1)

theorem markChanceS_ok (a : List (Int × Int)) (k : Int) (h : a.length ≤ 1048576) (hk : 0 ≤ k ∧ k ≤ 4611686018427387904) : laws_markChanceS_1.f (a, k) = some (k + 2 * a.length, upPairs k a.length, ()) := by
  have H := loop_set (fun (s : List (Int × Int)) i => laws_markChanceS_1.l1 (k + 2 * (i : Int)) (i : Int) s) a.length (fun i => (k + 2 * (i : Int), k + 2 * (i : Int) + 1)) (fun s i hs hi => by
    rw [laws_markChanceS_1.l1_eq]
    have e1 : IntKind.wrap .i64 (k + 2 * (i : Int) + 1) = k + 2 * (i : Int) + 1 := w64 (by omega) (by omega)
    have e2 : IntKind.wrap .i64 (k + 2 * (i : Int) + 1 + 1) = k + 2 * ((i + 1 : Nat) : Int) := by rw [w64 (by omega) (by omega)]; omega
    simp only [hs, w64s hi (show a.length ≤ 9223372036854775807 by omega), e1, e2, List.length_set]
    have c : ((i : Int) < (a.length : Int)) := by omega
    have hg : ((s.set i (k + 2 * (i : Int), (s.getD i (0, 0)).2)).getD i (0, 0)).1 = k + 2 * (i : Int) := by simp [List.getD_eq_getElem?_getD, hs, hi]
    simp only [c, Int.natCast_nonneg, decide_true, cond_true, Int.toNat_natCast, hg, List.set_set]) a rfl
  rw [laws_markChanceS_1.eq]
  simp only [Int.natCast_zero, Int.ofNat_zero, Int.mul_zero, Int.add_zero] at H
  rw [H, laws_markChanceS_1.l1_eq]
  simp [upPairs]

theorem heldChanceS_ok (a : List (Int × Int)) (k : Int) (h : a.length ≤ 1048576) (hk : 0 ≤ k ∧ k ≤ 4611686018427387904) : laws_heldChanceS.f (upPairs k a.length, k) = some (k + 2 * a.length) := by
  have H := loop_any (fun i => laws_heldChanceS.l1 (upPairs k a.length) (k + 2 * (i : Int)) (i : Int)) (List.range a.length) (fun i => false) (some 0) (fun i hi => by
    simp only [List.length_range] at hi
    rw [laws_heldChanceS.l1_eq]
    have e1 : IntKind.wrap .i64 (k + 2 * (i : Int) + 1) = k + 2 * (i : Int) + 1 := w64 (by omega) (by omega)
    have e2 : IntKind.wrap .i64 (k + 2 * (i : Int) + 1 + 1) = k + 2 * ((i + 1 : Nat) : Int) := by rw [w64 (by omega) (by omega)]; omega
    have hl : (upPairs k a.length).length = a.length := by simp [upPairs]
    have hg : (upPairs k a.length).getD i (0, 0) = (k + 2 * (i : Int), k + 2 * (i : Int) + 1) := by simp [upPairs, List.getD_eq_getElem?_getD, hi]
    have c : ((i : Int) < (a.length : Int)) := by omega
    simp only [hl, c, Int.natCast_nonneg, decide_true, cond_true, Int.toNat_natCast, hg, bne_self_eq_false, cond_false, w64s hi (show a.length ≤ 9223372036854775807 by omega), e1, e2]
    simp)
  simp only [List.length_range, List.any_eq_true] at H
  rw [laws_heldChanceS.eq]
  simp only [Int.natCast_zero, Int.ofNat_zero, Int.mul_zero, Int.add_zero] at H
  rw [H, laws_heldChanceS.l1_eq]
  simp [upPairs]
end Go.Proofs.Ytkeockkepmljjaa
end

section
namespace Go.Proofs.Ytkeockkepmljjaa
open Go Go.Proofs Pl

theorem getD_at {P R : List Int} {u : Int} {i : Nat} (h : i = P.length) : (P ++ u :: R).getD i 0 = u := by subst h; simp [List.getD_eq_getElem?_getD]
theorem getD_at2 {P Q R : List Int} {u v : Int} {i : Nat} (h : i = P.length + 1 + Q.length) : (P ++ u :: (Q ++ v :: R)).getD i 0 = v := by
  have := getD_at (P := P ++ u :: Q) (R := R) (u := v) (i := i) (by simp; omega)
  simpa using this
theorem set_at {P R : List Int} {u w : Int} {i : Nat} (h : i = P.length) : (P ++ u :: R).set i w = P ++ w :: R := by subst h; simp [List.set_append]
theorem set_at2 {P Q R : List Int} {u v w : Int} {i : Nat} (h : i = P.length + 1 + Q.length) : (P ++ u :: (Q ++ v :: R)).set i w = P ++ u :: (Q ++ w :: R) := by
  have := set_at (P := P ++ u :: Q) (R := R) (u := v) (w := w) (i := i) (by simp; omega)
  simpa using this
theorem getD_at1 {P R : List Int} {u v : Int} {i : Nat} (h : i = P.length + 1) : (P ++ u :: v :: R).getD i 0 = v := getD_at2 (Q := []) (by simpa using h)
theorem set_at1 {P R : List Int} {u v w : Int} {i : Nat} (h : i = P.length + 1) : (P ++ u :: v :: R).set i w = P ++ u :: w :: R := set_at2 (Q := []) (by simpa using h)

theorem wn {n : Nat} (h : n ≤ 4611686018427387904) : IntKind.wrap .i64 (n : Int) = n := w64 (by omega) (by omega)
theorem wadd {m n : Nat} (h : m ≤ 4194304) (h2 : n ≤ 4194304) : IntKind.wrap .i64 ((m : Int) + (n : Int)) = ((m + n : Nat) : Int) := by rw [w64 (by omega) (by omega)]; omega
theorem wsub {m n : Nat} (h : m ≤ 8388608) (h2 : n ≤ m) : IntKind.wrap .i64 ((m : Int) - (n : Int)) = ((m - n : Nat) : Int) := by rw [w64 (by omega) (by omega)]; omega
theorem wadd1 {m : Nat} (h : m ≤ 4194304) : IntKind.wrap .i64 ((m : Int) + 1) = ((m + 1 : Nat) : Int) := by rw [w64 (by omega) (by omega)]; omega
theorem wsub1 {m : Nat} (h : m ≤ 8388608) (h2 : 1 ≤ m) : IntKind.wrap .i64 ((m : Int) - 1) = ((m - 1 : Nat) : Int) := by rw [w64 (by omega) (by omega)]; omega
theorem half {m n : Nat} (h : m ≤ 4194304) (h2 : n ≤ 4194304) : IntKind.wrap .i64 (Int.fdiv (IntKind.wrap .u64 (IntKind.wrap .i64 ((m : Int) + (n : Int)))) ((2 : Int) ^ (min 1 64))) = (((m + n) / 2 : Nat) : Int) := by
  rw [wadd h h2]
  have e1 : IntKind.wrap .u64 ((m + n : Nat) : Int) = ((m + n : Nat) : Int) := by
    simp only [IntKind.wrap, IntKind.signed, IntKind.bits]
    simp
    omega
  rw [e1, show ((2 : Int) ^ (min 1 64)) = 2 from rfl, show Int.fdiv ((m + n : Nat) : Int) 2 = (((m + n) / 2 : Nat) : Int) by rw [Int.fdiv_eq_ediv_of_nonneg _ (by omega)]; omega]
  exact wn (by omega)

theorem swap_loop (K : List Int) (a b n : Nat) (ha : a ≤ 2097152) (hb : b ≤ 2097152) (hn : n ≤ 2097152) : ∀ (U V P Q Y : List Int) (i : Nat), U.length = V.length → i + U.length = n → P.length = a + i → P.length + U.length + Q.length = b + i →
    slices_swapRangeCmpFunc_int64_1.l1 a b n i (P ++ (U ++ (Q ++ (V ++ Y)))) = some ((), P ++ (V ++ (Q ++ (U ++ Y))), ()) := by
  intro U
  induction U with
  | nil =>
    intro V P Q Y i h1 h2 h3 h4
    obtain rfl : V = [] := List.length_eq_zero_iff.mp (by simpa using h1.symm)
    rw [slices_swapRangeCmpFunc_int64_1.l1_eq]
    have : ¬ ((i : Int) < (n : Int)) := by simp at h2; omega
    simp [this]
  | cons u U ih =>
    intro V P Q Y i h1 h2 h3 h4
    match V, h1 with
    | v :: V, h1 =>
    simp only [List.length_cons] at h1 h2 h4
    rw [slices_swapRangeCmpFunc_int64_1.l1_eq]
    have c : ((i : Int) < (n : Int)) := by omega
    have hl : b + i < (P ++ (u :: U ++ (Q ++ (v :: V ++ Y)))).length := by simp; omega
    have c1 : ((b + i : Nat) : Int) < ((P ++ (u :: U ++ (Q ++ (v :: V ++ Y)))).length : Int) := by omega
    have c2 : ((a + i : Nat) : Int) < ((P ++ (u :: U ++ (Q ++ (v :: V ++ Y)))).length : Int) := by omega
    simp only [c, wadd (show a ≤ 4194304 by omega) (show i ≤ 4194304 by omega), wadd (show b ≤ 4194304 by omega) (show i ≤ 4194304 by omega), wadd1 (show i ≤ 4194304 by omega), Int.natCast_nonneg, List.length_set, c1, c2, decide_true, cond_true, Int.toNat_natCast]
    have e0 : P ++ (u :: U ++ (Q ++ (v :: V ++ Y))) = P ++ u :: ((U ++ Q) ++ v :: (V ++ Y)) := by simp
    have i1 : a + i = P.length := by omega
    have i2 : b + i = P.length + 1 + (U ++ Q).length := by simp; omega
    rw [e0, getD_at i1, getD_at2 i2, set_at i1, set_at2 i2]
    have := ih V (P ++ [v]) (Q ++ [u]) Y (i + 1) (by omega) (by omega) (by simp; omega) (by simp; omega)
    simpa using this
theorem swap_ok (K U V P Q Y : List Int) (a b n : Nat) (hD : (P ++ (U ++ (Q ++ (V ++ Y)))).length ≤ 2097152) (h1 : U.length = n) (h2 : V.length = n) (ha : P.length = a) (hb : P.length + U.length + Q.length = b) :
    slices_swapRangeCmpFunc_int64_1.f (P ++ (U ++ (Q ++ (V ++ Y))), (a : Int), (b : Int), (n : Int), K) = some ((), P ++ (V ++ (Q ++ (U ++ Y))), ()) := by
  rw [slices_swapRangeCmpFunc_int64_1.eq]
  simp at hD
  exact swap_loop K a b n (by omega) (by omega) (by omega) U V P Q Y 0 (by omega) (by omega) (by omega) (by omega)

theorem rotate_loop (K : List Int) : ∀ (f : Nat) (X U V Y : List Int) (m i j : Nat), (X ++ (U ++ (V ++ Y))).length ≤ 2097152 → U.length + V.length ≤ f → U.length = i → V.length = j → 0 < i → 0 < j → m = X.length + i →
    slices_rotateCmpFunc_int64_1.l1 m K i j (X ++ (U ++ (V ++ Y))) = some ((), X ++ (V ++ (U ++ Y)), ()) := by
  intro f
  induction f with
  | zero => intro X U V Y m i j h0 h1 h2 h3 h4 h5 h6; omega
  | succ f ih =>
    intro X U V Y m i j h0 h1 h2 h3 h4 h5 h6
    rw [slices_rotateCmpFunc_int64_1.l1_eq]
    have hD := h0
    simp at hD
    simp only [slices_rotateCmpFunc_int64_1.l2_eq]
    have wmi := wsub (m := m) (n := i) (by omega) (by omega)
    by_cases hij : i = j
    · have c : ((i : Int) != (j : Int)) = false := by simp [hij]
      have := swap_ok K U V X [] Y (m - i) m i (by simpa using h0) h2 (by omega) (by omega) (by simp; omega)
      simp only [List.nil_append] at this
      simp only [c, cond_false, wmi, this, Option.bind_some]
    · have c : ((i : Int) != (j : Int)) = true := by simp; omega
      simp only [c, cond_true]
      by_cases hgt : i > j
      · have c2 : ((i : Int) > (j : Int)) := by omega
        obtain ⟨U1, U2, rfl, hU1⟩ : ∃ U1 U2, U = U1 ++ U2 ∧ U1.length = j := ⟨U.take j, U.drop j, by simp, by simp; omega⟩
        simp only [List.length_append] at h1 h2 hD
        have := swap_ok K U1 V X U2 Y (m - i) m j (by simp; omega) hU1 h3 (by omega) (by omega)
        have e0 : X ++ (U1 ++ U2 ++ (V ++ Y)) = X ++ (U1 ++ (U2 ++ (V ++ Y))) := by simp
        simp only [c2, decide_true, cond_true, wmi, e0, this, Option.bind_some, wsub (show i ≤ 8388608 by omega) (show j ≤ i by omega)]
        have r := ih (X ++ V) U2 U1 Y m (i - j) j (by simp; omega) (by omega) (by omega) (by omega) (by omega) (by omega) (by simp; omega)
        simpa using r
      · have c2 : ¬ ((i : Int) > (j : Int)) := by omega
        obtain ⟨V1, V2, rfl, hV2⟩ : ∃ V1 V2, V = V1 ++ V2 ∧ V2.length = i := ⟨V.take (j - i), V.drop (j - i), by simp, by simp; omega⟩
        simp only [List.length_append] at h1 h3 hD
        have := swap_ok K U V2 X V1 Y (m - i) (m + j - i) i (by simp; omega) h2 hV2 (by omega) (by omega)
        have e0 : X ++ (U ++ (V1 ++ V2 ++ Y)) = X ++ (U ++ (V1 ++ (V2 ++ Y))) := by simp
        simp only [c2, decide_false, cond_false, wmi, wadd (show m ≤ 4194304 by omega) (show j ≤ 4194304 by omega), wsub (show m + j ≤ 8388608 by omega) (show i ≤ m + j by omega), e0, this, Option.bind_some, wsub (show j ≤ 8388608 by omega) (show i ≤ j by omega)]
        have r := ih X V2 V1 (U ++ Y) m i (j - i) (by simp; omega) (by omega) (by omega) (by omega) (by omega) (by omega) (by omega)
        simpa using r
theorem rotate_ok (K X U V Y : List Int) (a m b : Nat) (hD : (X ++ (U ++ (V ++ Y))).length ≤ 2097152) (hU : U ≠ []) (hV : V ≠ []) (ha : a = X.length) (hm : m = a + U.length) (hb : b = m + V.length) :
    slices_rotateCmpFunc_int64_1.f (X ++ (U ++ (V ++ Y)), (a : Int), (m : Int), (b : Int), K) = some ((), X ++ (V ++ (U ++ Y)), ()) := by
  rw [slices_rotateCmpFunc_int64_1.eq]
  have h1 := List.length_pos_iff.mpr hU
  have h2 := List.length_pos_iff.mpr hV
  have hD' := hD
  simp at hD'
  rw [wsub (by omega) (by omega), wsub (by omega) (by omega)]
  exact rotate_loop K _ X U V Y m (m - a) (b - m) hD (Nat.le_refl _) (by omega) (by omega) (by omega) (by omega) (by omega)
end Go.Proofs.Ytkeockkepmljjaa
end

section
namespace Go.Proofs.Ytkeockkepmljjaa
open Go Go.Proofs Pl

def key (K : List Int) (x : Int) : Int := K.getD x.toNat 0
def OkK (K : List Int) : Prop := K.length ≤ 2097152 ∧ ∀ k ∈ K, 0 ≤ k ∧ k ≤ 2097152
def In (K : List Int) (x : Int) : Prop := 0 ≤ x ∧ x < (K.length : Int)
def InL (K : List Int) (l : List Int) : Prop := ∀ x ∈ l, In K x
def Lt (K : List Int) (x y : Int) : Prop := key K x < key K y ∨ (key K x = key K y ∧ x < y)
def So (K : List Int) (l : List Int) : Prop := l.Pairwise (Lt K)
theorem Lt.trans {K : List Int} {x y z : Int} (h : Lt K x y) (h2 : Lt K y z) : Lt K x z := by unfold Lt at *; omega

theorem key_bd {K : List Int} (hK : OkK K) {x : Int} (hx : In K x) : 0 ≤ key K x ∧ key K x ≤ 2097152 := by
  obtain ⟨h1, h2⟩ := hx
  exact hK.2 _ (getD_mem (by omega) 0)

theorem cmp_ok {K : List Int} (hK : OkK K) {x y : Int} (hx : In K x) (hy : In K y) : impl_RankOrder_1.f (x, y, K) = some (key K x - key K y) := by
  rw [impl_RankOrder_1.eq]
  have b1 := key_bd hK hx
  have b2 := key_bd hK hy
  unfold key at b1 b2 ⊢
  have w : IntKind.wrap .i64 (K.getD x.toNat 0 - K.getD y.toNat 0) = K.getD x.toNat 0 - K.getD y.toNat 0 := w64 (by omega) (by omega)
  simp only [hx.1, hx.2, hy.1, hy.2, decide_true, cond_true, w]

/-- Two sorted parts, joined. -/
theorem So.glue {K U V : List Int} (hU : So K U) (hV : So K V) (h : ∀ u v, U.getLast? = some u → V.head? = some v → Lt K u v) : ∀ u ∈ U, ∀ v ∈ V, Lt K u v := by
  intro u hu v hv
  rcases List.eq_nil_or_concat U with rfl | ⟨U', u', rfl⟩
  · simp at hu
  match V, hv with
  | v' :: V', hv =>
    have h0 : Lt K u' v' := h u' v' (by simp) rfl
    have h1 : u = u' ∨ Lt K u u' := by
      simp only [List.concat_eq_append, List.mem_append, List.mem_singleton] at hu
      rcases hu with hu | hu
      · unfold So at hU
        rw [List.concat_eq_append, List.pairwise_append] at hU
        exact .inr (hU.2.2 u hu u' (by simp))
      · exact .inl hu
    have h2 : v = v' ∨ Lt K v' v := by
      rcases List.mem_cons.mp hv with hv | hv
      · exact .inl hv
      · exact .inr ((List.pairwise_cons.mp hV).1 v hv)
    rcases h1 with rfl | h1 <;> rcases h2 with rfl | h2
    · exact h0
    · exact h0.trans h2
    · exact h1.trans h0
    · exact (h1.trans h0).trans h2
theorem So.join {K U V : List Int} (hU : So K U) (hV : So K V) (h : ∀ u v, U.getLast? = some u → V.head? = some v → Lt K u v) : So K (U ++ V) :=
  List.pairwise_append.mpr ⟨hU, hV, hU.glue hV h⟩

/-! insertion -/
theorem ins_loop {K : List Int} (hK : OkK K) (X Y : List Int) (t : Int) (a b i : Nat) (ha : a = X.length) : ∀ (n : Nat) (S1 S2 : List Int), S1.length = n → (X ++ (S1 ++ t :: (S2 ++ Y))).length ≤ 2097152 →
    So K (S1 ++ S2) → InL K (S1 ++ S2) → In K t → (∀ s ∈ S1 ++ S2, s < t) → (∀ v, S2.head? = some v → Lt K t v) → i ≤ 2097152 →
    ∃ S, slices_insertionSortCmpFunc_int64_1.l2 a b K i ((a + S1.length : Nat) : Int) (X ++ (S1 ++ t :: (S2 ++ Y))) = slices_insertionSortCmpFunc_int64_1.l1 a b K ((i + 1 : Nat) : Int) (X ++ (S ++ Y)) ∧ So K S ∧ S.Perm (S1 ++ t :: S2) := by
  intro n
  induction n with
  | zero =>
    intro S1 S2 hn hD hS hG hx hs h2 hi
    obtain rfl : S1 = [] := List.length_eq_zero_iff.mp hn
    refine ⟨t :: S2, ?_, ?_, by simp⟩
    · rw [slices_insertionSortCmpFunc_int64_1.l2_eq]
      have c : ¬ (((a + ([] : List Int).length : Nat) : Int) > (a : Int)) := by simp
      simp only [c, decide_false, cond_false, wadd1 (show i ≤ 4194304 by omega)]
      simp
    · exact So.join (U := [t]) (List.pairwise_singleton _ _) (by simpa using hS) (fun u v hu hv => by simp at hu; subst hu; exact h2 v hv)
  | succ n ih =>
    intro S1 S2 hn hD hS hG hx hs h2 hi
    rcases List.eq_nil_or_concat S1 with rfl | ⟨S1', s, rfl⟩
    · simp at hn
    rw [List.concat_eq_append] at *
    have hn' : S1'.length = n := by simpa using hn
    simp only [List.append_assoc, List.singleton_append, List.length_append, List.length_cons] at hD hS hG hs
    have hgs : In K s := hG s (by simp)
    have hst : s < t := hs s (by simp)
    rw [slices_insertionSortCmpFunc_int64_1.l2_eq]
    have e0 : X ++ (S1' ++ [s] ++ t :: (S2 ++ Y)) = (X ++ S1') ++ s :: t :: (S2 ++ Y) := by simp
    have i0 : a + S1'.length = (X ++ S1').length := by simp; omega
    have i1 : a + (S1' ++ [s]).length = (X ++ S1').length + 1 := by simp; omega
    have wj : IntKind.wrap .i64 (((a + (S1' ++ [s]).length : Nat) : Int) - 1) = ((a + S1'.length : Nat) : Int) := by rw [wsub1 (by simp; omega) (by simp; omega)]; simp
    have c : (((a + (S1' ++ [s]).length : Nat) : Int) > (a : Int)) := by simp; omega
    have c1 : (((a + (S1' ++ [s]).length : Nat) : Int) < (((X ++ S1') ++ s :: t :: (S2 ++ Y)).length : Int)) := by simp; omega
    have c2 : (((a + S1'.length : Nat) : Int) < (((X ++ S1') ++ s :: t :: (S2 ++ Y)).length : Int)) := by simp; omega
    simp only [e0, wj, c, c1, c2, Int.natCast_nonneg, List.length_set, decide_true, cond_true, Int.toNat_natCast, getD_at i0, getD_at1 i1, cmp_ok hK hx hgs, Option.bind_some]
    rw [set_at1 i1, set_at i0]
    by_cases hlt : key K t < key K s
    · have c3 : key K t - key K s < 0 := by omega
      simp only [c3, decide_true, cond_true]
      obtain ⟨S, e, q1, q2⟩ := ih S1' (s :: S2) hn' (by simp; omega) hS hG hx hs (fun v hv => by simp at hv; subst hv; exact .inl hlt) hi
      refine ⟨S, ?_, q1, q2.trans ?_⟩
      · rw [← e]; simp
      · simp only [List.append_assoc, List.singleton_append]
        exact List.Perm.append_left _ (List.Perm.swap ..)
    · have c3 : ¬ (key K t - key K s < 0) := by omega
      simp only [c3, decide_false, cond_false, wadd1 (show i ≤ 4194304 by omega)]
      have hS' := List.pairwise_append.mp (show (S1' ++ [s] ++ S2).Pairwise (Lt K) by rw [List.append_assoc]; exact hS)
      refine ⟨S1' ++ [s] ++ t :: S2, by simp, ?_, List.Perm.refl _⟩
      refine So.join hS'.1 (So.join (U := [t]) (List.pairwise_singleton _ _) hS'.2.1 (fun u v hu hv => by simp at hu; subst hu; exact h2 v hv)) (fun u v hu hv => ?_)
      simp at hu hv
      subst hu hv
      unfold Lt; omega

theorem insert_loop {K : List Int} (hK : OkK K) (X Y : List Int) (a b : Nat) (ha : a = X.length) : ∀ (T S : List Int), (X ++ (S ++ (T ++ Y))).length ≤ 2097152 → b = a + S.length + T.length →
    So K S → InL K (S ++ T) → T.Pairwise (· < ·) → (∀ s ∈ S, ∀ t ∈ T, s < t) →
    ∃ S', slices_insertionSortCmpFunc_int64_1.l1 a b K ((a + S.length : Nat) : Int) (X ++ (S ++ (T ++ Y))) = some ((), X ++ (S' ++ Y), ()) ∧ So K S' ∧ S'.Perm (S ++ T) := by
  intro T
  induction T with
  | nil =>
    intro S hD hb hS hG hT hst
    refine ⟨S, ?_, hS, by simp⟩
    rw [slices_insertionSortCmpFunc_int64_1.l1_eq]
    have c : ¬ (((a + S.length : Nat) : Int) < (b : Int)) := by simp at hb; omega
    simp only [c, decide_false, cond_false, List.nil_append]
  | cons t T ih =>
    intro S hD hb hS hG hT hst
    have hD' := hD
    simp at hD' hb
    rw [slices_insertionSortCmpFunc_int64_1.l1_eq]
    have c : (((a + S.length : Nat) : Int) < (b : Int)) := by omega
    simp only [c, decide_true, cond_true]
    obtain ⟨hT1, hT2⟩ := List.pairwise_cons.mp hT
    obtain ⟨S1, e, q1, q2⟩ := ins_loop hK X (T ++ Y) t a b (a + S.length) ha S.length S [] rfl (by simp; omega) (by simpa using hS) (fun x hx => hG x (by simp at hx; simp [hx])) (hG t (by simp)) (fun s hs => hst s (by simpa using hs) t (by simp)) (fun v hv => by simp at hv) (by omega)
    have hm : ∀ x, x ∈ S1 ↔ x ∈ S ∨ x = t := fun x => by rw [q2.mem_iff]; simp
    have hl : S1.length = S.length + 1 := by rw [q2.length_eq]; simp
    obtain ⟨S2, e2, r1, r2⟩ := ih S1 (by simp; omega) (by omega) q1 (fun x hx => hG x (by simp [hm] at hx; simp; rcases hx with (hx | hx) | hx <;> simp [hx])) hT2 (fun s hs y hy => by
      rcases (hm s).mp hs with h | h
      · exact hst s h y (by simp [hy])
      · subst h; exact hT1 y hy)
    refine ⟨S2, ?_, r1, r2.trans ((q2.append_right T).trans (by simp))⟩
    rw [hl, show a + (S.length + 1) = a + S.length + 1 by omega] at e2
    simp only [List.nil_append] at e
    rw [show X ++ (S ++ (t :: T ++ Y)) = X ++ (S ++ t :: (T ++ Y)) by simp, e, e2]

theorem insert_ok {K : List Int} (hK : OkK K) (X T Y : List Int) (a b : Nat) (ha : a = X.length) (hD : (X ++ (T ++ Y)).length ≤ 2097152) (hb : b = a + T.length) (hG : InL K T) (hT : T.Pairwise (· < ·)) :
    ∃ S, slices_insertionSortCmpFunc_int64_1.f (X ++ (T ++ Y), (a : Int), (b : Int), K) = some ((), X ++ (S ++ Y), ()) ∧ So K S ∧ S.Perm T := by
  rw [slices_insertionSortCmpFunc_int64_1.eq]
  have hD' := hD
  simp at hD'
  rw [wadd1 (show a ≤ 4194304 by omega)]
  match T, hT with
  | [], _ =>
    refine ⟨[], ?_, List.Pairwise.nil, by simp⟩
    rw [slices_insertionSortCmpFunc_int64_1.l1_eq]
    have c : ¬ (((a + 1 : Nat) : Int) < (b : Int)) := by simp at hb; omega
    simp only [c, decide_false, cond_false]
  | t :: T, hT =>
    obtain ⟨h1, h2⟩ := List.pairwise_cons.mp hT
    obtain ⟨S, e, q1, q2⟩ := insert_loop hK X Y a b ha T [t] (by simpa using hD) (by simp at hb ⊢; omega) (List.pairwise_singleton _ _) (by simpa using hG) h2 (fun s hs y hy => by simp at hs; subst hs; exact h1 y hy)
    exact ⟨S, by simpa using e, q1, by simpa using q2⟩
end Go.Proofs.Ytkeockkepmljjaa
end

section
namespace Go.Proofs.Ytkeockkepmljjaa
open Go Go.Proofs Pl

theorem bsearch {β : Type} (F : Nat → Nat → β) (p : Nat → Bool) (i0 j0 : Nat) (hF : ∀ i j, i0 ≤ i → i < j → j ≤ j0 → F i j = if p ((i + j) / 2) = true then F ((i + j) / 2 + 1) j else F i ((i + j) / 2)) :
    ∀ (d i j : Nat), j - i ≤ d → i0 ≤ i → i ≤ j → j ≤ j0 → (i = i0 ∨ p (i - 1) = true) → (j = j0 ∨ p j = false) → ∃ s, i0 ≤ s ∧ s ≤ j0 ∧ F i j = F s s ∧ (s = i0 ∨ p (s - 1) = true) ∧ (s = j0 ∨ p s = false) := by
  intro d
  induction d with
  | zero =>
    intro i j h1 h2 h3 h4 h5 h6
    obtain rfl : i = j := by omega
    exact ⟨i, h2, h4, rfl, h5, h6⟩
  | succ d ih =>
    intro i j h1 h2 h3 h4 h5 h6
    by_cases hij : i = j
    · subst hij; exact ⟨i, h2, h4, rfl, h5, h6⟩
    · rw [hF i j h2 (by omega) h4]
      cases hp : p ((i + j) / 2) with
      | true =>
        rw [if_pos rfl]
        exact ih _ _ (by omega) (by omega) (by omega) h4 (.inr (by simpa using hp)) h6
      | false =>
        rw [if_neg (by simp)]
        exact ih _ _ (by omega) h2 (by omega) (by omega) h5 (.inr hp)

theorem mem_mid {X M Y : List Int} {t : Nat} (h1 : X.length ≤ t) (h2 : t < X.length + M.length) : (X ++ (M ++ Y)).getD t 0 ∈ M := by
  rw [List.getD_eq_getElem?_getD, List.getElem?_append_right h1, List.getElem?_append_left (by omega), List.getElem?_eq_getElem (by omega)]
  simp
theorem getD_split {D P R : List Int} {u : Int} {i : Nat} (h : D = P ++ u :: R) (hi : i = P.length) : D.getD i 0 = u := by subst h; exact getD_at hi

theorem l5_loop (R : List Int) (x : Int) : ∀ (B P : List Int) (s k : Nat), k = P.length → s = k + 1 + B.length → (P ++ x :: (B ++ R)).length ≤ 2097152 →
    slices_symMergeCmpFunc_int64_1.l5 s k (P ++ x :: (B ++ R)) = some ((), P ++ (B ++ x :: R), ()) := by
  intro B
  induction B with
  | nil =>
    intro P s k h1 h2 h3
    simp at h2 h3
    rw [slices_symMergeCmpFunc_int64_1.l5_eq, wsub1 (by omega) (by omega)]
    have c : ¬ ((k : Int) < ((s - 1 : Nat) : Int)) := by omega
    simp only [c, decide_false, cond_false, List.nil_append]
  | cons v B ih =>
    intro P s k h1 h2 h3
    simp at h2 h3
    rw [slices_symMergeCmpFunc_int64_1.l5_eq, wsub1 (by omega) (by omega)]
    have c : ((k : Int) < ((s - 1 : Nat) : Int)) := by omega
    have c1 : ((k : Int) < ((P ++ x :: (v :: B ++ R)).length : Int)) := by simp; omega
    have c2 : (((k + 1 : Nat) : Int) < ((P ++ x :: (v :: B ++ R)).length : Int)) := by simp; omega
    simp only [c, c1, c2, wadd1 (show k ≤ 4194304 by omega), Int.natCast_nonneg, List.length_set, decide_true, cond_true, Int.toNat_natCast]
    rw [List.cons_append, getD_at h1, getD_at1 (by omega), set_at h1, set_at1 (by omega)]
    have := ih (P ++ [v]) s (k + 1) (by simp; omega) (by omega) (by simp; omega)
    simpa using this

theorem l7_loop (P : List Int) (y : Int) : ∀ (n : Nat) (A R : List Int) (i k : Nat), A.length = n → i = P.length → k = i + A.length → (P ++ (A ++ y :: R)).length ≤ 2097152 →
    slices_symMergeCmpFunc_int64_1.l7 i k (P ++ (A ++ y :: R)) = some ((), P ++ y :: (A ++ R), ()) := by
  intro n
  induction n with
  | zero =>
    intro A R i k h0 h1 h2 h3
    obtain rfl : A = [] := List.length_eq_zero_iff.mp h0
    simp at h2
    rw [slices_symMergeCmpFunc_int64_1.l7_eq]
    have c : ¬ ((k : Int) > (i : Int)) := by omega
    simp only [c, decide_false, cond_false, List.nil_append]
  | succ n ih =>
    intro A R i k h0 h1 h2 h3
    rcases List.eq_nil_or_concat A with rfl | ⟨A', v, rfl⟩
    · simp at h0
    rw [List.concat_eq_append] at *
    simp at h0 h2 h3
    rw [slices_symMergeCmpFunc_int64_1.l7_eq]
    have e0 : P ++ (A' ++ [v] ++ y :: R) = (P ++ A') ++ v :: y :: R := by simp
    have i0 : k - 1 = (P ++ A').length := by simp; omega
    have i1 : k = (P ++ A').length + 1 := by simp; omega
    have c : ((k : Int) > (i : Int)) := by omega
    have c1 : ((k : Int) < (((P ++ A') ++ v :: y :: R).length : Int)) := by simp; omega
    have c2 : (((k - 1 : Nat) : Int) < (((P ++ A') ++ v :: y :: R).length : Int)) := by simp; omega
    simp only [e0, c, c1, c2, wsub1 (show k ≤ 8388608 by omega) (by omega), Int.natCast_nonneg, List.length_set, decide_true, cond_true, Int.toNat_natCast]
    rw [getD_at i0, getD_at1 i1, set_at1 i1, set_at i0]
    have := ih A' (v :: R) i (k - 1) h0 h1 (by omega) (by simp; omega)
    simpa using this

theorem merge_one {K : List Int} (hK : OkK K) (X B Y : List Int) (x : Int) (a m b : Nat) (ha : a = X.length) (hm : m = a + 1) (hb : b = m + B.length) (hD : (X ++ x :: (B ++ Y)).length ≤ 2097152)
    (hB : So K B) (hx : In K x) (hGB : InL K B) (hlt : ∀ y ∈ B, x < y) :
    ∃ C, slices_symMergeCmpFunc_int64_1.l1 a K m b (X ++ x :: (B ++ Y)) = some ((), X ++ (C ++ Y), ()) ∧ So K C ∧ C.Perm (x :: B) := by
  have hD' := hD
  simp at hD'
  have hgx : (X ++ x :: (B ++ Y)).getD a 0 = x := getD_at ha
  have hgb : ∀ t, m ≤ t → t < b → (X ++ x :: (B ++ Y)).getD t 0 ∈ B := fun t h1 h2 => by
    have := mem_mid (X := X ++ [x]) (M := B) (Y := Y) (t := t) (by simp; omega) (by simp; omega)
    simpa using this
  obtain ⟨s, h1, h2, e, h3, h4⟩ := bsearch (fun i j => slices_symMergeCmpFunc_int64_1.l1 a K i j (X ++ x :: (B ++ Y))) (fun h => decide (key K ((X ++ x :: (B ++ Y)).getD h 0) < key K x)) m b (fun i j q1 q2 q3 => by
    rw [slices_symMergeCmpFunc_int64_1.l1_eq]
    have c : ((i : Int) < (j : Int)) := by omega
    have c1 : ((((i + j) / 2 : Nat) : Int) < ((X ++ x :: (B ++ Y)).length : Int)) := by simp; omega
    have c2 : ((a : Int) < ((X ++ x :: (B ++ Y)).length : Int)) := by simp; omega
    have g := hGB _ (hgb ((i + j) / 2) (by omega) (by omega))
    simp only [c, half (show i ≤ 4194304 by omega) (show j ≤ 4194304 by omega), c1, c2, Int.natCast_nonneg, decide_true, cond_true, Int.toNat_natCast, hgx, cmp_ok hK g hx, Option.bind_some, slices_symMergeCmpFunc_int64_1.l4_eq, wadd1 (show (i + j) / 2 ≤ 4194304 by omega)]
    by_cases hc : key K ((X ++ x :: (B ++ Y)).getD ((i + j) / 2) 0) < key K x
    · have : key K ((X ++ x :: (B ++ Y)).getD ((i + j) / 2) 0) - key K x < 0 := by omega
      simp only [this, hc, decide_true, cond_true, if_true]
    · have : ¬ (key K ((X ++ x :: (B ++ Y)).getD ((i + j) / 2) 0) - key K x < 0) := by omega
      simp only [this, hc, decide_false, cond_false, Bool.false_eq_true, if_false]) (b - m) m b (by omega) (by omega) (by omega) (by omega) (.inl rfl) (.inl rfl)
  rw [e, slices_symMergeCmpFunc_int64_1.l1_eq]
  simp only [Int.lt_irrefl, decide_false, cond_false]
  obtain ⟨B1, B2, rfl, hl⟩ : ∃ B1 B2, B = B1 ++ B2 ∧ B1.length = s - m := ⟨B.take (s - m), B.drop (s - m), by simp, by simp; omega⟩
  have L := l5_loop (B2 ++ Y) x B1 X s a ha (by omega) (by simp; simp at hD'; omega)
  refine ⟨B1 ++ x :: B2, ?_, ?_, List.perm_middle⟩
  · simpa using L
  · obtain ⟨p1, p2, p3⟩ := List.pairwise_append.mp hB
    refine So.join p1 (So.join (U := [x]) (List.pairwise_singleton _ _) p2 (fun u v hu hv => ?_)) (fun u v hu hv => ?_)
    · simp at hu; subst hu
      obtain ⟨B3, rfl⟩ := List.head?_eq_some_iff.mp hv
      have hlv := hlt v (by simp)
      have g : (X ++ x :: (B1 ++ v :: B3 ++ Y)).getD s 0 = v := getD_split (P := X ++ x :: B1) (R := B3 ++ Y) (by simp) (by simp; omega)
      rcases h4 with h4 | h4
      · simp at hb; omega
      · rw [g] at h4
        have : ¬ (key K v < key K x) := by simpa using h4
        unfold Lt; omega
    · simp at hv; subst hv
      obtain ⟨B3, rfl⟩ := List.getLast?_eq_some_iff.mp hu
      simp at hl
      have g : (X ++ x :: (B3 ++ [u] ++ B2 ++ Y)).getD (s - 1) 0 = u := getD_split (P := X ++ x :: B3) (R := B2 ++ Y) (by simp) (by simp; omega)
      rcases h3 with h3 | h3
      · omega
      · rw [g] at h3
        exact .inl (by simpa using h3)

theorem merge_last {K : List Int} (hK : OkK K) (X A Y : List Int) (y : Int) (a m : Nat) (ha : a = X.length) (hm : m = a + A.length) (hD : (X ++ (A ++ y :: Y)).length ≤ 2097152)
    (hA : So K A) (hy : In K y) (hGA : InL K A) (hlt : ∀ x ∈ A, x < y) :
    ∃ C, slices_symMergeCmpFunc_int64_1.l2 m K a m (X ++ (A ++ y :: Y)) = some ((), X ++ (C ++ Y), ()) ∧ So K C ∧ C.Perm (A ++ [y]) := by
  have hD' := hD
  simp at hD'
  have hgy : (X ++ (A ++ y :: Y)).getD m 0 = y := getD_split (P := X ++ A) (R := Y) (by simp) (by simp; omega)
  have hga : ∀ t, a ≤ t → t < m → (X ++ (A ++ y :: Y)).getD t 0 ∈ A := fun t h1 h2 => mem_mid (by omega) (by omega)
  obtain ⟨s, h1, h2, e, h3, h4⟩ := bsearch (fun i j => slices_symMergeCmpFunc_int64_1.l2 m K i j (X ++ (A ++ y :: Y))) (fun h => !decide (key K y < key K ((X ++ (A ++ y :: Y)).getD h 0))) a m (fun i j q1 q2 q3 => by
    rw [slices_symMergeCmpFunc_int64_1.l2_eq]
    have c : ((i : Int) < (j : Int)) := by omega
    have c1 : ((((i + j) / 2 : Nat) : Int) < ((X ++ (A ++ y :: Y)).length : Int)) := by simp; omega
    have c2 : ((m : Int) < ((X ++ (A ++ y :: Y)).length : Int)) := by simp; omega
    have g := hGA _ (hga ((i + j) / 2) (by omega) (by omega))
    simp only [c, half (show i ≤ 4194304 by omega) (show j ≤ 4194304 by omega), c1, c2, Int.natCast_nonneg, decide_true, cond_true, Int.toNat_natCast, hgy, cmp_ok hK hy g, Option.bind_some, slices_symMergeCmpFunc_int64_1.l6_eq, wadd1 (show (i + j) / 2 ≤ 4194304 by omega)]
    by_cases hc : key K y < key K ((X ++ (A ++ y :: Y)).getD ((i + j) / 2) 0)
    · have : key K y - key K ((X ++ (A ++ y :: Y)).getD ((i + j) / 2) 0) < 0 := by omega
      simp only [this, hc, decide_true, Bool.not_true, cond_false, Bool.false_eq_true, if_false]
    · have : ¬ (key K y - key K ((X ++ (A ++ y :: Y)).getD ((i + j) / 2) 0) < 0) := by omega
      simp only [this, hc, decide_false, Bool.not_false, cond_true, if_true]) (m - a) a m (by omega) (by omega) (by omega) (by omega) (.inl rfl) (.inl rfl)
  rw [e, slices_symMergeCmpFunc_int64_1.l2_eq]
  simp only [Int.lt_irrefl, decide_false, cond_false]
  obtain ⟨A1, A2, rfl, hl⟩ : ∃ A1 A2, A = A1 ++ A2 ∧ A1.length = s - a := ⟨A.take (s - a), A.drop (s - a), by simp, by simp; omega⟩
  simp at hm hD'
  have L := l7_loop (X ++ A1) y A2.length A2 Y s m rfl (by simp; omega) (by omega) (by simp; omega)
  refine ⟨A1 ++ y :: A2, ?_, ?_, ?_⟩
  · simpa using L
  · obtain ⟨p1, p2, p3⟩ := List.pairwise_append.mp hA
    refine So.join p1 (So.join (U := [y]) (List.pairwise_singleton _ _) p2 (fun u v hu hv => ?_)) (fun u v hu hv => ?_)
    · simp at hu; subst hu
      obtain ⟨A3, rfl⟩ := List.head?_eq_some_iff.mp hv
      have g : (X ++ (A1 ++ v :: A3 ++ y :: Y)).getD s 0 = v := getD_split (P := X ++ A1) (R := A3 ++ y :: Y) (by simp) (by simp; omega)
      rcases h4 with h4 | h4
      · simp at hm; omega
      · rw [g] at h4
        exact .inl (by simpa using h4)
    · simp at hv; subst hv
      obtain ⟨A3, rfl⟩ := List.getLast?_eq_some_iff.mp hu
      simp at hl
      have hlu := hlt u (by simp)
      have g : (X ++ (A3 ++ [u] ++ A2 ++ y :: Y)).getD (s - 1) 0 = u := getD_split (P := X ++ A3) (R := A2 ++ y :: Y) (by simp) (by simp; omega)
      rcases h3 with h3 | h3
      · omega
      · rw [g] at h3
        have : ¬ (key K y < key K u) := by simpa using h3
        unfold Lt; omega
  · rw [List.append_assoc]
    exact List.Perm.append_left _ (List.perm_append_comm (l₁ := [y]) (l₂ := A2))
end Go.Proofs.Ytkeockkepmljjaa
end

section
namespace Go.Proofs.Ytkeockkepmljjaa
open Go Go.Proofs Pl

theorem last_at {X A R D : List Int} {u : Int} {i : Nat} (hu : A.getLast? = some u) (hD : D = X ++ (A ++ R)) (hi : i + 1 = X.length + A.length) : D.getD i 0 = u := by
  obtain ⟨A', rfl⟩ := List.getLast?_eq_some_iff.mp hu
  exact getD_split (P := X ++ A') (R := R) (by simp [hD]) (by simp at hi ⊢; omega)
theorem head_at {X A R D : List Int} {u : Int} {i : Nat} (hu : A.head? = some u) (hD : D = X ++ (A ++ R)) (hi : i = X.length) : D.getD i 0 = u := by
  obtain ⟨A', rfl⟩ := List.head?_eq_some_iff.mp hu
  exact getD_split (P := X) (R := A' ++ R) (by simp [hD]) hi
theorem last_mem {A : List Int} {u : Int} (hu : A.getLast? = some u) : u ∈ A := List.mem_of_getLast? hu
theorem head_mem {A : List Int} {u : Int} (hu : A.head? = some u) : u ∈ A := List.mem_of_head? hu

theorem merge_ok {K : List Int} (hK : OkK K) : ∀ (f : Nat) (X A B Y : List Int) (a m b : Nat), A.length + B.length ≤ f → A ≠ [] → B ≠ [] → a = X.length → m = a + A.length → b = m + B.length → (X ++ (A ++ (B ++ Y))).length ≤ 2097152 →
    So K A → So K B → InL K A → InL K B → (∀ x ∈ A, ∀ y ∈ B, x < y) →
    ∃ C, slices_symMergeCmpFunc_int64_1.f (X ++ (A ++ (B ++ Y)), (a : Int), (m : Int), (b : Int), K) = some ((), X ++ (C ++ Y), ()) ∧ So K C ∧ C.Perm (A ++ B) := by
  intro f
  induction f with
  | zero =>
    intro X A B Y a m b h0 hA0
    have := List.length_pos_iff.mpr hA0
    omega
  | succ f ih =>
    intro X A B Y a m b h0 hA0 hB0 ha hm hb hD hA hB hGA hGB hlt
    have hA1 := List.length_pos_iff.mpr hA0
    have hB1 := List.length_pos_iff.mpr hB0
    have hD' := hD
    simp at hD'
    rw [slices_symMergeCmpFunc_int64_1.eq, wsub (show m ≤ 8388608 by omega) (by omega)]
    by_cases c1 : m - a = 1
    · -- the first part is one value
      obtain ⟨x, rfl⟩ : ∃ x, A = [x] := List.length_eq_one_iff.mp (by omega)
      have : ((((m - a : Nat) : Int) == 1)) = true := by simp [c1]
      simp only [this, cond_true]
      obtain ⟨C, e, q1, q2⟩ := merge_one hK X B Y x a m b ha (by omega) hb (by simpa using hD) hB (hGA x (by simp)) hGB (fun y hy => hlt x (by simp) y hy)
      exact ⟨C, by simpa using e, q1, by simpa using q2⟩
    have n1 : ((((m - a : Nat) : Int) == 1)) = false := by simp; omega
    simp only [n1, cond_false]
    rw [wsub (show b ≤ 8388608 by omega) (by omega)]
    by_cases c2 : b - m = 1
    · obtain ⟨y, rfl⟩ : ∃ y, B = [y] := List.length_eq_one_iff.mp (by omega)
      have : ((((b - m : Nat) : Int) == 1)) = true := by simp [c2]
      simp only [this, cond_true]
      obtain ⟨C, e, q1, q2⟩ := merge_last hK X A Y y a m ha hm (by simpa using hD) hA (hGB y (by simp)) hGA (fun x hx => hlt x hx y (by simp))
      exact ⟨C, by simpa using e, q1, q2⟩
    have n2 : ((((b - m : Nat) : Int) == 1)) = false := by simp; omega
    simp only [n2, cond_false]
    rw [half (show a ≤ 4194304 by omega) (show b ≤ 4194304 by omega)]
    -- the two cases of the start
    obtain ⟨mid, hmid⟩ : ∃ mid, mid = (a + b) / 2 := ⟨_, rfl⟩
    rw [← hmid]
    obtain ⟨st, r0, hst⟩ : ∃ st r0, (mid < m ∧ st = mid + m - b ∧ r0 = mid) ∨ (m ≤ mid ∧ st = a ∧ r0 = m) := by
      by_cases h : mid < m
      · exact ⟨_, _, .inl ⟨h, rfl, rfl⟩⟩
      · exact ⟨_, _, .inr ⟨by omega, rfl, rfl⟩⟩
    have hs1 : a ≤ st := by omega
    have hs2 : st ≤ r0 := by omega
    have hs3 : r0 ≤ m := by omega
    have hs4 : r0 ≤ mid := by omega
    have hs5 : mid + m - b ≤ st := by omega
    have start : (bif decide ((m : Int) > (mid : Int)) then
          slices_symMergeCmpFunc_int64_1.l3 a m b K mid (IntKind.wrap .i64 ((mid : Int) + (m : Int))) (IntKind.wrap .i64 (IntKind.wrap .i64 ((mid : Int) + (m : Int)) - (b : Int))) mid (X ++ (A ++ (B ++ Y)))
        else slices_symMergeCmpFunc_int64_1.l3 a m b K mid (IntKind.wrap .i64 ((mid : Int) + (m : Int))) a m (X ++ (A ++ (B ++ Y)))) =
        slices_symMergeCmpFunc_int64_1.l8 a m b K mid ((mid + m : Nat) : Int) st r0 ((mid + m - 1 : Nat) : Int) (X ++ (A ++ (B ++ Y))) := by
      rw [wadd (show mid ≤ 4194304 by omega) (show m ≤ 4194304 by omega)]
      simp only [slices_symMergeCmpFunc_int64_1.l3_eq]
      rw [wsub1 (show mid + m ≤ 8388608 by omega) (by omega)]
      rcases hst with ⟨h1, rfl, rfl⟩ | ⟨h1, rfl, rfl⟩
      · have : ((m : Int) > ((a + b) / 2 : Int)) := by omega
        have c : ((m : Int) > (r0 : Int)) := by omega
        simp only [c, decide_true, cond_true]
        rw [wsub (show r0 + m ≤ 8388608 by omega) (by omega)]
      · have c : ¬ ((r0 : Int) > (mid : Int)) := by omega
        simp only [c, decide_false, cond_false]
    rw [start]
    -- the search
    have hga : ∀ t, a ≤ t → t < m → (X ++ (A ++ (B ++ Y))).getD t 0 ∈ A := fun t h1 h2 => mem_mid (by omega) (by omega)
    have hgb : ∀ t, m ≤ t → t < b → (X ++ (A ++ (B ++ Y))).getD t 0 ∈ B := fun t h1 h2 => by
      have := mem_mid (X := X ++ A) (M := B) (Y := Y) (t := t) (by simp; omega) (by simp; omega)
      simpa using this
    obtain ⟨s, h1, h2, e, h3, h4⟩ := bsearch (fun i j => slices_symMergeCmpFunc_int64_1.l8 a m b K mid ((mid + m : Nat) : Int) i j ((mid + m - 1 : Nat) : Int) (X ++ (A ++ (B ++ Y))))
        (fun h => !decide (key K ((X ++ (A ++ (B ++ Y))).getD (mid + m - 1 - h) 0) < key K ((X ++ (A ++ (B ++ Y))).getD h 0))) st r0 (fun i j q1 q2 q3 => by
      rw [slices_symMergeCmpFunc_int64_1.l8_eq]
      have c : ((i : Int) < (j : Int)) := by omega
      have c1 : ((((i + j) / 2 : Nat) : Int) < ((X ++ (A ++ (B ++ Y))).length : Int)) := by simp; omega
      have c2 : (((mid + m - 1 - (i + j) / 2 : Nat) : Int) < ((X ++ (A ++ (B ++ Y))).length : Int)) := by simp; omega
      have g1 := hGA _ (hga ((i + j) / 2) (by omega) (by omega))
      have g2 := hGB _ (hgb (mid + m - 1 - (i + j) / 2) (by omega) (by omega))
      simp only [c, half (show i ≤ 4194304 by omega) (show j ≤ 4194304 by omega), wsub (show mid + m - 1 ≤ 8388608 by omega) (show (i + j) / 2 ≤ mid + m - 1 by omega), c1, c2, Int.natCast_nonneg, decide_true, cond_true, Int.toNat_natCast, cmp_ok hK g2 g1, Option.bind_some, slices_symMergeCmpFunc_int64_1.l9_eq, wadd1 (show (i + j) / 2 ≤ 4194304 by omega)]
      by_cases hc : key K ((X ++ (A ++ (B ++ Y))).getD (mid + m - 1 - (i + j) / 2) 0) < key K ((X ++ (A ++ (B ++ Y))).getD ((i + j) / 2) 0)
      · have : key K ((X ++ (A ++ (B ++ Y))).getD (mid + m - 1 - (i + j) / 2) 0) - key K ((X ++ (A ++ (B ++ Y))).getD ((i + j) / 2) 0) < 0 := by omega
        simp only [this, hc, decide_true, Bool.not_true, cond_false, Bool.false_eq_true, if_false]
      · have : ¬ (key K ((X ++ (A ++ (B ++ Y))).getD (mid + m - 1 - (i + j) / 2) 0) - key K ((X ++ (A ++ (B ++ Y))).getD ((i + j) / 2) 0) < 0) := by omega
        simp only [this, hc, decide_false, Bool.not_false, cond_true, if_true]) (r0 - st) st r0 (by omega) (by omega) (by omega) (by omega) (.inl rfl) (.inl rfl)
    rw [e, slices_symMergeCmpFunc_int64_1.l8_eq]
    simp only [Int.lt_irrefl, decide_false, cond_false]
    obtain ⟨en, hen⟩ : ∃ en, en = mid + m - s := ⟨_, rfl⟩
    rw [wsub (show mid + m ≤ 8388608 by omega) (show s ≤ mid + m by omega), ← hen]
    obtain ⟨A1, A2, rfl, hl1⟩ : ∃ A1 A2, A = A1 ++ A2 ∧ A1.length = s - a := ⟨A.take (s - a), A.drop (s - a), by simp, by simp; omega⟩
    obtain ⟨B1, B2, rfl, hl2⟩ : ∃ B1 B2, B = B1 ++ B2 ∧ B1.length = en - m := ⟨B.take (en - m), B.drop (en - m), by simp, by simp; omega⟩
    simp only [List.length_append] at hm hb hD' h0
    obtain ⟨pa1, pa2, pa3⟩ := List.pairwise_append.mp hA
    obtain ⟨pb1, pb2, pb3⟩ := List.pairwise_append.mp hB
    -- first part before second part
    have x12 : ∀ u ∈ A1, ∀ v ∈ B2, Lt K u v := So.glue pa1 pb2 (fun u v hu hv => by
      have g1 := last_at (i := s - 1) (D := X ++ (A1 ++ A2 ++ (B1 ++ B2 ++ Y))) hu (X := X) (R := A2 ++ (B1 ++ B2 ++ Y)) (by simp) (by have := List.length_pos_of_mem (last_mem hu); omega)
      have g2 := head_at (i := en) (D := X ++ (A1 ++ A2 ++ (B1 ++ B2 ++ Y))) hv (X := X ++ (A1 ++ A2 ++ B1)) (R := Y) (by simp) (by simp; omega)
      have hl := hlt u (by simp [last_mem hu]) v (by simp [head_mem hv])
      have p1 := List.length_pos_of_mem (last_mem hu)
      have p2 := List.length_pos_of_mem (head_mem hv)
      rcases h3 with h3 | h3
      · omega
      · rw [show mid + m - 1 - (s - 1) = en by omega, g1, g2] at h3
        have : ¬ (key K v < key K u) := by simpa using h3
        unfold Lt; omega)
    have x21 : ∀ v ∈ B1, ∀ u ∈ A2, Lt K v u := So.glue pb1 pa2 (fun v u hv hu => by
      have g1 := head_at (i := s) (D := X ++ (A1 ++ A2 ++ (B1 ++ B2 ++ Y))) hu (X := X ++ A1) (R := B1 ++ B2 ++ Y) (by simp) (by simp; omega)
      have g2 := last_at (i := en - 1) (D := X ++ (A1 ++ A2 ++ (B1 ++ B2 ++ Y))) hv (X := X ++ (A1 ++ A2)) (R := B2 ++ Y) (by simp) (by have := List.length_pos_of_mem (last_mem hv); simp; omega)
      have p1 := List.length_pos_of_mem (head_mem hu)
      have p2 := List.length_pos_of_mem (last_mem hv)
      rcases h4 with h4 | h4
      · omega
      · rw [show mid + m - 1 - s = en - 1 by omega, g1, g2] at h4
        exact .inl (by simpa using h4))
    -- the rotation
    have rot : (bif decide ((s : Int) < (m : Int)) then
          bif decide ((m : Int) < (en : Int)) then
            (slices_rotateCmpFunc_int64_1.f (X ++ (A1 ++ A2 ++ (B1 ++ B2 ++ Y)), (s : Int), (m : Int), (en : Int), K)).bind fun r988 => slices_symMergeCmpFunc_int64_1.l10 a b K mid s en r988.2.1
          else slices_symMergeCmpFunc_int64_1.l10 a b K mid s en (X ++ (A1 ++ A2 ++ (B1 ++ B2 ++ Y)))
        else slices_symMergeCmpFunc_int64_1.l10 a b K mid s en (X ++ (A1 ++ A2 ++ (B1 ++ B2 ++ Y)))) =
        slices_symMergeCmpFunc_int64_1.l10 a b K mid s en (X ++ (A1 ++ (B1 ++ (A2 ++ (B2 ++ Y))))) := by
      by_cases d1 : s < m
      · have e1 : ((s : Int) < (m : Int)) := by omega
        by_cases d2 : m < en
        · have e2 : ((m : Int) < (en : Int)) := by omega
          have r := rotate_ok K (X ++ A1) A2 B1 (B2 ++ Y) s m en (by simp; omega) (List.length_pos_iff.mp (by omega)) (List.length_pos_iff.mp (by omega)) (by simp; omega) (by omega) (by omega)
          simp only [List.append_assoc] at r ⊢
          simp only [e1, e2, decide_true, cond_true, r, Option.bind_some]
        · have e2 : ¬ ((m : Int) < (en : Int)) := by omega
          obtain rfl : B1 = [] := List.length_eq_zero_iff.mp (by omega)
          simp only [e1, e2, decide_true, decide_false, cond_true, cond_false, List.append_assoc, List.nil_append]
      · have e1 : ¬ ((s : Int) < (m : Int)) := by omega
        obtain rfl : A2 = [] := List.length_eq_zero_iff.mp (by omega)
        simp only [e1, decide_false, cond_false, List.append_assoc, List.nil_append, List.append_nil]
    rw [rot]
    -- the first half
    obtain ⟨C1, f1, f2, f3⟩ : ∃ C1, slices_symMergeCmpFunc_int64_1.l10 a b K mid s en (X ++ (A1 ++ (B1 ++ (A2 ++ (B2 ++ Y))))) = slices_symMergeCmpFunc_int64_1.l11 b K mid en (X ++ (C1 ++ (A2 ++ (B2 ++ Y)))) ∧ So K C1 ∧ C1.Perm (A1 ++ B1) := by
      rw [slices_symMergeCmpFunc_int64_1.l10_eq]
      by_cases d1 : a < s
      · have e1 : ((a : Int) < (s : Int)) := by omega
        by_cases d2 : s < mid
        · have e2 : ((s : Int) < (mid : Int)) := by omega
          obtain ⟨C, g1, g2, g3⟩ := ih X A1 B1 (A2 ++ (B2 ++ Y)) a s mid (by omega) (List.length_pos_iff.mp (by omega)) (List.length_pos_iff.mp (by omega)) ha (by omega) (by omega) (by simp; omega) pa1 pb1 (fun x hx => hGA x (by simp [hx])) (fun x hx => hGB x (by simp [hx])) (fun x hx y hy => hlt x (by simp [hx]) y (by simp [hy]))
          simp only [e1, e2, decide_true, cond_true, g1, Option.bind_some]
          exact ⟨C, rfl, g2, g3⟩
        · have e2 : ¬ ((s : Int) < (mid : Int)) := by omega
          obtain rfl : B1 = [] := List.length_eq_zero_iff.mp (by omega)
          simp only [e1, e2, decide_true, decide_false, cond_true, cond_false]
          exact ⟨A1, by simp, pa1, by simp⟩
      · have e1 : ¬ ((a : Int) < (s : Int)) := by omega
        obtain rfl : A1 = [] := List.length_eq_zero_iff.mp (by omega)
        simp only [e1, decide_false, cond_false]
        exact ⟨B1, by simp, pb1, by simp⟩
    have lc1 : C1.length = A1.length + B1.length := by rw [f3.length_eq]; simp
    -- the second half
    obtain ⟨C2, k1, k2, k3⟩ : ∃ C2, slices_symMergeCmpFunc_int64_1.l11 b K mid en (X ++ (C1 ++ (A2 ++ (B2 ++ Y)))) = some ((), X ++ (C1 ++ (C2 ++ Y)), ()) ∧ So K C2 ∧ C2.Perm (A2 ++ B2) := by
      rw [slices_symMergeCmpFunc_int64_1.l11_eq]
      simp only [slices_symMergeCmpFunc_int64_1.l12_eq]
      by_cases d1 : mid < en
      · have e1 : ((mid : Int) < (en : Int)) := by omega
        by_cases d2 : en < b
        · have e2 : ((en : Int) < (b : Int)) := by omega
          obtain ⟨C, g1, g2, g3⟩ := ih (X ++ C1) A2 B2 Y mid en b (by omega) (List.length_pos_iff.mp (by omega)) (List.length_pos_iff.mp (by omega)) (by simp; omega) (by omega) (by omega) (by simp; omega) pa2 pb2 (fun x hx => hGA x (by simp [hx])) (fun x hx => hGB x (by simp [hx])) (fun x hx y hy => hlt x (by simp [hx]) y (by simp [hy]))
          simp only [List.append_assoc] at g1
          simp only [e1, e2, decide_true, cond_true, g1, Option.bind_some]
          exact ⟨C, rfl, g2, g3⟩
        · have e2 : ¬ ((en : Int) < (b : Int)) := by omega
          obtain rfl : B2 = [] := List.length_eq_zero_iff.mp (by omega)
          simp only [e1, e2, decide_true, decide_false, cond_true, cond_false]
          exact ⟨A2, by simp, pa2, by simp⟩
      · have e1 : ¬ ((mid : Int) < (en : Int)) := by omega
        obtain rfl : A2 = [] := List.length_eq_zero_iff.mp (by omega)
        simp only [e1, decide_false, cond_false]
        exact ⟨B2, by simp, pb2, by simp⟩
    refine ⟨C1 ++ C2, ?_, ?_, ?_⟩
    · rw [f1, k1]; simp
    · refine List.pairwise_append.mpr ⟨f2, k2, fun u hu v hv => ?_⟩
      rcases List.mem_append.mp (f3.mem_iff.mp hu) with hu | hu <;> rcases List.mem_append.mp (k3.mem_iff.mp hv) with hv | hv
      · exact pa3 u hu v hv
      · exact x12 u hu v hv
      · exact x21 u hu v hv
      · exact pb3 u hu v hv
    · refine (f3.append k3).trans ?_
      simp only [List.append_assoc]
      refine List.Perm.append_left _ ?_
      rw [← List.append_assoc, ← List.append_assoc]
      exact List.Perm.append_right _ List.perm_append_comm
end Go.Proofs.Ytkeockkepmljjaa
end

section
namespace Go.Proofs.Ytkeockkepmljjaa
open Go Go.Proofs Pl

/-- Sorted chunks; the chunk from place o on has values from o on. -/
inductive Ch (K : List Int) (bs : Nat) : Nat → List Int → Prop
  | last {o : Nat} {l : List Int} : l.length ≤ bs → So K l → (∀ x ∈ l, (o : Int) ≤ x ∧ x < ((o + bs : Nat) : Int)) → Ch K bs o l
  | cons {o : Nat} {l r : List Int} : l.length = bs → So K l → (∀ x ∈ l, (o : Int) ≤ x ∧ x < ((o + bs : Nat) : Int)) → Ch K bs (o + bs) r → Ch K bs o (l ++ r)

theorem Ch.short {K : List Int} {bs o : Nat} {R : List Int} (h : Ch K bs o R) (hl : R.length ≤ bs) : So K R ∧ ∀ x ∈ R, (o : Int) ≤ x ∧ x < ((o + bs : Nat) : Int) := by
  cases h with
  | last h1 h2 h3 => exact ⟨h2, h3⟩
  | cons h1 h2 h3 h4 =>
    rename_i l r
    simp at hl
    obtain rfl : r = [] := List.length_eq_zero_iff.mp (by omega)
    simpa using ⟨h2, h3⟩
theorem Ch.split {K : List Int} {bs o : Nat} {R : List Int} (h : Ch K bs o R) (hl : bs ≤ R.length) : ∃ l r, R = l ++ r ∧ l.length = bs ∧ So K l ∧ (∀ x ∈ l, (o : Int) ≤ x ∧ x < ((o + bs : Nat) : Int)) ∧ Ch K bs (o + bs) r := by
  cases h with
  | last h1 h2 h3 => exact ⟨R, [], by simp, by omega, h2, h3, .last (by simp) List.Pairwise.nil (by simp)⟩
  | cons h1 h2 h3 h4 => exact ⟨_, _, rfl, h1, h2, h3, h4⟩

/-- The values from a on, in their order. -/
def upTo (a d : Nat) : List Int := (List.range d).map fun i => ((a + i : Nat) : Int)
theorem upTo_len (a d : Nat) : (upTo a d).length = d := by simp [upTo]
theorem upTo_split (a c d : Nat) : upTo a (c + d) = upTo a c ++ upTo (a + c) d := by
  unfold upTo
  rw [List.range_add, List.map_append, List.map_map]
  congr 1
  apply List.map_congr_left
  intro i _
  simp only [Function.comp_apply, Nat.add_assoc]
theorem upTo_mem {a d : Nat} {x : Int} : x ∈ upTo a d ↔ (a : Int) ≤ x ∧ x < ((a + d : Nat) : Int) := by
  unfold upTo
  simp only [List.mem_map, List.mem_range]
  constructor
  · rintro ⟨i, h, rfl⟩; omega
  · rintro ⟨h1, h2⟩; exact ⟨(x - a).toNat, by omega, by omega⟩
theorem upTo_pw (a d : Nat) : (upTo a d).Pairwise (· < ·) := by
  unfold upTo
  rw [List.pairwise_map]
  exact List.pairwise_lt_range.imp (by intro i j h; omega)

theorem st1 {K : List Int} (hK : OkK K) (n bs : Nat) (hbs : 0 < bs) (hn : n ≤ 1048576) (hbs2 : bs ≤ 1048576) (hKn : K.length = n) : ∀ (f : Nat) (X : List Int) (a d : Nat), d ≤ f → a = X.length → a + d = n →
    ∃ R, slices_stableCmpFunc_int64_1.l1 n K bs a ((a + bs : Nat) : Int) (X ++ upTo a d) = slices_stableCmpFunc_int64_1.l2 n K bs (X ++ R) ∧ Ch K bs a R ∧ R.Perm (upTo a d) := by
  intro f
  induction f with
  | zero =>
    intro X a d h0 ha hd
    obtain rfl : d = 0 := by omega
    rw [slices_stableCmpFunc_int64_1.l1_eq]
    have c : ¬ (((a + bs : Nat) : Int) ≤ (n : Int)) := by omega
    obtain ⟨S, e, q1, q2⟩ := insert_ok hK X (upTo a 0) [] a n ha (by simp [upTo_len]; omega) (by simp [upTo_len]; omega) (fun x hx => by have := upTo_mem.mp hx; unfold In; omega) (upTo_pw a 0)
    have hS : S = [] := List.length_eq_zero_iff.mp (by rw [q2.length_eq, upTo_len])
    subst hS
    simp only [List.append_nil] at e
    simp only [c, decide_false, cond_false, e, Option.bind_some]
    exact ⟨[], by simp, .last (by simp) List.Pairwise.nil (by simp), by simp [upTo]⟩
  | succ f ih =>
    intro X a d h0 ha hd
    rw [slices_stableCmpFunc_int64_1.l1_eq]
    by_cases hle : a + bs ≤ n
    · have c : (((a + bs : Nat) : Int) ≤ (n : Int)) := by omega
      obtain ⟨d', rfl⟩ : ∃ d', d = bs + d' := ⟨d - bs, by omega⟩
      rw [upTo_split]
      obtain ⟨S, e, q1, q2⟩ := insert_ok hK X (upTo a bs) (upTo (a + bs) d') a (a + bs) ha (by simp [upTo_len]; omega) (by simp [upTo_len]) (fun x hx => by have := upTo_mem.mp hx; unfold In; omega) (upTo_pw a bs)
      have hl : S.length = bs := by rw [q2.length_eq, upTo_len]
      simp only [c, decide_true, cond_true, e, Option.bind_some]
      rw [wadd (show a + bs ≤ 4194304 by omega) (show bs ≤ 4194304 by omega)]
      obtain ⟨R, e2, r1, r2⟩ := ih (X ++ S) (a + bs) d' (by omega) (by simp; omega) (by omega)
      simp only [List.append_assoc] at e2
      refine ⟨S ++ R, e2, .cons hl q1 (fun x hx => upTo_mem.mp (q2.mem_iff.mp hx)) r1, q2.append r2⟩
    · have c : ¬ (((a + bs : Nat) : Int) ≤ (n : Int)) := by omega
      obtain ⟨S, e, q1, q2⟩ := insert_ok hK X (upTo a d) [] a n ha (by simp [upTo_len]; omega) (by simp [upTo_len]; omega) (fun x hx => by have := upTo_mem.mp hx; unfold In; omega) (upTo_pw a d)
      simp only [List.append_nil] at e
      simp only [c, decide_false, cond_false, e, Option.bind_some]
      exact ⟨S, rfl, .last (by rw [q2.length_eq, upTo_len]; omega) q1 (fun x hx => by have := upTo_mem.mp (q2.mem_iff.mp hx); omega), q2⟩

theorem st3 {K : List Int} (hK : OkK K) (n bs : Nat) (hbs : 0 < bs) (hn : n ≤ 1048576) (hbs2 : bs ≤ 1048576) (hKn : K.length = n) : ∀ (f : Nat) (X R : List Int) (a : Nat), R.length ≤ f → a = X.length → a + R.length = n → Ch K bs a R → InL K R →
    ∃ R', slices_stableCmpFunc_int64_1.l3 n K bs a ((a + 2 * bs : Nat) : Int) (X ++ R) = slices_stableCmpFunc_int64_1.l4 n K bs (X ++ R') ∧ Ch K (2 * bs) a R' ∧ R'.Perm R := by
  intro f
  induction f with
  | zero =>
    intro X R a h0 ha hn2 hC hG
    obtain rfl : R = [] := List.length_eq_zero_iff.mp (by omega)
    rw [slices_stableCmpFunc_int64_1.l3_eq]
    simp at hn2
    have c : ¬ (((a + 2 * bs : Nat) : Int) ≤ (n : Int)) := by omega
    have c2 : ¬ (((a + bs : Nat) : Int) < (n : Int)) := by omega
    simp only [c, wadd (show a ≤ 4194304 by omega) (show bs ≤ 4194304 by omega), c2, decide_false, cond_false]
    exact ⟨[], rfl, .last (by simp) List.Pairwise.nil (by simp), List.Perm.refl _⟩
  | succ f ih =>
    intro X R a h0 ha hn2 hC hG
    rw [slices_stableCmpFunc_int64_1.l3_eq]
    by_cases hle : a + 2 * bs ≤ n
    · have c : (((a + 2 * bs : Nat) : Int) ≤ (n : Int)) := by omega
      obtain ⟨l1, r1, rfl, p1, p2, p3, p4⟩ := hC.split (by omega)
      simp at hn2 h0
      obtain ⟨l2, r2, rfl, q1, q2, q3, q4⟩ := p4.split (by omega)
      simp at hn2 h0
      obtain ⟨C, e, s1, s2⟩ := merge_ok hK _ X l1 l2 r2 a (a + bs) (a + 2 * bs) (Nat.le_refl _) (List.length_pos_iff.mp (by omega)) (List.length_pos_iff.mp (by omega)) ha (by omega) (by omega) (by simp; omega) p2 q2 (fun x hx => hG x (by simp [hx])) (fun x hx => hG x (by simp [hx])) (fun x hx y hy => by have := p3 x hx; have := q3 y hy; omega)
      have hlC : C.length = 2 * bs := by rw [s2.length_eq]; simp; omega
      have w2 : IntKind.wrap .i64 (2 * (bs : Int)) = ((2 * bs : Nat) : Int) := by rw [w64 (by omega) (by omega)]; omega
      simp only [c, wadd (show a ≤ 4194304 by omega) (show bs ≤ 4194304 by omega), decide_true, cond_true, e, Option.bind_some, w2, wadd (show a + 2 * bs ≤ 4194304 by omega) (show 2 * bs ≤ 4194304 by omega)]
      obtain ⟨R', e2, t1, t2⟩ := ih (X ++ C) r2 (a + 2 * bs) (by omega) (by simp; omega) (by omega) (by rw [show a + 2 * bs = a + bs + bs by omega]; exact q4) (fun x hx => hG x (by simp [hx]))
      simp only [List.append_assoc] at e2
      refine ⟨C ++ R', e2, .cons hlC s1 (fun x hx => ?_) t1, ?_⟩
      · rcases List.mem_append.mp (s2.mem_iff.mp hx) with h | h
        · have := p3 x h; omega
        · have := q3 x h; omega
      · rw [← List.append_assoc]; exact s2.append t2
    · have c : ¬ (((a + 2 * bs : Nat) : Int) ≤ (n : Int)) := by omega
      by_cases hlt : a + bs < n
      · have c2 : (((a + bs : Nat) : Int) < (n : Int)) := by omega
        obtain ⟨l1, r1, rfl, p1, p2, p3, p4⟩ := hC.split (by omega)
        simp at hn2 h0
        obtain ⟨q2, q3⟩ := p4.short (by omega)
        obtain ⟨C, e, s1, s2⟩ := merge_ok hK _ X l1 r1 [] a (a + bs) n (Nat.le_refl _) (List.length_pos_iff.mp (by omega)) (List.length_pos_iff.mp (by omega)) ha (by omega) (by omega) (by simp; omega) p2 q2 (fun x hx => hG x (by simp [hx])) (fun x hx => hG x (by simp [hx])) (fun x hx y hy => by have := p3 x hx; have := q3 y hy; omega)
        simp only [List.append_nil] at e
        simp only [c, wadd (show a ≤ 4194304 by omega) (show bs ≤ 4194304 by omega), c2, decide_false, decide_true, cond_false, cond_true, e, Option.bind_some]
        refine ⟨C, rfl, .last (by rw [s2.length_eq]; simp; omega) s1 (fun x hx => ?_), s2⟩
        rcases List.mem_append.mp (s2.mem_iff.mp hx) with h | h
        · have := p3 x h; omega
        · have := q3 x h; omega
      · have c2 : ¬ (((a + bs : Nat) : Int) < (n : Int)) := by omega
        simp only [c, wadd (show a ≤ 4194304 by omega) (show bs ≤ 4194304 by omega), c2, decide_false, cond_false]
        obtain ⟨q2, q3⟩ := hC.short (by omega)
        exact ⟨R, rfl, .last (by omega) q2 (fun x hx => by have := q3 x hx; omega), List.Perm.refl _⟩

theorem st2 {K : List Int} (hK : OkK K) (n : Nat) (hn : n ≤ 1048576) (hKn : K.length = n) : ∀ (f : Nat) (bs : Nat) (R : List Int), n ≤ bs + f → 0 < bs → bs ≤ 2097152 → R.length = n → Ch K bs 0 R → InL K R →
    ∃ R', slices_stableCmpFunc_int64_1.l2 n K bs R = some ((), R', ()) ∧ So K R' ∧ R'.Perm R := by
  intro f
  induction f with
  | zero =>
    intro bs R h0 hb hb2 hl hC hG
    rw [slices_stableCmpFunc_int64_1.l2_eq]
    have c : ¬ ((bs : Int) < (n : Int)) := by omega
    simp only [c, decide_false, cond_false]
    exact ⟨R, rfl, (hC.short (by omega)).1, List.Perm.refl _⟩
  | succ f ih =>
    intro bs R h0 hb hb2 hl hC hG
    rw [slices_stableCmpFunc_int64_1.l2_eq]
    by_cases hlt : bs < n
    · have c : ((bs : Int) < (n : Int)) := by omega
      have w2 : IntKind.wrap .i64 (2 * (bs : Int)) = ((0 + 2 * bs : Nat) : Int) := by rw [w64 (by omega) (by omega)]; omega
      have w3 : IntKind.wrap .i64 ((bs : Int) * 2) = ((2 * bs : Nat) : Int) := by rw [w64 (by omega) (by omega)]; omega
      obtain ⟨R1, e, q1, q2⟩ := st3 hK n bs hb hn (by omega) hKn _ [] R 0 (Nat.le_refl _) rfl (by omega) hC hG
      simp only [List.nil_append, Int.natCast_zero, Int.ofNat_zero] at e
      simp only [c, decide_true, cond_true, w2]
      rw [e, slices_stableCmpFunc_int64_1.l4_eq, w3]
      obtain ⟨R2, e2, r1, r2⟩ := ih (2 * bs) R1 (by omega) (by omega) (by omega) (by rw [q2.length_eq]; exact hl) q1 (fun x hx => hG x (q2.mem_iff.mp hx))
      exact ⟨R2, e2, r1, r2.trans q2⟩
    · have c : ¬ ((bs : Int) < (n : Int)) := by omega
      simp only [c, decide_false, cond_false]
      exact ⟨R, rfl, (hC.short (by omega)).1, List.Perm.refl _⟩

theorem sort_ok {K : List Int} (hK : OkK K) (n : Nat) (hn : n ≤ 1048576) (hKn : K.length = n) : ∃ R, slices_SortStableFunc_int64_1.f (upTo 0 n, K) = some ((), R, ()) ∧ So K R ∧ R.Perm (upTo 0 n) := by
  rw [slices_SortStableFunc_int64_1.eq, slices_stableCmpFunc_int64_1.eq, upTo_len]
  obtain ⟨R, e, q1, q2⟩ := st1 hK n 20 (by omega) hn (by omega) hKn n [] 0 n (by omega) rfl (by omega)
  simp only [List.nil_append, Int.natCast_zero, Int.ofNat_zero, Nat.zero_add] at e
  obtain ⟨R2, e2, r1, r2⟩ := st2 hK n hn hKn n 20 R (by omega) (by omega) (by omega) (by rw [q2.length_eq, upTo_len]) q1 (fun x hx => by have := upTo_mem.mp (q2.mem_iff.mp hx); unfold In; omega)
  refine ⟨R2, ?_, r1, r2.trans q2⟩
  have e' : slices_stableCmpFunc_int64_1.l1 (n : Int) K 20 0 20 (upTo 0 n) = slices_stableCmpFunc_int64_1.l2 (n : Int) K 20 R := e
  have e2' : slices_stableCmpFunc_int64_1.l2 (n : Int) K 20 R = some ((), R2, ()) := e2
  simp only [e', e2', Option.bind_some]
end Go.Proofs.Ytkeockkepmljjaa
end

section
namespace Go.Proofs.Ytkeockkepmljjaa
open Go Go.Proofs Pl

theorem Lt.irrefl {K : List Int} {x : Int} (h : Lt K x x) : False := by unfold Lt at h; omega
theorem So.unique {K : List Int} : ∀ {U V : List Int}, So K U → So K V → (∀ x, x ∈ U ↔ x ∈ V) → U = V := by
  intro U
  induction U with
  | nil =>
    intro V hU hV h
    match V with
    | [] => rfl
    | v :: V => exact absurd ((h v).mpr (by simp)) (by simp)
  | cons u U ih =>
    intro V hU hV h
    match V, hV with
    | [], hV => exact absurd ((h u).mp (by simp)) (by simp)
    | v :: V, hV =>
      obtain ⟨u1, u2⟩ := List.pairwise_cons.mp hU
      obtain ⟨v1, v2⟩ := List.pairwise_cons.mp hV
      have e : u = v := by
        rcases List.mem_cons.mp ((h u).mp (by simp)) with e | e
        · exact e
        · rcases List.mem_cons.mp ((h v).mpr (by simp)) with e2 | e2
          · exact e2.symm
          · exact ((v1 u e).trans (u1 v e2)).irrefl.elim
      subst e
      congr 1
      refine ih u2 v2 fun x => ⟨fun hx => ?_, fun hx => ?_⟩
      · rcases List.mem_cons.mp ((h x).mp (by simp [hx])) with e | e
        · subst e; exact (u1 x hx).irrefl.elim
        · exact e
      · rcases List.mem_cons.mp ((h x).mpr (by simp [hx])) with e | e
        · subst e; exact (v1 x hx).irrefl.elim
        · exact e

theorem rk_le {l : List Int} {a : Int} (h : a ∈ l) : rk l a ≤ l.length := by
  unfold rk
  have := countP_strict (p := fun b => decide (a < b)) (q := fun _ => true) (l := l) (fun x _ _ => rfl) ⟨a, h, rfl, by simp⟩
  have h2 : l.countP (fun _ => true) ≤ l.length := List.countP_le_length
  omega
theorem ranks_get {l : List Int} {i : Nat} (h : i < l.length) : (ranks l).getD i 0 = rk l l[i] := by simp [ranks, List.getD_eq_getElem?_getD, h]
theorem OkK_ranks {l : List Int} (h : l.length ≤ 1048576) : OkK (ranks l) := by
  refine ⟨by rw [ranks_len]; omega, fun k hk => ?_⟩
  unfold ranks at hk
  obtain ⟨a, ha, rfl⟩ := List.mem_map.mp hk
  have := rk_bd l a
  omega
theorem key_nat (K : List Int) (i : Nat) : key K (i : Int) = K.getD i 0 := by unfold key; rw [Int.toNat_natCast]

theorem upTo_snoc (i : Nat) : upTo 0 (i + 1) = upTo 0 i ++ [(i : Int)] := by rw [upTo_split]; simp [upTo]

theorem impl_RankOrder_ok (l : List Int) (h : l.length ≤ 1048576) : ∃ R, impl_RankOrder.f l = some R ∧ if okScores l = true then So (ranks l) R ∧ R.Perm (upTo 0 l.length) else R = [] := by
  rw [impl_RankOrder.eq, isScoreList_ok l h]
  by_cases hs : okScores l = true
  · simp only [hs, Option.bind_some, Bool.not_true, cond_false, rankScores_ok l h, if_true, ranks_len]
    obtain ⟨R, e, q1, q2⟩ := sort_ok (OkK_ranks h) l.length h (ranks_len l)
    have L : ∀ (d i : Nat), i + d = l.length → impl_RankOrder.l1 (l.length : Int) i (upTo 0 i) (ranks l) = some R := by
      intro d
      induction d with
      | zero =>
        intro i hi
        obtain rfl : i = l.length := by omega
        rw [impl_RankOrder.l1_eq]
        simp only [Int.lt_irrefl, decide_false, cond_false, e, Option.bind_some]
      | succ d ih =>
        intro i hi
        rw [impl_RankOrder.l1_eq]
        have c : ((i : Int) < (l.length : Int)) := by omega
        have ho : i + 1 ≤ 17592186044416 := by omega
        simp only [c, upTo_len, ho, decide_true, cond_true, wadd1 (show i ≤ 4194304 by omega)]
        rw [← upTo_snoc]
        exact ih (i + 1) (by omega)
    exact ⟨R, L l.length 0 (by omega), q1, q2⟩
  · refine ⟨[], ?_, by rw [if_neg hs]⟩
    simp [hs]

theorem spec_RankOrder_ok (l : List Int) (h : l.length ≤ 1048576) : ∃ R, spec_RankOrder.f l = some R ∧ if okScores l = true then So (ranks l) R ∧ (∀ x, x ∈ R ↔ In (ranks l) x) else R = [] := by
  rw [spec_RankOrder.eq, l33Scores_ok l h]
  by_cases hs : okScores l = true
  · have h64 := okScores_len hs
    simp only [hs, Option.bind_some, Bool.not_true, cond_false, l33Ranks_ok l h, if_true]
    have hrl : (ranks l).length = l.length := ranks_len l
    have kb : ∀ x, In (ranks l) x → 1 ≤ key (ranks l) x ∧ key (ranks l) x ≤ l.length := by
      intro x hx
      obtain ⟨i, rfl⟩ : ∃ i : Nat, x = i := ⟨x.toNat, by unfold In at hx; omega⟩
      have hi : i < l.length := by unfold In at hx; omega
      rw [key_nat, ranks_get hi]
      have := rk_bd l l[i]
      have := rk_le (List.getElem_mem hi)
      omega
    have L1 : ∀ (e r : Nat) (out : List Int), 1 ≤ r → r + e = l.length + 1 → out.length ≤ 64 * r → So (ranks l) out → (∀ x, x ∈ out ↔ In (ranks l) x ∧ key (ranks l) x < r) →
        ∃ R, spec_RankOrder.l1 l r out (ranks l) = some R ∧ So (ranks l) R ∧ ∀ x, x ∈ R ↔ In (ranks l) x := by
      intro e
      induction e with
      | zero =>
        intro r out h1 h2 h3 h4 h5
        rw [spec_RankOrder.l1_eq]
        have c : ¬ ((r : Int) ≤ (l.length : Int)) := by omega
        simp only [c, decide_false, cond_false]
        exact ⟨out, rfl, h4, fun x => by rw [h5]; exact ⟨fun h => h.1, fun h => ⟨h, by have := kb x h; omega⟩⟩⟩
      | succ e ih =>
        intro r out h1 h2 h3 h4 h5
        rw [spec_RankOrder.l1_eq]
        have c : ((r : Int) ≤ (l.length : Int)) := by omega
        simp only [c, decide_true, cond_true]
        have L2 : ∀ (d i : Nat) (out : List Int), i + d = l.length → out.length ≤ 64 * r + i → So (ranks l) out → (∀ x, x ∈ out ↔ In (ranks l) x ∧ (key (ranks l) x < r ∨ (key (ranks l) x = r ∧ x < i))) →
            ∃ R, spec_RankOrder.l2 l r i out (ranks l) = some R ∧ So (ranks l) R ∧ ∀ x, x ∈ R ↔ In (ranks l) x := by
          intro d
          induction d with
          | zero =>
            intro i out hi h3 h4 h5
            rw [spec_RankOrder.l2_eq]
            have c : ¬ ((i : Int) < ((ranks l).length : Int)) := by omega
            simp only [c, decide_false, cond_false, wadd1 (show r ≤ 4194304 by omega)]
            refine ih (r + 1) out (by omega) (by omega) (by omega) h4 fun x => ?_
            rw [h5]
            constructor
            · rintro ⟨h, hk⟩; exact ⟨h, by omega⟩
            · rintro ⟨h, hk⟩; refine ⟨h, ?_⟩; unfold In at h; omega
          | succ d ihd =>
            intro i out hi h3 h4 h5
            rw [spec_RankOrder.l2_eq]
            have c : ((i : Int) < ((ranks l).length : Int)) := by omega
            have hin : In (ranks l) (i : Int) := by unfold In; omega
            simp only [c, Int.natCast_nonneg, decide_true, cond_true, Int.toNat_natCast, spec_RankOrder.l3_eq, wadd1 (show i ≤ 4194304 by omega)]
            rw [← key_nat]
            by_cases hk : key (ranks l) (i : Int) = r
            · have hb : (key (ranks l) (i : Int) == (r : Int)) = true := by simpa using hk
              have ho : out.length + 1 ≤ 17592186044416 := by omega
              simp only [hb, ho, decide_true, cond_true]
              refine ihd (i + 1) _ (by omega) (by simp; omega) ?_ fun x => ?_
              · refine List.pairwise_append.mpr ⟨h4, List.pairwise_singleton _ _, fun u hu v hv => ?_⟩
                simp at hv; subst hv
                have := (h5 u).mp hu
                unfold Lt; omega
              · rw [List.mem_append, h5, List.mem_singleton]
                constructor
                · rintro (⟨h, hq⟩ | rfl)
                  · exact ⟨h, by omega⟩
                  · exact ⟨hin, by omega⟩
                · rintro ⟨h, hq⟩
                  by_cases hx : x = i
                  · exact .inr hx
                  · exact .inl ⟨h, by omega⟩
            · have hb : (key (ranks l) (i : Int) == (r : Int)) = false := by simpa using hk
              simp only [hb, cond_false]
              refine ihd (i + 1) out (by omega) (by omega) h4 fun x => ?_
              rw [h5]
              constructor
              · rintro ⟨h, hq⟩; exact ⟨h, by omega⟩
              · rintro ⟨h, hq⟩
                refine ⟨h, ?_⟩
                by_cases hx : x = i
                · subst hx; omega
                · omega
        exact L2 l.length 0 out (by omega) (by omega) h4 fun x => by
          rw [h5]
          constructor
          · rintro ⟨h, hq⟩; exact ⟨h, .inl hq⟩
          · rintro ⟨h, hq⟩; refine ⟨h, ?_⟩; unfold In at h; omega
    exact L1 l.length 1 [] (by omega) (by omega) (by simp) List.Pairwise.nil fun x => by
      constructor
      · intro h; simp at h
      · rintro ⟨h, hq⟩; have := kb x h; omega
  · refine ⟨[], ?_, by rw [if_neg hs]⟩
    simp [hs]

/-- Both orders are the same. -/
theorem RankOrder_ok (l : List Int) (h : l.length ≤ 1048576) : ∃ R, spec_RankOrder.f l = some R ∧ impl_RankOrder.f l = some R ∧ R.length ≤ 1048576 ∧ if okScores l = true then So (ranks l) R ∧ R.Perm (upTo 0 l.length) else R = [] := by
  obtain ⟨R, e1, h1⟩ := impl_RankOrder_ok l h
  obtain ⟨S, e2, h2⟩ := spec_RankOrder_ok l h
  by_cases hs : okScores l = true
  · rw [if_pos hs] at h1 h2
    have : S = R := So.unique h2.1 h1.1 fun x => by
      rw [h2.2, h1.2.mem_iff, upTo_mem]
      unfold In
      rw [ranks_len]
      omega
    subst this
    exact ⟨S, e2, e1, by rw [h1.2.length_eq, upTo_len]; exact h, by rw [if_pos hs]; exact h1⟩
  · rw [if_neg hs] at h1 h2
    subst h1 h2
    exact ⟨[], e2, e1, by simp, by rw [if_neg hs]⟩
end Go.Proofs.Ytkeockkepmljjaa
end

section
namespace Go.Proofs.Ytkeockkepmljjaa
open Go Ev Go.Proofs
set_option maxRecDepth 100000

/-! laws_FnRanks -/
noncomputable def laws_FnRanks.E : Env := ⟨TT, [laws_big.m, laws_roll.m, spec_DrawRankScores.m, impl_RankScores.m, impl_RankOrder.m, spec_RankScores.m, laws_shuffled_1.m], []⟩
noncomputable def laws_FnRanks.f : List Int → Option Bool := fnOf laws_FnRanks.E [] Try.f12 [.imm (.sl (.int .u8))] [(.bool, .sh)]
noncomputable def laws_FnRanks.m : FM := ⟨12, [.imm (.sl (.int .u8))], [(.bool, .sh)], laws_FnRanks.f⟩
theorem laws_FnRanks.sound : Sound Try.prog laws_FnRanks.m := sound_of (E := laws_FnRanks.E) tok ⟨laws_big.sound, laws_roll.sound, spec_DrawRankScores.sound, impl_RankScores.sound, impl_RankOrder.sound, spec_RankScores.sound, laws_shuffled_1.sound, trivial⟩ mix Try.func12 (by kernel_rfl)
noncomputable def laws_FnRanks.l1 (k7 : Int) (r3 : (List Int) × Int × Int) (scores4 : List Int) (ranks5 : List Int) (order6 : List Int) : Option Bool := runOf laws_FnRanks.E [] Try.f12 [.imm (.sl (.int .u8))] [(.bool, .sh)] 1 ⟨[(3, [.adr 0 [] 0]), (4, [.ref 1 [] 0]), (5, [.ref 2 [] 0]), (6, [.ref 3 [] 0]), (7, [.imm (.int .i64) k7])], [(0, ⟨(.st (.pair (.sl (.int .u8)) (.pair (.int .i64) (.int .u64)))), r3, .sh, true, false, 0⟩), (1, ⟨(.sl (.int .i64)), scores4, (.sl .sh), false, false, 0⟩), (2, ⟨(.sl (.int .i64)), ranks5, (.sl .sh), false, false, 0⟩), (3, ⟨(.sl (.int .i64)), order6, (.sl .sh), false, false, 0⟩)], 4⟩
noncomputable def laws_FnRanks.l2 (i12 : Int) (scores4 : List Int) (ranks5 : List Int) (order6 : List Int) (p10 : List Int) (mixed11 : List Int) : Option Bool := runOf laws_FnRanks.E [] Try.f12 [.imm (.sl (.int .u8))] [(.bool, .sh)] 2 ⟨[(4, [.ref 0 [] 0]), (5, [.ref 1 [] 0]), (6, [.ref 2 [] 0]), (10, [.ref 3 [] 0]), (11, [.ref 4 [] 0]), (12, [.imm (.int .i64) i12])], [(0, ⟨(.sl (.int .i64)), scores4, (.sl .sh), false, false, 0⟩), (1, ⟨(.sl (.int .i64)), ranks5, (.sl .sh), false, false, 0⟩), (2, ⟨(.sl (.int .i64)), order6, (.sl .sh), false, false, 0⟩), (3, ⟨(.sl (.int .i64)), p10, (.sl .sh), false, false, 0⟩), (4, ⟨(.sl (.int .i64)), mixed11, (.sl .sh), false, false, 0⟩)], 5⟩
noncomputable def laws_FnRanks.l3 (i15 : Int) (scores4 : List Int) (ranks5 : List Int) (order6 : List Int) (p10 : List Int) (again14 : List Int) : Option Bool := runOf laws_FnRanks.E [] Try.f12 [.imm (.sl (.int .u8))] [(.bool, .sh)] 3 ⟨[(4, [.ref 0 [] 0]), (5, [.ref 1 [] 0]), (6, [.ref 2 [] 0]), (10, [.ref 3 [] 0]), (14, [.ref 4 [] 0]), (15, [.imm (.int .i64) i15])], [(0, ⟨(.sl (.int .i64)), scores4, (.sl .sh), false, false, 0⟩), (1, ⟨(.sl (.int .i64)), ranks5, (.sl .sh), false, false, 0⟩), (2, ⟨(.sl (.int .i64)), order6, (.sl .sh), false, false, 0⟩), (3, ⟨(.sl (.int .i64)), p10, (.sl .sh), false, false, 0⟩), (4, ⟨(.sl (.int .i64)), again14, (.sl .sh), false, false, 0⟩)], 5⟩
theorem laws_FnRanks.l1_eq (k7 : Int) (r3 : (List Int) × Int × Int) (scores4 : List Int) (ranks5 : List Int) (order6 : List Int) : laws_FnRanks.l1 k7 r3 scores4 ranks5 order6 =
  (bif (decide (k7 < ((List.length order6) : Int))) then (bif (decide ((0 : Int) ≤ (IntKind.wrap .i64 (k7 - (1 : Int))))) then (bif (decide ((IntKind.wrap .i64 (k7 - (1 : Int))) < ((List.length order6) : Int))) then (bif (decide ((0 : Int) ≤ k7)) then (bif (decide (k7 < ((List.length order6) : Int))) then (bif (decide ((List.getD order6 (Int.toNat (IntKind.wrap .i64 (k7 - (1 : Int)))) (0 : Int)) < (0 : Int))) then (some false)
            else (bif (decide ((List.getD order6 (Int.toNat k7) (0 : Int)) < (0 : Int))) then (some false)
              else (bif (decide ((List.getD order6 (Int.toNat (IntKind.wrap .i64 (k7 - (1 : Int)))) (0 : Int)) ≥ ((List.length ranks5) : Int))) then (some false)
                else (bif (decide ((List.getD order6 (Int.toNat k7) (0 : Int)) ≥ ((List.length ranks5) : Int))) then (some false)
                  else (bif (decide ((0 : Int) ≤ (List.getD order6 (Int.toNat (IntKind.wrap .i64 (k7 - (1 : Int)))) (0 : Int)))) then (bif (decide ((List.getD order6 (Int.toNat (IntKind.wrap .i64 (k7 - (1 : Int)))) (0 : Int)) < ((List.length scores4) : Int))) then (bif (decide ((0 : Int) ≤ (List.getD order6 (Int.toNat k7) (0 : Int)))) then (bif (decide ((List.getD order6 (Int.toNat k7) (0 : Int)) < ((List.length scores4) : Int))) then (bif (decide ((List.getD scores4 (Int.toNat (List.getD order6 (Int.toNat (IntKind.wrap .i64 (k7 - (1 : Int)))) (0 : Int))) (0 : Int)) < (List.getD scores4 (Int.toNat (List.getD order6 (Int.toNat k7) (0 : Int))) (0 : Int)))) then (some false)
                            else (bif (decide ((0 : Int) ≤ (List.getD order6 (Int.toNat (IntKind.wrap .i64 (k7 - (1 : Int)))) (0 : Int)))) then (bif (decide ((List.getD order6 (Int.toNat (IntKind.wrap .i64 (k7 - (1 : Int)))) (0 : Int)) < ((List.length scores4) : Int))) then (bif (decide ((0 : Int) ≤ (List.getD order6 (Int.toNat k7) (0 : Int)))) then (bif (decide ((List.getD order6 (Int.toNat k7) (0 : Int)) < ((List.length scores4) : Int))) then (bif ((List.getD scores4 (Int.toNat (List.getD order6 (Int.toNat (IntKind.wrap .i64 (k7 - (1 : Int)))) (0 : Int))) (0 : Int)) == (List.getD scores4 (Int.toNat (List.getD order6 (Int.toNat k7) (0 : Int))) (0 : Int))) then (bif (decide ((List.getD order6 (Int.toNat (IntKind.wrap .i64 (k7 - (1 : Int)))) (0 : Int)) ≥ (List.getD order6 (Int.toNat k7) (0 : Int)))) then (some false)
                                        else (bif (decide ((0 : Int) ≤ (List.getD order6 (Int.toNat (IntKind.wrap .i64 (k7 - (1 : Int)))) (0 : Int)))) then (bif (decide ((List.getD order6 (Int.toNat (IntKind.wrap .i64 (k7 - (1 : Int)))) (0 : Int)) < ((List.length ranks5) : Int))) then (bif (decide ((0 : Int) ≤ (List.getD order6 (Int.toNat k7) (0 : Int)))) then (bif (decide ((List.getD order6 (Int.toNat k7) (0 : Int)) < ((List.length ranks5) : Int))) then (bif (decide ((0 : Int) ≤ (List.getD order6 (Int.toNat (IntKind.wrap .i64 (k7 - (1 : Int)))) (0 : Int)))) then (bif (decide ((List.getD order6 (Int.toNat (IntKind.wrap .i64 (k7 - (1 : Int)))) (0 : Int)) < ((List.length scores4) : Int))) then (bif (decide ((0 : Int) ≤ (List.getD order6 (Int.toNat k7) (0 : Int)))) then (bif (decide ((List.getD order6 (Int.toNat k7) (0 : Int)) < ((List.length scores4) : Int))) then (bif (!(((List.getD ranks5 (Int.toNat (List.getD order6 (Int.toNat (IntKind.wrap .i64 (k7 - (1 : Int)))) (0 : Int))) (0 : Int)) == (List.getD ranks5 (Int.toNat (List.getD order6 (Int.toNat k7) (0 : Int))) (0 : Int))) == ((List.getD scores4 (Int.toNat (List.getD order6 (Int.toNat (IntKind.wrap .i64 (k7 - (1 : Int)))) (0 : Int))) (0 : Int)) == (List.getD scores4 (Int.toNat (List.getD order6 (Int.toNat k7) (0 : Int))) (0 : Int))))) then (some false)
                                                          else (bif (decide ((0 : Int) ≤ (List.getD order6 (Int.toNat (IntKind.wrap .i64 (k7 - (1 : Int)))) (0 : Int)))) then (bif (decide ((List.getD order6 (Int.toNat (IntKind.wrap .i64 (k7 - (1 : Int)))) (0 : Int)) < ((List.length ranks5) : Int))) then (bif (decide ((0 : Int) ≤ (List.getD order6 (Int.toNat k7) (0 : Int)))) then (bif (decide ((List.getD order6 (Int.toNat k7) (0 : Int)) < ((List.length ranks5) : Int))) then (bif ((List.getD ranks5 (Int.toNat (List.getD order6 (Int.toNat (IntKind.wrap .i64 (k7 - (1 : Int)))) (0 : Int))) (0 : Int)) != (List.getD ranks5 (Int.toNat (List.getD order6 (Int.toNat k7) (0 : Int))) (0 : Int))) then (bif (decide ((0 : Int) ≤ (List.getD order6 (Int.toNat k7) (0 : Int)))) then (bif (decide ((List.getD order6 (Int.toNat k7) (0 : Int)) < ((List.length ranks5) : Int))) then (bif ((List.getD ranks5 (Int.toNat (List.getD order6 (Int.toNat k7) (0 : Int))) (0 : Int)) != (IntKind.wrap .i64 (k7 + (1 : Int)))) then (some false)
                                                                          else (laws_FnRanks.l1 (IntKind.wrap .i64 (k7 + (1 : Int))) r3 scores4 ranks5 order6))
                                                                        else none)
                                                                      else none)
                                                                    else (laws_FnRanks.l1 (IntKind.wrap .i64 (k7 + (1 : Int))) r3 scores4 ranks5 order6))
                                                                  else none)
                                                                else none)
                                                              else none)
                                                            else none))
                                                        else none)
                                                      else none)
                                                    else none)
                                                  else none)
                                                else none)
                                              else none)
                                            else none)
                                          else none))
                                      else (bif (decide ((0 : Int) ≤ (List.getD order6 (Int.toNat (IntKind.wrap .i64 (k7 - (1 : Int)))) (0 : Int)))) then (bif (decide ((List.getD order6 (Int.toNat (IntKind.wrap .i64 (k7 - (1 : Int)))) (0 : Int)) < ((List.length ranks5) : Int))) then (bif (decide ((0 : Int) ≤ (List.getD order6 (Int.toNat k7) (0 : Int)))) then (bif (decide ((List.getD order6 (Int.toNat k7) (0 : Int)) < ((List.length ranks5) : Int))) then (bif (decide ((0 : Int) ≤ (List.getD order6 (Int.toNat (IntKind.wrap .i64 (k7 - (1 : Int)))) (0 : Int)))) then (bif (decide ((List.getD order6 (Int.toNat (IntKind.wrap .i64 (k7 - (1 : Int)))) (0 : Int)) < ((List.length scores4) : Int))) then (bif (decide ((0 : Int) ≤ (List.getD order6 (Int.toNat k7) (0 : Int)))) then (bif (decide ((List.getD order6 (Int.toNat k7) (0 : Int)) < ((List.length scores4) : Int))) then (bif (!(((List.getD ranks5 (Int.toNat (List.getD order6 (Int.toNat (IntKind.wrap .i64 (k7 - (1 : Int)))) (0 : Int))) (0 : Int)) == (List.getD ranks5 (Int.toNat (List.getD order6 (Int.toNat k7) (0 : Int))) (0 : Int))) == ((List.getD scores4 (Int.toNat (List.getD order6 (Int.toNat (IntKind.wrap .i64 (k7 - (1 : Int)))) (0 : Int))) (0 : Int)) == (List.getD scores4 (Int.toNat (List.getD order6 (Int.toNat k7) (0 : Int))) (0 : Int))))) then (some false)
                                                        else (bif (decide ((0 : Int) ≤ (List.getD order6 (Int.toNat (IntKind.wrap .i64 (k7 - (1 : Int)))) (0 : Int)))) then (bif (decide ((List.getD order6 (Int.toNat (IntKind.wrap .i64 (k7 - (1 : Int)))) (0 : Int)) < ((List.length ranks5) : Int))) then (bif (decide ((0 : Int) ≤ (List.getD order6 (Int.toNat k7) (0 : Int)))) then (bif (decide ((List.getD order6 (Int.toNat k7) (0 : Int)) < ((List.length ranks5) : Int))) then (bif ((List.getD ranks5 (Int.toNat (List.getD order6 (Int.toNat (IntKind.wrap .i64 (k7 - (1 : Int)))) (0 : Int))) (0 : Int)) != (List.getD ranks5 (Int.toNat (List.getD order6 (Int.toNat k7) (0 : Int))) (0 : Int))) then (bif (decide ((0 : Int) ≤ (List.getD order6 (Int.toNat k7) (0 : Int)))) then (bif (decide ((List.getD order6 (Int.toNat k7) (0 : Int)) < ((List.length ranks5) : Int))) then (bif ((List.getD ranks5 (Int.toNat (List.getD order6 (Int.toNat k7) (0 : Int))) (0 : Int)) != (IntKind.wrap .i64 (k7 + (1 : Int)))) then (some false)
                                                                        else (laws_FnRanks.l1 (IntKind.wrap .i64 (k7 + (1 : Int))) r3 scores4 ranks5 order6))
                                                                      else none)
                                                                    else none)
                                                                  else (laws_FnRanks.l1 (IntKind.wrap .i64 (k7 + (1 : Int))) r3 scores4 ranks5 order6))
                                                                else none)
                                                              else none)
                                                            else none)
                                                          else none))
                                                      else none)
                                                    else none)
                                                  else none)
                                                else none)
                                              else none)
                                            else none)
                                          else none)
                                        else none))
                                    else none)
                                  else none)
                                else none)
                              else none))
                          else none)
                        else none)
                      else none)
                    else none)))))
          else none)
        else none)
      else none)
    else none)
  else ((laws_shuffled_1.f (r3, ((List.length scores4) : Int))).bind fun (r1055 : (List Int) × ((List Int) × Int × Int) × Unit) =>
    (bif (decide ((0 : Int) ≤ ((List.length scores4) : Int))) then (bif (decide (((List.length scores4) : Int) ≤ ((List.length scores4) : Int))) then (bif (decide (((List.length scores4) : Int) ≤ (17592186044416 : Int))) then (laws_FnRanks.l2 (0 : Int) scores4 ranks5 order6 r1055.1 (List.replicate (Int.toNat ((List.length scores4) : Int)) (0 : Int)))
          else none)
        else none)
      else none))) :=
  (runOf_eq laws_FnRanks.E [] Try.f12 [.imm (.sl (.int .u8))] [(.bool, .sh)] 1 _).trans (by kernel_rfl)
theorem laws_FnRanks.l2_eq (i12 : Int) (scores4 : List Int) (ranks5 : List Int) (order6 : List Int) (p10 : List Int) (mixed11 : List Int) : laws_FnRanks.l2 i12 scores4 ranks5 order6 p10 mixed11 =
  (bif (decide (i12 < ((List.length scores4) : Int))) then (bif (decide ((0 : Int) ≤ i12)) then (bif (decide (i12 < ((List.length p10) : Int))) then (bif (decide ((0 : Int) ≤ i12)) then (bif (decide (i12 < ((List.length scores4) : Int))) then (bif (decide ((0 : Int) ≤ (List.getD p10 (Int.toNat i12) (0 : Int)))) then (bif (decide ((List.getD p10 (Int.toNat i12) (0 : Int)) < ((List.length mixed11) : Int))) then (laws_FnRanks.l2 (IntKind.wrap .i64 (i12 + (1 : Int))) scores4 ranks5 order6 p10 (List.set mixed11 (Int.toNat (List.getD p10 (Int.toNat i12) (0 : Int))) (List.getD scores4 (Int.toNat i12) (0 : Int))))
              else none)
            else none)
          else none)
        else none)
      else none)
    else none)
  else ((impl_RankScores.f mixed11).bind fun (r1063 : List Int) =>
    (laws_FnRanks.l3 (0 : Int) scores4 ranks5 order6 p10 r1063))) :=
  (runOf_eq laws_FnRanks.E [] Try.f12 [.imm (.sl (.int .u8))] [(.bool, .sh)] 2 _).trans (by kernel_rfl)
theorem laws_FnRanks.l3_eq (i15 : Int) (scores4 : List Int) (ranks5 : List Int) (order6 : List Int) (p10 : List Int) (again14 : List Int) : laws_FnRanks.l3 i15 scores4 ranks5 order6 p10 again14 =
  (bif (decide (i15 < ((List.length scores4) : Int))) then (bif (((List.length again14) : Int) != ((List.length ranks5) : Int)) then (some false)
    else (bif (decide ((0 : Int) ≤ i15)) then (bif (decide (i15 < ((List.length p10) : Int))) then (bif (decide ((0 : Int) ≤ (List.getD p10 (Int.toNat i15) (0 : Int)))) then (bif (decide ((List.getD p10 (Int.toNat i15) (0 : Int)) < ((List.length again14) : Int))) then (bif (decide ((0 : Int) ≤ i15)) then (bif (decide (i15 < ((List.length ranks5) : Int))) then (bif ((List.getD again14 (Int.toNat (List.getD p10 (Int.toNat i15) (0 : Int))) (0 : Int)) != (List.getD ranks5 (Int.toNat i15) (0 : Int))) then (some false)
                  else (laws_FnRanks.l3 (IntKind.wrap .i64 (i15 + (1 : Int))) scores4 ranks5 order6 p10 again14))
                else none)
              else none)
            else none)
          else none)
        else none)
      else none))
  else (bif (decide ((0 : Int) < ((List.length order6) : Int))) then (bif (decide ((0 : Int) ≤ (List.getD order6 0 (0 : Int)))) then (bif (decide ((List.getD order6 0 (0 : Int)) < ((List.length ranks5) : Int))) then (some ((List.getD ranks5 (Int.toNat (List.getD order6 0 (0 : Int))) (0 : Int)) == (1 : Int)))
        else none)
      else none)
    else none)) :=
  (runOf_eq laws_FnRanks.E [] Try.f12 [.imm (.sl (.int .u8))] [(.bool, .sh)] 3 _).trans (by kernel_rfl)
theorem laws_FnRanks.eq (code0 : List Int) : laws_FnRanks.f code0 =
  ((laws_big.f code0).bind fun (r717 : Bool) =>
  (bif r717 then (some true)
    else ((laws_roll.f (code0, (5405 : Int))).bind fun (r724 : (List Int) × Int × Int) =>
      ((spec_DrawRankScores.f code0).bind fun (r731 : List Int) =>
        ((impl_RankScores.f r731).bind fun (r733 : List Int) =>
          ((impl_RankOrder.f r731).bind fun (r1019 : List Int) =>
            ((spec_RankScores.f r731).bind fun (r1021 : List Int) =>
              (bif (((List.length r733) : Int) != ((List.length r1021) : Int)) then (some false)
                else (bif (((List.length r1019) : Int) != ((List.length r733) : Int)) then (some false)
                  else (bif (((List.length r733) : Int) == (0 : Int)) then (some true)
                    else (laws_FnRanks.l1 (1 : Int) r724 r731 r733 r1019))))))))))) :=
  (fnOf_eq laws_FnRanks.E [] Try.f12 [.imm (.sl (.int .u8))] [(.bool, .sh)] code0).trans (by kernel_rfl)

/-! laws_FnExactRankScores -/
noncomputable def laws_FnExactRankScores.E : Env := ⟨TT, [laws_toInt64S.m, spec_RankScores.m, impl_RankScores.m, laws_eqInt64S.m, laws_markInt64S_1.m, laws_heldInt64S.m], []⟩
noncomputable def laws_FnExactRankScores.f : List Int → Option Bool := fnOf laws_FnExactRankScores.E [] Try.f5 [.imm (.sl (.int .i64))] [(.bool, .sh)]
noncomputable def laws_FnExactRankScores.m : FM := ⟨5, [.imm (.sl (.int .i64))], [(.bool, .sh)], laws_FnExactRankScores.f⟩
theorem laws_FnExactRankScores.sound : Sound Try.prog laws_FnExactRankScores.m := sound_of (E := laws_FnExactRankScores.E) tok ⟨laws_toInt64S.sound, spec_RankScores.sound, impl_RankScores.sound, laws_eqInt64S.sound, laws_markInt64S_1.sound, laws_heldInt64S.sound, trivial⟩ mix Try.func5 (by kernel_rfl)
theorem laws_FnExactRankScores.eq (aScores0 : List Int) : laws_FnExactRankScores.f aScores0 =
  (bif (decide (((List.length aScores0) : Int) > (1048576 : Int))) then (some true)
  else ((laws_toInt64S.f aScores0).bind fun (r6 : List Int) =>
    ((spec_RankScores.f r6).bind fun (r35 : List Int) =>
      ((laws_toInt64S.f aScores0).bind fun (r37 : List Int) =>
        ((impl_RankScores.f r37).bind fun (r86 : List Int) =>
          ((laws_eqInt64S.f (r86, r35)).bind fun (r93 : Bool) =>
            (bif (!r93) then (some false)
              else ((laws_toInt64S.f aScores0).bind fun (r95 : List Int) =>
                ((laws_eqInt64S.f (r37, r95)).bind fun (r97 : Bool) =>
                  (bif (!r97) then (some false)
                    else ((laws_markInt64S_1.f (r37, (1 : Int))).bind fun (r109 : Int × (List Int) × Unit) =>
                      (bif (decide (r109.1 < (0 : Int))) then (some false)
                        else ((laws_eqInt64S.f (r86, r35)).bind fun (r111 : Bool) =>
                          (bif (!r111) then (some false)
                            else ((laws_markInt64S_1.f (r86, (1 : Int))).bind fun (r113 : Int × (List Int) × Unit) =>
                              ((laws_heldInt64S.f (r113.2.1, (1 : Int))).bind fun (r120 : Int) =>
                                (bif (decide (r120 < (0 : Int))) then (some false)
                                  else (bif (r120 != r113.1) then (some false)
                                    else ((laws_toInt64S.f aScores0).bind fun (r122 : List Int) =>
                                      ((impl_RankScores.f r122).bind fun (r124 : List Int) =>
                                        ((laws_eqInt64S.f (r124, r35)).bind fun (r126 : Bool) =>
                                          (bif (!r126) then (some false)
                                            else ((laws_heldInt64S.f (r113.2.1, (1 : Int))).bind fun (r128 : Int) =>
                                              (bif (decide (r128 < (0 : Int))) then (some false)
                                                else (bif (r128 != r113.1) then (some false)
                                                  else (some true)))))))))))))))))))))))))) :=
  (fnOf_eq laws_FnExactRankScores.E [] Try.f5 [.imm (.sl (.int .i64))] [(.bool, .sh)] aScores0).trans (by kernel_rfl)
end Go.Proofs.Ytkeockkepmljjaa
end

section
namespace Go.Proofs.Ytkeockkepmljjaa
open Go Go.Proofs Ev Pl

/-! dice -/
def Dice (d : List Int × Int × Int) : Prop := (∀ b ∈ d.1, 0 ≤ b ∧ b ≤ 255) ∧ d.1.length ≤ 1048576 ∧ 0 ≤ d.2.1 ∧ d.2.1 ≤ d.1.length

theorem and_bd (x : Int) : 0 ≤ ibits .and .u64 x 16777215 ∧ ibits .and .u64 x 16777215 ≤ 16777215 := by
  have h : (BitVec.ofInt 64 x &&& BitVec.ofInt 64 16777215).toNat ≤ 16777215 := by
    rw [BitVec.toNat_and]
    exact Nat.le_trans Nat.and_le_right (by decide)
  have e : ibits .and .u64 x 16777215 = IntKind.wrap .u64 ((BitVec.ofInt 64 x &&& BitVec.ofInt 64 16777215).toNat : Int) := rfl
  rw [e]
  generalize (BitVec.ofInt 64 x &&& BitVec.ofInt 64 16777215).toNat = y at h
  have e1 : IntKind.wrap .u64 (y : Int) = (y : Int) := by
    simp only [IntKind.wrap, IntKind.signed, IntKind.bits]
    simp
    omega
  rw [e1]
  omega

theorem below_ok {d : List Int × Int × Int} {n : Int} (hd : Dice d) (hn : 0 < n) : ∃ x d', laws_dice_below_1.f (d, n) = some (x, d', ()) ∧ Dice d' ∧ 0 ≤ x ∧ x < n := by
  rw [laws_dice_below_1.eq]
  obtain ⟨c, a, z⟩ := d
  obtain ⟨h1, h2, h3, h4⟩ := hd
  simp only at h1 h2 h3 h4
  simp only
  have key : ∀ (x : Int) (d : List Int × Int × Int), 0 ≤ x → Dice d → ∃ x1 d1, laws_dice_below_1.l1 n x d = some (x1, d1, ()) ∧ Dice d1 ∧ 0 ≤ x1 ∧ x1 < n := fun x d hx hd => by
    rw [laws_dice_below_1.l1_eq]
    have c : ¬ n = 0 := by omega
    simp only [c, decide_false, cond_false]
    rw [tmod_nn hx hn]
    exact ⟨_, _, rfl, hd, Int.emod_nonneg _ (by omega), Int.emod_lt_of_pos _ hn⟩
  have hb := and_bd (Int.fdiv (IntKind.wrap .u64 ((IntKind.wrap .u64 (z * (6364136223846793005 : Int))) + (1442695040888963407 : Int))) ((2 : Int) ^ (min 33 64)))
  rw [w64 (n := ibits .and .u64 _ _) (by omega) (by omega)]
  by_cases ha : a < (c.length : Int)
  · have hg := h1 _ (getD_mem (l := c) (i := a.toNat) (by omega) 0)
    simp only [ha, h3, decide_true, cond_true]
    rw [w64 (n := c.getD a.toNat 0) (by omega) (by omega), w64 (n := a + 1) (by omega) (by omega), w64 (by omega) (by omega)]
    exact key _ _ (by omega) ⟨h1, h2, by simp only; omega, by simp only; omega⟩
  · simp only [ha, decide_false, cond_false]
    exact key _ _ hb.1 ⟨h1, h2, h3, h4⟩

theorem roll_ok {code : List Int} (hb : ∀ b ∈ code, 0 ≤ b ∧ b ≤ 255) (hl : code.length ≤ 1048576) (s : Int) : ∃ d, laws_roll.f (code, s) = some d ∧ Dice d := by
  rw [laws_roll.eq]
  have L : ∀ (d i : Nat) (z : Int), i + d = code.length → ∃ d, laws_roll.l1 code (i : Int) (code, 0, z) = some d ∧ Dice d := by
    intro d
    induction d with
    | zero =>
      intro i z hi
      rw [laws_roll.l1_eq]
      have c : ¬ ((i : Int) < (code.length : Int)) := by omega
      simp only [c, decide_false, cond_false]
      exact ⟨_, rfl, hb, hl, by simp, by simp⟩
    | succ d ih =>
      intro i z hi
      rw [laws_roll.l1_eq]
      have c : ((i : Int) < (code.length : Int)) := by omega
      simp only [c, Int.natCast_nonneg, decide_true, cond_true, wadd1 (show i ≤ 4194304 by omega)]
      exact ih (i + 1) _ (by omega)
  exact L code.length 0 _ (by omega)

theorem shuffled_ok {d : List Int × Int × Int} (hd : Dice d) (n : Nat) (hn : n ≤ 1048576) : ∃ p d', laws_shuffled_1.f (d, (n : Int)) = some (p, d', ()) ∧ p.Perm (upTo 0 n) := by
  rw [laws_shuffled_1.eq]
  have L2 : ∀ (i : Nat) (d : List Int × Int × Int) (p : List Int), Dice d → p.length = n → (i = 0 ∨ i < n) → ∃ p' d', laws_shuffled_1.l2 i d p = some (p', d', ()) ∧ p'.Perm p := by
    intro i
    induction i with
    | zero =>
      intro d p hd hp hi
      rw [laws_shuffled_1.l2_eq]
      have c : ¬ (((0 : Nat) : Int) > 0) := by omega
      simp only [c, decide_false, cond_false]
      exact ⟨p, d, rfl, List.Perm.refl _⟩
    | succ i ih =>
      intro d p hd hp hi
      rw [laws_shuffled_1.l2_eq]
      have c : (((i + 1 : Nat) : Int) > 0) := by omega
      have c1 : (((i + 1 : Nat) : Int) < (p.length : Int)) := by omega
      obtain ⟨x, d', e, hd', hx1, hx2⟩ := below_ok (n := ((i + 1 + 1 : Nat) : Int)) hd (by omega)
      obtain ⟨x, rfl⟩ : ∃ y : Nat, x = y := ⟨x.toNat, by omega⟩
      have hx : x < p.length := by omega
      have c2 : ((x : Int) < (p.length : Int)) := by omega
      simp only [c, c1, c2, wadd1 (show i + 1 ≤ 4194304 by omega), wsub1 (show i + 1 ≤ 8388608 by omega) (by omega), e, Option.bind_some, Int.natCast_nonneg, List.length_set, decide_true, cond_true, Int.toNat_natCast]
      obtain ⟨p', d2, e2, h2⟩ := ih d' ((p.set (i + 1) (p.getD x 0)).set x (p.getD (i + 1) 0)) hd' (by simpa using hp) (by omega)
      refine ⟨p', d2, e2, h2.trans ?_⟩
      rw [getD_nat hx, getD_nat (show i + 1 < p.length by omega)]
      exact List.set_set_perm (by omega) hx
  have L1 : ∀ (e i : Nat), i + e = n → ∃ p d', laws_shuffled_1.l1 n i d (upTo 0 i) = some (p, d', ()) ∧ p.Perm (upTo 0 n) := by
    intro e
    induction e with
    | zero =>
      intro i hi
      obtain rfl : i = n := by omega
      rw [laws_shuffled_1.l1_eq]
      simp only [Int.lt_irrefl, decide_false, cond_false]
      by_cases h0 : i = 0
      · subst h0
        rw [laws_shuffled_1.l2_eq]
        have w : IntKind.wrap .i64 (((0 : Nat) : Int) - 1) = -1 := by rw [w64 (by omega) (by omega)]; rfl
        rw [w]
        exact ⟨_, _, rfl, List.Perm.refl _⟩
      · rw [wsub1 (by omega) (by omega)]
        exact L2 (i - 1) d _ hd (upTo_len 0 i) (by omega)
    | succ e ih =>
      intro i hi
      rw [laws_shuffled_1.l1_eq]
      have c : ((i : Int) < (n : Int)) := by omega
      have ho : i + 1 ≤ 17592186044416 := by omega
      simp only [c, upTo_len, ho, decide_true, cond_true, wadd1 (show i ≤ 4194304 by omega)]
      rw [← upTo_snoc]
      exact ih (i + 1) (by omega)
  exact L1 n 0 (by omega)

/-! scores of places -/
def sc (l : List Int) (x : Int) : Int := l.getD x.toNat 0
theorem map_upTo (l : List Int) : (upTo 0 l.length).map (sc l) = l := by
  unfold upTo
  rw [List.map_map]
  apply List.ext_getElem
  · simp
  · intro i h1 h2
    simp [sc, h2]
theorem sc_mem {l : List Int} {x : Int} (h : In (ranks l) x) : sc l x ∈ l := by
  unfold In at h; rw [ranks_len] at h
  exact getD_mem (by omega) 0
theorem key_rk {l : List Int} {x : Int} (h : In (ranks l) x) : key (ranks l) x = rk l (sc l x) := by
  unfold In at h; rw [ranks_len] at h
  unfold key sc
  rw [ranks_get (by omega), getD_nat (by omega)]
theorem key_lt {l : List Int} {x y : Int} (hx : In (ranks l) x) (hy : In (ranks l) y) : key (ranks l) x < key (ranks l) y ↔ sc l y < sc l x := by
  rw [key_rk hx, key_rk hy]
  rcases Int.lt_trichotomy (sc l x) (sc l y) with h | h | h
  · have := rk_lt (sc_mem hy) h; omega
  · rw [h]; omega
  · have := rk_lt (sc_mem hx) h; omega

theorem key_at {l R : List Int} (hR : So (ranks l) R) (hP : R.Perm (upTo 0 l.length)) {k : Nat} (hk : k < R.length) (h : ∀ t, (ht : t < k) → key (ranks l) (R[t]'(by omega)) < key (ranks l) R[k]) : key (ranks l) R[k] = k + 1 := by
  have hin : ∀ x ∈ R, In (ranks l) x := fun x hx => by
    have := upTo_mem.mp (hP.mem_iff.mp hx)
    unfold In; rw [ranks_len]; omega
  have hJ := hin _ (List.getElem_mem hk)
  have e : rk l (sc l R[k]) = 1 + ((R.countP fun x => decide (key (ranks l) x < key (ranks l) R[k]) : Nat) : Int) := by
    unfold rk
    congr 2
    rw [show l.countP (fun b => decide (sc l R[k] < b)) = ((upTo 0 l.length).map (sc l)).countP (fun b => decide (sc l R[k] < b)) by rw [map_upTo], List.countP_map, ← hP.countP_eq]
    apply List.countP_congr
    intro x hx
    simp only [Function.comp_apply, decide_eq_true_eq]
    exact (key_lt (hin x hx) hJ).symm
  rw [key_rk hJ, e]
  have s : ∀ q, (∀ t, (ht : t < k) → key (ranks l) (R[t]'(by omega)) < q) → (∀ t, k ≤ t → (ht : t < R.length) → q ≤ key (ranks l) R[t]) → R.countP (fun x => decide (key (ranks l) x < q)) = k := by
    intro q h1 h2
    have e0 : R.countP (fun x => decide (key (ranks l) x < q)) = (R.take k ++ R.drop k).countP (fun x => decide (key (ranks l) x < q)) := by rw [List.take_append_drop]
    rw [e0, List.countP_append]
    have a1 : (R.take k).countP (fun x => decide (key (ranks l) x < q)) = k := by
      rw [List.countP_eq_length.mpr]
      · simp; omega
      · intro x hx
        obtain ⟨t, ht, rfl⟩ := List.getElem_of_mem hx
        simp at ht
        rw [List.getElem_take]
        simpa using h1 t (by omega)
    have a2 : (R.drop k).countP (fun x => decide (key (ranks l) x < q)) = 0 := by
      rw [List.countP_eq_zero]
      intro x hx
      obtain ⟨t, ht, rfl⟩ := List.getElem_of_mem hx
      rw [List.getElem_drop]
      simp at ht
      have := h2 (k + t) (by omega) (by omega)
      simp; omega
    omega
  rw [s _ h (fun t h1 ht => by
    by_cases h0 : t = k
    · subst h0; exact Int.le_refl _
    · have := (List.pairwise_iff_getElem.mp hR) k t (by omega) (by omega) (by omega)
      unfold Lt at this
      omega)]
  omega

theorem FnRanks_l3 (l p R M : List Int) (h : l.length ≤ 1048576) (hs : okScores l = true) (h0 : 0 < l.length) (hR : So (ranks l) R) (hP : R.Perm (upTo 0 l.length)) (hp : p.Perm (upTo 0 l.length))
    (hM : M.length = l.length) (hMv : ∀ i, i < l.length → M.getD (p.getD i 0).toNat 0 = l.getD i 0) :
    ∀ (d i : Nat), i + d = l.length → laws_FnRanks.l3 i l (ranks l) R p (if okScores M = true then ranks M else []) = some true := by
  have hpl : p.length = l.length := by rw [hp.length_eq, upTo_len]
  have hRl : R.length = l.length := by rw [hP.length_eq, upTo_len]
  have pm : M.Perm l := by
    have e1 : l = p.map (sc M) := by
      apply List.ext_getElem
      · simp [hpl]
      · intro i h1 h2
        rw [List.getElem_map]
        have := hMv i h1
        rw [getD_nat h1, getD_nat (show i < p.length by omega)] at this
        exact this.symm
    have e2 : (p.map (sc M)).Perm ((upTo 0 l.length).map (sc M)) := hp.map _
    rw [← hM, map_upTo M, ← e1] at e2
    exact e2.symm
  have hsM : okScores M = true := by
    unfold okScores at hs ⊢
    simp only [Bool.and_eq_true, decide_eq_true_eq, List.all_eq_true] at hs ⊢
    exact ⟨by omega, fun x hx => hs.2 x (pm.mem_iff.mp hx)⟩
  rw [if_pos hsM]
  have hrk : ∀ a, rk M a = rk l a := fun a => by unfold rk; rw [pm.countP_eq]
  intro d
  induction d with
  | zero =>
    intro i hi
    rw [laws_FnRanks.l3_eq]
    have c : ¬ ((i : Int) < (l.length : Int)) := by omega
    have hin : In (ranks l) R[0] := by
      have := upTo_mem.mp (hP.mem_iff.mp (List.getElem_mem (l := R) (n := 0) (by omega)))
      unfold In; rw [ranks_len]; omega
    have hk : key (ranks l) R[0] = 1 := by
      have := key_at hR hP (k := 0) (by omega) (fun t ht => by omega)
      simpa using this
    have g : R.getD 0 0 = R[0] := getD_nat (by omega) 0
    unfold key at hk
    have c1 : ((0 : Int) < (R.length : Int)) := by omega
    simp only [c, c1, g, hin.1, hin.2, hk, decide_true, decide_false, cond_true, cond_false, beq_self_eq_true]
  | succ d ih =>
    intro i hi
    rw [laws_FnRanks.l3_eq]
    have hlt : i < l.length := by omega
    have c : ((i : Int) < (l.length : Int)) := by omega
    have hpi := upTo_mem.mp (hp.mem_iff.mp (getD_mem (l := p) (i := i) (by omega) 0))
    have c1 : ((i : Int) < (p.length : Int)) := by omega
    have c2 : 0 ≤ p.getD i 0 := by omega
    have c3 : p.getD i 0 < (M.length : Int) := by omega
    have e1 : (ranks M).getD (p.getD i 0).toNat 0 = (ranks l).getD i 0 := by
      rw [ranks_get (by omega), ranks_get hlt, hrk]
      have := hMv i hlt
      rw [getD_nat hlt, getD_nat (by omega)] at this
      rw [this]
    simp only [c, c1, c2, c3, ranks_len, hM, bne_self_eq_false, Int.natCast_nonneg, decide_true, cond_true, cond_false, Int.toNat_natCast, e1, wadd1 (show i ≤ 4194304 by omega)]
    rw [hM] at c3
    simp only [c3, decide_true, cond_true]
    exact ih (i + 1) (by omega)

theorem FnRanks_l2 (l p R : List Int) (h : l.length ≤ 1048576) (hs : okScores l = true) (h0 : 0 < l.length) (hR : So (ranks l) R) (hP : R.Perm (upTo 0 l.length)) (hp : p.Perm (upTo 0 l.length)) :
    ∀ (d i : Nat) (M : List Int), i + d = l.length → M.length = l.length → (∀ t, t < i → M.getD (p.getD t 0).toNat 0 = l.getD t 0) → laws_FnRanks.l2 i l (ranks l) R p M = some true := by
  have hpl : p.length = l.length := by rw [hp.length_eq, upTo_len]
  have nd : p.Nodup := hp.nodup_iff.mpr ((upTo_pw 0 l.length).imp (by intro a b h; omega))
  intro d
  induction d with
  | zero =>
    intro i M hi hM hv
    rw [laws_FnRanks.l2_eq]
    have c : ¬ ((i : Int) < (l.length : Int)) := by omega
    simp only [c, decide_false, cond_false, impl_RankScores_ok M (by omega), Option.bind_some]
    exact FnRanks_l3 l p R M h hs h0 hR hP hp hM (fun t ht => hv t (by omega)) l.length 0 (by omega)
  | succ d ih =>
    intro i M hi hM hv
    rw [laws_FnRanks.l2_eq]
    have hlt : i < l.length := by omega
    have c : ((i : Int) < (l.length : Int)) := by omega
    have hpi := upTo_mem.mp (hp.mem_iff.mp (getD_mem (l := p) (i := i) (by omega) 0))
    have c1 : ((i : Int) < (p.length : Int)) := by omega
    have c2 : 0 ≤ p.getD i 0 := by omega
    have c3 : p.getD i 0 < (M.length : Int) := by omega
    simp only [c, c1, c2, c3, Int.natCast_nonneg, decide_true, cond_true, Int.toNat_natCast, wadd1 (show i ≤ 4194304 by omega)]
    refine ih (i + 1) _ (by omega) (by simpa using hM) fun t ht => ?_
    have hpt := upTo_mem.mp (hp.mem_iff.mp (getD_mem (l := p) (i := t) (by omega) 0))
    by_cases hti : t = i
    · subst hti
      rw [List.getD_eq_getElem?_getD, List.getElem?_set_self (by omega)]
      rfl
    · have hne : p.getD t 0 ≠ p.getD i 0 := by
        rw [getD_nat (by omega), getD_nat (by omega)]
        intro e
        exact (List.pairwise_iff_getElem.mp nd) t i (by omega) (by omega) (by omega) e
      rw [List.getD_eq_getElem?_getD, List.getElem?_set_ne (by omega), ← List.getD_eq_getElem?_getD]
      exact hv t (by omega)

theorem FnRanks_l1 (l R : List Int) (r : List Int × Int × Int) (hr : Dice r) (h : l.length ≤ 1048576) (hs : okScores l = true) (h0 : 0 < l.length) (hR : So (ranks l) R) (hP : R.Perm (upTo 0 l.length)) :
    ∀ (d k : Nat), 1 ≤ k → k + d = l.length → laws_FnRanks.l1 k r l (ranks l) R = some true := by
  have hRl : R.length = l.length := by rw [hP.length_eq, upTo_len]
  intro d
  induction d with
  | zero =>
    intro k h1 hk
    rw [laws_FnRanks.l1_eq]
    have c : ¬ ((k : Int) < (R.length : Int)) := by omega
    obtain ⟨p, d', e, hp⟩ := shuffled_ok hr l.length h
    have c1 : ((l.length : Int) ≤ 17592186044416) := by omega
    simp only [c, c1, e, Option.bind_some, Int.natCast_nonneg, Int.le_refl, decide_true, decide_false, cond_true, cond_false, Int.toNat_natCast]
    exact FnRanks_l2 l p R h hs h0 hR hP hp l.length 0 _ (by omega) (by simp) (fun t ht => by omega)
  | succ d ih =>
    intro k h1 hk
    have G := ih (k + 1) (by omega) (by omega)
    rw [laws_FnRanks.l1_eq]
    have c : ((k : Int) < (R.length : Int)) := by omega
    have cp : (((k - 1 : Nat) : Int) < (R.length : Int)) := by omega
    have hin : ∀ x ∈ R, In (ranks l) x := fun x hx => by
      have := upTo_mem.mp (hP.mem_iff.mp hx)
      unfold In; rw [ranks_len]; omega
    have hI := hin _ (List.getElem_mem (l := R) (n := k - 1) (by omega))
    have hJ := hin _ (List.getElem_mem (l := R) (n := k) (by omega))
    have hlt : Lt (ranks l) (R[k - 1]'(by omega)) (R[k]'(by omega)) := (List.pairwise_iff_getElem.mp hR) (k - 1) k (by omega) (by omega) (by omega)
    have hkk : key (ranks l) (R[k - 1]'(by omega)) < key (ranks l) (R[k]'(by omega)) → key (ranks l) (R[k]'(by omega)) = k + 1 := fun hlt => key_at hR hP (by omega) (fun t ht => by
      by_cases e : t = k - 1
      · subst e; exact hlt
      · have := (List.pairwise_iff_getElem.mp hR) t (k - 1) (by omega) (by omega) (by omega)
        unfold Lt at this; omega)
    have g1 : R.getD (k - 1) 0 = R[k - 1] := getD_nat (by omega) 0
    have g2 : R.getD k 0 = R[k] := getD_nat (by omega) 0
    have kl := key_lt hI hJ
    have kl2 := key_lt hJ hI
    generalize R[k - 1] = I at *
    generalize R[k] = J at *
    have ki : (ranks l).getD I.toNat 0 = key (ranks l) I := rfl
    have kj : (ranks l).getD J.toNat 0 = key (ranks l) J := rfl
    have si : l.getD I.toNat 0 = sc l I := rfl
    have sj : l.getD J.toNat 0 = sc l J := rfl
    have hI2 : I < (l.length : Int) := by have := hI.2; rw [ranks_len] at this; exact this
    have hJ2 : J < (l.length : Int) := by have := hJ.2; rw [ranks_len] at this; exact this
    have a1 : ¬ (I < 0) := by have := hI.1; omega
    have a2 : ¬ (J < 0) := by have := hJ.1; omega
    have a3 : ¬ (I ≥ (l.length : Int)) := by omega
    have a4 : ¬ (J ≥ (l.length : Int)) := by omega
    have a5 : ¬ (sc l I < sc l J) := by unfold Lt at hlt; omega
    simp only [c, cp, wsub1 (show k ≤ 8388608 by omega) h1, wadd1 (show k ≤ 4194304 by omega), Int.natCast_nonneg, Int.toNat_natCast, g1, g2, ranks_len, a1, a2, a3, a4, a5, hI.1, hJ.1, hI2, hJ2, ki, kj, si, sj, decide_true, decide_false, cond_true, cond_false]
    by_cases he : key (ranks l) I = key (ranks l) J
    · have b1 : (sc l I == sc l J) = true := by simp; omega
      have b2 : (key (ranks l) I == key (ranks l) J) = true := by simpa using he
      have b3 : ¬ (I ≥ J) := by unfold Lt at hlt; omega
      have b4 : (key (ranks l) I != key (ranks l) J) = false := by simp [he]
      simp only [b1, b2, b3, b4, decide_false, beq_self_eq_true, Bool.not_true, cond_true, cond_false]
      exact G
    · have b0 : key (ranks l) I < key (ranks l) J := by unfold Lt at hlt; omega
      have b1 : (sc l I == sc l J) = false := by simp; omega
      have b2 : (key (ranks l) I == key (ranks l) J) = false := by simpa using he
      have b4 : (key (ranks l) I != key (ranks l) J) = true := by simpa using he
      have b5 : (key (ranks l) J != ((k + 1 : Nat) : Int)) = false := by simp [hkk b0]
      simp only [b1, b2, b4, b5, beq_self_eq_true, Bool.not_true, cond_true, cond_false]
      exact G

theorem FnRanks_true (code : List Int) (hw : ∀ n ∈ code, (Lit.int .u8 n).wf = true) (hl : code.length ≤ maxLen) : laws_FnRanks.f code = some true := by
  rw [laws_FnRanks.eq, big_ok]
  by_cases hb : (code.length : Int) > 4096
  · simp [hb]
  · obtain ⟨r, e, hr⟩ := roll_ok (bytes hw) (show code.length ≤ 1048576 by omega) 5405
    obtain ⟨s, e1, hs1⟩ := from_ok (bytes hw) (show code.length ≤ 1048576 by omega)
    obtain ⟨l, s2, e2, hs2, hl1, hl2⟩ := l33Draw_ok hs1
    obtain ⟨R, _, e3, hRl, hR⟩ := RankOrder_ok l (by omega)
    simp only [Option.bind_some, hb, decide_false, cond_false, e, spec_DrawRankScores.eq, e1, e2, impl_RankScores_ok l (by omega), e3, spec_RankScores_ok l (by omega), bne_self_eq_false]
    by_cases hs : okScores l = true
    · rw [if_pos hs] at hR
      simp only [hs, if_true, ranks_len, hR.2.length_eq, upTo_len, bne_self_eq_false, cond_false]
      by_cases h0 : l.length = 0
      · have : ((l.length : Int) == 0) = true := by simp [h0]
        simp only [this, cond_true]
      · have : ((l.length : Int) == 0) = false := by simp [h0]
        simp only [this, cond_false]
        exact FnRanks_l1 l R r hr (by omega) hs (by omega) hR.1 hR.2 (l.length - 1) 1 (by omega) (by omega)
    · rw [if_neg hs] at hR
      subst hR
      simp [hs]
end Go.Proofs.Ytkeockkepmljjaa
end

section
namespace Go.Proofs.Ytkeockkepmljjaa.fnRanks
open Go.ChangeShapes Go.WideShapes Go.ChangeAt Go.RowKit
open Go.ChangeMaps (open_string shut_string)
open Ev (IsRow)
theorem own : ownKnob Try.prog.godebug = none := by kernel_rfl
theorem laidOut : laidOutB Try.prog = true := by kernel_rfl
theorem walk (a0 : Option Addr) (len0 cap0 : Nat) (z0 : List Int) (w : World) (w0 : IsRow .u8 w a0 len0 cap0 z0) : Calls Try.prog 12 #[.slice a0 len0 cap0] w fun e w' => e = .returned (.bool true) ∧ Below w.heap.size w w' :=
  Ev.law_calls laws_FnRanks.sound (Vs := [.slice a0 len0 cap0]) (x := (z0.take len0)) (r := true) (Ev.argsAt_one (Ev.arg_ints w0)) (FnRanks_true (z0.take len0) (fun n hn => Ev.row_wf w0 n hn) (Ev.row_len w0)) rfl
set_option maxRecDepth 100000 in
theorem lifted (os : Os) (started : os.Started) (H : Type) (enc : TypeId × Value → H) :
    ReturnsInHanded {} Try.checked os 12 .any (Rows.fnRanksSpec.pre6 enc Try.prog Try.f12 Rows.fnRanksRow.domain false) (Rows.fnRanksSpec.post enc Try.prog Try.f12 false true false false) := by
  refine returnsInHanded_of_change_sized (C := Try.checked) own started (by kernel_rfl) Try.func12
    (ChangeSpec.witness6 (enc := enc) (C := Try.checked) false ⟨#[], #[.slice none 0 0], []⟩ 8 (by kernel_rfl) (by kernel_rfl) (by kernel_rfl) (by kernel_rfl)) ?_
  intro W base args ds gs before hval0 hW hcnd hsz0 _
  have hsz : (DataW.weightsEach Try.prog (Try.f12.params.toList ++ Rows.fnRanksSpec.plain.varTypes Try.prog) (ds ++ gs)).all (· ≤ reachBytes) = true := hsz0
  have hval : ∀ (j : Nat) t v, Try.f12.params[j]? = some t → args[j]? = some v → Value.okWide Try.prog W .any base t v := hval0
  have hW' := hW
  obtain ⟨p, q, hA0, hV, rfl, hfz, hnd⟩ := hW
  have hA : DataW.TrodAll enc Try.prog W 0 (fun _ => true) true Try.f12.params.toList args.toList ds p := hA0
  rw [Try.params12] at hA hval hsz
  obtain ⟨v0, vs0, d0, ds0, p0, q0, hargs, rfl, rfl, h0, r0⟩ := trodAll_cons hA
  obtain ⟨rfl, rfl, rfl⟩ := trodAll_nil r0
  obtain rfl : args = #[v0] := by cases args; simp_all
  obtain ⟨rfl, rfl⟩ := trodVars_none hV
  obtain ⟨a0, len0, cap0, rfl⟩ := okWide_slice Try.underlying22 (hval 0 22 v0 rfl rfl)
  have k0 := h0
  have lt0 : ∀ x ∈ p0, x.block < W.heap.size := by obtain ⟨m, hm⟩ := k0; exact DataW.trod_lt m _ _ _ hm
  obtain ⟨z0, w0⟩ : ∃ zs, IsRow .u8 W a0 len0 cap0 zs := by
    obtain ⟨fuel, hf⟩ := h0
    rcases open_ints Try.underlying22 Try.underlying5 (by kernel_rfl) hf with ⟨hcs, _⟩ | ⟨x, l, c, zs, hcs, _, hl, hm, hz, _, hcell, hwz⟩
    · simp [Value.cells] at hcs
      obtain ⟨rfl, rfl, rfl⟩ := hcs
      exact ⟨[], .inl ⟨rfl, rfl, rfl, rfl⟩⟩
    · simp [Value.cells] at hcs
      obtain ⟨rfl, rfl, rfl⟩ := hcs
      exact ⟨zs, .inr ⟨_, rfl, hl, hm, by simpa using hz, hcell, hwz⟩⟩
  clear hA0 hval0 hsz0 hsz
  refine (walk a0 len0 cap0 z0 W w0).mono fun e W' ⟨he, bel⟩ => ?_
  subst he
  exact ⟨_, rfl, _, _, _, [], _, [], hW', trodAll_mk1 (shut_bool Try.underlying4 _), (trodAll_cons_mk (Below.trod laidOut (by kernel_rfl) (of_decide_eq_true (by kernel_rfl)) k0 bel lt0) trodAll_mk0), rfl, bel.frame _, fun h => by cases h⟩
theorem over : Rows.fnRanksRow.holds Try.pinned (OpenSpec.ofChange Rows.fnRanksSpec) :=
  OpenClaim.holds_of_wide 12 Try.f12 rfl rfl rfl rfl rfl rfl rfl ⟨rfl, rfl, rfl, rfl, rfl⟩ rfl rfl rfl rfl rfl (by kernel_rfl) Try.func12 (by kernel_rfl)
    (of_decide_eq_true (by kernel_rfl)) (by unfold Func.isWrapper; first | (rw [if_pos (by decide +kernel)]; kernel_rfl) | (rw [if_neg (by decide +kernel)]; exact ⟨rfl, rfl⟩))
    (fun os started H enc _ => lifted os started H enc)
theorem proved : Rows.FnRanksSaid := over
end Go.Proofs.Ytkeockkepmljjaa.fnRanks
namespace Go.Proofs.Ytkeockkepmljjaa
/-- The row, under a short name, for the claim. -/
theorem fnRanks_holds : Rows.FnRanksSaid := fnRanks.proved
end Go.Proofs.Ytkeockkepmljjaa
end

