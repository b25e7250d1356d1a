/- The law FnQualifiers: for every input its call returns true and its arguments read as before. No condition besides what the row itself says. Here: functions of the program as plain functions, and plain lemmas. -/
import Derived.Test.YtkeockkepmljjaaCQualifiers0
import Derived.RowKit
import Derived.RowKit
import Derived.Test.YtkeockkepmljjaaRows
import Derived.WalkKit
import Derived.ProofKit
import Derived.OpenShut
import Derived.ShutString
import Derived.ChangeOld
import Derived.Below
import Derived.SizedLaws
import Derived.Test.YtkeockkepmljjaaRows
import Derived.WalkKit
import Derived.ProofKit
import Derived.OpenShut
import Derived.ShutString
import Derived.ChangeOld
import Derived.Below
import Derived.SizedLaws
set_option linter.unusedVariables false
set_option linter.unusedSimpArgs false
set_option maxRecDepth 100000
section
namespace Go.Proofs.Ytkeockkepmljjaa
open Go Go.Proofs Pl

def rdiv (a b : Int) : Int := (2 * a + b) / (2 * b)

theorem tdiv_bd (x d : Int) (hd : 0 < d) (B : Int) (h : -B ≤ x ∧ x ≤ B) (hB : 0 ≤ B) : -B ≤ x.tdiv d ∧ x.tdiv d ≤ B := by
  have h1 := Int.natAbs_tdiv_le_natAbs x d
  omega

theorem tdiv_floor (x d : Int) (hd : 0 < d) : (x.tmod d < 0 → x.tdiv d - 1 = x / d) ∧ (¬ x.tmod d < 0 → x.tdiv d = x / d) ∧ (0 ≤ x → ¬ x.tmod d < 0) ∧ (x < 0 → (x.tmod d ≠ 0 ↔ x.tmod d < 0)) := by
  have hm := Int.emod_nonneg x (show d ≠ 0 by omega)
  have hl := Int.emod_lt_of_pos x hd
  have e1 : x.tdiv d = x / d + if 0 ≤ x ∨ d ∣ x then 0 else d.sign := Int.tdiv_eq_ediv
  have e2 : x.tmod d = x % d - if 0 ≤ x ∨ d ∣ x then 0 else (d.natAbs : Int) := by
    rw [Int.tmod_eq_emod]; split <;> rfl
  have hs : d.sign = 1 := Int.sign_eq_one_of_pos hd
  by_cases h : 0 ≤ x ∨ d ∣ x
  · rw [if_pos h] at e1 e2
    refine ⟨fun h => by omega, fun _ => by omega, fun _ => by omega, fun hx => ?_⟩
    have hdv : d ∣ x := h.resolve_left (by omega)
    have : x % d = 0 := Int.emod_eq_zero_of_dvd hdv
    omega
  · rw [if_neg h] at e1 e2
    exact ⟨fun _ => by omega, fun h => by omega, fun h2 => (h (.inl h2)).elim, fun hx => by omega⟩

theorem l33Round_ok (num den : Int) (h1 : -10000000000000 ≤ num ∧ num ≤ 10000000000000) (h2 : 1 ≤ den ∧ den ≤ 1000000000) : spec_l33Round.f (num, den) = some (rdiv num den) := by
  rw [spec_l33Round.eq]
  have w1 : IntKind.wrap .i64 (2 * den) = 2 * den := w64 (by omega) (by omega)
  have w2 : IntKind.wrap .i64 (2 * num) = 2 * num := w64 (by omega) (by omega)
  have w3 : IntKind.wrap .i64 (2 * num + den) = 2 * num + den := w64 (by omega) (by omega)
  have hb := tdiv_bd (2 * num + den) (2 * den) (by omega) 30000000000000 (by omega) (by omega)
  have w4 : IntKind.wrap .i64 ((2 * num + den).tdiv (2 * den)) = (2 * num + den).tdiv (2 * den) := w64 (by omega) (by omega)
  have w5 : IntKind.wrap .i64 ((2 * num + den).tdiv (2 * den) - 1) = (2 * num + den).tdiv (2 * den) - 1 := w64 (by omega) (by omega)
  have hf := tdiv_floor (2 * num + den) (2 * den) (by omega)
  have hz : ¬ (2 * den = 0) := by omega
  simp only [w1, w2, w3, w4, w5, spec_l33Round.l1_eq, hz, decide_false, cond_false]
  by_cases h : (2 * num + den).tmod (2 * den) < 0
  · simp only [h, decide_true, cond_true, hf.1 h]; rfl
  · simp only [h, decide_false, cond_false, hf.2.1 h]; rfl

theorem rounded_ok (num den : Int) (h1 : -10000000000000 ≤ num ∧ num ≤ 10000000000000) (h2 : 1 ≤ den ∧ den ≤ 1000000000) : impl_rounded.f (num, den) = some (rdiv num den) := by
  rw [impl_rounded.eq]
  have w1 : IntKind.wrap .i64 (2 * den) = 2 * den := w64 (by omega) (by omega)
  have w2 : IntKind.wrap .i64 (2 * num) = 2 * num := w64 (by omega) (by omega)
  have w3 : IntKind.wrap .i64 (2 * num + den) = 2 * num + den := w64 (by omega) (by omega)
  have hb := tdiv_bd (2 * num + den) (2 * den) (by omega) 30000000000000 (by omega) (by omega)
  have w4 : IntKind.wrap .i64 ((2 * num + den).tdiv (2 * den)) = (2 * num + den).tdiv (2 * den) := w64 (by omega) (by omega)
  have w5 : IntKind.wrap .i64 ((2 * num + den).tdiv (2 * den) - 1) = (2 * num + den).tdiv (2 * den) - 1 := w64 (by omega) (by omega)
  have hf := tdiv_floor (2 * num + den) (2 * den) (by omega)
  have hz : ¬ (2 * den = 0) := by omega
  simp only [w1, w2, w3, w4, w5, impl_rounded.l1_eq, hz, decide_false, cond_false]
  by_cases hx : 2 * num + den < 0
  · simp only [hx, decide_true, cond_true]
    by_cases h : (2 * num + den).tmod (2 * den) < 0
    · have hn : ((2 * num + den).tmod (2 * den) != 0) = true := by rw [bne_iff_ne]; exact (hf.2.2.2 hx).mpr h
      simp only [hn, cond_true, hf.1 h]; rfl
    · have hn : ((2 * num + den).tmod (2 * den) != 0) = false := by
        rw [bne_eq_false_iff_eq]
        exact Classical.byContradiction fun h2 => h ((hf.2.2.2 hx).mp h2)
      simp only [hn, cond_false, hf.2.1 h]; rfl
  · simp only [hx, decide_false, cond_false, hf.2.1 (hf.2.2.1 (by omega))]; rfl

theorem okScores_mem {l : List Int} (h : okScores l = true) {n : Int} (hn : n ∈ l) : -1000000000 ≤ n ∧ n ≤ 1000000000 := by
  unfold okScores at h
  rw [Bool.and_eq_true, List.all_eq_true] at h
  have := h.2 n hn
  unfold okScore at this
  simpa using this
theorem okScores_len {l : List Int} (h : okScores l = true) : l.length ≤ 64 := by
  unfold okScores at h
  rw [Bool.and_eq_true] at h
  simpa using h.1

/-- What CarryOver returns. -/
def carry (l : List Int) (num den : Int) : List Int × Int :=
  if okScores l = true then if 1 ≤ den ∧ den ≤ 1000 then if 0 ≤ num ∧ num ≤ den then (l.map fun n => rdiv (n * num) den, 0) else ([], 2) else ([], 2) else ([], 1)

theorem carry_bd {n num den : Int} (hn : -1000000000 ≤ n ∧ n ≤ 1000000000) (hd : 1 ≤ den ∧ den ≤ 1000) (hm : 0 ≤ num ∧ num ≤ den) : -10000000000000 ≤ n * num ∧ n * num ≤ 10000000000000 := by
  have h1 : n * num ≤ 1000000000 * num := Int.mul_le_mul_of_nonneg_right hn.2 hm.1
  have h2 : -1000000000 * num ≤ n * num := Int.mul_le_mul_of_nonneg_right hn.1 hm.1
  omega

theorem spec_CarryOver_ok (l : List Int) (num den : Int) (h : l.length ≤ 1048576) : spec_CarryOver.f (l, num, den) = some (carry l num den) := by
  rw [spec_CarryOver.eq, l33Scores_ok l h, l01In_ok, l01In_ok]
  unfold carry
  by_cases hs : okScores l = true
  · by_cases hd : 1 ≤ den ∧ den ≤ 1000
    · by_cases hm : 0 ≤ num ∧ num ≤ den
      · have H := loop_fold (fun (s : List Int) i => spec_CarryOver.l1 l num den (i : Int) s) l (fun s n => s ++ [rdiv (n * num) den]) (fun i s => s.length = i) (fun i s hl hi => by
          refine ⟨?_, by simp [hl]⟩
          rw [spec_CarryOver.l1_eq]
          have hb := carry_bd (okScores_mem hs (List.getElem_mem hi)) hd hm
          have hw : IntKind.wrap .i64 (l[i] * num) = l[i] * num := w64 (by omega) (by omega)
          have e : s.length + 1 ≤ 17592186044416 := by omega
          simp only [Int.toNat_natCast, getD_nat hi, hw, l33Round_ok _ den hb (by omega), w64s hi (show l.length ≤ 9223372036854775807 by omega)]
          simp [hi, e]) [] rfl
        rw [foldl_snoc] at H
        have H := H.1
        simp only [Int.natCast_zero, Int.ofNat_zero] at H
        rw [H, spec_CarryOver.l1_eq]
        simp [hs, hd, hm]
      · rw [if_pos hs, if_pos hd, if_neg hm]
        have : (decide (0 ≤ num) && decide (num ≤ den)) = false := by simpa using hm
        simp [hs, hd, this]
    · rw [if_pos hs, if_neg hd]
      have : (decide (1 ≤ den) && decide (den ≤ 1000)) = false := by simpa using hd
      simp [hs, this]
  · rw [if_neg hs]
    simp [hs]

theorem impl_CarryOver_ok (l : List Int) (num den : Int) (h : l.length ≤ 1048576) : impl_CarryOver.f (l, num, den) = some (carry l num den) := by
  rw [impl_CarryOver.eq, isScoreList_ok l h, within_ok, within_ok]
  unfold carry
  by_cases hs : okScores l = true
  · by_cases hd : 1 ≤ den ∧ den ≤ 1000
    · by_cases hm : 0 ≤ num ∧ num ≤ den
      · have H := loop_fold (fun (s : List Int) i => impl_CarryOver.l1 num den l l.length (i : Int) s) l (fun s n => s ++ [rdiv (n * num) den]) (fun i s => s.length = i) (fun i s hl hi => by
          refine ⟨?_, by simp [hl]⟩
          rw [impl_CarryOver.l1_eq]
          have hb := carry_bd (okScores_mem hs (List.getElem_mem hi)) hd hm
          have hw : IntKind.wrap .i64 (l[i] * num) = l[i] * num := w64 (by omega) (by omega)
          have e : s.length + 1 ≤ 17592186044416 := by omega
          simp only [Int.toNat_natCast, getD_nat hi, hw, rounded_ok _ den hb (by omega), w64s hi (show l.length ≤ 9223372036854775807 by omega)]
          simp [hi, e]) [] rfl
        rw [foldl_snoc] at H
        have H := H.1
        simp only [Int.natCast_zero, Int.ofNat_zero] at H
        rw [H, impl_CarryOver.l1_eq]
        simp [hs, hd, hm]
      · rw [if_pos hs, if_pos hd, if_neg hm]
        have : (decide (0 ≤ num) && decide (num ≤ den)) = false := by simpa using hm
        simp [hs, hd, this]
    · rw [if_pos hs, if_neg hd]
      have : (decide (1 ≤ den) && decide (den ≤ 1000)) = false := by simpa using hd
      simp [hs, this]
  · rw [if_neg hs]
    simp [hs]

theorem carry_len (l : List Int) (num den : Int) : (carry l num den).1.length ≤ l.length := by
  unfold carry
  split
  · split
    · split <;> simp
    · simp
  · simp

/-- What Percentages returns. -/
def perc (l : List Int) (top : Int) : List Int × Int :=
  if okScores l = true then if 1 ≤ top ∧ top ≤ 1000000000 then if l.all (fun n => decide (0 ≤ n) && decide (n ≤ top)) = true then (l.map fun n => rdiv (10000 * n) top, 0) else ([], 2) else ([], 2) else ([], 1)

theorem perc_idx_ok (l : List Int) (top : Int) (h : l.length ≤ 1048576) : slices_ContainsFunc_int64_1.f (l, top) = some (l.any fun n => !(decide (0 ≤ n) && decide (n ≤ top))) := by
  have H := loop_find (fun i => slices_IndexFunc_int64_1.l1 l top l.length (i : Int)) l (fun n => !(decide (0 ≤ n) && decide (n ≤ top))) (fun i => some (i : Int)) (fun i hi => by
    rw [slices_IndexFunc_int64_1.l1_eq]
    have e : impl_Percentages_1.f (l.getD i 0, top) = some (!(decide (0 ≤ l[i]) && decide (l[i] ≤ top))) := by rw [impl_Percentages_1.eq, within_ok, getD_nat hi]; rfl
    simp only [Int.toNat_natCast, e, w64s hi (show l.length ≤ 9223372036854775807 by omega), Option.bind_some]
    simp [hi, cond_ite])
  rw [slices_ContainsFunc_int64_1.eq, slices_IndexFunc_int64_1.eq]
  simp only [Int.natCast_zero, Int.ofNat_zero] at H
  rw [H, slices_IndexFunc_int64_1.l1_eq]
  simp only [Int.lt_irrefl, decide_false, cond_false]
  cases hc : l.any fun n => !(decide (0 ≤ n) && decide (n ≤ top)) <;> simp

theorem any_not (l : List Int) (p : Int → Bool) : (l.any fun n => !p n) = !(l.all p) := by
  induction l with
  | nil => rfl
  | cons a l ih => rw [List.any_cons, List.all_cons, ih]; cases p a <;> simp

theorem impl_Percentages_ok (l : List Int) (top : Int) (h : l.length ≤ 1048576) : impl_Percentages.f (l, top) = some (perc l top) := by
  rw [impl_Percentages.eq, isScoreList_ok l h, within_ok, perc_idx_ok l top h, any_not]
  unfold perc
  by_cases hs : okScores l = true
  · by_cases hd : 1 ≤ top ∧ top ≤ 1000000000
    · by_cases hm : l.all (fun n => decide (0 ≤ n) && decide (n ≤ top)) = true
      · have H := loop_fold (fun (s : List Int) i => impl_Percentages.l1 top l l.length (i : Int) s) l (fun s n => s ++ [rdiv (10000 * n) top]) (fun i s => s.length = i) (fun i s hl hi => by
          refine ⟨?_, by simp [hl]⟩
          rw [impl_Percentages.l1_eq]
          have hb := List.all_eq_true.mp hm _ (List.getElem_mem hi)
          simp only [Bool.and_eq_true, decide_eq_true_eq] at hb
          have hw : IntKind.wrap .i64 (10000 * l[i]) = 10000 * l[i] := w64 (by omega) (by omega)
          have e : s.length + 1 ≤ 17592186044416 := by omega
          simp only [Int.toNat_natCast, getD_nat hi, hw, rounded_ok (10000 * l[i]) top (by omega) (by omega), w64s hi (show l.length ≤ 9223372036854775807 by omega)]
          simp [hi, e]) [] rfl
        rw [foldl_snoc] at H
        have H := H.1
        simp only [Int.natCast_zero, Int.ofNat_zero] at H
        rw [H, impl_Percentages.l1_eq]
        simp only [hs, hd, hm]
        simp
      · rw [if_pos hs, if_pos hd, if_neg hm]
        simp only [Bool.not_eq_true] at hm
        simp only [hs, hd, hm]
        simp
    · rw [if_pos hs, if_neg hd]
      have : (decide (1 ≤ top) && decide (top ≤ 1000000000)) = false := by simpa using hd
      simp [hs, this]
  · rw [if_neg hs]
    simp [hs]

theorem spec_Percentages_ok (l : List Int) (top : Int) (h : l.length ≤ 1048576) : spec_Percentages.f (l, top) = some (perc l top) := by
  rw [spec_Percentages.eq, l33Scores_ok l h, l01In_ok]
  unfold perc
  by_cases hs : okScores l = true
  · by_cases hd : 1 ≤ top ∧ top ≤ 1000000000
    · rw [if_pos hs, if_pos hd]
      -- the loop leaves at the first score beyond the top
      have H : ∀ d i (s : List Int), i + d = l.length → s.length = i → spec_Percentages.l1 l top (i : Int) s =
          some (if (l.drop i).all (fun n => decide (0 ≤ n) && decide (n ≤ top)) = true then (s ++ (l.drop i).map fun n => rdiv (10000 * n) top, 0) else ([], 2)) := by
        intro d
        induction d with
        | zero =>
          intro i s hi hl
          have hi : i = l.length := by omega
          subst hi
          rw [spec_Percentages.l1_eq]
          simp
        | succ d ih =>
          intro i s hi hl
          have hlt : i < l.length := by omega
          rw [spec_Percentages.l1_eq, List.drop_eq_getElem_cons hlt, List.all_cons, List.map_cons]
          have e : s.length + 1 ≤ 17592186044416 := by omega
          simp only [Int.toNat_natCast, getD_nat hlt, l01In_ok, w64s hlt (show l.length ≤ 9223372036854775807 by omega), Option.bind_some]
          cases hp : (decide (0 ≤ l[i]) && decide (l[i] ≤ top)) with
          | false => simp [hlt]
          | true =>
            have hb := hp
            simp only [Bool.and_eq_true, decide_eq_true_eq] at hb
            have hw : IntKind.wrap .i64 (10000 * l[i]) = 10000 * l[i] := w64 (by omega) (by omega)
            simp only [hw, l33Round_ok (10000 * l[i]) top (by omega) (by omega), Option.bind_some, Bool.true_and]
            have := ih (i + 1) (s ++ [rdiv (10000 * l[i]) top]) (by omega) (by simp [hl])
            simp only [Int.ofNat_lt, hlt, e, decide_true, cond_true, Int.natCast_nonneg, Bool.not_true, cond_false, this, List.append_assoc, List.cons_append, List.nil_append]
      have H := H l.length 0 [] (by omega) rfl
      simp only [Int.natCast_zero, Int.ofNat_zero, List.drop_zero, List.nil_append] at H
      simp only [hs, hd, H]
      simp
    · rw [if_pos hs, if_neg hd]
      have : (decide (1 ≤ top) && decide (top ≤ 1000000000)) = false := by simpa using hd
      simp [hs, this]
  · rw [if_neg hs]
    simp [hs]

theorem perc_len (l : List Int) (top : Int) : (perc l top).1.length ≤ l.length := by
  unfold perc
  split
  · split
    · split <;> simp
    · simp
  · simp

/-- What Qualifiers returns: the indices of the ranks of at most n. -/
def quals (r : List Int) (n : Int) : List Int := ((List.range r.length).filter fun i => decide (r.getD i 0 ≤ n)).map fun (i : Nat) => (i : Int)
def qual (l : List Int) (n : Int) : List Int × Int :=
  if okScores l = true then if 0 ≤ n ∧ n ≤ 64 then (quals (ranks l) n, 0) else ([], 2) else ([], 1)

theorem quals_fold (r : List Int) (n : Int) : (List.range r.length).foldl (fun (s : List Int) (i : Nat) => if decide (r.getD i 0 ≤ n) = true then s ++ [(i : Int)] else s) [] = quals r n := by
  have : ∀ (xs : List Nat) (s : List Int), xs.foldl (fun (s : List Int) (i : Nat) => if decide (r.getD i 0 ≤ n) = true then s ++ [(i : Int)] else s) s = s ++ (xs.filter fun i => decide (r.getD i 0 ≤ n)).map fun (i : Nat) => (i : Int) := by
    intro xs
    induction xs with
    | nil => simp
    | cons x xs ih =>
      intro s
      rw [List.foldl_cons, ih, List.filter_cons]
      split <;> simp
  rw [this]; rfl

theorem spec_quals_ok (r : List Int) (n : Int) (h : r.length ≤ 1048576) : spec_Qualifiers.l1 n 0 [] r = some (quals r n, 0) := by
  have H := loop_fold (fun (s : List Int) i => spec_Qualifiers.l1 n (i : Int) s r) (List.range r.length) (fun s i => if decide (r.getD i 0 ≤ n) = true then s ++ [(i : Int)] else s) (fun i s => s.length ≤ i) (fun i s hl hi => by
    simp only [List.length_range] at hi
    refine ⟨?_, by split <;> (try rw [List.length_append]) <;> (try simp only [List.length_singleton]) <;> omega⟩
    rw [spec_Qualifiers.l1_eq]
    have e : s.length + 1 ≤ 17592186044416 := by omega
    simp only [Int.toNat_natCast, getD_nat hi, spec_Qualifiers.l2_eq, w64s hi (show r.length ≤ 9223372036854775807 by omega)]
    by_cases hn : r[i] ≤ n <;> simp [hi, e, hn]) [] (by simp)
  rw [quals_fold] at H
  have H := H.1
  simp only [Int.natCast_zero, Int.ofNat_zero, List.length_range] at H
  rw [H, spec_Qualifiers.l1_eq]
  simp
theorem impl_quals_ok (r : List Int) (n : Int) (h : r.length ≤ 1048576) : impl_Qualifiers.l1 n r.length 0 [] r = some (quals r n, 0) := by
  have H := loop_fold (fun (s : List Int) i => impl_Qualifiers.l1 n r.length (i : Int) s r) (List.range r.length) (fun s i => if decide (r.getD i 0 ≤ n) = true then s ++ [(i : Int)] else s) (fun i s => s.length ≤ i) (fun i s hl hi => by
    simp only [List.length_range] at hi
    refine ⟨?_, by split <;> (try rw [List.length_append]) <;> (try simp only [List.length_singleton]) <;> omega⟩
    rw [impl_Qualifiers.l1_eq]
    have e : s.length + 1 ≤ 17592186044416 := by omega
    simp only [Int.toNat_natCast, getD_nat hi, impl_Qualifiers.l2_eq, w64s hi (show r.length ≤ 9223372036854775807 by omega)]
    by_cases hn : r[i] ≤ n <;> simp [hi, e, hn]) [] (by simp)
  rw [quals_fold] at H
  have H := H.1
  simp only [Int.natCast_zero, Int.ofNat_zero, List.length_range] at H
  rw [H, impl_Qualifiers.l1_eq]
  simp

theorem spec_Qualifiers_ok (l : List Int) (n : Int) (h : l.length ≤ 1048576) : spec_Qualifiers.f (l, n) = some (qual l n) := by
  rw [spec_Qualifiers.eq, l33Scores_ok l h, l01In_ok, l33Ranks_ok l h]
  unfold qual
  by_cases hs : okScores l = true
  · by_cases hd : 0 ≤ n ∧ n ≤ 64
    · simp [hs, hd, spec_quals_ok (ranks l) n (by rw [ranks_len]; exact h)]
    · rw [if_pos hs, if_neg hd]
      have : (decide (0 ≤ n) && decide (n ≤ 64)) = false := by simpa using hd
      simp [hs, this]
  · rw [if_neg hs]
    simp [hs]
theorem impl_Qualifiers_ok (l : List Int) (n : Int) (h : l.length ≤ 1048576) : impl_Qualifiers.f (l, n) = some (qual l n) := by
  rw [impl_Qualifiers.eq, isScoreList_ok l h, within_ok, rankScores_ok l h]
  unfold qual
  by_cases hs : okScores l = true
  · by_cases hd : 0 ≤ n ∧ n ≤ 64
    · simp [hs, hd, impl_quals_ok (ranks l) n (by rw [ranks_len]; exact h)]
    · rw [if_pos hs, if_neg hd]
      have : (decide (0 ≤ n) && decide (n ≤ 64)) = false := by simpa using hd
      simp [hs, this]
  · rw [if_neg hs]
    simp [hs]
theorem qual_len (l : List Int) (n : Int) : (qual l n).1.length ≤ l.length := by
  unfold qual
  split
  · split
    · unfold quals
      rw [List.length_map]
      exact Nat.le_trans (List.length_filter_le _ _) (by simp [ranks_len])
    · simp
  · simp
end Go.Proofs.Ytkeockkepmljjaa
end

section
namespace Go.Proofs.Ytkeockkepmljjaa
open Go Go.Proofs Pl

/-- A source of numbers. -/
def Src (s : List Int × Int × Int) : Prop :=
  (∀ b ∈ s.1, 0 ≤ b ∧ b ≤ 255) ∧ s.1.length ≤ 1048576 ∧ 0 ≤ s.2.1 ∧ s.2.1 ≤ s.1.length ∧ 0 ≤ s.2.2 ∧ s.2.2 < 2147483647

theorem tmod_nn {a b : Int} (ha : 0 ≤ a) (hb : 0 < b) : a.tmod b = a % b := Int.tmod_eq_emod_of_nonneg ha
theorem tdiv_nn {a b : Int} (ha : 0 ≤ a) : a.tdiv b = a / b := Int.tdiv_eq_ediv_of_nonneg ha
theorem getD_mem {l : List Int} {i : Nat} (h : i < l.length) (d : Int) : l.getD i d ∈ l := by rw [getD_nat h]; exact List.getElem_mem h

theorem seed_next {z : Int} (h : 0 ≤ z ∧ z < 2147483647) : ∃ y, (IntKind.wrap .i64 ((IntKind.wrap .i64 (z * 48271)) + 13)).tmod 2147483647 = y ∧ 0 ≤ y ∧ y < 2147483647 := by
  have w1 : IntKind.wrap .i64 (z * 48271) = z * 48271 := w64 (by omega) (by omega)
  have w2 : IntKind.wrap .i64 (z * 48271 + 13) = z * 48271 + 13 := w64 (by omega) (by omega)
  rw [w1, w2, tmod_nn (by omega) (by omega)]
  exact ⟨_, rfl, by omega, by omega⟩

theorem next_ok {s : List Int × Int × Int} {n : Int} (hs : Src s) (hn : n ≤ 4611686018427387904) : ∃ x s', spec_l01Next_1.f (s, n) = some (x, s', ()) ∧ Src s' ∧ 0 ≤ x ∧ (x < n ∨ x = 0) := by
  rw [spec_l01Next_1.eq]
  obtain ⟨c, a, z⟩ := s
  obtain ⟨h1, h2, h3, h4, h5, h6⟩ := hs
  simp only at h1 h2 h3 h4 h5 h6
  by_cases hn1 : n ≤ 1
  · simp only [hn1, decide_true, cond_true]
    exact ⟨0, (c, a, z), rfl, ⟨h1, h2, h3, h4, h5, h6⟩, by omega, .inr rfl⟩
  · obtain ⟨y, hy, hy1, hy2⟩ := seed_next ⟨h5, h6⟩
    have hz : ¬ (n = 0) := by omega
    have key : ∀ (x : Int) (s' : List Int × Int × Int), 0 ≤ x → Src s' → ∃ x1 s1, spec_l01Next_1.l2 n x s' = some (x1, s1, ()) ∧ Src s1 ∧ 0 ≤ x1 ∧ (x1 < n ∨ x1 = 0) := fun x s' hx hs' => by
      rw [spec_l01Next_1.l2_eq]
      simp only [hz, decide_false, cond_false]
      rw [tmod_nn hx (by omega)]
      exact ⟨_, _, rfl, hs', Int.emod_nonneg _ (by omega), .inl (Int.emod_lt_of_pos _ (by omega))⟩
    have w13 : (y.tdiv 13) = y / 13 := tdiv_nn hy1
    have w3 : IntKind.wrap .i64 (y / 13) = y / 13 := w64 (by omega) (by omega)
    simp only [hn1, decide_false, cond_false, hy, w13, w3, spec_l01Next_1.l1_eq]
    by_cases ha : a < (c.length : Int)
    · obtain ⟨k, rfl⟩ : ∃ k : Nat, a = k := ⟨a.toNat, by omega⟩
      have hk : k < c.length := by omega
      have w4 : IntKind.wrap .i64 ((k : Int) + 1) = (k : Int) + 1 := w64 (by omega) (by omega)
      have hb := h1 _ (getD_mem hk 0)
      have w5 : IntKind.wrap .i64 (c.getD k 0) = c.getD k 0 := w64 (by omega) (by omega)
      have w6 : IntKind.wrap .i64 (y / 13 + c.getD k 0) = y / 13 + c.getD k 0 := w64 (by omega) (by omega)
      have w7 : IntKind.wrap .i64 ((k : Int) + 1 - 1) = (k : Int) := by rw [w64 (by omega) (by omega)]; omega
      have hS : Src (c, (k : Int) + 1, y) := ⟨h1, h2, by simp only; omega, by simp only; omega, hy1, hy2⟩
      simp only [ha, h3, decide_true, cond_true, w4, w7, Int.toNat_natCast, w5, w6]
      by_cases hn2 : n ≤ 256
      · simp only [hn2, decide_true, cond_true]
        cases hev : (((k : Int) + 1).tmod 2 == 0) with
        | true => simp only [cond_true]; exact key _ _ hb.1 hS
        | false => simp only [cond_false]; exact key _ _ (by omega) hS
      · simp only [hn2, decide_false, cond_false]; exact key _ _ (by omega) hS
    · simp only [ha, decide_false, cond_false]
      exact key _ _ (by omega) ⟨h1, h2, h3, h4, hy1, hy2⟩

theorem from_ok {code : List Int} (hb : ∀ b ∈ code, 0 ≤ b ∧ b ≤ 255) (hl : code.length ≤ 1048576) : ∃ s, spec_l01From.f code = some s ∧ Src s := by
  rw [spec_l01From.eq]
  have H : ∀ d i (z : Int), i + d = code.length → 0 ≤ z → z < 2147483647 → ∃ s, spec_l01From.l1 code (i : Int) (code, 0, z) = some s ∧ Src s := by
    intro d
    induction d with
    | zero =>
      intro i z hi h1 h2
      rw [spec_l01From.l1_eq]
      have : ¬ ((i : Int) < (code.length : Int)) := by omega
      simp only [this, decide_false, cond_false]
      exact ⟨_, rfl, hb, hl, by simp only; omega, by simp only; omega, h1, h2⟩
    | succ d ih =>
      intro i z hi h1 h2
      rw [spec_l01From.l1_eq]
      have hlt : i < code.length := by omega
      have hbi := hb _ (getD_mem hlt 0)
      have w1 : IntKind.wrap .i64 (z * 41) = z * 41 := w64 (by omega) (by omega)
      have w2 : IntKind.wrap .i64 (code.getD i 0) = code.getD i 0 := w64 (by omega) (by omega)
      have w3 : IntKind.wrap .i64 (z * 41 + code.getD i 0) = z * 41 + code.getD i 0 := w64 (by omega) (by omega)
      have hlt2 : ((i : Int) < (code.length : Int)) := by omega
      by_cases h64 : (i : Int) < 64
      · simp only [hlt2, h64, Int.natCast_nonneg, decide_true, cond_true, Int.toNat_natCast, w1, w2, w3, w64s hlt (show code.length ≤ 9223372036854775807 by omega)]
        rw [tmod_nn (by omega) (by omega)]
        exact ih (i + 1) _ (by omega) (by omega) (by omega)
      · simp only [hlt2, h64, decide_true, decide_false, cond_true, cond_false]
        exact ⟨_, rfl, hb, hl, by simp only; omega, by simp only; omega, h1, h2⟩
  exact H code.length 0 86421 (by omega) (by omega) (by omega)

theorem l33Draw_ok {s : List Int × Int × Int} (hs : Src s) : ∃ l s', spec_l33Draw_1.f s = some (l, s', ()) ∧ Src s' ∧ l.length ≤ 1000 ∧ ∀ n ∈ l, -1000000001 ≤ n ∧ n ≤ 1000000001 := by
  rw [spec_l33Draw_1.eq]
  obtain ⟨w, s1, e1, hs1, hw1, hw2⟩ := next_ok (n := 8) hs (by omega)
  obtain ⟨k, s2, e2, hs2, hk1, hk2⟩ := next_ok (n := 9) hs1 (by omega)
  simp only [e1, e2, Option.bind_some]
  have ww : IntKind.wrap .i64 (1 + w) = 1 + w := w64 (by omega) (by omega)
  rw [ww]
  let OkL (l : List Int) : Prop := ∀ n ∈ l, -1000000001 ≤ n ∧ n ≤ 1000000001
  -- the last rounds: more scores up to some number
  have L3 : ∀ (d : Nat) (n6 : Int) (s : List Int × Int × Int) (out : List Int), n6 ≤ (out.length : Int) + d → Src s → n6 ≤ 100 → out.length ≤ 500 → OkL out → ∃ l s', spec_l33Draw_1.l3 n6 s out = some (l, s', ()) ∧ Src s' ∧ l.length ≤ 1000 ∧ OkL l := by
    intro d
    induction d with
    | zero =>
      intro n6 s out h1 h2 h3 h4 h5
      rw [spec_l33Draw_1.l3_eq]
      have : ¬ ((out.length : Int) < n6) := by omega
      simp only [this, decide_false, cond_false, spec_l33Draw_1.l4_eq, spec_l33Draw_1.l2_eq]
      exact ⟨out, s, rfl, h2, by omega, h5⟩
    | succ d ih =>
      intro n6 s out h1 h2 h3 h4 h5
      rw [spec_l33Draw_1.l3_eq]
      by_cases h : (out.length : Int) < n6
      · obtain ⟨x, s', e, hs', hx1, hx2⟩ := next_ok (n := 30) h2 (by omega)
        have ho : out.length + 1 ≤ 17592186044416 := by omega
        simp only [h, decide_true, cond_true, e, Option.bind_some, ho]
        refine ih n6 s' (out ++ [x]) (by simp; omega) hs' h3 (by simp; omega) fun n hn => ?_
        rcases List.mem_append.mp hn with hn | hn
        · exact h5 n hn
        · simp at hn; omega
      · simp only [h, decide_false, cond_false, spec_l33Draw_1.l4_eq, spec_l33Draw_1.l2_eq]
        exact ⟨out, s, rfl, h2, by omega, h5⟩
  have L1 : ∀ (d : Nat) (k : Int) (s : List Int × Int × Int) (out : List Int), k = d → Src s → out.length + d ≤ 100 → OkL out → ∃ l s', spec_l33Draw_1.l1 (1 + w) k s out = some (l, s', ()) ∧ Src s' ∧ l.length ≤ 1000 ∧ OkL l := by
    intro d
    induction d with
    | zero =>
      intro k s out hk h2 h3 h4
      rw [spec_l33Draw_1.l1_eq]
      have : ¬ (k > 0) := by omega
      obtain ⟨x, s', e, hs', hx1, hx2⟩ := next_ok (n := 24) h2 (by omega)
      have ho : out.length + 1 ≤ 17592186044416 := by omega
      simp only [this, decide_false, cond_false, e, Option.bind_some]
      by_cases h0 : x = 0
      · obtain ⟨y, s3, e3, hs3, hy1, hy2⟩ := next_ok (n := 4) hs' (by omega)
        have hy4 : y < 4 := by omega
        simp only [h0, beq_self_eq_true, cond_true, e3, Option.bind_some, hy1, hy4, decide_true, ho, spec_l33Draw_1.l2_eq]
        refine ⟨_, _, rfl, hs3, by simp; omega, fun n hn => ?_⟩
        rcases List.mem_append.mp hn with hn | hn
        · exact h4 n hn
        · simp only [List.mem_singleton] at hn
          subst hn
          obtain ⟨j, rfl⟩ : ∃ j : Nat, y = j := ⟨y.toNat, by omega⟩
          rw [Int.toNat_natCast]
          have : j < 4 := by omega
          match j, this with
          | 0, _ => decide
          | 1, _ => decide
          | 2, _ => decide
          | 3, _ => decide
      · have hb0 : (x == 0) = false := by simpa using h0
        rw [hb0, cond_false]
        by_cases h1 : x = 1
        · obtain ⟨y, s3, e3, hs3, hy1, hy2⟩ := next_ok (n := 2) hs' (by omega)
          have hw3 : IntKind.wrap .i64 (64 + y) = 64 + y := w64 (by omega) (by omega)
          simp only [h1, beq_self_eq_true, cond_true, e3, Option.bind_some, hw3]
          exact L3 100 (64 + y) s3 out (by omega) hs3 (by omega) (by omega) h4
        · have hb1 : (x == 1) = false := by simpa using h1
          rw [hb1, cond_false, spec_l33Draw_1.l4_eq, spec_l33Draw_1.l2_eq]
          exact ⟨_, _, rfl, hs', by omega, h4⟩
    | succ d ih =>
      intro k s out hk h2 h3 h4
      rw [spec_l33Draw_1.l1_eq]
      have hk0 : k > 0 := by omega
      have w2 : IntKind.wrap .i64 (2 * (1 + w)) = 2 * (1 + w) := w64 (by omega) (by omega)
      obtain ⟨x, s', e, hs', hx1, hx2⟩ := next_ok (n := 2 * (1 + w)) h2 (by omega)
      have ho : out.length + 1 ≤ 17592186044416 := by omega
      have w3 : (1 + w).tdiv 2 = (1 + w) / 2 := tdiv_nn (by omega)
      have w4 : IntKind.wrap .i64 ((1 + w) / 2) = (1 + w) / 2 := w64 (by omega) (by omega)
      have w5 : IntKind.wrap .i64 (x - (1 + w) / 2) = x - (1 + w) / 2 := w64 (by omega) (by omega)
      have w6 : IntKind.wrap .i64 (k - 1) = k - 1 := w64 (by omega) (by omega)
      simp only [hk0, decide_true, cond_true, w2, e, Option.bind_some, ho, w3, w4, w5, w6]
      refine ih (k - 1) s' _ (by omega) hs' (by simp; omega) fun n hn => ?_
      rcases List.mem_append.mp hn with hn | hn
      · exact h4 n hn
      · simp at hn; omega
  exact L1 k.toNat k s2 [] (by omega) hs2 (by simp; omega) (fun n hn => by simp at hn)

theorem big_ok (code : List Int) : laws_big.f code = some (decide ((code.length : Int) > 4096)) := laws_big.eq code

theorem bytes {code : List Int} (hw : ∀ n ∈ code, (Lit.int .u8 n).wf = true) : ∀ b ∈ code, 0 ≤ b ∧ b ≤ 255 := by
  intro b hb
  have := hw b hb
  unfold Lit.wf at this
  simp [IntKind.min, IntKind.max, IntKind.signed, IntKind.bits] at this
  omega

theorem DrawPercentages_ok {code : List Int} (hb : ∀ b ∈ code, 0 ≤ b ∧ b ≤ 255) (hl : code.length ≤ 1048576) : ∃ l top, spec_DrawPercentages.f code = some (l, top) ∧ l.length ≤ 1000 ∧ 0 ≤ top ∧ top ≤ 1000000001 := by
  rw [spec_DrawPercentages.eq]
  obtain ⟨s, e, hs⟩ := from_ok hb hl
  obtain ⟨l, s1, e1, hs1, hl1, hl2⟩ := l33Draw_ok hs
  simp only [e, e1, Option.bind_some]
  have pick : ∀ (l : List Int) (y : Int), 0 ≤ y → y < 8 → ∃ l' top, (some (l, List.getD [(7 : Int), 9, 12, 16, 1000000000, 1000000001, 0, 20] y.toNat 0) : Option (List Int × Int)) = some (l', top) ∧ l' = l ∧ 0 ≤ top ∧ top ≤ 1000000001 := fun l y h1 h2 => by
    refine ⟨_, _, rfl, rfl, ?_⟩
    obtain ⟨j, rfl⟩ : ∃ j : Nat, y = j := ⟨y.toNat, by omega⟩
    rw [Int.toNat_natCast]
    have : j < 8 := by omega
    match j, this with
    | 0, _ => decide
    | 1, _ => decide
    | 2, _ => decide
    | 3, _ => decide
    | 4, _ => decide
    | 5, _ => decide
    | 6, _ => decide
    | 7, _ => decide
  have H : ∀ d i (s : List Int × Int × Int) (l : List Int), i + d = l.length → Src s → l.length ≤ 1000 → ∃ l' top, spec_DrawPercentages.l1 (i : Int) s l = some (l', top) ∧ l'.length ≤ 1000 ∧ 0 ≤ top ∧ top ≤ 1000000001 := by
    intro d
    induction d with
    | zero =>
      intro i s l hi hs hl
      rw [spec_DrawPercentages.l1_eq]
      have : ¬ ((i : Int) < (l.length : Int)) := by omega
      obtain ⟨y, s3, e3, hs3, hy1, hy2⟩ := next_ok (n := 8) hs (by omega)
      have hy8 : y < 8 := by omega
      simp only [this, decide_false, cond_false, e3, Option.bind_some, hy1, hy8, decide_true, cond_true]
      obtain ⟨l', top, h1, h2, h3⟩ := pick l y hy1 hy8
      exact ⟨l', top, h1, by rw [h2]; exact hl, h3⟩
    | succ d ih =>
      intro i s l hi hs hl
      rw [spec_DrawPercentages.l1_eq]
      have hlt : i < l.length := by omega
      have hlt2 : ((i : Int) < (l.length : Int)) := by omega
      obtain ⟨x, s2, e2, hs2, hx1, hx2⟩ := next_ok (n := 12) hs (by omega)
      simp only [hlt2, decide_true, cond_true, e2, Option.bind_some, Int.natCast_nonneg, Int.toNat_natCast, w64s hlt (show l.length ≤ 9223372036854775807 by omega)]
      by_cases hx : x > 0
      · simp only [hx, decide_true, cond_true]
        exact ih (i + 1) s2 _ (by simp; omega) hs2 (by simpa using hl)
      · simp only [hx, decide_false, cond_false]
        obtain ⟨y, s3, e3, hs3, hy1, hy2⟩ := next_ok (n := 8) hs2 (by omega)
        have hy8 : y < 8 := by omega
        simp only [e3, Option.bind_some, hy1, hy8, decide_true, cond_true]
        obtain ⟨l', top, h1, h2, h3⟩ := pick l y hy1 hy8
        exact ⟨l', top, h1, by rw [h2]; exact hl, h3⟩
  exact H l.length 0 s1 l (by omega) hs1 hl1
end Go.Proofs.Ytkeockkepmljjaa
end

section
namespace Go.Proofs.Ytkeockkepmljjaa
open Go Go.Proofs Pl

theorem hasInt_ok (l : List Int) (x : Int) (h : l.length ≤ 1048576) : laws_hasInt.f (l, x) = some (decide (x ∈ l)) := by
  have H := loop_any (fun i => laws_hasInt.l1 l x (i : Int)) l (fun y => y == x) (some true) (fun i hi => by
    rw [laws_hasInt.l1_eq]
    simp only [Int.toNat_natCast, getD_nat hi, w64s hi (show l.length ≤ 9223372036854775807 by omega)]
    simp [hi, cond_ite])
  rw [laws_hasInt.eq]
  simp only [Int.natCast_zero, Int.ofNat_zero] at H
  rw [H, laws_hasInt.l1_eq]
  simp only [Int.lt_irrefl, decide_false, cond_false]
  by_cases hx : x ∈ l
  · rw [if_pos (List.any_eq_true.mpr ⟨x, hx, by simp⟩)]; simp [hx]
  · rw [if_neg]
    · simp [hx]
    · rw [List.any_eq_true]
      rintro ⟨y, hy, e⟩
      have : y = x := by simpa using e
      exact hx (this ▸ hy)

theorem DrawQualifiers_ok {code : List Int} (hb : ∀ b ∈ code, 0 ≤ b ∧ b ≤ 255) (hl : code.length ≤ 1048576) : ∃ l n, spec_DrawQualifiers.f code = some (l, n) ∧ l.length ≤ 1000 := by
  rw [spec_DrawQualifiers.eq]
  obtain ⟨s, e, hs⟩ := from_ok hb hl
  obtain ⟨x, s1, e1, hs1, hx1, hx2⟩ := next_ok (n := 12) hs (by omega)
  obtain ⟨l, s2, e2, hs2, hl1, hl2⟩ := l33Draw_ok hs1
  simp only [e, e1, Option.bind_some, e2]
  cases h0 : (x == 0) with
  | true =>
    obtain ⟨y, s3, e3, hs3, hy1, hy2⟩ := next_ok (n := 3) hs2 (by omega)
    have : y < 3 := by omega
    simp only [cond_true, e3, Option.bind_some, hy1, this, decide_true]
    exact ⟨_, _, rfl, hl1⟩
  | false =>
    obtain ⟨y, s3, e3, hs3, hy1, hy2⟩ := next_ok (n := 8) hs2 (by omega)
    simp only [cond_false, e3, Option.bind_some]
    exact ⟨_, _, rfl, hl1⟩

theorem quals_mem {r : List Int} {n : Int} {x : Int} : x ∈ quals r n ↔ ∃ i : Nat, i < r.length ∧ x = i ∧ r.getD i 0 ≤ n := by
  unfold quals
  simp only [List.mem_map, List.mem_filter, List.mem_range, decide_eq_true_eq]
  constructor
  · rintro ⟨i, ⟨h1, h2⟩, rfl⟩; exact ⟨i, h1, rfl, h2⟩
  · rintro ⟨i, h1, rfl, h2⟩; exact ⟨i, ⟨h1, h2⟩, rfl⟩

theorem quals_sorted {r : List Int} {n : Int} {k : Nat} (hk : k + 1 < (quals r n).length) : (quals r n).getD k 0 < (quals r n).getD (k + 1) 0 := by
  have hp : (quals r n).Pairwise (· < ·) := by
    unfold quals
    rw [List.pairwise_map]
    exact (List.Pairwise.filter _ List.pairwise_lt_range).imp (by intro a b h; omega)
  rw [List.pairwise_iff_getElem] at hp
  have h := hp k (k + 1) (by omega) hk (by omega)
  rw [getD_nat (by omega), getD_nat hk]
  exact h

theorem exists_max (q : Int → Bool) : ∀ l : List Int, (∃ x ∈ l, q x = true) → ∃ m ∈ l, q m = true ∧ ∀ x ∈ l, q x = true → x ≤ m := by
  intro l
  induction l with
  | nil => rintro ⟨x, hx, _⟩; simp at hx
  | cons a l ih =>
    intro h
    by_cases hl : ∃ x ∈ l, q x = true
    · obtain ⟨m, hm, hq, hmax⟩ := ih hl
      by_cases ha : q a = true ∧ m < a
      · refine ⟨a, by simp, ha.1, fun x hx hqx => ?_⟩
        rcases List.mem_cons.mp hx with rfl | hx
        · exact Int.le_refl _
        · have := hmax x hx hqx; omega
      · refine ⟨m, by simp [hm], hq, fun x hx hqx => ?_⟩
        rcases List.mem_cons.mp hx with rfl | hx
        · exact Int.not_lt.mp fun h => ha ⟨hqx, h⟩
        · exact hmax x hx hqx
    · obtain ⟨x, hx, hqx⟩ := h
      rcases List.mem_cons.mp hx with rfl | hx
      · refine ⟨x, by simp, hqx, fun y hy hqy => ?_⟩
        rcases List.mem_cons.mp hy with rfl | hy
        · exact Int.le_refl _
        · exact (hl ⟨y, hy, hqy⟩).elim
      · exact (hl ⟨x, hx, hqx⟩).elim

/-- At least n entries have a rank of at most n, if there are as many. -/
theorem rank_count (l : List Int) (n : Int) (hn : 0 ≤ n) : min (l.length : Int) n ≤ (l.countP fun a => decide (rk l a ≤ n) : Nat) := by
  by_cases h : ∃ x ∈ l, (!decide (rk l x ≤ n)) = true
  · obtain ⟨m, hm, hq, hmax⟩ := exists_max (fun x => !decide (rk l x ≤ n)) l h
    have h1 : (l.countP fun b => decide (m < b)) ≤ l.countP fun a => decide (rk l a ≤ n) := by
      apply List.countP_mono_left
      intro b hb hlt
      have hlt : m < b := by simpa using hlt
      apply Classical.byContradiction
      intro hn2
      have := hmax b hb (by simpa using hn2)
      omega
    have h2 : ¬ (rk l m ≤ n) := by simpa using hq
    unfold rk at h2
    omega
  · have h1 : (l.countP fun a => decide (rk l a ≤ n)) = l.length := by
      rw [List.countP_eq_length]
      intro a ha
      apply Classical.byContradiction
      intro hn2
      exact h ⟨a, ha, by simpa using hn2⟩
    omega

theorem quals_len (r : List Int) (n : Int) : (quals r n).length = r.countP fun a => decide (a ≤ n) := by
  unfold quals
  rw [List.length_map, ← List.countP_eq_length_filter]
  have : (List.range r.length).map (fun i => r.getD i 0) = r := map_range_getD r 0
  conv => rhs; rw [← this, List.countP_map]
  rfl

theorem rk_anti {l : List Int} {a b : Int} (h : a ≤ b) : rk l b ≤ rk l a := by
  unfold rk
  have : (l.countP fun x => decide (b < x)) ≤ l.countP fun x => decide (a < x) := by
    apply List.countP_mono_left
    intro x _ hx
    have : b < x := by simpa using hx
    simp; omega
  omega

theorem FnQualifiers_true (code : List Int) (hw : ∀ n ∈ code, (Lit.int .u8 n).wf = true) (hl : code.length ≤ maxLen) : laws_FnQualifiers.f code = some true := by
  rw [laws_FnQualifiers.eq, big_ok]
  by_cases hb : (code.length : Int) > 4096
  · simp [hb]
  simp only [hb, decide_false, Option.bind_some, cond_false]
  obtain ⟨l, n, e, hlen⟩ := DrawQualifiers_ok (bytes hw) (by omega)
  simp only [e, Option.bind_some, impl_Qualifiers_ok l n (by omega)]
  by_cases hp : okScores l = true ∧ 0 ≤ n ∧ n ≤ 64
  · obtain ⟨hs, hn⟩ := hp
    have hq : qual l n = (quals (ranks l) n, 0) := by unfold qual; rw [if_pos hs, if_pos hn]
    rw [hq]
    have hrl : (ranks l).length = l.length := ranks_len l
    let r := ranks l
    let Q := quals r n
    have hQl : Q.length ≤ l.length := by have := qual_len l n; rw [hq] at this; exact this
    have hrank : ∀ i, i < l.length → r.getD i 0 = rk l (l.getD i 0) := fun i hi => by simp [r, ranks, List.getD_eq_getElem?_getD, hi]
    let M : List Bool := (List.range l.length).map fun i => decide (r.getD i 0 ≤ n)
    have hM : ∀ i, i < l.length → M.getD i false = decide (r.getD i 0 ≤ n) := fun i hi => by simp [M, List.getD_eq_getElem?_getD, hi]
    have c0 : ((l.length : Int) ≤ 140737488355328) := by omega
    simp only [bne_self_eq_false, cond_false, Int.natCast_nonneg, Int.le_refl, c0, decide_true, cond_true, Int.toNat_natCast]
    -- the marks
    have L1 : ∀ d k (m : List Bool), k + d = Q.length → m.length = l.length → (∀ i, i < l.length → m.getD i false = decide ((i : Int) ∈ Q.take k)) → laws_FnQualifiers.l1 n (k : Int) l Q m = laws_FnQualifiers.l2 n 0 l Q M := by
      intro d
      induction d with
      | zero =>
        intro k m hk hm hmem
        rw [laws_FnQualifiers.l1_eq]
        have c : ¬ ((k : Int) < (Q.length : Int)) := by omega
        simp only [c, decide_false, cond_false]
        have : m = M := by
          apply List.ext_getElem?
          intro i
          by_cases hi : i < l.length
          · have h1 := hmem i hi
            have h2 := hM i hi
            rw [List.take_of_length_le (by omega)] at h1
            have h3 : decide ((i : Int) ∈ Q) = decide (r.getD i 0 ≤ n) := by
              rw [decide_eq_decide]
              constructor
              · intro h
                obtain ⟨j, _, e, h⟩ := quals_mem.mp h
                have : i = j := by omega
                rw [this]; exact h
              · intro h; exact quals_mem.mpr ⟨i, by simp only [r]; omega, rfl, h⟩
            rw [h3, ← h2] at h1
            have hMl : M.length = l.length := by simp [M]
            simp only [List.getD_eq_getElem?_getD] at h1
            rw [List.getElem?_eq_getElem (by omega), List.getElem?_eq_getElem (by omega)] at h1 ⊢
            simpa using h1
          · rw [List.getElem?_eq_none (by omega), List.getElem?_eq_none (by simp [M]; omega)]
        rw [this]
      | succ d ih =>
        intro k m hk hm hmem
        have hkQ : k < Q.length := by omega
        rw [laws_FnQualifiers.l1_eq]
        obtain ⟨j, hj, ej, hjn⟩ := quals_mem.mp (getD_mem hkQ 0)
        have hjl : j < l.length := by simp only [r] at hj; omega
        have c1 : ((k : Int) < (Q.length : Int)) := by omega
        have c2 : ¬ (Q.getD k 0 < 0) := by rw [ej]; omega
        have c3 : ¬ (Q.getD k 0 ≥ (l.length : Int)) := by rw [ej]; omega
        have c4 : (0 ≤ Q.getD k 0) := by rw [ej]; omega
        have c5 : (Q.getD k 0 < (m.length : Int)) := by rw [ej]; omega
        have hnext : laws_FnQualifiers.l1 n ((k + 1 : Nat) : Int) l Q (m.set (Q.getD k 0).toNat true) = laws_FnQualifiers.l2 n 0 l Q M := by
          refine ih (k + 1) _ (by omega) (by simp [hm]) fun i hi => ?_
          rw [List.take_succ_eq_append_getElem hkQ, ej, Int.toNat_natCast]
          have eQ : Q[k] = (j : Int) := by rw [← ej, getD_nat hkQ]
          rw [eQ]
          by_cases hij : i = j
          · subst hij
            have : (m.set i true).getD i false = true := by simp [List.getD_eq_getElem?_getD, hm, hi]
            rw [this]; simp
          · have : (m.set j true).getD i false = m.getD i false := by simp [List.getD_eq_getElem?_getD, List.getElem?_set_ne (Ne.symm hij)]
            rw [this, hmem i hi, decide_eq_decide, List.mem_append, List.mem_singleton]
            constructor
            · exact .inl
            · rintro (h | h)
              · exact h
              · omega
        simp only [c1, c2, c3, c4, c5, Int.natCast_nonneg, decide_true, decide_false, cond_true, cond_false, Int.toNat_natCast, w64s hkQ (show Q.length ≤ 9223372036854775807 by omega), hnext]
        by_cases hk0 : (k : Int) > 0
        · obtain ⟨k', rfl⟩ : ∃ k', k = k' + 1 := ⟨k - 1, by omega⟩
          have w1 : IntKind.wrap .i64 (((k' + 1 : Nat) : Int) - 1) = (k' : Int) := by rw [w64 (by omega) (by omega)]; omega
          have hs2 := quals_sorted hkQ
          have c6 : ¬ (Q.getD k' 0 ≥ Q.getD (k' + 1) 0) := by simp only [Q] at hs2 ⊢; omega
          have c7 : ((k' : Int) < (Q.length : Int)) := by omega
          simp only [hk0, w1, c6, c7, Int.natCast_nonneg, Int.toNat_natCast, decide_true, decide_false, cond_true, cond_false]
        · simp only [hk0, decide_false, cond_false]
    have h1 := L1 Q.length 0 (List.replicate l.length false) (by omega) (by simp) (fun i hi => by simp [List.getD_eq_getElem?_getD, hi])
    simp only [Int.natCast_zero, Int.ofNat_zero] at h1
    show laws_FnQualifiers.l1 n 0 l Q (List.replicate l.length false) = some true
    rw [h1]
    have hMl : M.length = l.length := by simp [M]
    have L3 : ∀ d i k, i < l.length → k + d = l.length → laws_FnQualifiers.l3 n (i : Int) (k : Int) l Q M = laws_FnQualifiers.l2 n ((i + 1 : Nat) : Int) l Q M := by
      intro d
      induction d with
      | zero =>
        intro i k hi hk
        rw [laws_FnQualifiers.l3_eq]
        have c : ¬ ((k : Int) < (l.length : Int)) := by omega
        simp only [c, decide_false, cond_false, w64s hi (show l.length ≤ 9223372036854775807 by omega)]
      | succ d ih =>
        intro i k hi hk
        have hkl : k < l.length := by omega
        rw [laws_FnQualifiers.l3_eq]
        have c1 : ((k : Int) < (l.length : Int)) := by omega
        have c2 : ((i : Int) < (l.length : Int)) := by omega
        simp only [c1, c2, hMl, Int.natCast_nonneg, decide_true, cond_true, Int.toNat_natCast, w64s hkl (show l.length ≤ 9223372036854775807 by omega), ih i (k + 1) hi (by omega), hM i hi, hM k hkl]
        by_cases h1 : r.getD i 0 ≤ n
        · by_cases h2 : r.getD k 0 ≤ n
          · simp only [h1, h2, decide_true, cond_true, Bool.not_true, cond_false]
          · have h3 : ¬ (l.getD i 0 ≤ l.getD k 0) := fun h => by
              have := rk_anti (l := l) h
              rw [← hrank i hi, ← hrank k hkl] at this
              omega
            simp only [h1, h2, h3, decide_true, decide_false, cond_true, Bool.not_false, cond_false]
        · simp only [h1, decide_false, cond_false]
    have L2 : ∀ d i, i + d = l.length → laws_FnQualifiers.l2 n (i : Int) l Q M = laws_FnQualifiers.l2 n (l.length : Int) l Q M := by
      intro d
      induction d with
      | zero => intro i hi; rw [show i = l.length by omega]
      | succ d ih =>
        intro i hi
        have hil : i < l.length := by omega
        rw [laws_FnQualifiers.l2_eq]
        have c1 : ((i : Int) < (l.length : Int)) := by omega
        simp only [c1, decide_true, cond_true]
        have h3 := L3 l.length i 0 hil (by omega)
        simp only [Int.natCast_zero, Int.ofNat_zero] at h3
        rw [h3]
        exact ih (i + 1) (by omega)
    have h2 := L2 l.length 0 (by omega)
    simp only [Int.natCast_zero, Int.ofNat_zero] at h2
    rw [h2, laws_FnQualifiers.l2_eq]
    have hcount : ((Q.length : Int)) ≥ min (l.length : Int) n := by
      have := rank_count l n hn.1
      have e2 : Q.length = l.countP fun a => decide (rk l a ≤ n) := by
        simp only [Q]
        rw [quals_len]
        simp only [r, ranks]
        rw [List.countP_map]; rfl
      rw [e2]; exact this
    have c1 : ¬ ((Q.length : Int) < if (l.length : Int) < n then (l.length : Int) else n) := by split <;> omega
    have w1 : IntKind.wrap .i64 (n + 1) = n + 1 := w64 (by omega) (by omega)
    simp only [Int.lt_irrefl, c1, decide_false, cond_false, w1]
    have hmore : ∃ n', (if n + 1 < 64 then n + 1 else (64 : Int)) = n' ∧ n ≤ n' ∧ n' ≤ 64 := ⟨_, rfl, by split <;> omega, by split <;> omega⟩
    obtain ⟨n', en, hn1, hn2⟩ := hmore
    have hq2 : qual l n' = (quals r n', 0) := by unfold qual; rw [if_pos hs, if_pos ⟨by omega, hn2⟩]
    rw [en, impl_Qualifiers_ok l n' (by omega), hq2]
    simp only [Option.bind_some, bne_self_eq_false, cond_false]
    have hQ2 : (quals r n').length ≤ 1048576 := by have := qual_len l n'; rw [hq2] at this; simp only at this; omega
    have L4 : ∀ d k, k + d = Q.length → laws_FnQualifiers.l4 (k : Int) Q (quals r n') = some true := by
      intro d
      induction d with
      | zero =>
        intro k hk
        rw [laws_FnQualifiers.l4_eq]
        have c : ¬ ((k : Int) < (Q.length : Int)) := by omega
        simp only [c, decide_false, cond_false]
      | succ d ih =>
        intro k hk
        have hkQ : k < Q.length := by omega
        rw [laws_FnQualifiers.l4_eq]
        have c1 : ((k : Int) < (Q.length : Int)) := by omega
        have hin : Q.getD k 0 ∈ quals r n' := by
          obtain ⟨j, hj, ej, hjn⟩ := quals_mem.mp (getD_mem hkQ 0)
          exact quals_mem.mpr ⟨j, hj, ej, by omega⟩
        simp only [c1, Int.natCast_nonneg, decide_true, cond_true, Int.toNat_natCast, hasInt_ok _ _ hQ2, hin, Option.bind_some, Bool.not_true, cond_false, w64s hkQ (show Q.length ≤ 9223372036854775807 by omega)]
        exact ih (k + 1) (by omega)
    have h4 := L4 Q.length 0 (by omega)
    simpa using h4
  · have hn : (qual l n).2 ≠ 0 ∧ (qual l n).1 = [] := by
      unfold qual
      split
      · split
        · rename_i h1 h2; exact (hp ⟨h1, h2⟩).elim
        · exact ⟨by decide, rfl⟩
      · exact ⟨by decide, rfl⟩
    have hb2 : ((qual l n).2 != 0) = true := by simpa using hn.1
    rw [hb2, cond_true, hn.2]
    rfl
end Go.Proofs.Ytkeockkepmljjaa
end

section
namespace Go.Proofs.Ytkeockkepmljjaa.fnQualifiers
open Go.ChangeShapes Go.WideShapes Go.ChangeAt Go.RowKit
open Go.ChangeMaps (open_string shut_string)
open Ev (IsRow)
theorem own : ownKnob Try.prog.godebug = none := by kernel_rfl
theorem laidOut : laidOutB Try.prog = true := by kernel_rfl
theorem walk (a0 : Option Addr) (len0 cap0 : Nat) (z0 : List Int) (w : World) (w0 : IsRow .u8 w a0 len0 cap0 z0) : Calls Try.prog 6 #[.slice a0 len0 cap0] w fun e w' => e = .returned (.bool true) ∧ Below w.heap.size w w' :=
  Ev.law_calls laws_FnQualifiers.sound (Vs := [.slice a0 len0 cap0]) (x := (z0.take len0)) (r := true) (Ev.argsAt_one (Ev.arg_ints w0)) (FnQualifiers_true (z0.take len0) (fun n hn => Ev.row_wf w0 n hn) (Ev.row_len w0)) rfl
set_option maxRecDepth 100000 in
theorem lifted (os : Os) (started : os.Started) (H : Type) (enc : TypeId × Value → H) :
    ReturnsInHanded {} Try.checked os 6 .any (Rows.fnQualifiersSpec.pre6 enc Try.prog Try.f6 Rows.fnQualifiersRow.domain false) (Rows.fnQualifiersSpec.post enc Try.prog Try.f6 false true false false) := by
  refine returnsInHanded_of_change_sized (C := Try.checked) own started (by kernel_rfl) Try.func6
    (ChangeSpec.witness6 (enc := enc) (C := Try.checked) false ⟨#[], #[.slice none 0 0], []⟩ 8 (by kernel_rfl) (by kernel_rfl) (by kernel_rfl) (by kernel_rfl)) ?_
  intro W base args ds gs before hval0 hW hcnd hsz0 _
  have hsz : (DataW.weightsEach Try.prog (Try.f6.params.toList ++ Rows.fnQualifiersSpec.plain.varTypes Try.prog) (ds ++ gs)).all (· ≤ reachBytes) = true := hsz0
  have hval : ∀ (j : Nat) t v, Try.f6.params[j]? = some t → args[j]? = some v → Value.okWide Try.prog W .any base t v := hval0
  have hW' := hW
  obtain ⟨p, q, hA0, hV, rfl, hfz, hnd⟩ := hW
  have hA : DataW.TrodAll enc Try.prog W 0 (fun _ => true) true Try.f6.params.toList args.toList ds p := hA0
  rw [Try.params6] at hA hval hsz
  obtain ⟨v0, vs0, d0, ds0, p0, q0, hargs, rfl, rfl, h0, r0⟩ := trodAll_cons hA
  obtain ⟨rfl, rfl, rfl⟩ := trodAll_nil r0
  obtain rfl : args = #[v0] := by cases args; simp_all
  obtain ⟨rfl, rfl⟩ := trodVars_none hV
  obtain ⟨a0, len0, cap0, rfl⟩ := okWide_slice Try.underlying22 (hval 0 22 v0 rfl rfl)
  have k0 := h0
  have lt0 : ∀ x ∈ p0, x.block < W.heap.size := by obtain ⟨m, hm⟩ := k0; exact DataW.trod_lt m _ _ _ hm
  obtain ⟨z0, w0⟩ : ∃ zs, IsRow .u8 W a0 len0 cap0 zs := by
    obtain ⟨fuel, hf⟩ := h0
    rcases open_ints Try.underlying22 Try.underlying5 (by kernel_rfl) hf with ⟨hcs, _⟩ | ⟨x, l, c, zs, hcs, _, hl, hm, hz, _, hcell, hwz⟩
    · simp [Value.cells] at hcs
      obtain ⟨rfl, rfl, rfl⟩ := hcs
      exact ⟨[], .inl ⟨rfl, rfl, rfl, rfl⟩⟩
    · simp [Value.cells] at hcs
      obtain ⟨rfl, rfl, rfl⟩ := hcs
      exact ⟨zs, .inr ⟨_, rfl, hl, hm, by simpa using hz, hcell, hwz⟩⟩
  clear hA0 hval0 hsz0 hsz
  refine (walk a0 len0 cap0 z0 W w0).mono fun e W' ⟨he, bel⟩ => ?_
  subst he
  exact ⟨_, rfl, _, _, _, [], _, [], hW', trodAll_mk1 (shut_bool Try.underlying4 _), (trodAll_cons_mk (Below.trod laidOut (by kernel_rfl) (of_decide_eq_true (by kernel_rfl)) k0 bel lt0) trodAll_mk0), rfl, bel.frame _, fun h => by cases h⟩
theorem over : Rows.fnQualifiersRow.holds Try.pinned (OpenSpec.ofChange Rows.fnQualifiersSpec) :=
  OpenClaim.holds_of_wide 6 Try.f6 rfl rfl rfl rfl rfl rfl rfl ⟨rfl, rfl, rfl, rfl, rfl⟩ rfl rfl rfl rfl rfl (by kernel_rfl) Try.func6 (by kernel_rfl)
    (of_decide_eq_true (by kernel_rfl)) (by unfold Func.isWrapper; first | (rw [if_pos (by decide +kernel)]; kernel_rfl) | (rw [if_neg (by decide +kernel)]; exact ⟨rfl, rfl⟩))
    (fun os started H enc _ => lifted os started H enc)
theorem proved : Rows.FnQualifiersSaid := over
end Go.Proofs.Ytkeockkepmljjaa.fnQualifiers
namespace Go.Proofs.Ytkeockkepmljjaa
/-- The row, under a short name, for the claim. -/
theorem fnQualifiers_holds : Rows.FnQualifiersSaid := fnQualifiers.proved
end Go.Proofs.Ytkeockkepmljjaa
end

