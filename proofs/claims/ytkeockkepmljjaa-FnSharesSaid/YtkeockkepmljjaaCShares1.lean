/- The law FnShares: for every input its call returns true and its arguments read as before. No condition besides what the row itself says. Here: functions of the program as plain functions, and plain lemmas. -/
import Derived.Test.YtkeockkepmljjaaCShares0
import Derived.RowKit
import Derived.RowKit
import Derived.Test.YtkeockkepmljjaaRows
import Derived.WalkKit
import Derived.ProofKit
import Derived.OpenShut
import Derived.ShutString
import Derived.ChangeOld
import Derived.Below
import Derived.SizedLaws
import Derived.Test.YtkeockkepmljjaaRows
import Derived.WalkKit
import Derived.ProofKit
import Derived.OpenShut
import Derived.ShutString
import Derived.ChangeOld
import Derived.Below
import Derived.SizedLaws
set_option linter.unusedVariables false
set_option linter.unusedSimpArgs false
set_option maxRecDepth 100000
section
namespace Go.Proofs.Ytkeockkepmljjaa
open Go Go.Proofs Pl

def rdiv (a b : Int) : Int := (2 * a + b) / (2 * b)

theorem tdiv_bd (x d : Int) (hd : 0 < d) (B : Int) (h : -B ≤ x ∧ x ≤ B) (hB : 0 ≤ B) : -B ≤ x.tdiv d ∧ x.tdiv d ≤ B := by
  have h1 := Int.natAbs_tdiv_le_natAbs x d
  omega

theorem tdiv_floor (x d : Int) (hd : 0 < d) : (x.tmod d < 0 → x.tdiv d - 1 = x / d) ∧ (¬ x.tmod d < 0 → x.tdiv d = x / d) ∧ (0 ≤ x → ¬ x.tmod d < 0) ∧ (x < 0 → (x.tmod d ≠ 0 ↔ x.tmod d < 0)) := by
  have hm := Int.emod_nonneg x (show d ≠ 0 by omega)
  have hl := Int.emod_lt_of_pos x hd
  have e1 : x.tdiv d = x / d + if 0 ≤ x ∨ d ∣ x then 0 else d.sign := Int.tdiv_eq_ediv
  have e2 : x.tmod d = x % d - if 0 ≤ x ∨ d ∣ x then 0 else (d.natAbs : Int) := by
    rw [Int.tmod_eq_emod]; split <;> rfl
  have hs : d.sign = 1 := Int.sign_eq_one_of_pos hd
  by_cases h : 0 ≤ x ∨ d ∣ x
  · rw [if_pos h] at e1 e2
    refine ⟨fun h => by omega, fun _ => by omega, fun _ => by omega, fun hx => ?_⟩
    have hdv : d ∣ x := h.resolve_left (by omega)
    have : x % d = 0 := Int.emod_eq_zero_of_dvd hdv
    omega
  · rw [if_neg h] at e1 e2
    exact ⟨fun _ => by omega, fun h => by omega, fun h2 => (h (.inl h2)).elim, fun hx => by omega⟩

theorem l33Round_ok (num den : Int) (h1 : -10000000000000 ≤ num ∧ num ≤ 10000000000000) (h2 : 1 ≤ den ∧ den ≤ 1000000000) : spec_l33Round.f (num, den) = some (rdiv num den) := by
  rw [spec_l33Round.eq]
  have w1 : IntKind.wrap .i64 (2 * den) = 2 * den := w64 (by omega) (by omega)
  have w2 : IntKind.wrap .i64 (2 * num) = 2 * num := w64 (by omega) (by omega)
  have w3 : IntKind.wrap .i64 (2 * num + den) = 2 * num + den := w64 (by omega) (by omega)
  have hb := tdiv_bd (2 * num + den) (2 * den) (by omega) 30000000000000 (by omega) (by omega)
  have w4 : IntKind.wrap .i64 ((2 * num + den).tdiv (2 * den)) = (2 * num + den).tdiv (2 * den) := w64 (by omega) (by omega)
  have w5 : IntKind.wrap .i64 ((2 * num + den).tdiv (2 * den) - 1) = (2 * num + den).tdiv (2 * den) - 1 := w64 (by omega) (by omega)
  have hf := tdiv_floor (2 * num + den) (2 * den) (by omega)
  have hz : ¬ (2 * den = 0) := by omega
  simp only [w1, w2, w3, w4, w5, spec_l33Round.l1_eq, hz, decide_false, cond_false]
  by_cases h : (2 * num + den).tmod (2 * den) < 0
  · simp only [h, decide_true, cond_true, hf.1 h]; rfl
  · simp only [h, decide_false, cond_false, hf.2.1 h]; rfl

theorem rounded_ok (num den : Int) (h1 : -10000000000000 ≤ num ∧ num ≤ 10000000000000) (h2 : 1 ≤ den ∧ den ≤ 1000000000) : impl_rounded.f (num, den) = some (rdiv num den) := by
  rw [impl_rounded.eq]
  have w1 : IntKind.wrap .i64 (2 * den) = 2 * den := w64 (by omega) (by omega)
  have w2 : IntKind.wrap .i64 (2 * num) = 2 * num := w64 (by omega) (by omega)
  have w3 : IntKind.wrap .i64 (2 * num + den) = 2 * num + den := w64 (by omega) (by omega)
  have hb := tdiv_bd (2 * num + den) (2 * den) (by omega) 30000000000000 (by omega) (by omega)
  have w4 : IntKind.wrap .i64 ((2 * num + den).tdiv (2 * den)) = (2 * num + den).tdiv (2 * den) := w64 (by omega) (by omega)
  have w5 : IntKind.wrap .i64 ((2 * num + den).tdiv (2 * den) - 1) = (2 * num + den).tdiv (2 * den) - 1 := w64 (by omega) (by omega)
  have hf := tdiv_floor (2 * num + den) (2 * den) (by omega)
  have hz : ¬ (2 * den = 0) := by omega
  simp only [w1, w2, w3, w4, w5, impl_rounded.l1_eq, hz, decide_false, cond_false]
  by_cases hx : 2 * num + den < 0
  · simp only [hx, decide_true, cond_true]
    by_cases h : (2 * num + den).tmod (2 * den) < 0
    · have hn : ((2 * num + den).tmod (2 * den) != 0) = true := by rw [bne_iff_ne]; exact (hf.2.2.2 hx).mpr h
      simp only [hn, cond_true, hf.1 h]; rfl
    · have hn : ((2 * num + den).tmod (2 * den) != 0) = false := by
        rw [bne_eq_false_iff_eq]
        exact Classical.byContradiction fun h2 => h ((hf.2.2.2 hx).mp h2)
      simp only [hn, cond_false, hf.2.1 h]; rfl
  · simp only [hx, decide_false, cond_false, hf.2.1 (hf.2.2.1 (by omega))]; rfl

theorem okScores_mem {l : List Int} (h : okScores l = true) {n : Int} (hn : n ∈ l) : -1000000000 ≤ n ∧ n ≤ 1000000000 := by
  unfold okScores at h
  rw [Bool.and_eq_true, List.all_eq_true] at h
  have := h.2 n hn
  unfold okScore at this
  simpa using this
theorem okScores_len {l : List Int} (h : okScores l = true) : l.length ≤ 64 := by
  unfold okScores at h
  rw [Bool.and_eq_true] at h
  simpa using h.1

/-- What CarryOver returns. -/
def carry (l : List Int) (num den : Int) : List Int × Int :=
  if okScores l = true then if 1 ≤ den ∧ den ≤ 1000 then if 0 ≤ num ∧ num ≤ den then (l.map fun n => rdiv (n * num) den, 0) else ([], 2) else ([], 2) else ([], 1)

theorem carry_bd {n num den : Int} (hn : -1000000000 ≤ n ∧ n ≤ 1000000000) (hd : 1 ≤ den ∧ den ≤ 1000) (hm : 0 ≤ num ∧ num ≤ den) : -10000000000000 ≤ n * num ∧ n * num ≤ 10000000000000 := by
  have h1 : n * num ≤ 1000000000 * num := Int.mul_le_mul_of_nonneg_right hn.2 hm.1
  have h2 : -1000000000 * num ≤ n * num := Int.mul_le_mul_of_nonneg_right hn.1 hm.1
  omega

theorem spec_CarryOver_ok (l : List Int) (num den : Int) (h : l.length ≤ 1048576) : spec_CarryOver.f (l, num, den) = some (carry l num den) := by
  rw [spec_CarryOver.eq, l33Scores_ok l h, l01In_ok, l01In_ok]
  unfold carry
  by_cases hs : okScores l = true
  · by_cases hd : 1 ≤ den ∧ den ≤ 1000
    · by_cases hm : 0 ≤ num ∧ num ≤ den
      · have H := loop_fold (fun (s : List Int) i => spec_CarryOver.l1 l num den (i : Int) s) l (fun s n => s ++ [rdiv (n * num) den]) (fun i s => s.length = i) (fun i s hl hi => by
          refine ⟨?_, by simp [hl]⟩
          rw [spec_CarryOver.l1_eq]
          have hb := carry_bd (okScores_mem hs (List.getElem_mem hi)) hd hm
          have hw : IntKind.wrap .i64 (l[i] * num) = l[i] * num := w64 (by omega) (by omega)
          have e : s.length + 1 ≤ 17592186044416 := by omega
          simp only [Int.toNat_natCast, getD_nat hi, hw, l33Round_ok _ den hb (by omega), w64s hi (show l.length ≤ 9223372036854775807 by omega)]
          simp [hi, e]) [] rfl
        rw [foldl_snoc] at H
        have H := H.1
        simp only [Int.natCast_zero, Int.ofNat_zero] at H
        rw [H, spec_CarryOver.l1_eq]
        simp [hs, hd, hm]
      · rw [if_pos hs, if_pos hd, if_neg hm]
        have : (decide (0 ≤ num) && decide (num ≤ den)) = false := by simpa using hm
        simp [hs, hd, this]
    · rw [if_pos hs, if_neg hd]
      have : (decide (1 ≤ den) && decide (den ≤ 1000)) = false := by simpa using hd
      simp [hs, this]
  · rw [if_neg hs]
    simp [hs]

theorem impl_CarryOver_ok (l : List Int) (num den : Int) (h : l.length ≤ 1048576) : impl_CarryOver.f (l, num, den) = some (carry l num den) := by
  rw [impl_CarryOver.eq, isScoreList_ok l h, within_ok, within_ok]
  unfold carry
  by_cases hs : okScores l = true
  · by_cases hd : 1 ≤ den ∧ den ≤ 1000
    · by_cases hm : 0 ≤ num ∧ num ≤ den
      · have H := loop_fold (fun (s : List Int) i => impl_CarryOver.l1 num den l l.length (i : Int) s) l (fun s n => s ++ [rdiv (n * num) den]) (fun i s => s.length = i) (fun i s hl hi => by
          refine ⟨?_, by simp [hl]⟩
          rw [impl_CarryOver.l1_eq]
          have hb := carry_bd (okScores_mem hs (List.getElem_mem hi)) hd hm
          have hw : IntKind.wrap .i64 (l[i] * num) = l[i] * num := w64 (by omega) (by omega)
          have e : s.length + 1 ≤ 17592186044416 := by omega
          simp only [Int.toNat_natCast, getD_nat hi, hw, rounded_ok _ den hb (by omega), w64s hi (show l.length ≤ 9223372036854775807 by omega)]
          simp [hi, e]) [] rfl
        rw [foldl_snoc] at H
        have H := H.1
        simp only [Int.natCast_zero, Int.ofNat_zero] at H
        rw [H, impl_CarryOver.l1_eq]
        simp [hs, hd, hm]
      · rw [if_pos hs, if_pos hd, if_neg hm]
        have : (decide (0 ≤ num) && decide (num ≤ den)) = false := by simpa using hm
        simp [hs, hd, this]
    · rw [if_pos hs, if_neg hd]
      have : (decide (1 ≤ den) && decide (den ≤ 1000)) = false := by simpa using hd
      simp [hs, this]
  · rw [if_neg hs]
    simp [hs]

theorem carry_len (l : List Int) (num den : Int) : (carry l num den).1.length ≤ l.length := by
  unfold carry
  split
  · split
    · split <;> simp
    · simp
  · simp

/-- What Percentages returns. -/
def perc (l : List Int) (top : Int) : List Int × Int :=
  if okScores l = true then if 1 ≤ top ∧ top ≤ 1000000000 then if l.all (fun n => decide (0 ≤ n) && decide (n ≤ top)) = true then (l.map fun n => rdiv (10000 * n) top, 0) else ([], 2) else ([], 2) else ([], 1)

theorem perc_idx_ok (l : List Int) (top : Int) (h : l.length ≤ 1048576) : slices_ContainsFunc_int64_1.f (l, top) = some (l.any fun n => !(decide (0 ≤ n) && decide (n ≤ top))) := by
  have H := loop_find (fun i => slices_IndexFunc_int64_1.l1 l top l.length (i : Int)) l (fun n => !(decide (0 ≤ n) && decide (n ≤ top))) (fun i => some (i : Int)) (fun i hi => by
    rw [slices_IndexFunc_int64_1.l1_eq]
    have e : impl_Percentages_1.f (l.getD i 0, top) = some (!(decide (0 ≤ l[i]) && decide (l[i] ≤ top))) := by rw [impl_Percentages_1.eq, within_ok, getD_nat hi]; rfl
    simp only [Int.toNat_natCast, e, w64s hi (show l.length ≤ 9223372036854775807 by omega), Option.bind_some]
    simp [hi, cond_ite])
  rw [slices_ContainsFunc_int64_1.eq, slices_IndexFunc_int64_1.eq]
  simp only [Int.natCast_zero, Int.ofNat_zero] at H
  rw [H, slices_IndexFunc_int64_1.l1_eq]
  simp only [Int.lt_irrefl, decide_false, cond_false]
  cases hc : l.any fun n => !(decide (0 ≤ n) && decide (n ≤ top)) <;> simp

theorem any_not (l : List Int) (p : Int → Bool) : (l.any fun n => !p n) = !(l.all p) := by
  induction l with
  | nil => rfl
  | cons a l ih => rw [List.any_cons, List.all_cons, ih]; cases p a <;> simp

theorem impl_Percentages_ok (l : List Int) (top : Int) (h : l.length ≤ 1048576) : impl_Percentages.f (l, top) = some (perc l top) := by
  rw [impl_Percentages.eq, isScoreList_ok l h, within_ok, perc_idx_ok l top h, any_not]
  unfold perc
  by_cases hs : okScores l = true
  · by_cases hd : 1 ≤ top ∧ top ≤ 1000000000
    · by_cases hm : l.all (fun n => decide (0 ≤ n) && decide (n ≤ top)) = true
      · have H := loop_fold (fun (s : List Int) i => impl_Percentages.l1 top l l.length (i : Int) s) l (fun s n => s ++ [rdiv (10000 * n) top]) (fun i s => s.length = i) (fun i s hl hi => by
          refine ⟨?_, by simp [hl]⟩
          rw [impl_Percentages.l1_eq]
          have hb := List.all_eq_true.mp hm _ (List.getElem_mem hi)
          simp only [Bool.and_eq_true, decide_eq_true_eq] at hb
          have hw : IntKind.wrap .i64 (10000 * l[i]) = 10000 * l[i] := w64 (by omega) (by omega)
          have e : s.length + 1 ≤ 17592186044416 := by omega
          simp only [Int.toNat_natCast, getD_nat hi, hw, rounded_ok (10000 * l[i]) top (by omega) (by omega), w64s hi (show l.length ≤ 9223372036854775807 by omega)]
          simp [hi, e]) [] rfl
        rw [foldl_snoc] at H
        have H := H.1
        simp only [Int.natCast_zero, Int.ofNat_zero] at H
        rw [H, impl_Percentages.l1_eq]
        simp only [hs, hd, hm]
        simp
      · rw [if_pos hs, if_pos hd, if_neg hm]
        simp only [Bool.not_eq_true] at hm
        simp only [hs, hd, hm]
        simp
    · rw [if_pos hs, if_neg hd]
      have : (decide (1 ≤ top) && decide (top ≤ 1000000000)) = false := by simpa using hd
      simp [hs, this]
  · rw [if_neg hs]
    simp [hs]

theorem spec_Percentages_ok (l : List Int) (top : Int) (h : l.length ≤ 1048576) : spec_Percentages.f (l, top) = some (perc l top) := by
  rw [spec_Percentages.eq, l33Scores_ok l h, l01In_ok]
  unfold perc
  by_cases hs : okScores l = true
  · by_cases hd : 1 ≤ top ∧ top ≤ 1000000000
    · rw [if_pos hs, if_pos hd]
      -- the loop leaves at the first score beyond the top
      have H : ∀ d i (s : List Int), i + d = l.length → s.length = i → spec_Percentages.l1 l top (i : Int) s =
          some (if (l.drop i).all (fun n => decide (0 ≤ n) && decide (n ≤ top)) = true then (s ++ (l.drop i).map fun n => rdiv (10000 * n) top, 0) else ([], 2)) := by
        intro d
        induction d with
        | zero =>
          intro i s hi hl
          have hi : i = l.length := by omega
          subst hi
          rw [spec_Percentages.l1_eq]
          simp
        | succ d ih =>
          intro i s hi hl
          have hlt : i < l.length := by omega
          rw [spec_Percentages.l1_eq, List.drop_eq_getElem_cons hlt, List.all_cons, List.map_cons]
          have e : s.length + 1 ≤ 17592186044416 := by omega
          simp only [Int.toNat_natCast, getD_nat hlt, l01In_ok, w64s hlt (show l.length ≤ 9223372036854775807 by omega), Option.bind_some]
          cases hp : (decide (0 ≤ l[i]) && decide (l[i] ≤ top)) with
          | false => simp [hlt]
          | true =>
            have hb := hp
            simp only [Bool.and_eq_true, decide_eq_true_eq] at hb
            have hw : IntKind.wrap .i64 (10000 * l[i]) = 10000 * l[i] := w64 (by omega) (by omega)
            simp only [hw, l33Round_ok (10000 * l[i]) top (by omega) (by omega), Option.bind_some, Bool.true_and]
            have := ih (i + 1) (s ++ [rdiv (10000 * l[i]) top]) (by omega) (by simp [hl])
            simp only [Int.ofNat_lt, hlt, e, decide_true, cond_true, Int.natCast_nonneg, Bool.not_true, cond_false, this, List.append_assoc, List.cons_append, List.nil_append]
      have H := H l.length 0 [] (by omega) rfl
      simp only [Int.natCast_zero, Int.ofNat_zero, List.drop_zero, List.nil_append] at H
      simp only [hs, hd, H]
      simp
    · rw [if_pos hs, if_neg hd]
      have : (decide (1 ≤ top) && decide (top ≤ 1000000000)) = false := by simpa using hd
      simp [hs, this]
  · rw [if_neg hs]
    simp [hs]

theorem perc_len (l : List Int) (top : Int) : (perc l top).1.length ≤ l.length := by
  unfold perc
  split
  · split
    · split <;> simp
    · simp
  · simp

/-- What Qualifiers returns: the indices of the ranks of at most n. -/
def quals (r : List Int) (n : Int) : List Int := ((List.range r.length).filter fun i => decide (r.getD i 0 ≤ n)).map fun (i : Nat) => (i : Int)
def qual (l : List Int) (n : Int) : List Int × Int :=
  if okScores l = true then if 0 ≤ n ∧ n ≤ 64 then (quals (ranks l) n, 0) else ([], 2) else ([], 1)

theorem quals_fold (r : List Int) (n : Int) : (List.range r.length).foldl (fun (s : List Int) (i : Nat) => if decide (r.getD i 0 ≤ n) = true then s ++ [(i : Int)] else s) [] = quals r n := by
  have : ∀ (xs : List Nat) (s : List Int), xs.foldl (fun (s : List Int) (i : Nat) => if decide (r.getD i 0 ≤ n) = true then s ++ [(i : Int)] else s) s = s ++ (xs.filter fun i => decide (r.getD i 0 ≤ n)).map fun (i : Nat) => (i : Int) := by
    intro xs
    induction xs with
    | nil => simp
    | cons x xs ih =>
      intro s
      rw [List.foldl_cons, ih, List.filter_cons]
      split <;> simp
  rw [this]; rfl

theorem spec_quals_ok (r : List Int) (n : Int) (h : r.length ≤ 1048576) : spec_Qualifiers.l1 n 0 [] r = some (quals r n, 0) := by
  have H := loop_fold (fun (s : List Int) i => spec_Qualifiers.l1 n (i : Int) s r) (List.range r.length) (fun s i => if decide (r.getD i 0 ≤ n) = true then s ++ [(i : Int)] else s) (fun i s => s.length ≤ i) (fun i s hl hi => by
    simp only [List.length_range] at hi
    refine ⟨?_, by split <;> (try rw [List.length_append]) <;> (try simp only [List.length_singleton]) <;> omega⟩
    rw [spec_Qualifiers.l1_eq]
    have e : s.length + 1 ≤ 17592186044416 := by omega
    simp only [Int.toNat_natCast, getD_nat hi, spec_Qualifiers.l2_eq, w64s hi (show r.length ≤ 9223372036854775807 by omega)]
    by_cases hn : r[i] ≤ n <;> simp [hi, e, hn]) [] (by simp)
  rw [quals_fold] at H
  have H := H.1
  simp only [Int.natCast_zero, Int.ofNat_zero, List.length_range] at H
  rw [H, spec_Qualifiers.l1_eq]
  simp
theorem impl_quals_ok (r : List Int) (n : Int) (h : r.length ≤ 1048576) : impl_Qualifiers.l1 n r.length 0 [] r = some (quals r n, 0) := by
  have H := loop_fold (fun (s : List Int) i => impl_Qualifiers.l1 n r.length (i : Int) s r) (List.range r.length) (fun s i => if decide (r.getD i 0 ≤ n) = true then s ++ [(i : Int)] else s) (fun i s => s.length ≤ i) (fun i s hl hi => by
    simp only [List.length_range] at hi
    refine ⟨?_, by split <;> (try rw [List.length_append]) <;> (try simp only [List.length_singleton]) <;> omega⟩
    rw [impl_Qualifiers.l1_eq]
    have e : s.length + 1 ≤ 17592186044416 := by omega
    simp only [Int.toNat_natCast, getD_nat hi, impl_Qualifiers.l2_eq, w64s hi (show r.length ≤ 9223372036854775807 by omega)]
    by_cases hn : r[i] ≤ n <;> simp [hi, e, hn]) [] (by simp)
  rw [quals_fold] at H
  have H := H.1
  simp only [Int.natCast_zero, Int.ofNat_zero, List.length_range] at H
  rw [H, impl_Qualifiers.l1_eq]
  simp

theorem spec_Qualifiers_ok (l : List Int) (n : Int) (h : l.length ≤ 1048576) : spec_Qualifiers.f (l, n) = some (qual l n) := by
  rw [spec_Qualifiers.eq, l33Scores_ok l h, l01In_ok, l33Ranks_ok l h]
  unfold qual
  by_cases hs : okScores l = true
  · by_cases hd : 0 ≤ n ∧ n ≤ 64
    · simp [hs, hd, spec_quals_ok (ranks l) n (by rw [ranks_len]; exact h)]
    · rw [if_pos hs, if_neg hd]
      have : (decide (0 ≤ n) && decide (n ≤ 64)) = false := by simpa using hd
      simp [hs, this]
  · rw [if_neg hs]
    simp [hs]
theorem impl_Qualifiers_ok (l : List Int) (n : Int) (h : l.length ≤ 1048576) : impl_Qualifiers.f (l, n) = some (qual l n) := by
  rw [impl_Qualifiers.eq, isScoreList_ok l h, within_ok, rankScores_ok l h]
  unfold qual
  by_cases hs : okScores l = true
  · by_cases hd : 0 ≤ n ∧ n ≤ 64
    · simp [hs, hd, impl_quals_ok (ranks l) n (by rw [ranks_len]; exact h)]
    · rw [if_pos hs, if_neg hd]
      have : (decide (0 ≤ n) && decide (n ≤ 64)) = false := by simpa using hd
      simp [hs, this]
  · rw [if_neg hs]
    simp [hs]
theorem qual_len (l : List Int) (n : Int) : (qual l n).1.length ≤ l.length := by
  unfold qual
  split
  · split
    · unfold quals
      rw [List.length_map]
      exact Nat.le_trans (List.length_filter_le _ _) (by simp [ranks_len])
    · simp
  · simp
end Go.Proofs.Ytkeockkepmljjaa
end

section
namespace Go.Proofs.Ytkeockkepmljjaa
open Go Go.Proofs Pl

/-- A source of numbers. -/
def Src (s : List Int × Int × Int) : Prop :=
  (∀ b ∈ s.1, 0 ≤ b ∧ b ≤ 255) ∧ s.1.length ≤ 1048576 ∧ 0 ≤ s.2.1 ∧ s.2.1 ≤ s.1.length ∧ 0 ≤ s.2.2 ∧ s.2.2 < 2147483647

theorem tmod_nn {a b : Int} (ha : 0 ≤ a) (hb : 0 < b) : a.tmod b = a % b := Int.tmod_eq_emod_of_nonneg ha
theorem tdiv_nn {a b : Int} (ha : 0 ≤ a) : a.tdiv b = a / b := Int.tdiv_eq_ediv_of_nonneg ha
theorem getD_mem {l : List Int} {i : Nat} (h : i < l.length) (d : Int) : l.getD i d ∈ l := by rw [getD_nat h]; exact List.getElem_mem h

theorem seed_next {z : Int} (h : 0 ≤ z ∧ z < 2147483647) : ∃ y, (IntKind.wrap .i64 ((IntKind.wrap .i64 (z * 48271)) + 13)).tmod 2147483647 = y ∧ 0 ≤ y ∧ y < 2147483647 := by
  have w1 : IntKind.wrap .i64 (z * 48271) = z * 48271 := w64 (by omega) (by omega)
  have w2 : IntKind.wrap .i64 (z * 48271 + 13) = z * 48271 + 13 := w64 (by omega) (by omega)
  rw [w1, w2, tmod_nn (by omega) (by omega)]
  exact ⟨_, rfl, by omega, by omega⟩

theorem next_ok {s : List Int × Int × Int} {n : Int} (hs : Src s) (hn : n ≤ 4611686018427387904) : ∃ x s', spec_l01Next_1.f (s, n) = some (x, s', ()) ∧ Src s' ∧ 0 ≤ x ∧ (x < n ∨ x = 0) := by
  rw [spec_l01Next_1.eq]
  obtain ⟨c, a, z⟩ := s
  obtain ⟨h1, h2, h3, h4, h5, h6⟩ := hs
  simp only at h1 h2 h3 h4 h5 h6
  by_cases hn1 : n ≤ 1
  · simp only [hn1, decide_true, cond_true]
    exact ⟨0, (c, a, z), rfl, ⟨h1, h2, h3, h4, h5, h6⟩, by omega, .inr rfl⟩
  · obtain ⟨y, hy, hy1, hy2⟩ := seed_next ⟨h5, h6⟩
    have hz : ¬ (n = 0) := by omega
    have key : ∀ (x : Int) (s' : List Int × Int × Int), 0 ≤ x → Src s' → ∃ x1 s1, spec_l01Next_1.l2 n x s' = some (x1, s1, ()) ∧ Src s1 ∧ 0 ≤ x1 ∧ (x1 < n ∨ x1 = 0) := fun x s' hx hs' => by
      rw [spec_l01Next_1.l2_eq]
      simp only [hz, decide_false, cond_false]
      rw [tmod_nn hx (by omega)]
      exact ⟨_, _, rfl, hs', Int.emod_nonneg _ (by omega), .inl (Int.emod_lt_of_pos _ (by omega))⟩
    have w13 : (y.tdiv 13) = y / 13 := tdiv_nn hy1
    have w3 : IntKind.wrap .i64 (y / 13) = y / 13 := w64 (by omega) (by omega)
    simp only [hn1, decide_false, cond_false, hy, w13, w3, spec_l01Next_1.l1_eq]
    by_cases ha : a < (c.length : Int)
    · obtain ⟨k, rfl⟩ : ∃ k : Nat, a = k := ⟨a.toNat, by omega⟩
      have hk : k < c.length := by omega
      have w4 : IntKind.wrap .i64 ((k : Int) + 1) = (k : Int) + 1 := w64 (by omega) (by omega)
      have hb := h1 _ (getD_mem hk 0)
      have w5 : IntKind.wrap .i64 (c.getD k 0) = c.getD k 0 := w64 (by omega) (by omega)
      have w6 : IntKind.wrap .i64 (y / 13 + c.getD k 0) = y / 13 + c.getD k 0 := w64 (by omega) (by omega)
      have w7 : IntKind.wrap .i64 ((k : Int) + 1 - 1) = (k : Int) := by rw [w64 (by omega) (by omega)]; omega
      have hS : Src (c, (k : Int) + 1, y) := ⟨h1, h2, by simp only; omega, by simp only; omega, hy1, hy2⟩
      simp only [ha, h3, decide_true, cond_true, w4, w7, Int.toNat_natCast, w5, w6]
      by_cases hn2 : n ≤ 256
      · simp only [hn2, decide_true, cond_true]
        cases hev : (((k : Int) + 1).tmod 2 == 0) with
        | true => simp only [cond_true]; exact key _ _ hb.1 hS
        | false => simp only [cond_false]; exact key _ _ (by omega) hS
      · simp only [hn2, decide_false, cond_false]; exact key _ _ (by omega) hS
    · simp only [ha, decide_false, cond_false]
      exact key _ _ (by omega) ⟨h1, h2, h3, h4, hy1, hy2⟩

theorem from_ok {code : List Int} (hb : ∀ b ∈ code, 0 ≤ b ∧ b ≤ 255) (hl : code.length ≤ 1048576) : ∃ s, spec_l01From.f code = some s ∧ Src s := by
  rw [spec_l01From.eq]
  have H : ∀ d i (z : Int), i + d = code.length → 0 ≤ z → z < 2147483647 → ∃ s, spec_l01From.l1 code (i : Int) (code, 0, z) = some s ∧ Src s := by
    intro d
    induction d with
    | zero =>
      intro i z hi h1 h2
      rw [spec_l01From.l1_eq]
      have : ¬ ((i : Int) < (code.length : Int)) := by omega
      simp only [this, decide_false, cond_false]
      exact ⟨_, rfl, hb, hl, by simp only; omega, by simp only; omega, h1, h2⟩
    | succ d ih =>
      intro i z hi h1 h2
      rw [spec_l01From.l1_eq]
      have hlt : i < code.length := by omega
      have hbi := hb _ (getD_mem hlt 0)
      have w1 : IntKind.wrap .i64 (z * 41) = z * 41 := w64 (by omega) (by omega)
      have w2 : IntKind.wrap .i64 (code.getD i 0) = code.getD i 0 := w64 (by omega) (by omega)
      have w3 : IntKind.wrap .i64 (z * 41 + code.getD i 0) = z * 41 + code.getD i 0 := w64 (by omega) (by omega)
      have hlt2 : ((i : Int) < (code.length : Int)) := by omega
      by_cases h64 : (i : Int) < 64
      · simp only [hlt2, h64, Int.natCast_nonneg, decide_true, cond_true, Int.toNat_natCast, w1, w2, w3, w64s hlt (show code.length ≤ 9223372036854775807 by omega)]
        rw [tmod_nn (by omega) (by omega)]
        exact ih (i + 1) _ (by omega) (by omega) (by omega)
      · simp only [hlt2, h64, decide_true, decide_false, cond_true, cond_false]
        exact ⟨_, rfl, hb, hl, by simp only; omega, by simp only; omega, h1, h2⟩
  exact H code.length 0 86421 (by omega) (by omega) (by omega)

theorem l33Draw_ok {s : List Int × Int × Int} (hs : Src s) : ∃ l s', spec_l33Draw_1.f s = some (l, s', ()) ∧ Src s' ∧ l.length ≤ 1000 ∧ ∀ n ∈ l, -1000000001 ≤ n ∧ n ≤ 1000000001 := by
  rw [spec_l33Draw_1.eq]
  obtain ⟨w, s1, e1, hs1, hw1, hw2⟩ := next_ok (n := 8) hs (by omega)
  obtain ⟨k, s2, e2, hs2, hk1, hk2⟩ := next_ok (n := 9) hs1 (by omega)
  simp only [e1, e2, Option.bind_some]
  have ww : IntKind.wrap .i64 (1 + w) = 1 + w := w64 (by omega) (by omega)
  rw [ww]
  let OkL (l : List Int) : Prop := ∀ n ∈ l, -1000000001 ≤ n ∧ n ≤ 1000000001
  -- the last rounds: more scores up to some number
  have L3 : ∀ (d : Nat) (n6 : Int) (s : List Int × Int × Int) (out : List Int), n6 ≤ (out.length : Int) + d → Src s → n6 ≤ 100 → out.length ≤ 500 → OkL out → ∃ l s', spec_l33Draw_1.l3 n6 s out = some (l, s', ()) ∧ Src s' ∧ l.length ≤ 1000 ∧ OkL l := by
    intro d
    induction d with
    | zero =>
      intro n6 s out h1 h2 h3 h4 h5
      rw [spec_l33Draw_1.l3_eq]
      have : ¬ ((out.length : Int) < n6) := by omega
      simp only [this, decide_false, cond_false, spec_l33Draw_1.l4_eq, spec_l33Draw_1.l2_eq]
      exact ⟨out, s, rfl, h2, by omega, h5⟩
    | succ d ih =>
      intro n6 s out h1 h2 h3 h4 h5
      rw [spec_l33Draw_1.l3_eq]
      by_cases h : (out.length : Int) < n6
      · obtain ⟨x, s', e, hs', hx1, hx2⟩ := next_ok (n := 30) h2 (by omega)
        have ho : out.length + 1 ≤ 17592186044416 := by omega
        simp only [h, decide_true, cond_true, e, Option.bind_some, ho]
        refine ih n6 s' (out ++ [x]) (by simp; omega) hs' h3 (by simp; omega) fun n hn => ?_
        rcases List.mem_append.mp hn with hn | hn
        · exact h5 n hn
        · simp at hn; omega
      · simp only [h, decide_false, cond_false, spec_l33Draw_1.l4_eq, spec_l33Draw_1.l2_eq]
        exact ⟨out, s, rfl, h2, by omega, h5⟩
  have L1 : ∀ (d : Nat) (k : Int) (s : List Int × Int × Int) (out : List Int), k = d → Src s → out.length + d ≤ 100 → OkL out → ∃ l s', spec_l33Draw_1.l1 (1 + w) k s out = some (l, s', ()) ∧ Src s' ∧ l.length ≤ 1000 ∧ OkL l := by
    intro d
    induction d with
    | zero =>
      intro k s out hk h2 h3 h4
      rw [spec_l33Draw_1.l1_eq]
      have : ¬ (k > 0) := by omega
      obtain ⟨x, s', e, hs', hx1, hx2⟩ := next_ok (n := 24) h2 (by omega)
      have ho : out.length + 1 ≤ 17592186044416 := by omega
      simp only [this, decide_false, cond_false, e, Option.bind_some]
      by_cases h0 : x = 0
      · obtain ⟨y, s3, e3, hs3, hy1, hy2⟩ := next_ok (n := 4) hs' (by omega)
        have hy4 : y < 4 := by omega
        simp only [h0, beq_self_eq_true, cond_true, e3, Option.bind_some, hy1, hy4, decide_true, ho, spec_l33Draw_1.l2_eq]
        refine ⟨_, _, rfl, hs3, by simp; omega, fun n hn => ?_⟩
        rcases List.mem_append.mp hn with hn | hn
        · exact h4 n hn
        · simp only [List.mem_singleton] at hn
          subst hn
          obtain ⟨j, rfl⟩ : ∃ j : Nat, y = j := ⟨y.toNat, by omega⟩
          rw [Int.toNat_natCast]
          have : j < 4 := by omega
          match j, this with
          | 0, _ => decide
          | 1, _ => decide
          | 2, _ => decide
          | 3, _ => decide
      · have hb0 : (x == 0) = false := by simpa using h0
        rw [hb0, cond_false]
        by_cases h1 : x = 1
        · obtain ⟨y, s3, e3, hs3, hy1, hy2⟩ := next_ok (n := 2) hs' (by omega)
          have hw3 : IntKind.wrap .i64 (64 + y) = 64 + y := w64 (by omega) (by omega)
          simp only [h1, beq_self_eq_true, cond_true, e3, Option.bind_some, hw3]
          exact L3 100 (64 + y) s3 out (by omega) hs3 (by omega) (by omega) h4
        · have hb1 : (x == 1) = false := by simpa using h1
          rw [hb1, cond_false, spec_l33Draw_1.l4_eq, spec_l33Draw_1.l2_eq]
          exact ⟨_, _, rfl, hs', by omega, h4⟩
    | succ d ih =>
      intro k s out hk h2 h3 h4
      rw [spec_l33Draw_1.l1_eq]
      have hk0 : k > 0 := by omega
      have w2 : IntKind.wrap .i64 (2 * (1 + w)) = 2 * (1 + w) := w64 (by omega) (by omega)
      obtain ⟨x, s', e, hs', hx1, hx2⟩ := next_ok (n := 2 * (1 + w)) h2 (by omega)
      have ho : out.length + 1 ≤ 17592186044416 := by omega
      have w3 : (1 + w).tdiv 2 = (1 + w) / 2 := tdiv_nn (by omega)
      have w4 : IntKind.wrap .i64 ((1 + w) / 2) = (1 + w) / 2 := w64 (by omega) (by omega)
      have w5 : IntKind.wrap .i64 (x - (1 + w) / 2) = x - (1 + w) / 2 := w64 (by omega) (by omega)
      have w6 : IntKind.wrap .i64 (k - 1) = k - 1 := w64 (by omega) (by omega)
      simp only [hk0, decide_true, cond_true, w2, e, Option.bind_some, ho, w3, w4, w5, w6]
      refine ih (k - 1) s' _ (by omega) hs' (by simp; omega) fun n hn => ?_
      rcases List.mem_append.mp hn with hn | hn
      · exact h4 n hn
      · simp at hn; omega
  exact L1 k.toNat k s2 [] (by omega) hs2 (by simp; omega) (fun n hn => by simp at hn)

theorem big_ok (code : List Int) : laws_big.f code = some (decide ((code.length : Int) > 4096)) := laws_big.eq code

theorem bytes {code : List Int} (hw : ∀ n ∈ code, (Lit.int .u8 n).wf = true) : ∀ b ∈ code, 0 ≤ b ∧ b ≤ 255 := by
  intro b hb
  have := hw b hb
  unfold Lit.wf at this
  simp [IntKind.min, IntKind.max, IntKind.signed, IntKind.bits] at this
  omega

theorem DrawPercentages_ok {code : List Int} (hb : ∀ b ∈ code, 0 ≤ b ∧ b ≤ 255) (hl : code.length ≤ 1048576) : ∃ l top, spec_DrawPercentages.f code = some (l, top) ∧ l.length ≤ 1000 ∧ 0 ≤ top ∧ top ≤ 1000000001 := by
  rw [spec_DrawPercentages.eq]
  obtain ⟨s, e, hs⟩ := from_ok hb hl
  obtain ⟨l, s1, e1, hs1, hl1, hl2⟩ := l33Draw_ok hs
  simp only [e, e1, Option.bind_some]
  have pick : ∀ (l : List Int) (y : Int), 0 ≤ y → y < 8 → ∃ l' top, (some (l, List.getD [(7 : Int), 9, 12, 16, 1000000000, 1000000001, 0, 20] y.toNat 0) : Option (List Int × Int)) = some (l', top) ∧ l' = l ∧ 0 ≤ top ∧ top ≤ 1000000001 := fun l y h1 h2 => by
    refine ⟨_, _, rfl, rfl, ?_⟩
    obtain ⟨j, rfl⟩ : ∃ j : Nat, y = j := ⟨y.toNat, by omega⟩
    rw [Int.toNat_natCast]
    have : j < 8 := by omega
    match j, this with
    | 0, _ => decide
    | 1, _ => decide
    | 2, _ => decide
    | 3, _ => decide
    | 4, _ => decide
    | 5, _ => decide
    | 6, _ => decide
    | 7, _ => decide
  have H : ∀ d i (s : List Int × Int × Int) (l : List Int), i + d = l.length → Src s → l.length ≤ 1000 → ∃ l' top, spec_DrawPercentages.l1 (i : Int) s l = some (l', top) ∧ l'.length ≤ 1000 ∧ 0 ≤ top ∧ top ≤ 1000000001 := by
    intro d
    induction d with
    | zero =>
      intro i s l hi hs hl
      rw [spec_DrawPercentages.l1_eq]
      have : ¬ ((i : Int) < (l.length : Int)) := by omega
      obtain ⟨y, s3, e3, hs3, hy1, hy2⟩ := next_ok (n := 8) hs (by omega)
      have hy8 : y < 8 := by omega
      simp only [this, decide_false, cond_false, e3, Option.bind_some, hy1, hy8, decide_true, cond_true]
      obtain ⟨l', top, h1, h2, h3⟩ := pick l y hy1 hy8
      exact ⟨l', top, h1, by rw [h2]; exact hl, h3⟩
    | succ d ih =>
      intro i s l hi hs hl
      rw [spec_DrawPercentages.l1_eq]
      have hlt : i < l.length := by omega
      have hlt2 : ((i : Int) < (l.length : Int)) := by omega
      obtain ⟨x, s2, e2, hs2, hx1, hx2⟩ := next_ok (n := 12) hs (by omega)
      simp only [hlt2, decide_true, cond_true, e2, Option.bind_some, Int.natCast_nonneg, Int.toNat_natCast, w64s hlt (show l.length ≤ 9223372036854775807 by omega)]
      by_cases hx : x > 0
      · simp only [hx, decide_true, cond_true]
        exact ih (i + 1) s2 _ (by simp; omega) hs2 (by simpa using hl)
      · simp only [hx, decide_false, cond_false]
        obtain ⟨y, s3, e3, hs3, hy1, hy2⟩ := next_ok (n := 8) hs2 (by omega)
        have hy8 : y < 8 := by omega
        simp only [e3, Option.bind_some, hy1, hy8, decide_true, cond_true]
        obtain ⟨l', top, h1, h2, h3⟩ := pick l y hy1 hy8
        exact ⟨l', top, h1, by rw [h2]; exact hl, h3⟩
  exact H l.length 0 s1 l (by omega) hs1 hl1
end Go.Proofs.Ytkeockkepmljjaa
end

section
namespace Go.Proofs.Ytkeockkepmljjaa
open Go Go.Proofs Pl

/-- A reduced quotient. -/
def red (a b : Int) : Int × Int := (a / (Nat.gcd a.toNat b.toNat : Nat), b / (Nat.gcd a.toNat b.toNat : Nat))

theorem div_bd {a : Int} {g : Nat} (ha : 0 ≤ a ∧ a ≤ 4611686018427387904) : 0 ≤ a / (g : Int) ∧ a / (g : Int) ≤ 4611686018427387904 := by
  refine ⟨Int.ediv_nonneg ha.1 (by omega), ?_⟩
  have := Int.ediv_le_self (b := (g : Int)) ha.1
  omega

theorem l27_loop (num den : Int) (hn : 0 ≤ num ∧ num ≤ 4611686018427387904) (hd : 0 ≤ den ∧ den ≤ 4611686018427387904) (x : Int × Int) : ∀ (b a : Nat), 0 < Nat.gcd a b →
    spec_l27Reduced.l1 num den a b x = some (num / (Nat.gcd a b : Nat), den / (Nat.gcd a b : Nat)) := by
  intro b
  induction b using Nat.strongRecOn with
  | _ b ih =>
    intro a hg
    rw [spec_l27Reduced.l1_eq]
    by_cases hb : 0 < b
    · have c1 : ((b : Int) > 0) := by omega
      have c2 : ¬ ((b : Int) = 0) := by omega
      have e : (a : Int).tmod (b : Int) = ((a % b : Nat) : Int) := by rw [tmod_nn (by omega) (by omega)]; rfl
      have hgc : Nat.gcd b (a % b) = Nat.gcd a b := by rw [Nat.gcd_comm b (a % b), ← Nat.gcd_rec, Nat.gcd_comm]
      simp only [c1, c2, decide_true, decide_false, cond_true, cond_false, e]
      rw [ih (a % b) (Nat.mod_lt _ hb) b (by rw [hgc]; exact hg), hgc]
    · obtain rfl : b = 0 := by omega
      simp only [Nat.gcd_zero_right] at hg ⊢
      have c1 : ¬ (((0 : Nat) : Int) > 0) := by omega
      have c2 : ¬ ((a : Int) = 0) := by omega
      have b1 := div_bd (g := a) hn
      have b2 := div_bd (g := a) hd
      simp only [c1, c2, decide_false, cond_false, tdiv_nn hn.1, tdiv_nn hd.1, w64 (show -9223372036854775808 ≤ num / (a : Int) by omega) (by omega), w64 (show -9223372036854775808 ≤ den / (a : Int) by omega) (by omega)]

theorem l27Reduced_ok (num den : Int) (hn : 0 ≤ num ∧ num ≤ 4611686018427387904) (hd : 1 ≤ den ∧ den ≤ 4611686018427387904) : spec_l27Reduced.f (num, den) = some (red num den) := by
  rw [spec_l27Reduced.eq]
  obtain ⟨a, rfl⟩ : ∃ a : Nat, num = a := ⟨num.toNat, by omega⟩
  obtain ⟨b, rfl⟩ : ∃ b : Nat, den = b := ⟨den.toNat, by omega⟩
  rw [l27_loop a b hn (by omega) _ a b (Nat.gcd_pos_of_pos_left _ (by omega))]
  unfold red
  simp only [Int.toNat_natCast, Nat.gcd_comm b a]

theorem gcd_loop : ∀ (b a : Nat), a ≤ 4611686018427387904 → b ≤ 4611686018427387904 → impl_gcd.l1 a b = some ((Nat.gcd a b : Nat) : Int) := by
  intro b
  induction b using Nat.strongRecOn with
  | _ b ih =>
    intro a ha hb1
    rw [impl_gcd.l1_eq]
    by_cases hb : 0 < b
    · have c1 : ((b : Int) != 0) = true := by simp; omega
      have c2 : ¬ ((b : Int) = 0) := by omega
      have e : (a : Int).tmod (b : Int) = ((a % b : Nat) : Int) := by rw [tmod_nn (by omega) (by omega)]; rfl
      have hm := Nat.mod_lt a hb
      simp only [c1, c2, decide_false, cond_true, cond_false, e]
      rw [ih (a % b) hm b hb1 (by omega), Nat.gcd_comm b (a % b), ← Nat.gcd_rec, Nat.gcd_comm]
    · obtain rfl : b = 0 := by omega
      have c1 : (((0 : Nat) : Int) != 0) = false := rfl
      have w : IntKind.wrap .i64 (0 - (a : Int)) = 0 - (a : Int) := w64 (by omega) (by omega)
      have c2 : ¬ ((a : Int) < 0 - (a : Int)) := by omega
      simp only [c1, cond_false, w, c2, if_false, Nat.gcd_zero_right]

theorem chance_ok (num den : Int) (hn : 0 ≤ num ∧ num ≤ 4611686018427387904) (hd : 1 ≤ den ∧ den ≤ 4611686018427387904) : impl_chance.f (num, den) = some (red num den) := by
  rw [impl_chance.eq, impl_gcd.eq]
  obtain ⟨a, rfl⟩ : ∃ a : Nat, num = a := ⟨num.toNat, by omega⟩
  obtain ⟨b, rfl⟩ : ∃ b : Nat, den = b := ⟨den.toNat, by omega⟩
  have hg : 0 < Nat.gcd a b := Nat.gcd_pos_of_pos_right _ (by omega)
  have c : ¬ (((Nat.gcd a b : Nat) : Int) = 0) := by omega
  have b1 := div_bd (a := (a : Int)) (g := Nat.gcd a b) hn
  have b2 := div_bd (a := (b : Int)) (g := Nat.gcd a b) (by omega)
  rw [gcd_loop b a (by omega) (by omega)]
  simp only [Option.bind_some, c, decide_false, cond_false]
  rw [tdiv_nn (by omega), tdiv_nn (by omega), w64 (by omega) (by omega), w64 (by omega) (by omega)]
  unfold red
  simp only [Int.toNat_natCast]

/-! Equal scores have equal ranks, others have others. -/
theorem countP_strict {α : Type} {p q : α → Bool} : ∀ {l : List α}, (∀ x ∈ l, p x = true → q x = true) → (∃ x ∈ l, q x = true ∧ p x = false) → l.countP p < l.countP q := by
  intro l
  induction l with
  | nil => rintro _ ⟨x, hx, _⟩; simp at hx
  | cons a l ih =>
    intro h hx
    rw [List.countP_cons, List.countP_cons]
    have hle : l.countP p ≤ l.countP q := List.countP_mono_left fun x hx hp => h x (by simp [hx]) hp
    obtain ⟨x, hx, hq, hp⟩ := hx
    rcases List.mem_cons.mp hx with rfl | hx
    · rw [hq, hp]; simp; omega
    · have hlt := ih (fun y hy => h y (by simp [hy])) ⟨x, hx, hq, hp⟩
      have ha := h a (by simp)
      cases hpa : p a <;> cases hqa : q a <;> simp_all <;> omega

theorem rk_lt {l : List Int} {a b : Int} (hb : b ∈ l) (h : a < b) : rk l b < rk l a := by
  unfold rk
  have h1 : ∀ x ∈ l, decide (b < x) = true → decide (a < x) = true := by
    intro x _ hx
    have : b < x := by simpa using hx
    simp
    omega
  have := countP_strict h1 ⟨b, hb, by simpa using h, by simp⟩
  omega
theorem rk_inj {l : List Int} {a b : Int} (ha : a ∈ l) (hb : b ∈ l) : rk l a = rk l b ↔ a = b := by
  constructor
  · intro h
    rcases Int.lt_trichotomy a b with h1 | h1 | h1
    · have := rk_lt hb h1; omega
    · exact h1
    · have := rk_lt ha h1; omega
  · rintro rfl; rfl

def many (l : List Int) (a : Int) : Int := (l.countP fun b => b == a : Nat)
theorem many_bd (l : List Int) (a : Int) : 0 ≤ many l a ∧ many l a ≤ l.length := by
  unfold many
  have := List.countP_le_length (p := fun b => b == a) (l := l)
  omega
theorem many_pos {l : List Int} {a : Int} (h : a ∈ l) : 1 ≤ many l a := by
  unfold many
  have : 0 < l.countP fun b => b == a := List.countP_pos_iff.mpr ⟨a, h, by simp⟩
  omega
theorem many_ranks {l : List Int} {a : Int} (ha : a ∈ l) : many (ranks l) (rk l a) = many l a := by
  unfold many ranks
  rw [List.countP_map]
  congr 1
  apply List.countP_congr
  intro x hx
  have := rk_inj hx ha
  simp only [Function.comp_apply, beq_iff_eq]
  exact this

theorem count_fold' (p : Int → Bool) (l : List Int) : l.foldl (fun s b => s + if p b = true then 1 else 0) 0 = ((l.countP p : Nat) : Int) := by rw [count_fold]; omega

theorem l33Equal_ok (l : List Int) (a : Int) (h : l.length ≤ 1048576) : spec_l33Equal.f (l, a) = some (many l a) := by
  have H := loop_fold (fun (s : Int) i => spec_l33Equal.l1 l a s (i : Int)) l (fun s b => s + if (b == a) = true then 1 else 0) (fun i s => 0 ≤ s ∧ s ≤ i) (fun i s hs hi => by
    refine ⟨?_, by split <;> omega⟩
    rw [spec_l33Equal.l1_eq]
    have w1 : IntKind.wrap .i64 (s + 1) = s + 1 := w64 (by omega) (by omega)
    simp only [Int.toNat_natCast, getD_nat hi, spec_l33Equal.l2_eq, w1, w64s hi (show l.length ≤ 9223372036854775807 by omega)]
    cases hb : (l[i] == a) <;> simp [hi]) 0 (by omega)
  rw [count_fold'] at H
  rw [spec_l33Equal.eq]
  have H := H.1
  simp only [Int.natCast_zero, Int.ofNat_zero] at H
  rw [H, spec_l33Equal.l1_eq]
  simp [many]
theorem equals_ok (l : List Int) (a : Int) (h : l.length ≤ 1048576) : impl_equals.f (l, a) = some (many l a) := by
  have H := loop_fold (fun (s : Int) i => impl_equals.l1 a s l l.length (i : Int)) l (fun s b => s + if (b == a) = true then 1 else 0) (fun i s => 0 ≤ s ∧ s ≤ i) (fun i s hs hi => by
    refine ⟨?_, by split <;> omega⟩
    rw [impl_equals.l1_eq]
    have e1 : ∀ b : Bool, IntKind.wrap .i64 (s + if b = true then 1 else 0) = s + if b = true then 1 else 0 := fun b => w64 (by split <;> omega) (by split <;> omega)
    simp only [Int.toNat_natCast, getD_nat hi, flag_ok, Option.bind_some, e1, w64s hi (show l.length ≤ 9223372036854775807 by omega)]
    simp [hi]) 0 (by omega)
  rw [count_fold'] at H
  rw [impl_equals.eq]
  have H := H.1
  simp only [Int.natCast_zero, Int.ofNat_zero] at H
  rw [H, impl_equals.l1_eq]
  simp [many]

/-! Prizes -/
def okPrize (n : Int) : Bool := decide (0 ≤ n) && decide (n ≤ 1000000000)

theorem prize_idx_ok (l : List Int) (h : l.length ≤ 1048576) : slices_ContainsFunc_int64_2.f (l, ()) = some (l.any fun n => !okPrize n) := by
  have H := loop_find (fun i => slices_IndexFunc_int64_2.l1 l l.length (i : Int)) l (fun n => !okPrize n) (fun i => some (i : Int)) (fun i hi => by
    rw [slices_IndexFunc_int64_2.l1_eq]
    have e : impl_ShareOfPrizes_1.f (l.getD i 0) = some (!okPrize l[i]) := by rw [impl_ShareOfPrizes_1.eq, within_ok, getD_nat hi]; rfl
    simp only [Int.toNat_natCast, e, w64s hi (show l.length ≤ 9223372036854775807 by omega)]
    simp [hi, cond_ite])
  rw [slices_ContainsFunc_int64_2.eq, slices_IndexFunc_int64_2.eq]
  simp only [Int.natCast_zero, Int.ofNat_zero] at H
  rw [H, slices_IndexFunc_int64_2.l1_eq]
  simp only [Int.lt_irrefl, decide_false, cond_false]
  cases hc : l.any fun n => !okPrize n <;> simp

/-- The prizes of n places from the k-th on. -/
def prizeSum (p : List Int) (k n : Nat) : Int := ((p.drop k).take n).sum
theorem prizeSum_zero (p : List Int) (k : Nat) : prizeSum p k 0 = 0 := by simp [prizeSum]
theorem prizeSum_out (p : List Int) (k n : Nat) (h : p.length ≤ k) : prizeSum p k n = 0 := by unfold prizeSum; rw [List.drop_eq_nil_of_le h]; simp
theorem prizeSum_succ (p : List Int) (k n : Nat) (h : k < p.length) : prizeSum p k (n + 1) = p.getD k 0 + prizeSum p (k + 1) n := by
  unfold prizeSum
  rw [List.drop_eq_getElem_cons h, List.take_succ_cons, List.sum_cons, getD_nat h]

/-- The share of an entry. -/
def share (l p : List Int) (a : Int) : Int × Int := red (prizeSum p (rk l a - 1).toNat (many l a).toNat) (many l a)
def shares (l p : List Int) : List (Int × Int) × Int :=
  if okScores l = true then if (decide (p.length ≤ 64) && p.all okPrize) = true then (l.map (share l p), 0) else ([], 2) else ([], 1)

theorem sum_bd (p : List Int) (hp : ∀ x ∈ p, 0 ≤ x ∧ x ≤ 1000000000) : ∀ n k, 0 ≤ prizeSum p k n ∧ prizeSum p k n ≤ 1000000000 * n := by
  intro n
  induction n with
  | zero => intro k; rw [prizeSum_zero]; omega
  | succ n ih =>
    intro k
    by_cases h : k < p.length
    · rw [prizeSum_succ p k n h]
      have := ih (k + 1)
      have := hp _ (getD_mem h 0)
      omega
    · rw [prizeSum_out p k (n + 1) (by omega)]; omega

theorem rk_bd (l : List Int) (a : Int) : 1 ≤ rk l a ∧ rk l a ≤ 1 + l.length := by
  unfold rk
  have := List.countP_le_length (p := fun b => decide (a < b)) (l := l)
  omega

theorem spec_shares_ok (l p : List Int) (h : l.length ≤ 1048576) (h2 : p.length ≤ 1048576) : spec_ShareOfPrizes.f (l, p) = some (shares l p) := by
  rw [spec_ShareOfPrizes.eq, l33Scores_ok l h]
  unfold shares
  by_cases hs : okScores l = true
  · rw [if_pos hs, hs]
    simp only [Option.bind_some, Bool.not_true, cond_false]
    have h64 := okScores_len hs
    have H := loop_any (fun i => spec_ShareOfPrizes.l1 l p (i : Int)) p (fun n => !okPrize n) (some ([], 2)) (fun i hi => by
      rw [spec_ShareOfPrizes.l1_eq]
      have e : spec_l01In.f (p.getD i 0, 0, 1000000000) = some (okPrize p[i]) := by rw [l01In_ok, getD_nat hi]; rfl
      simp only [Int.toNat_natCast, e, w64s hi (show p.length ≤ 9223372036854775807 by omega)]
      simp [hi, cond_ite])
    simp only [Int.natCast_zero, Int.ofNat_zero] at H
    rw [H, any_not]
    by_cases hp : p.all okPrize = true
    · rw [hp, spec_ShareOfPrizes.l1_eq]
      have hpb : ∀ x ∈ p, 0 ≤ x ∧ x ≤ 1000000000 := fun x hx => by have := List.all_eq_true.mp hp x hx; unfold okPrize at this; simpa using this
      by_cases hp64 : p.length ≤ 64
      · have c1 : ¬ ((p.length : Int) > 64) := by omega
        simp only [Int.lt_irrefl, c1, decide_false, cond_false, Bool.not_true, Bool.false_eq_true, if_false, l33Ranks_ok l h, Option.bind_some, hp64, decide_true, Bool.and_self, if_true]
        have hrl : (ranks l).length = l.length := ranks_len l
        have L := loop_fold (fun (s : List (Int × Int)) i => spec_ShareOfPrizes.l2 l p (i : Int) (ranks l) s) l (fun s a => s ++ [share l p a]) (fun i s => s.length = i) (fun i s hl hi => by
          refine ⟨?_, by simp [hl]⟩
          rw [spec_ShareOfPrizes.l2_eq]
          have c1 : ((i : Int) < (l.length : Int)) := by omega
          have c2 : ((i : Int) < ((ranks l).length : Int)) := by omega
          have hr : (ranks l).getD i 0 = rk l l[i] := by simp [ranks, List.getD_eq_getElem?_getD, hi]
          have hrb := rk_bd l l[i]
          have hmb := many_bd l l[i]
          have hmp := many_pos (List.getElem_mem hi)
          have w1 : IntKind.wrap .i64 (rk l l[i] - 1) = rk l l[i] - 1 := w64 (by omega) (by omega)
          have w2 : IntKind.wrap .i64 (rk l l[i] - 1 + many l l[i]) = rk l l[i] - 1 + many l l[i] := w64 (by omega) (by omega)
          have ho : s.length + 1 ≤ 8796093022208 := by omega
          simp only [c1, c2, Int.natCast_nonneg, decide_true, cond_true, Int.toNat_natCast, getD_nat hi, l33Equal_ok l _ h, Option.bind_some, hr, w1]
          obtain ⟨m, hm⟩ : ∃ m : Nat, many l l[i] = m := ⟨(many l l[i]).toNat, by omega⟩
          -- the sum of the prizes
          have S : ∀ (d : Nat) (k : Nat) (sum : Int), (k : Int) + d = rk l l[i] - 1 + many l l[i] → 0 ≤ sum → sum + 1000000000 * d ≤ 1000000000 * 1048576 → sum + prizeSum p k d ≤ 4611686018427387904 →
              spec_ShareOfPrizes.l3 l p (i : Int) (many l l[i]) sum (k : Int) (ranks l) s = spec_ShareOfPrizes.l2 l p ((i + 1 : Nat) : Int) (ranks l) (s ++ [red (sum + prizeSum p k d) (many l l[i])]) := by
            intro d
            induction d with
            | zero =>
              intro k sum hk h0 h1 h2
              rw [prizeSum_zero, Int.add_zero] at h2 ⊢
              rw [spec_ShareOfPrizes.l3_eq]
              have c3 : ¬ ((k : Int) < rk l l[i] - 1 + many l l[i]) := by omega
              simp only [c2, c3, Int.natCast_nonneg, decide_true, decide_false, cond_true, cond_false, Int.toNat_natCast, hr, w1, w2, l27Reduced_ok sum _ ⟨h0, h2⟩ ⟨hmp, by omega⟩, Option.bind_some, ho, w64s hi (show l.length ≤ 9223372036854775807 by omega)]
            | succ d ih =>
              intro k sum hk h0 h1 h2
              rw [spec_ShareOfPrizes.l3_eq]
              have c3 : ((k : Int) < rk l l[i] - 1 + many l l[i]) := by omega
              by_cases hkp : k < p.length
              · have c4 : ((k : Int) < (p.length : Int)) := by omega
                have hpk := hpb _ (getD_mem hkp 0)
                rw [prizeSum_succ p k d hkp] at h2 ⊢
                have w3 : IntKind.wrap .i64 (sum + p.getD k 0) = sum + p.getD k 0 := w64 (by omega) (by omega)
                have w4 : IntKind.wrap .i64 ((k : Int) + 1) = ((k + 1 : Nat) : Int) := by rw [w64 (by omega) (by omega)]; rfl
                simp only [c2, c3, c4, Int.natCast_nonneg, decide_true, cond_true, Int.toNat_natCast, hr, w1, w2, w3, w4]
                rw [ih (k + 1) (sum + p.getD k 0) (by omega) (by omega) (by omega) (by omega), Int.add_assoc]
              · have c4 : ¬ ((k : Int) < (p.length : Int)) := by omega
                rw [prizeSum_out p k (d + 1) (by omega), Int.add_zero] at h2 ⊢
                simp only [c2, c3, c4, Int.natCast_nonneg, decide_true, decide_false, cond_true, cond_false, Int.toNat_natCast, hr, w1, w2, l27Reduced_ok sum _ ⟨h0, h2⟩ ⟨hmp, by omega⟩, Option.bind_some, ho, w64s hi (show l.length ≤ 9223372036854775807 by omega)]
          obtain ⟨k, hk⟩ : ∃ k : Nat, rk l l[i] - 1 = k := ⟨(rk l l[i] - 1).toNat, by omega⟩
          have hsb := sum_bd p hpb m k
          rw [hk]
          have := S m k 0 (by omega) (by omega) (by omega) (by omega)
          rw [this, Int.zero_add]
          unfold share
          rw [hk, hm]; rfl) [] rfl
        rw [foldl_snoc] at L
        have L := L.1
        simp only [Int.natCast_zero, Int.ofNat_zero, List.nil_append] at L
        rw [L, spec_ShareOfPrizes.l2_eq]
        simp
      · have c1 : ((p.length : Int) > 64) := by omega
        simp only [Int.lt_irrefl, c1, hp64, decide_false, decide_true, cond_false, cond_true, Bool.not_true, Bool.false_eq_true, if_false, Bool.false_and]
    · simp only [Bool.not_eq_true] at hp
      simp [hp]
  · rw [if_neg hs]
    simp [hs]

theorem impl_shares_ok (l p : List Int) (h : l.length ≤ 1048576) (h2 : p.length ≤ 1048576) : impl_ShareOfPrizes.f (l, p) = some (shares l p) := by
  rw [impl_ShareOfPrizes.eq, isScoreList_ok l h, prize_idx_ok p h2, any_not]
  unfold shares
  by_cases hs : okScores l = true
  · rw [if_pos hs, hs]
    simp only [Option.bind_some, Bool.not_true, cond_false]
    have h64 := okScores_len hs
    by_cases hp64 : p.length ≤ 64
    · have c1 : ¬ ((p.length : Int) > 64) := by omega
      by_cases hp : p.all okPrize = true
      · have hpb : ∀ x ∈ p, 0 ≤ x ∧ x ≤ 1000000000 := fun x hx => by have := List.all_eq_true.mp hp x hx; unfold okPrize at this; simpa using this
        simp only [c1, hp, decide_false, cond_false, Bool.not_true, rankScores_ok l h, Option.bind_some, hp64, decide_true, Bool.and_self, if_true]
        have hrl : (ranks l).length = l.length := ranks_len l
        have L := loop_fold (fun (s : List (Int × Int)) i => impl_ShareOfPrizes.l1 p ((ranks l).length : Int) (i : Int) s (ranks l)) l (fun s a => s ++ [share l p a]) (fun i s => s.length = i) (fun i s hl hi => by
          refine ⟨?_, by simp [hl]⟩
          rw [impl_ShareOfPrizes.l1_eq]
          have c2 : ((i : Int) < ((ranks l).length : Int)) := by omega
          have hr : (ranks l).getD i 0 = rk l l[i] := by simp [ranks, List.getD_eq_getElem?_getD, hi]
          have hrb := rk_bd l l[i]
          have hmb := many_bd l l[i]
          have hmp := many_pos (List.getElem_mem hi)
          have w1 : IntKind.wrap .i64 (rk l l[i] - 1) = rk l l[i] - 1 := w64 (by omega) (by omega)
          have w2 : IntKind.wrap .i64 (rk l l[i] - 1 + many l l[i]) = rk l l[i] - 1 + many l l[i] := w64 (by omega) (by omega)
          have ho : s.length + 1 ≤ 8796093022208 := by omega
          simp only [c2, Int.natCast_nonneg, decide_true, cond_true, Int.toNat_natCast, hr, equals_ok (ranks l) _ (by omega), many_ranks (List.getElem_mem hi), Option.bind_some, w1]
          obtain ⟨m, hm⟩ : ∃ m : Nat, many l l[i] = m := ⟨(many l l[i]).toNat, by omega⟩
          have S : ∀ (d : Nat) (k : Nat) (sum : Int), (k : Int) + d = rk l l[i] - 1 + many l l[i] → 0 ≤ sum → sum + 1000000000 * d ≤ 1000000000 * 1048576 → sum + prizeSum p k d ≤ 4611686018427387904 →
              impl_ShareOfPrizes.l2 p (rk l l[i]) (many l l[i]) sum (k : Int) ((ranks l).length : Int) (i : Int) s (ranks l) = impl_ShareOfPrizes.l1 p ((ranks l).length : Int) ((i + 1 : Nat) : Int) (s ++ [red (sum + prizeSum p k d) (many l l[i])]) (ranks l) := by
            intro d
            induction d with
            | zero =>
              intro k sum hk h0 h1 h2
              rw [prizeSum_zero, Int.add_zero] at h2 ⊢
              rw [impl_ShareOfPrizes.l2_eq]
              have c3 : ¬ ((k : Int) < rk l l[i] - 1 + many l l[i]) := by omega
              simp only [c3, decide_false, cond_false, decide_true, cond_true, w1, w2, chance_ok sum _ ⟨h0, h2⟩ ⟨hmp, by omega⟩, Option.bind_some, ho, w64s hi (show l.length ≤ 9223372036854775807 by omega)]
            | succ d ih =>
              intro k sum hk h0 h1 h2
              rw [impl_ShareOfPrizes.l2_eq]
              have c3 : ((k : Int) < rk l l[i] - 1 + many l l[i]) := by omega
              by_cases hkp : k < p.length
              · have c4 : ((k : Int) < (p.length : Int)) := by omega
                have hpk := hpb _ (getD_mem hkp 0)
                rw [prizeSum_succ p k d hkp] at h2 ⊢
                have w3 : IntKind.wrap .i64 (sum + p.getD k 0) = sum + p.getD k 0 := w64 (by omega) (by omega)
                have w4 : IntKind.wrap .i64 ((k : Int) + 1) = ((k + 1 : Nat) : Int) := by rw [w64 (by omega) (by omega)]; rfl
                simp only [c3, c4, Int.natCast_nonneg, decide_true, cond_true, Int.toNat_natCast, w1, w2, w3, w4]
                rw [ih (k + 1) (sum + p.getD k 0) (by omega) (by omega) (by omega) (by omega), Int.add_assoc]
              · have c4 : ¬ ((k : Int) < (p.length : Int)) := by omega
                rw [prizeSum_out p k (d + 1) (by omega), Int.add_zero] at h2 ⊢
                simp only [c3, c4, decide_true, decide_false, cond_true, cond_false, w1, w2, chance_ok sum _ ⟨h0, h2⟩ ⟨hmp, by omega⟩, Option.bind_some, ho, w64s hi (show l.length ≤ 9223372036854775807 by omega)]
          obtain ⟨k, hk⟩ : ∃ k : Nat, rk l l[i] - 1 = k := ⟨(rk l l[i] - 1).toNat, by omega⟩
          have hsb := sum_bd p hpb m k
          rw [hk]
          have := S m k 0 (by omega) (by omega) (by omega) (by omega)
          rw [this, Int.zero_add]
          unfold share
          rw [hk, hm]; rfl) [] rfl
        rw [foldl_snoc] at L
        have L := L.1
        simp only [Int.natCast_zero, Int.ofNat_zero, List.nil_append] at L
        rw [L, impl_ShareOfPrizes.l1_eq]
        simp [hrl]
      · simp only [Bool.not_eq_true] at hp
        simp [hp, c1]
    · have c1 : ((p.length : Int) > 64) := by omega
      simp [c1, hp64]
  · rw [if_neg hs]
    simp [hs]

theorem shares_len (l p : List Int) : (shares l p).1.length ≤ l.length := by
  unfold shares
  split
  · split <;> simp
  · simp

/-! What the laws' helpers do with lists of chances. -/
theorem getD_pair {xs : List (Int × Int)} {i : Nat} (h : i < xs.length) (d : Int × Int) : xs.getD i d = xs[i] := by simp [List.getD_eq_getElem?_getD, h]
theorem eqChance_ok (a b : Int × Int) : laws_eqChance.f (a, b) = some (decide (a = b)) := by
  rw [laws_eqChance.eq]
  obtain ⟨a1, a2⟩ := a
  obtain ⟨b1, b2⟩ := b
  by_cases h1 : a1 = b1
  · subst h1
    by_cases h2 : a2 = b2
    · subst h2; simp
    · have : (a2 != b2) = true := by simpa using h2
      simp [this, h2]
  · have : (a1 != b1) = true := by simpa using h1
    simp [this, h1]
theorem eqChanceS_refl (a : List (Int × Int)) (h : a.length ≤ 1048576) : laws_eqChanceS.f (a, a) = some true := by
  have H := loop_any (fun i => laws_eqChanceS.l1 a a (i : Int)) a (fun _ => false) (some false) (fun i hi => by
    rw [laws_eqChanceS.l1_eq]
    simp [hi, eqChance_ok, w64s hi (show a.length ≤ 9223372036854775807 by omega)])
  rw [laws_eqChanceS.eq]
  simp only [Int.natCast_zero, Int.ofNat_zero] at H
  have e : a.any (fun _ => false) = false := by simp
  rw [e] at H
  simp only [Bool.false_eq_true, if_false] at H
  rw [bne_self_eq_false, cond_false, H, laws_eqChanceS.l1_eq]
  simp

def upPairs (k : Int) (n : Nat) : List (Int × Int) := (List.range n).map fun (i : Nat) => (k + 2 * (i : Int), k + 2 * (i : Int) + 1)

theorem markChanceS_ok (a : List (Int × Int)) (k : Int) (h : a.length ≤ 1048576) (hk : 0 ≤ k ∧ k ≤ 4611686018427387904) : laws_markChanceS_1.f (a, k) = some (k + 2 * a.length, upPairs k a.length, ()) := by
  have H := loop_set (fun (s : List (Int × Int)) i => laws_markChanceS_1.l1 (k + 2 * (i : Int)) (i : Int) s) a.length (fun i => (k + 2 * (i : Int), k + 2 * (i : Int) + 1)) (fun s i hs hi => by
    rw [laws_markChanceS_1.l1_eq]
    have e1 : IntKind.wrap .i64 (k + 2 * (i : Int) + 1) = k + 2 * (i : Int) + 1 := w64 (by omega) (by omega)
    have e2 : IntKind.wrap .i64 (k + 2 * (i : Int) + 1 + 1) = k + 2 * ((i + 1 : Nat) : Int) := by rw [w64 (by omega) (by omega)]; omega
    simp only [hs, w64s hi (show a.length ≤ 9223372036854775807 by omega), e1, e2, List.length_set]
    have c : ((i : Int) < (a.length : Int)) := by omega
    have hg : ((s.set i (k + 2 * (i : Int), (s.getD i (0, 0)).2)).getD i (0, 0)).1 = k + 2 * (i : Int) := by simp [List.getD_eq_getElem?_getD, hs, hi]
    simp only [c, Int.natCast_nonneg, decide_true, cond_true, Int.toNat_natCast, hg, List.set_set]) a rfl
  rw [laws_markChanceS_1.eq]
  simp only [Int.natCast_zero, Int.ofNat_zero, Int.mul_zero, Int.add_zero] at H
  rw [H, laws_markChanceS_1.l1_eq]
  simp [upPairs]

theorem heldChanceS_ok (a : List (Int × Int)) (k : Int) (h : a.length ≤ 1048576) (hk : 0 ≤ k ∧ k ≤ 4611686018427387904) : laws_heldChanceS.f (upPairs k a.length, k) = some (k + 2 * a.length) := by
  have H := loop_any (fun i => laws_heldChanceS.l1 (upPairs k a.length) (k + 2 * (i : Int)) (i : Int)) (List.range a.length) (fun i => false) (some 0) (fun i hi => by
    simp only [List.length_range] at hi
    rw [laws_heldChanceS.l1_eq]
    have e1 : IntKind.wrap .i64 (k + 2 * (i : Int) + 1) = k + 2 * (i : Int) + 1 := w64 (by omega) (by omega)
    have e2 : IntKind.wrap .i64 (k + 2 * (i : Int) + 1 + 1) = k + 2 * ((i + 1 : Nat) : Int) := by rw [w64 (by omega) (by omega)]; omega
    have hl : (upPairs k a.length).length = a.length := by simp [upPairs]
    have hg : (upPairs k a.length).getD i (0, 0) = (k + 2 * (i : Int), k + 2 * (i : Int) + 1) := by simp [upPairs, List.getD_eq_getElem?_getD, hi]
    have c : ((i : Int) < (a.length : Int)) := by omega
    simp only [hl, c, Int.natCast_nonneg, decide_true, cond_true, Int.toNat_natCast, hg, bne_self_eq_false, cond_false, w64s hi (show a.length ≤ 9223372036854775807 by omega), e1, e2]
    simp)
  simp only [List.length_range, List.any_eq_true] at H
  rw [laws_heldChanceS.eq]
  simp only [Int.natCast_zero, Int.ofNat_zero, Int.mul_zero, Int.add_zero] at H
  rw [H, laws_heldChanceS.l1_eq]
  simp [upPairs]
end Go.Proofs.Ytkeockkepmljjaa
end

section
namespace Go.Proofs.Ytkeockkepmljjaa
open Go Go.Proofs Pl

theorem DrawShareOfPrizes_ok {code : List Int} (hb : ∀ b ∈ code, 0 ≤ b ∧ b ≤ 255) (hl : code.length ≤ 1048576) : ∃ l p, spec_DrawShareOfPrizes.f code = some (l, p) ∧ l.length ≤ 1000 ∧ p.length ≤ 1000 := by
  rw [spec_DrawShareOfPrizes.eq]
  obtain ⟨s, e, hs⟩ := from_ok hb hl
  obtain ⟨k, s1, e1, hs1, hk1, hk2⟩ := next_ok (n := 6) hs (by omega)
  simp only [e, e1, Option.bind_some]
  have L2 : ∀ (s : List Int × Int × Int) (p : List Int), Src s → p.length ≤ 1000 → ∃ l p', spec_DrawShareOfPrizes.l2 s p = some (l, p') ∧ l.length ≤ 1000 ∧ p'.length ≤ 1000 := by
    intro s p hs hp
    rw [spec_DrawShareOfPrizes.l2_eq]
    obtain ⟨l, s2, e2, hs2, hl1, hl2⟩ := l33Draw_ok hs
    simp only [e2, Option.bind_some]
    exact ⟨_, _, rfl, hl1, hp⟩
  have L4 : ∀ (s : List Int × Int × Int) (p : List Int), Src s → p.length ≤ 1000 → ∃ l p', spec_DrawShareOfPrizes.l4 s p = some (l, p') ∧ l.length ≤ 1000 ∧ p'.length ≤ 1000 := by
    intro s p hs hp
    rw [spec_DrawShareOfPrizes.l4_eq]
    exact L2 s p hs hp
  have L3 : ∀ (d : Nat) (n : Int) (s : List Int × Int × Int) (p : List Int), n ≤ (p.length : Int) + d → Src s → p.length + d ≤ 1000 → ∃ l p', spec_DrawShareOfPrizes.l3 n s p = some (l, p') ∧ l.length ≤ 1000 ∧ p'.length ≤ 1000 := by
    intro d
    induction d with
    | zero =>
      intro n s p h1 h2 h3
      rw [spec_DrawShareOfPrizes.l3_eq]
      have : ¬ ((p.length : Int) < n) := by omega
      simp only [this, decide_false, cond_false]
      exact L4 s p h2 (by omega)
    | succ d ih =>
      intro n s p h1 h2 h3
      rw [spec_DrawShareOfPrizes.l3_eq]
      by_cases h : (p.length : Int) < n
      · have ho : p.length + 1 ≤ 17592186044416 := by omega
        simp only [h, decide_true, cond_true, ho]
        exact ih n s _ (by simp; omega) h2 (by simp; omega)
      · simp only [h, decide_false, cond_false]
        exact L4 s p h2 (by omega)
  have L1 : ∀ (d : Nat) (k : Int) (s : List Int × Int × Int) (p : List Int), k ≤ d → Src s → p.length + d ≤ 100 → ∃ l p', spec_DrawShareOfPrizes.l1 k s p = some (l, p') ∧ l.length ≤ 1000 ∧ p'.length ≤ 1000 := by
    intro d
    have stop : ∀ (k : Int) (s : List Int × Int × Int) (p : List Int), ¬ k > 0 → Src s → p.length ≤ 100 → ∃ l p', spec_DrawShareOfPrizes.l1 k s p = some (l, p') ∧ l.length ≤ 1000 ∧ p'.length ≤ 1000 := by
      intro k s p hk hs hp
      rw [spec_DrawShareOfPrizes.l1_eq]
      obtain ⟨x, s2, e2, hs2, hx1, hx2⟩ := next_ok (n := 16) hs (by omega)
      have ho : p.length + 1 ≤ 17592186044416 := by omega
      simp only [hk, decide_false, cond_false, e2, Option.bind_some]
      cases h0 : (x == 0) with
      | true =>
        obtain ⟨y, s3, e3, hs3, hy1, hy2⟩ := next_ok (n := 3) hs2 (by omega)
        have : y < 3 := by omega
        simp only [cond_true, e3, Option.bind_some, hy1, this, decide_true, ho]
        exact L2 _ _ hs3 (by simp; omega)
      | false =>
        simp only [cond_false]
        cases h1 : (x == 1) with
        | true =>
          obtain ⟨y, s3, e3, hs3, hy1, hy2⟩ := next_ok (n := 2) hs2 (by omega)
          have w : IntKind.wrap .i64 (64 + y) = 64 + y := w64 (by omega) (by omega)
          simp only [cond_true, e3, Option.bind_some, w]
          exact L3 100 _ _ _ (by omega) hs3 (by omega)
        | false =>
          simp only [cond_false]
          exact L4 _ _ hs2 (by omega)
    induction d with
    | zero => intro k s p h1 h2 h3; exact stop k s p (by omega) h2 (by omega)
    | succ d ih =>
      intro k s p h1 h2 h3
      by_cases hk : k > 0
      · rw [spec_DrawShareOfPrizes.l1_eq]
        obtain ⟨x, s2, e2, hs2, hx1, hx2⟩ := next_ok (n := 30) h2 (by omega)
        have ho : p.length + 1 ≤ 17592186044416 := by omega
        have w : IntKind.wrap .i64 (k - 1) = k - 1 := w64 (by omega) (by omega)
        simp only [hk, decide_true, cond_true, e2, Option.bind_some, ho, w]
        exact ih _ _ _ (by omega) hs2 (by simp; omega)
      · exact stop k s p hk h2 (by omega)
  exact L1 10 k s1 [] (by omega) hs1 (by simp)

theorem prizeSum_snoc (p : List Int) : ∀ (n k : Nat), prizeSum p k (n + 1) = prizeSum p k n + p.getD (k + n) 0 := by
  intro n
  induction n with
  | zero =>
    intro k
    by_cases h : k < p.length
    · rw [prizeSum_succ p k 0 h]; simp [prizeSum_zero]
    · rw [prizeSum_out p k 1 (by omega), prizeSum_zero]; simp [List.getD_eq_getElem?_getD, show p.length ≤ k by omega]
  | succ n ih =>
    intro k
    by_cases h : k < p.length
    · rw [prizeSum_succ p k (n + 1) h, prizeSum_succ p k n h, ih (k + 1), show k + 1 + n = k + (n + 1) by omega]; omega
    · rw [prizeSum_out p k _ (by omega), prizeSum_out p k _ (by omega)]; simp [List.getD_eq_getElem?_getD, show p.length ≤ k + (n + 1) by omega]

theorem red_law {S m : Int} (hS : 0 ≤ S) (hm : 1 ≤ m) : m * (red S m).1 = S * (red S m).2 ∧ ¬ ((red S m).2 < 1) := by
  unfold red
  simp only
  obtain ⟨a, rfl⟩ : ∃ a : Nat, S = a := ⟨S.toNat, by omega⟩
  obtain ⟨b, rfl⟩ : ∃ b : Nat, m = b := ⟨m.toNat, by omega⟩
  simp only [Int.toNat_natCast]
  have hb : 0 < b := by omega
  have d1 : ((Nat.gcd a b : Nat) : Int) ∣ a := Int.natCast_dvd_natCast.mpr (Nat.gcd_dvd_left a b)
  have d2 : ((Nat.gcd a b : Nat) : Int) ∣ b := Int.natCast_dvd_natCast.mpr (Nat.gcd_dvd_right a b)
  have hg : 0 < Nat.gcd a b := Nat.gcd_pos_of_pos_right _ hb
  refine ⟨by rw [← Int.mul_ediv_assoc _ d1, ← Int.mul_ediv_assoc _ d2, Int.mul_comm], ?_⟩
  have : 1 ≤ (b : Int) / ((Nat.gcd a b : Nat) : Int) := Int.le_ediv_of_mul_le (by omega) (by have := Nat.gcd_le_right a hb; omega)
  omega

theorem FnShares_loop (l p : List Int) (h : l.length ≤ 1000) (hp : p.length ≤ 64) (hpb : ∀ x ∈ p, 0 ≤ x ∧ x ≤ 1000000000) :
    ∀ (e r : Nat), 1 ≤ r → r + e = l.length + 1 → laws_FnShares.l1 r l p (l.map (share l p)) (ranks l) = some true := by
  intro e
  induction e with
  | zero =>
    intro r h1 h2
    rw [laws_FnShares.l1_eq]
    have : ¬ ((r : Int) ≤ (l.length : Int)) := by omega
    simp [this]
  | succ e ih =>
    intro r h1 h2
    rw [laws_FnShares.l1_eq]
    have hr : (r : Int) ≤ (l.length : Int) := by omega
    obtain ⟨P, hP⟩ : ∃ P, ∀ b ∈ l, rk l b = r → share l p b = P := by
      by_cases hx : ∃ a ∈ l, rk l a = r
      · obtain ⟨a, ha, hra⟩ := hx
        exact ⟨share l p a, fun b hb hrb => by rw [(rk_inj hb ha).mp (by omega)]⟩
      · exact ⟨(0, 1), fun b hb hrb => absurd ⟨b, hb, hrb⟩ hx⟩
    have wr : IntKind.wrap .i64 ((r : Int) - 1) = ((r - 1 : Nat) : Int) := by rw [w64 (by omega) (by omega)]; omega
    have wr2 : IntKind.wrap .i64 ((r : Int) + 1) = ((r + 1 : Nat) : Int) := by rw [w64 (by omega) (by omega)]; omega
    have hrl : (ranks l).length = l.length := ranks_len l
    have M : ∀ (d i : Nat) (n : Nat), i + d = l.length → n = (l.take i).countP (fun b => rk l b == r) →
        laws_FnShares.l2 r (prizeSum p (r - 1) n) n i l p (l.map (share l p)) (ranks l) (if n = 0 then (0, 1) else P) = some true := by
      intro d
      induction d with
      | zero =>
        intro i n hi hn
        rw [laws_FnShares.l2_eq]
        have c : ¬ ((i : Int) < (l.length : Int)) := by omega
        rw [List.take_of_length_le (by omega)] at hn
        have fin : ¬ ((if n = 0 then ((0, 1) : Int × Int) else P).2 < 1) ∧ (n : Int) * (if n = 0 then ((0, 1) : Int × Int) else P).1 = prizeSum p (r - 1) n * (if n = 0 then ((0, 1) : Int × Int) else P).2 := by
          by_cases h0 : n = 0
          · subst h0; simp [prizeSum_zero]
          · rw [if_neg h0]
            obtain ⟨a, ha, hra⟩ := List.countP_pos_iff.mp (by omega : 0 < l.countP (fun b => rk l b == r))
            have hra : rk l a = r := by simpa using hra
            have hm : many l a = n := by
              unfold many
              rw [hn]
              congr 1
              apply List.countP_congr
              intro b hb
              have := rk_inj hb ha
              simp only [beq_iff_eq]
              rw [← hra]
              exact this.symm
            rw [← hP a ha hra]
            unfold share
            rw [hm, hra, Int.toNat_natCast, show ((r : Int) - 1).toNat = r - 1 by omega]
            have := red_law (S := prizeSum p (r - 1) n) (m := n) (sum_bd p hpb n (r - 1)).1 (by omega)
            exact ⟨this.2, this.1⟩
        simp only [c, decide_false, cond_false, fin.1, fin.2, bne_self_eq_false, wr2]
        exact ih (r + 1) (by omega) (by omega)
      | succ d ihd =>
        intro i n hi hn
        rw [laws_FnShares.l2_eq]
        have hlt : i < l.length := by omega
        have hni : n ≤ i := by rw [hn]; exact Nat.le_trans List.countP_le_length (by simp; omega)
        have c : ((i : Int) < (l.length : Int)) := by omega
        have c2 : ((i : Int) < ((ranks l).length : Int)) := by omega
        have c3 : ((i : Int) < ((l.map (share l p)).length : Int)) := by simp; omega
        have hri : (ranks l).getD i 0 = rk l l[i] := by simp [ranks, List.getD_eq_getElem?_getD, hlt]
        have hsi : (l.map (share l p)).getD i (0, 0) = share l p l[i] := by simp [List.getD_eq_getElem?_getD, hlt]
        have wi : IntKind.wrap .i64 ((i : Int) + 1) = ((i + 1 : Nat) : Int) := by rw [w64 (by omega) (by omega)]; omega
        have hc : (l.take (i + 1)).countP (fun b => rk l b == r) = n + if rk l l[i] == r then 1 else 0 := by
          rw [List.take_succ_eq_append_getElem hlt, List.countP_append, ← hn]; simp [List.countP_cons]
        simp only [c, c2, c3, Int.natCast_nonneg, decide_true, cond_true, Int.toNat_natCast, hri, hsi, laws_FnShares.l3_eq, laws_FnShares.l4_eq, wi]
        by_cases hx : rk l l[i] = r
        · have hb : (rk l l[i] != (r : Int)) = false := by simp [hx]
          have hPi : share l p l[i] = P := hP _ (List.getElem_mem hlt) hx
          have w1 : IntKind.wrap .i64 (((r - 1 : Nat) : Int) + (n : Int)) = ((r - 1 + n : Nat) : Int) := by rw [w64 (by omega) (by omega)]; omega
          have w2 : IntKind.wrap .i64 ((n : Int) + 1) = ((n + 1 : Nat) : Int) := by rw [w64 (by omega) (by omega)]; omega
          have sb := sum_bd p hpb n (r - 1)
          have G := ihd (i + 1) (n + 1) (by omega) (by rw [hc, hx]; simp)
          rw [if_neg (by omega : ¬ n + 1 = 0), prizeSum_snoc] at G
          have K : (bif decide (((r - 1 + n : Nat) : Int) < (p.length : Int)) then
                bif decide (0 ≤ ((r - 1 + n : Nat) : Int)) then
                  bif decide (((r - 1 + n : Nat) : Int) < (p.length : Int)) then
                    laws_FnShares.l2 r (IntKind.wrap .i64 (prizeSum p (r - 1) n + p.getD (r - 1 + n) 0)) ((n + 1 : Nat) : Int) ((i + 1 : Nat) : Int) l p (l.map (share l p)) (ranks l) P
                  else none
                else none
              else laws_FnShares.l2 r (prizeSum p (r - 1) n) ((n + 1 : Nat) : Int) ((i + 1 : Nat) : Int) l p (l.map (share l p)) (ranks l) P) = some true := by
            by_cases hq : r - 1 + n < p.length
            · have c4 : (((r - 1 + n : Nat) : Int) < (p.length : Int)) := by omega
              have hpk := hpb _ (getD_mem hq 0)
              have w3 : IntKind.wrap .i64 (prizeSum p (r - 1) n + p.getD (r - 1 + n) 0) = prizeSum p (r - 1) n + p.getD (r - 1 + n) 0 := w64 (by omega) (by omega)
              simp only [c4, Int.natCast_nonneg, decide_true, cond_true, w3]
              exact G
            · have c4 : ¬ (((r - 1 + n : Nat) : Int) < (p.length : Int)) := by omega
              simp only [c4, decide_false, cond_false]
              have : p.getD (r - 1 + n) 0 = 0 := by simp [List.getD_eq_getElem?_getD, show p.length ≤ r - 1 + n by omega]
              rw [this, Int.add_zero] at G
              exact G
          simp only [hb, cond_false, wr, w1, w2, hPi, Int.toNat_natCast]
          by_cases h0 : n = 0
          · have c5 : ¬ ((n : Int) > 0) := by omega
            simp only [c5, decide_false, cond_false]
            exact K
          · have c5 : ((n : Int) > 0) := by omega
            simp only [c5, decide_true, cond_true, if_neg h0, beq_self_eq_true, Bool.not_true, cond_false]
            exact K
        · have hb : (rk l l[i] != (r : Int)) = true := by simp [hx]
          simp only [hb, cond_true]
          exact ihd (i + 1) n (by omega) (by rw [hc]; simp [hx])
    have := M l.length 0 0 (by omega) (by simp)
    rw [prizeSum_zero] at this
    simp only [hr, decide_true, cond_true]
    exact this

theorem FnShares_true (code : List Int) (hw : ∀ n ∈ code, (Lit.int .u8 n).wf = true) (hl : code.length ≤ maxLen) : laws_FnShares.f code = some true := by
  rw [laws_FnShares.eq, big_ok]
  by_cases hb : (code.length : Int) > 4096
  · simp [hb]
  · obtain ⟨l, p, e, h1, h2⟩ := DrawShareOfPrizes_ok (bytes hw) (show code.length ≤ 1048576 by omega)
    simp only [Option.bind_some, hb, decide_false, cond_false, e, impl_shares_ok l p (by omega) (by omega), spec_shares_ok l p (by omega) (by omega), spec_RankScores_ok l (by omega)]
    unfold shares
    by_cases hs : okScores l = true
    · by_cases hp : (decide (p.length ≤ 64) && p.all okPrize) = true
      · rw [if_pos hs, if_pos hp, if_pos hs]
        have hp' : p.length ≤ 64 ∧ p.all okPrize = true := by simpa using hp
        have hpb : ∀ x ∈ p, 0 ≤ x ∧ x ≤ 1000000000 := fun x hx => by have := List.all_eq_true.mp hp'.2 x hx; unfold okPrize at this; simpa using this
        have := FnShares_loop l p h1 hp'.1 hpb l.length 1 (by omega) (by omega)
        simp only [bne_self_eq_false, cond_false, List.length_map]
        exact this
      · rw [if_pos hs, if_neg hp]
        rfl
    · rw [if_neg hs]
      rfl
end Go.Proofs.Ytkeockkepmljjaa
end

section
namespace Go.Proofs.Ytkeockkepmljjaa.fnShares
open Go.ChangeShapes Go.WideShapes Go.ChangeAt Go.RowKit
open Go.ChangeMaps (open_string shut_string)
open Ev (IsRow)
theorem own : ownKnob Try.prog.godebug = none := by kernel_rfl
theorem laidOut : laidOutB Try.prog = true := by kernel_rfl
theorem walk (a0 : Option Addr) (len0 cap0 : Nat) (z0 : List Int) (w : World) (w0 : IsRow .u8 w a0 len0 cap0 z0) : Calls Try.prog 9 #[.slice a0 len0 cap0] w fun e w' => e = .returned (.bool true) ∧ Below w.heap.size w w' :=
  Ev.law_calls laws_FnShares.sound (Vs := [.slice a0 len0 cap0]) (x := (z0.take len0)) (r := true) (Ev.argsAt_one (Ev.arg_ints w0)) (FnShares_true (z0.take len0) (fun n hn => Ev.row_wf w0 n hn) (Ev.row_len w0)) rfl
set_option maxRecDepth 100000 in
theorem lifted (os : Os) (started : os.Started) (H : Type) (enc : TypeId × Value → H) :
    ReturnsInHanded {} Try.checked os 9 .any (Rows.fnSharesSpec.pre6 enc Try.prog Try.f9 Rows.fnSharesRow.domain false) (Rows.fnSharesSpec.post enc Try.prog Try.f9 false true false false) := by
  refine returnsInHanded_of_change_sized (C := Try.checked) own started (by kernel_rfl) Try.func9
    (ChangeSpec.witness6 (enc := enc) (C := Try.checked) false ⟨#[], #[.slice none 0 0], []⟩ 8 (by kernel_rfl) (by kernel_rfl) (by kernel_rfl) (by kernel_rfl)) ?_
  intro W base args ds gs before hval0 hW hcnd hsz0 _
  have hsz : (DataW.weightsEach Try.prog (Try.f9.params.toList ++ Rows.fnSharesSpec.plain.varTypes Try.prog) (ds ++ gs)).all (· ≤ reachBytes) = true := hsz0
  have hval : ∀ (j : Nat) t v, Try.f9.params[j]? = some t → args[j]? = some v → Value.okWide Try.prog W .any base t v := hval0
  have hW' := hW
  obtain ⟨p, q, hA0, hV, rfl, hfz, hnd⟩ := hW
  have hA : DataW.TrodAll enc Try.prog W 0 (fun _ => true) true Try.f9.params.toList args.toList ds p := hA0
  rw [Try.params9] at hA hval hsz
  obtain ⟨v0, vs0, d0, ds0, p0, q0, hargs, rfl, rfl, h0, r0⟩ := trodAll_cons hA
  obtain ⟨rfl, rfl, rfl⟩ := trodAll_nil r0
  obtain rfl : args = #[v0] := by cases args; simp_all
  obtain ⟨rfl, rfl⟩ := trodVars_none hV
  obtain ⟨a0, len0, cap0, rfl⟩ := okWide_slice Try.underlying22 (hval 0 22 v0 rfl rfl)
  have k0 := h0
  have lt0 : ∀ x ∈ p0, x.block < W.heap.size := by obtain ⟨m, hm⟩ := k0; exact DataW.trod_lt m _ _ _ hm
  obtain ⟨z0, w0⟩ : ∃ zs, IsRow .u8 W a0 len0 cap0 zs := by
    obtain ⟨fuel, hf⟩ := h0
    rcases open_ints Try.underlying22 Try.underlying5 (by kernel_rfl) hf with ⟨hcs, _⟩ | ⟨x, l, c, zs, hcs, _, hl, hm, hz, _, hcell, hwz⟩
    · simp [Value.cells] at hcs
      obtain ⟨rfl, rfl, rfl⟩ := hcs
      exact ⟨[], .inl ⟨rfl, rfl, rfl, rfl⟩⟩
    · simp [Value.cells] at hcs
      obtain ⟨rfl, rfl, rfl⟩ := hcs
      exact ⟨zs, .inr ⟨_, rfl, hl, hm, by simpa using hz, hcell, hwz⟩⟩
  clear hA0 hval0 hsz0 hsz
  refine (walk a0 len0 cap0 z0 W w0).mono fun e W' ⟨he, bel⟩ => ?_
  subst he
  exact ⟨_, rfl, _, _, _, [], _, [], hW', trodAll_mk1 (shut_bool Try.underlying4 _), (trodAll_cons_mk (Below.trod laidOut (by kernel_rfl) (of_decide_eq_true (by kernel_rfl)) k0 bel lt0) trodAll_mk0), rfl, bel.frame _, fun h => by cases h⟩
theorem over : Rows.fnSharesRow.holds Try.pinned (OpenSpec.ofChange Rows.fnSharesSpec) :=
  OpenClaim.holds_of_wide 9 Try.f9 rfl rfl rfl rfl rfl rfl rfl ⟨rfl, rfl, rfl, rfl, rfl⟩ rfl rfl rfl rfl rfl (by kernel_rfl) Try.func9 (by kernel_rfl)
    (of_decide_eq_true (by kernel_rfl)) (by unfold Func.isWrapper; first | (rw [if_pos (by decide +kernel)]; kernel_rfl) | (rw [if_neg (by decide +kernel)]; exact ⟨rfl, rfl⟩))
    (fun os started H enc _ => lifted os started H enc)
theorem proved : Rows.FnSharesSaid := over
end Go.Proofs.Ytkeockkepmljjaa.fnShares
namespace Go.Proofs.Ytkeockkepmljjaa
/-- The row, under a short name, for the claim. -/
theorem fnShares_holds : Rows.FnSharesSaid := fnShares.proved
end Go.Proofs.Ytkeockkepmljjaa
end

