/- An evaluator of code over plain values, proved sound: what a function computes, as a plain function. No condition. -/
import Derived.Test.YtkeockkepmljjaaDoorEv1
import Derived.IntWalk
import Derived.IntWalk
import Derived.Below
import Derived.OpenShut
import Derived.Below
import Derived.OpenShut
set_option linter.unusedVariables false
set_option linter.unusedSimpArgs false
set_option maxRecDepth 100000
section
namespace Ev
open Go

section
variable {P : Program} {E : Env} {O : Nat → Prop} {X : Nat → Value}

theorem ARun.len {E : Env} {reg n : Nat} {all : List Oper} {l : List (Nat × Oper)} {s s1 : AS} {rs : List Rec} (h : ARun E reg n all l s s1 rs) : rs.length = l.length := by
  have := congrArg List.length h.recs
  simpa using this

theorem listed_set {listed : Array Bool} {i j : Nat} (hi : i < listed.size) : (listed.setIfInBounds i true).getD j true = false ↔ j ≠ i ∧ listed.getD j true = false := by
  by_cases h : j = i
  · subst h; simp [hi]
  · rw [getD_set_ne true (Ne.symm h)]; simp [h]

theorem any_ok {Q : Exit → Act → World → Prop} {ops : Array Oper} {reg n N : Nat} (hT : TOk P E.TT) (hΦ : ∀ m, m ∈ E.Φ → Sound P m) (hall : ∀ o, o ∈ ops.toList → operOk N o = true)
    (back : ∀ (i : Nat) o, ops[i]? = some o → ∀ e ∈ o.after, Region.binds .any e = true → e.on < i) {sN : AS} {b0 : Bd} {a0 : Act} (hN0 : a0.tmps.size = N)
    (hK : ∀ b' a', After O b0 a0 X n (n + 16 * ops.size) sN b' a' → Q .normal a' b'.w) :
    ∀ (fuel : Nat) (rem : List (Nat × Oper)) (recs : List Rec) (listed : Array Bool) (a : Act) (b : Bd) (s : AS), After O b0 a0 X n (n + 16 * ops.size) s b a → ARun E reg n ops.toList rem s sN recs → rem.length = fuel →
      (∀ i, listed.getD i true = false ↔ ∃ o, (i, o) ∈ rem) → (∀ i o, (i, o) ∈ rem → ops[i]? = some o) → rem.Pairwise (fun p q => p.1 < q.1) → listed.size = ops.size →
      (∀ i o, ops[i]? = some o → listed.getD i false = true → ∀ e ∈ o.after, Region.binds .any e = true → listed.getD e.on false = true) →
      (∀ i o, (i, o) ∈ rem → ∀ l, n + 16 * i ≤ l → l < n + 16 * i + 16 → ¬ b.U l) →
      (∀ (k1 k2 : Nat) p1 p2 r1 r2, k1 < k2 → rem[k1]? = some p1 → rem[k2]? = some p2 → recs[k1]? = some r1 → recs[k2]? = some r2 → Reach ops p2.1 p1.1 ∨ Apart ops.toList p1.2 p2.2 r1 r2) →
      wpAny P .any ops Q fuel listed a b.w := by
  have listedT : ∀ (listed : Array Bool) (j : Nat), j < listed.size → (listed.getD j false = true ↔ ¬ listed.getD j true = false) := by
    intro listed j hj
    simp [hj]
  intro fuel
  induction fuel with
  | zero =>
    intro rem recs listed a b s haf hrun hlen hlist hops hpw hsz hdown hids hpair
    have hrem : rem = [] := List.length_eq_zero_iff.mp hlen
    subst hrem
    cases hrun
    refine ⟨?_, hK b a haf⟩
    unfold Region.ready
    rw [List.filter_eq_nil_iff]
    intro i hi hc
    simp only [Bool.and_eq_true, Bool.not_eq_true'] at hc
    obtain ⟨o, ho⟩ := (hlist i).mp hc.1
    simp at ho
  | succ fuel ih =>
    intro rem recs listed a b s haf hrun hlen hlist hops hpw hsz hdown hids hpair
    have hun : ∀ i, i < ops.size → (listed.getD i false = true ∨ ∃ o, (i, o) ∈ rem) := fun i hi => by
      by_cases h : listed.getD i true = false
      · exact .inr ((hlist i).mp h)
      · exact .inl ((listedT listed i (by omega)).mpr h)
    refine ⟨fun hnil => ?_, fun i hi => ?_⟩
    · -- the first of the rest is ready
      match rem, hlen with
      | (i, o) :: rem, _ =>
        have : i ∈ Region.ready .any ops listed := by
          rw [mem_ready]
          refine ⟨(hlist i).mpr ⟨o, by simp⟩, o, hops i o (by simp), fun e he hb => ?_⟩
          have hlt := back i o (hops i o (by simp)) e he hb
          have hii : i < ops.size := (Array.getElem?_eq_some_iff.mp (hops i o (by simp))).1
          rcases hun e.on (by omega) with h | ⟨o', h⟩
          · exact h
          · rcases List.mem_cons.mp h with h | h
            · injection h with h1 _; omega
            · have := (List.pairwise_cons.mp hpw).1 _ h
              simp only at this; omega
        rw [hnil] at this
        cases this
    · obtain ⟨hi1, o, ho, hi2⟩ := mem_ready.mp hi
      obtain ⟨o', hmem⟩ := (hlist i).mp hi1
      have hoo : o' = o := by have := hops i o' hmem; rw [ho] at this; injection this with this; exact this.symm
      subst hoo
      obtain ⟨pre, post, hsplit⟩ := List.append_of_mem hmem
      have hii : i < listed.size := by rw [hsz]; exact (Array.getElem?_eq_some_iff.mp ho).1
      have hmid : rem[pre.length]? = some (i, o') := by rw [hsplit]; simp
      have hpre : ∀ (k : Nat) p, pre[k]? = some p → rem[k]? = some p ∧ k < pre.length := fun k p hk => by
        have hlt : k < pre.length := by
          rcases Nat.lt_or_ge k pre.length with h | h
          · exact h
          · rw [List.getElem?_eq_none h] at hk; cases hk
        exact ⟨by rw [hsplit, List.getElem?_append_left hlt]; exact hk, hlt⟩
      rw [hsplit] at hrun
      obtain ⟨s1, ry, hry, hstep, hrest⟩ := hrun.front fun k p rp rj hk hrk hrj => by
        obtain ⟨h1, h2⟩ := hpre k p hk
        rcases hpair k pre.length p (i, o') rp rj h2 h1 hmid hrk hrj with h | h
        · exfalso
          have := h.listed (L := fun j => listed.getD j false = true) hdown fun o2 ho2 e he hb => by
            rw [ho] at ho2; injection ho2 with ho2; subst ho2; exact hi2 e he hb
          have hpm : p ∈ rem := List.mem_of_getElem? h1
          have hps : p.1 < listed.size := by rw [hsz]; exact (Array.getElem?_eq_some_iff.mp (hops p.1 p.2 hpm)).1
          exact (listedT listed p.1 hps).mp this ((hlist p.1).mpr ⟨p.2, hpm⟩)
        · exact h
      have hs : s = ⟨s.τ, b.h⟩ := by rw [haf.h]
      rw [hs] at hstep
      have hNa : a.tmps.size = N := by rw [haf.size, hN0]
      refine step_ok (O := O) (X := X) hT hΦ (by rw [hNa]; exact hall) ho haf.rl haf.sl (hids i o' hmem) hstep fun b' a' haf' => ?_
      have herase : pre ++ post = rem.eraseIdx pre.length := by
        rw [hsplit, List.eraseIdx_append_of_length_le (Nat.le_refl _)]
        simp
      have hiss : i < ops.size := by omega
      refine ih (pre ++ post) (recs.eraseIdx pre.length) _ a' b' s1 (haf.trans haf' (Nat.le_refl _) (by omega) (Nat.le_refl _) (by omega)) hrest ?_ (fun j => ?_) (fun j oj hj => ?_) ?_ (by simpa using hsz) (fun j oj hoj hlj e he hb => ?_) (fun j oj hj l hl1 hl2 hU => ?_) (fun k1 k2 p1 p2 r1 r2 hk h1 h2 h3 h4 => ?_)
      · rw [hsplit] at hlen; simp at hlen ⊢; omega
      · rw [listed_set hii, hlist j]
        constructor
        · rintro ⟨hne, oj, hj⟩
          rw [hsplit] at hj
          refine ⟨oj, ?_⟩
          simp only [List.mem_append, List.mem_cons] at hj ⊢
          rcases hj with h | h | h
          · exact .inl h
          · injection h with h1 _; exact (hne h1).elim
          · exact .inr h
        · rintro ⟨oj, hj⟩
          have hin : (j, oj) ∈ rem := by
            rw [hsplit]; simp only [List.mem_append, List.mem_cons] at hj ⊢
            exact hj.imp id .inr
          refine ⟨fun e => ?_, oj, hin⟩
          subst e
          rw [hsplit] at hpw
          rw [List.pairwise_append] at hpw
          rcases List.mem_append.mp hj with h | h
          · have := hpw.2.2 _ h _ (List.mem_cons_self)
            simp only at this; omega
          · have := (List.pairwise_cons.mp hpw.2.1).1 _ h
            simp only at this; omega
      · refine hops j oj ?_
        rw [hsplit]; simp only [List.mem_append, List.mem_cons] at hj ⊢
        exact hj.imp id .inr
      · rw [herase]; exact hpw.sublist (List.eraseIdx_sublist _ _)
      · by_cases hji : j = i
        · subst hji
          rw [ho] at hoj; injection hoj with hoj; subst hoj
          exact getD_set_true (hi2 e he hb)
        · rw [getD_set_ne false (Ne.symm hji)] at hlj
          exact getD_set_true (hdown j oj hoj hlj e he hb)
      · have hin : (j, oj) ∈ rem := by
          rw [hsplit]; simp only [List.mem_append, List.mem_cons] at hj ⊢
          exact hj.imp id .inr
        have hji : j ≠ i := by
          intro e; subst e
          rw [hsplit] at hpw
          rw [List.pairwise_append] at hpw
          rcases List.mem_append.mp hj with h | h
          · have := hpw.2.2 _ h _ (List.mem_cons_self)
            simp only at this; omega
          · have := (List.pairwise_cons.mp hpw.2.1).1 _ h
            simp only at this; omega
        rcases haf'.us l hU with h | h
        · exact hids j oj hin l hl1 hl2 h
        · omega
      · rw [herase] at h1 h2
        rw [List.getElem?_eraseIdx] at h1 h2 h3 h4
        have go : ∀ (m1 m2 : Nat), m1 < m2 → rem[m1]? = some p1 → rem[m2]? = some p2 → recs[m1]? = some r1 → recs[m2]? = some r2 → Reach ops p2.1 p1.1 ∨ Apart ops.toList p1.2 p2.2 r1 r2 := fun m1 m2 hm => hpair m1 m2 p1 p2 r1 r2 hm
        by_cases c1 : k1 < pre.length <;> by_cases c2 : k2 < pre.length
        · rw [if_pos c1] at h1 h3; rw [if_pos c2] at h2 h4; exact go _ _ hk h1 h2 h3 h4
        · rw [if_pos c1] at h1 h3; rw [if_neg c2] at h2 h4; exact go _ _ (by omega) h1 h2 h3 h4
        · omega
        · rw [if_neg c1] at h1 h3; rw [if_neg c2] at h2 h4; exact go _ _ (by omega) h1 h2 h3 h4

theorem numb_get : ∀ {l : List Oper} {i k : Nat}, (numb i l)[k]? = (l[k]?).map fun o => (i + k, o) := by
  intro l
  induction l with
  | nil => intro i k; simp [numb]
  | cons o l ih =>
    intro i k
    cases k with
    | zero => simp [numb]
    | succ k => simp only [numb, List.getElem?_cons_succ, ih]; congr 1; funext o; congr 1; omega
theorem numb_len : ∀ {l : List Oper} {i : Nat}, (numb i l).length = l.length := by
  intro l
  induction l with
  | nil => intro i; rfl
  | cons o l ih => intro i; simp [numb, ih]
theorem numb_mem {l : List Oper} {i : Nat} {p : Nat × Oper} (h : p ∈ numb 0 l) : l[p.1]? = some p.2 := by
  obtain ⟨k, hk⟩ := List.mem_iff_getElem?.mp h
  rw [numb_get, Option.map_eq_some_iff] at hk
  obtain ⟨o, ho, rfl⟩ := hk
  simpa using ho
theorem numb_pw : ∀ {l : List Oper} {i : Nat}, (numb i l).Pairwise (fun p q => p.1 < q.1) ∧ ∀ p, p ∈ numb i l → i ≤ p.1 := by
  intro l
  induction l with
  | nil => intro i; exact ⟨.nil, fun p h => by simp [numb] at h⟩
  | cons o l ih =>
    intro i
    obtain ⟨h1, h2⟩ := ih (i := i + 1)
    refine ⟨.cons (fun p hp => ?_) h1, fun p hp => ?_⟩
    · have := h2 p hp; simp only; omega
    · rcases List.mem_cons.mp hp with rfl | hp
      · exact Nat.le_refl _
      · have := h2 p hp; omega

theorem back_spec : ∀ {l : List Oper} {i : Nat}, edgesBack i l = true → ∀ (k : Nat) o, l[k]? = some o → ∀ e ∈ o.after, Region.binds .any e = true → e.on < i + k := by
  intro l
  induction l with
  | nil => intro i _ k o h; simp at h
  | cons o l ih =>
    intro i h k o' hk e he hbd
    simp only [edgesBack, Bool.and_eq_true, List.all_eq_true] at h
    cases k with
    | zero =>
      simp only [List.getElem?_cons_zero, Option.some.injEq] at hk
      subst hk
      have h3 := h.1 e (by simpa using he)
      rw [hbd, Bool.not_true, Bool.false_or] at h3
      have := blt_lt h3; omega
    | succ k =>
      have := ih h.2 k o' (by simpa using hk) e he hbd
      omega

theorem text_ok {Q : Exit → Act → World → Prop} {ops : Array Oper} {reg n N : Nat} (hT : TOk P E.TT) (hΦ : ∀ m, m ∈ E.Φ → Sound P m) (hall : ∀ o, o ∈ ops.toList → operOk N o = true)
    {sN : AS} {b0 : Bd} {a0 : Act} (hN0 : a0.tmps.size = N) (hK : ∀ b' a', After O b0 a0 X n (n + 16 * ops.size) sN b' a' → Q .normal a' b'.w) :
    ∀ (l : List Oper) (i : Nat) (recs : List Rec) (a : Act) (b : Bd) (s : AS), After O b0 a0 X n (n + 16 * ops.size) s b a → ARun E reg n ops.toList (numb i l) s sN recs → i + l.length = ops.size → (∀ k o, l[k]? = some o → ops[i + k]? = some o) →
      (∀ l, n + 16 * i ≤ l → ¬ b.U l) → wpOps P ops Q (List.range' i l.length) a b.w := by
  intro l
  induction l with
  | nil =>
    intro i recs a b s haf hrun _ _ _
    cases hrun
    exact hK b a haf
  | cons o l ih =>
    intro i recs a b s haf hrun hlen hget hid
    simp only [numb] at hrun
    cases hrun with
    | cons h1 h2 =>
      simp only [List.length_cons, List.range'_succ]
      rw [wpOps_cons]
      have hs : s = ⟨s.τ, b.h⟩ := by rw [haf.h]
      rw [hs] at h1
      have hNa : a.tmps.size = N := by rw [haf.size, hN0]
      have ho := hget 0 o rfl
      simp only [List.length_cons] at hlen
      refine step_ok (O := O) (X := X) hT hΦ (by rw [hNa]; exact hall) (by simpa using ho) haf.rl haf.sl (fun l h1 _ => hid l h1) h1 fun b' a' haf' => ?_
      refine ih (i + 1) _ a' b' _ (haf.trans haf' (Nat.le_refl _) (by omega) (Nat.le_refl _) (by omega)) h2 (by omega) (fun k o hk => ?_) fun l hl hU => ?_
      · have := hget (k + 1) o (by simpa using hk)
        rw [show i + 1 + k = i + (k + 1) by omega]; exact this
      · rcases haf'.us l hU with h | h
        · exact hid l (by omega) h
        · omega

/-- The machine's state is the evaluator's. -/
structure Me (O : Nat → Prop) (N : Nat) (X : Nat → Value) (b : Bd) (a : Act) (s : St) : Prop where
  rl : b.rl O
  h : b.h = hget s.h
  sl : Sl b a X (slot s.t)
  size : a.tmps.size = N
  us : ∀ l, b.U l → l < s.n

theorem drew_eq (w : World) : { w with drawn := w.drawn + 1 } = w.drew := rfl

theorem region_ok {R : Type} {out : R} {Q : Exit → Act → World → Prop} {ops : Array Oper} {reg N : Nat} {d : Bool} {s : St} {K : St → Option R} (hT : TOk P E.TT) (hΦ : ∀ m, m ∈ E.Φ → Sound P m) (hall : ∀ o, o ∈ ops.toList → operOk N o = true)
    (hmix : P.follows .mixedOrders = true)
    (e : (evOps E reg ops.toList s.n 0 ops.toList s.t s.h [] fun t h rs => cond (!d || (recsOk ops.toList (Region.before ops).toList rs && edgesBack 0 ops.toList)) (K ⟨t, h, s.n + 16 * ops.toList.length⟩) none) = some out) :
    ∃ s', K s' = some out ∧ ∀ (O : Nat → Prop) (X : Nat → Value) (b : Bd) (a : Act), Me O N X b a s → (∀ b' a', Me O N X b' a' s' → Kp O b.S b'.S b.w b'.w → a'.defers = a.defers → Q .normal a' b'.w) → (Code.region reg ops d).wp P Q a b.w := by
  obtain ⟨t', h', rs, hrun, e⟩ := evOps_run e
  obtain ⟨hc, e⟩ := cond_some e
  refine ⟨_, e, fun O X b a hme hK => ?_⟩
  rw [← hme.h] at hrun
  have hlast : ∀ (b0 : Bd), Mv O b b0 → b0.h = b.h → b0.U = b.U → (∀ d, SlOk b0.U b0.h b0.c b0.S b0.Pl (slot s.t d) (Vl a X d)) →
      (After O b0 a X s.n (s.n + 16 * ops.size) ⟨slot s.t, b.h⟩ b0 a) ∧ ∀ b' a', After O b0 a X s.n (s.n + 16 * ops.size) ⟨slot t', hget h'⟩ b' a' → Q .normal a' b'.w := by
    intro b0 hmv hh hU hsl
    refine ⟨⟨hmv.rl, hh, ⟨hsl⟩, rfl, rfl, Kp.refl _ _ _, fun l h => .inl h⟩, fun b' a' haf => ?_⟩
    refine hK b' a' ⟨haf.rl, haf.h, haf.sl, haf.size.trans hme.size, fun l h => ?_⟩ (hmv.kp.trans haf.kp) haf.defers
    simp only [Array.length_toList]
    rcases haf.us l h with h | h
    · rw [hU] at h; have := hme.us l h; omega
    · omega
  cases d with
  | false =>
    refine wp_region ?_
    obtain ⟨h1, h2⟩ := hlast b (Mv.refl hme.rl) rfl rfl hme.sl.sl
    have := text_ok hT hΦ hall hme.size h2 ops.toList 0 rs a b _ h1 hrun (by simp) (fun k o hk => by simpa using hk) (fun l hl hU => by have := hme.us l hU; omega)
    rw [List.range_eq_range']
    simpa using this
  | true =>
    simp only [Bool.not_true, Bool.false_or, Bool.and_eq_true] at hc
    refine wp_region_any hmix ?_
    rw [drew_eq]
    have hmv := Mv.drew hme.rl
    obtain ⟨h1, h2⟩ := hlast { b with w := b.w.drew } hmv rfl rfl fun d => (hme.sl.sl d).map hmv.av
    have hlen := numb_len (l := ops.toList) (i := 0)
    have hpw := recsOk_pairwise hc.1
    rw [List.append_nil, List.pairwise_reverse] at hpw
    have hri := hrun.recs
    refine any_ok hT hΦ hall (fun i o ho e he hbd => by have := back_spec hc.2 i o (by simpa using ho) e he hbd; omega) hme.size h2 ops.size (numb 0 ops.toList) rs _ a { b with w := b.w.drew } _ h1 hrun (by rw [hlen]; simp)
      (fun i => ?_) (fun i o hm => by have := numb_mem (i := 0) hm; simpa using this) numb_pw.1 (by simp) (fun i o _ hl => ?_) (fun i o _ l hl1 _ hU => by have := hme.us l hU; omega) (fun k1 k2 p1 p2 r1 r2 hk hp1 hp2 hr1 hr2 => ?_)
    · constructor
      · intro h
        have hi : i < ops.size := by
          rcases Nat.lt_or_ge i ops.size with h' | h'
          · exact h'
          · rw [Array.getD_eq_getD_getElem?, Array.getElem?_eq_none (by simpa using h')] at h; simp at h
        refine ⟨ops[i], List.mem_iff_getElem?.mpr ⟨i, ?_⟩⟩
        rw [numb_get]; simp [hi]
      · rintro ⟨o, hm⟩
        have := numb_mem (i := 0) hm
        have hi : i < ops.size := by
          rcases Nat.lt_or_ge i ops.size with h' | h'
          · exact h'
          · simp only [Array.getElem?_toList] at this
            rw [Array.getElem?_eq_none h'] at this; cases this
        simp [hi]
    · exfalso
      rw [Array.getD_eq_getD_getElem?] at hl
      rcases Nat.lt_or_ge i ops.size with h' | h'
      · simp [h'] at hl
      · rw [Array.getElem?_eq_none (by simpa using h')] at hl; simp at hl
    · by_cases hb : Nat.testBit ((Region.before ops).toList.getD p2.1 0) p1.1 = true
      · refine .inl (before_spec _ _ ?_)
        rw [Array.getD_eq_getD_getElem?, ← Array.getElem?_toList, ← List.getD_eq_getElem?_getD]; exact hb
      · right
        have hlt1 : k1 < rs.length := by
          rcases Nat.lt_or_ge k1 rs.length with h | h
          · exact h
          · rw [List.getElem?_eq_none h] at hr1; cases hr1
        have hlt2 : k2 < rs.length := by
          rcases Nat.lt_or_ge k2 rs.length with h | h
          · exact h
          · rw [List.getElem?_eq_none h] at hr2; cases hr2
        have hpk := List.pairwise_iff_getElem.mp hpw k1 k2 hlt1 hlt2 hk
        rw [List.getElem?_eq_getElem hlt1] at hr1; injection hr1 with hr1
        rw [List.getElem?_eq_getElem hlt2] at hr2; injection hr2 with hr2
        rw [hr1, hr2] at hpk
        have hi1 : r1.i = p1.1 := by
          have := congrArg (·[k1]?) hri
          simp only [List.getElem?_map, hp1, List.getElem?_eq_getElem hlt1, hr1, Option.map_some, Option.some.injEq] at this
          exact this
        have hi2 : r2.i = p2.1 := by
          have := congrArg (·[k2]?) hri
          simp only [List.getElem?_map, hp2, List.getElem?_eq_getElem hlt2, hr2, Option.map_some, Option.some.injEq] at this
          exact this
        refine apart_of hpk (by rw [hi1]; exact numb_mem (i := 0) (List.mem_of_getElem? hp1)) (by rw [hi2]; exact numb_mem (i := 0) (List.mem_of_getElem? hp2)) ?_
        rw [hi1, hi2]; simpa using hb
end
end Ev
end

section
namespace Ev
open Go

/-! ## Names -/
theorem mem?_iff {l : Nat} : ∀ {r : List Nat}, mem? l r = true ↔ l ∈ r := by
  intro r
  induction r with
  | nil => simp [mem?]
  | cons k r ih =>
    simp only [mem?, Bool.or_eq_true, ih, List.mem_cons]
    constructor
    · rintro (h | h)
      · exact .inl (Nat.eq_of_beq_eq_true h).symm
      · exact .inr h
    · rintro (rfl | h)
      · exact .inl (Nat.beq_refl _)
      · exact .inr h

theorem names_ok : ∀ {vs : List AV} {acc : List Nat}, acc.Nodup → (names vs acc).Nodup ∧ (∀ l, l ∈ acc → l ∈ names vs acc) ∧ ∀ l, l ∈ AV.ids vs → l ∈ names vs acc := by
  have one : ∀ {acc : List Nat} (l : Nat), acc.Nodup → (cond (mem? l acc) acc (acc ++ [l])).Nodup ∧ (∀ k, k ∈ acc → k ∈ cond (mem? l acc) acc (acc ++ [l])) ∧ l ∈ cond (mem? l acc) acc (acc ++ [l]) := by
    intro acc l h
    cases hm : mem? l acc with
    | true => exact ⟨h, fun _ h => h, mem?_iff.mp hm⟩
    | false =>
      have : l ∉ acc := fun h => by rw [mem?_iff.mpr h] at hm; cases hm
      rw [cond_false]
      exact ⟨List.nodup_append.mpr ⟨h, by simp, fun a ha b hb => by simp at hb; subst hb; exact fun e => this (e ▸ ha)⟩, fun k hk => List.mem_append_left _ hk, by simp⟩
  intro vs
  induction vs with
  | nil => intro acc h; exact ⟨h, fun _ h => h, fun l h => by simp [AV.ids] at h⟩
  | cons v vs ih =>
    intro acc h
    cases v with
    | imm τ x => simp only [names, AV.ids]; exact ih h
    | ref l p k =>
      obtain ⟨h1, h2, h3⟩ := one l h
      obtain ⟨g1, g2, g3⟩ := ih h1
      simp only [names, AV.ids]
      exact ⟨g1, fun k hk => g2 k (h2 k hk), fun k hk => (List.mem_cons.mp hk).elim (fun e => e ▸ g2 _ h3) (g3 k)⟩
    | adr l p k =>
      obtain ⟨h1, h2, h3⟩ := one l h
      obtain ⟨g1, g2, g3⟩ := ih h1
      simp only [names, AV.ids]
      exact ⟨g1, fun k hk => g2 k (h2 k hk), fun k hk => (List.mem_cons.mp hk).elim (fun e => e ▸ g2 _ h3) (g3 k)⟩

theorem namesT_ok : ∀ {t : List (Nat × List AV)} {acc : List Nat}, acc.Nodup → (namesT t acc).Nodup ∧ (∀ l, l ∈ acc → l ∈ namesT t acc) ∧ ∀ q, q ∈ t → ∀ l, l ∈ AV.ids q.2 → l ∈ namesT t acc := by
  intro t
  induction t with
  | nil => intro acc h; exact ⟨h, fun _ h => h, fun q h => by simp at h⟩
  | cons q t ih =>
    intro acc h
    obtain ⟨h1, h2, h3⟩ := names_ok (vs := q.2) h
    obtain ⟨g1, g2, g3⟩ := ih h1
    simp only [namesT]
    refine ⟨g1, fun l hl => g2 l (h2 l hl), fun p hp l hl => ?_⟩
    rcases List.mem_cons.mp hp with rfl | hp
    · exact g2 l (h3 l hl)
    · exact g3 p hp l hl

theorem idx_get : ∀ {ns : List Nat} {i l : Nat}, l ∈ ns → ∃ k, idx l ns i = i + k ∧ ns[k]? = some l := by
  intro ns
  induction ns with
  | nil => intro i l h; simp at h
  | cons n ns ih =>
    intro i l h
    simp only [idx]
    by_cases hn : n = l
    · subst hn; exact ⟨0, by simp [Nat.beq_refl], rfl⟩
    · have hb : Nat.beq n l = false := beq_ne hn
      rw [hb, cond_false]
      obtain ⟨k, h1, h2⟩ := ih (i := i + 1) ((List.mem_cons.mp h).resolve_left fun e => hn e.symm)
      exact ⟨k + 1, by omega, by simpa using h2⟩

theorem hren_get {h : List (Nat × Entry)} : ∀ {ns : List Nat} {i j : Nat}, hget (hren h ns i) j = if i ≤ j then (ns[j - i]?).bind fun l => (hget h l).map fun e => { e with v := 0 } else none := by
  intro ns
  induction ns with
  | nil => intro i j; simp [hren, hget]
  | cons l ns ih =>
    intro i j
    simp only [hren]
    by_cases hj : j = i
    · subst hj
      rw [if_pos (Nat.le_refl _)]
      simp only [Nat.sub_self, List.getElem?_cons_zero, Option.bind_some]
      split
      · rename_i e he
        simp [hget, Nat.beq_refl, he]
      · rename_i he
        rw [ih, if_neg (by omega), he]; rfl
    · have hcons : ∀ (e : Entry), hget ((i, { e with v := 0 }) :: hren h ns (i + 1)) j = hget (hren h ns (i + 1)) j := fun e => by
        have : Nat.beq i j = false := beq_ne fun e => hj e.symm
        simp [hget, this]
      have h2 : hget (hren h (l :: ns) i) j = hget (hren h ns (i + 1)) j := by
        simp only [hren]
        split
        · exact hcons _
        · rfl
      simp only [hren] at h2
      rw [h2, ih]
      by_cases hlt : i ≤ j
      · rw [if_pos hlt, if_pos (by omega), show j - i = (j - (i + 1)) + 1 by omega, List.getElem?_cons_succ]
      · rw [if_neg hlt, if_neg (by omega)]

theorem nodup_inj {ns : List Nat} (h : ns.Nodup) {i j l : Nat} (hi : ns[i]? = some l) (hj : ns[j]? = some l) : i = j := by
  have hli : i < ns.length := by
    rcases Nat.lt_or_ge i ns.length with h | h
    · exact h
    · rw [List.getElem?_eq_none h] at hi; cases hi
  exact (List.getElem?_inj hli h).mp (hi.trans hj.symm)

section
variable {O : Nat → Prop} {b : Bd}

/-- The numbers that are kept, and new ones for them. -/
def reB (b : Bd) (ns : List Nat) (h' : Nat → Option Entry) : Bd :=
  ⟨fun i => i < ns.length, h', b.S, b.w, fun i => b.G (ns.getD i 0), fun i => b.Pl (ns.getD i 0), fun i => b.ft (ns.getD i 0)⟩

theorem EntOk.re {c c' : CF} {S : Nat → Prop} {e : Entry} {l l' : Nat} {P : Nat × Nat} {F : Nat → Prop} (h : EntOk c S e l P F) (hi : ∀ k j, c'.cl (.inl k) j = c.cl (.inl k) j) (hbk : ∀ k, c'.bk k = c.bk k) (hg : ∀ j, c'.cl (.inr l') j = c.cl (.inr l) j) : EntOk c' S { e with v := 0 } l' P F := by
  have hb : ∀ j, c'.cl (base { e with v := 0 } l' P).1 ((base { e with v := 0 } l' P).2 + j) = c.cl (base e l P).1 ((base e l P).2 + j) := fun j => by
    by_cases hm : e.mem = true
    · simp only [base, hm, if_true, hi]
    · simp only [base, hm, if_false, Bool.false_eq_true, hg]
  have hne : ∀ k, (base e l P).1 ≠ .inl k → (base { e with v := 0 } l' P).1 ≠ .inl k := fun k hk => by
    by_cases hm : e.mem = true
    · simp only [base, hm, if_true] at hk ⊢; exact hk
    · simp only [base, hm, if_false, Bool.false_eq_true] at hk ⊢; exact fun e => by cases e
  unfold EntOk at h ⊢
  by_cases hz : e.fz = true
  · simp only [hz, if_true] at h ⊢
    exact ⟨h.1, h.2.1, h.2.2.move (fun j _ => hb j) fun k hk => ⟨hk, fun j => hi k j⟩⟩
  · rw [if_neg hz] at h
    rw [if_neg hz]
    obtain ⟨F', h1, h2, h3⟩ := h
    refine ⟨F', h1.move (fun j _ => hb j) (fun k hk => ⟨hne k (h2 k hk), hbk k, fun j => hi k j⟩) fun k hk => ⟨hk, fun j => hi k j⟩, fun k hk => hne k (h2 k hk), ?_⟩
    by_cases hm : e.mem = true
    · rw [if_pos hm] at h3
      simp only [hm, if_true]
      obtain ⟨n, hn, hle⟩ := h3.2
      exact ⟨h3.1, n, by rw [hbk]; exact hn, hle⟩
    · rw [if_neg hm] at h3
      simp only [hm, if_false, Bool.false_eq_true]
      exact h3

theorem loc_inl {c c' : CF} (hi : ∀ k j, c'.cl (.inl k) j = c.cl (.inl k) j) : ∀ {p : List Stp} {τ : Ty} {k o : Nat}, loc c' p τ (.inl k) o = loc c p τ (.inl k) o ∧ ∀ u B o', loc c p τ (.inl k) o = some (u, B, o') → ∃ k', B = .inl k' := by
  intro p
  induction p with
  | nil => intro τ k o; exact ⟨rfl, fun u B o' h => by simp only [loc, Option.some.injEq, Prod.mk.injEq] at h; exact ⟨k, h.2.1.symm⟩⟩
  | cons st p ih =>
    intro τ k o
    cases st with
    | f n =>
      cases τ with
      | st t =>
        simp only [loc]
        cases fldTy t n with
        | none => exact ⟨rfl, fun u B o' h => by cases h⟩
        | some u => exact ih
      | _ => exact ⟨rfl, fun u B o' h => by cases h⟩
    | e n =>
      cases τ with
      | sl t =>
        simp only [loc, hi]
        split
        · exact ih
        · exact ⟨rfl, fun u B o' h => by cases h⟩
      | arr m t => simp only [loc]; exact ih
      | _ => exact ⟨rfl, fun u B o' h => by cases h⟩

theorem loc_inr {c c' : CF} {i l : Nat} (hi : ∀ k j, c'.cl (.inl k) j = c.cl (.inl k) j) (hg : ∀ j, c'.cl (.inr i) j = c.cl (.inr l) j) : ∀ {p : List Stp} {τ : Ty} {o : Nat} {u : Ty} {B : Nat ⊕ Nat} {o' : Nat}, loc c p τ (.inr l) o = some (u, B, o') →
    ∃ B', loc c' p τ (.inr i) o = some (u, B', o') ∧ (∀ j, c'.cl B' j = c.cl B j) ∧ ∀ k, B = .inl k → B' = .inl k := by
  intro p
  induction p with
  | nil =>
    intro τ o u B o' h
    simp only [loc, Option.some.injEq, Prod.mk.injEq] at h
    obtain ⟨rfl, rfl, rfl⟩ := h
    exact ⟨.inr i, rfl, hg, fun k e => by cases e⟩
  | cons st p ih =>
    intro τ o u B o' h
    cases st with
    | f n =>
      cases τ with
      | st t =>
        simp only [loc] at h ⊢
        cases hf : fldTy t n with
        | none => rw [hf] at h; cases h
        | some u => rw [hf] at h; exact ih h
      | _ => simp [loc] at h
    | e n =>
      cases τ with
      | sl t =>
        simp only [loc, hg] at h ⊢
        split at h
        · rename_i bb q len cap heq
          rw [(loc_inl hi).1]
          obtain ⟨k', rfl⟩ := (loc_inl (c := c) (c' := c) (fun _ _ => rfl)).2 u B o' h
          exact ⟨_, h, fun j => hi k' j, fun k e => e⟩
        · cases h
      | arr m t => simp only [loc] at h ⊢; exact ih h
      | _ => simp [loc] at h

theorem res_ok_alive {av av' : AV} {look : Nat → Option Entry} (h : res look av = some av') : (∃ τ x, av' = .imm τ x) ∨ (∃ l p v e, av' = .ref l p v ∧ look l = some e ∧ aliveR e p v = true) ∨ (∃ l p v e, av' = .adr l p v ∧ look l = some e ∧ aliveA e p v = true) := by
  cases av with
  | imm τ x => exact .inl ⟨τ, x, by cases τ <;> simp only [res, reduceCtorEq, Option.some.injEq] at h <;> exact h.symm⟩
  | ref l p v =>
    simp only [res] at h
    split at h
    · rename_i u hu
      injection h with h
      by_cases hc : (isFz look l || u.m.isSh) = true
      · rw [hc, cond_true] at h; exact .inl ⟨_, _, h.symm⟩
      · simp only [Bool.not_eq_true] at hc
        rw [hc, cond_false] at h
        unfold atR at hu
        split at hu
        · rename_i e he
          split at hu
          · obtain ⟨ha, _⟩ := cond_some hu
            exact .inr (.inl ⟨l, p, v, e, h.symm, he, ha⟩)
          · cases hu
        · cases hu
    · cases h
  | adr l p v =>
    simp only [res] at h
    split at h
    · rename_i u hu
      injection h with h
      by_cases hc : isFz look l = true
      · rw [hc, cond_true] at h; exact .inl ⟨_, _, h.symm⟩
      · simp only [Bool.not_eq_true] at hc
        rw [hc, cond_false] at h
        unfold atA at hu
        split at hu
        · rename_i e he
          obtain ⟨ha, _⟩ := cond_some hu
          exact .inr (.inr ⟨l, p, v, e, h.symm, he, ha⟩)
        · cases hu
    · cases h

/-- A value under new numbers. -/
theorem av_ren {ns : List Nat} {h' : Nat → Option Entry} {av av1 : AV} {V : Value} (hr : b.rl O) (hn : ns.Nodup) (hh : ∀ i, h' i = (ns[i]?).bind fun l => (b.h l).map fun e => { e with v := 0 })
    (hv : b.av av V) (hres : res b.h av = some av1) (hin : ∀ l, l ∈ AV.ids [av1] → l ∈ ns) : (reB b ns h').av (AV.ren ns av1) V := by
  have hv0 := res_ok hr hv hres
  have hv1 : b.av av1 V := hv0.ok
  have hcl : ∀ k j, (reB b ns h').c.cl (.inl k) j = b.c.cl (.inl k) j := fun _ _ => rfl
  rcases res_ok_alive hres with ⟨τ, x, rfl⟩ | ⟨l, p, v, e, rfl, he, ha⟩ | ⟨l, p, v, e, rfl, he, ha⟩
  · obtain ⟨vs, h1, h2⟩ := hv0.imm
    exact .inr ⟨vs, h1, h2.1, h2.2.move (fun _ _ => rfl) fun k hk => ⟨hk, fun _ => rfl⟩⟩
  · have hl := hin l (by simp [AV.ids])
    obtain ⟨i, hi1, hi2⟩ := idx_get (i := 0) hl
    rw [Nat.zero_add] at hi1
    have hlt : i < ns.length := by
      rcases Nat.lt_or_ge i ns.length with h | h
      · exact h
      · rw [List.getElem?_eq_none h] at hi2; cases hi2
    have hgd : ns.getD i 0 = l := by rw [List.getD_eq_getElem?_getD, hi2]; rfl
    simp only [AV.ren, hi1]
    refine ⟨hlt, fun e' he' => ?_⟩
    simp only [reB] at he'
    rw [hh, hi2] at he'
    simp only [Option.bind_some, he, Option.map_some, Option.some.injEq] at he'
    subst he'
    refine ⟨Nat.le_refl _, fun _ => ?_⟩
    obtain ⟨_, hav⟩ := hv1
    obtain ⟨_, hav⟩ := hav e he
    obtain ⟨u, g1, g2, B, o, vs, g3, g4, g5, g6⟩ := hav ha
    refine ⟨u, g1, g2, ?_⟩
    by_cases hm : e.mem = true
    · simp only [base, hm, if_true] at g3 ⊢
      have : (reB b ns h').Pl i = b.Pl l := by simp only [reB, hgd]
      rw [this]
      refine ⟨B, o, vs, ?_, g4, fun j hj => ?_, g6⟩
      · rw [(loc_inl hcl).1]; exact g3
      · obtain ⟨k', rfl⟩ := (loc_inl (c := b.c) (c' := b.c) (fun _ _ => rfl)).2 _ _ _ g3
        exact g5 j hj
    · simp only [base, hm, if_false, Bool.false_eq_true] at g3 ⊢
      have hg : ∀ j, (reB b ns h').c.cl (.inr i) j = b.c.cl (.inr l) j := fun j => by simp only [reB, Bd.c, wcf_inr, hgd]
      obtain ⟨B', q1, q2, _⟩ := loc_inr hcl hg g3
      exact ⟨B', o, vs, q1, g4, fun j hj => by rw [q2]; exact g5 j hj, g6⟩
  · have hl := hin l (by simp [AV.ids])
    obtain ⟨i, hi1, hi2⟩ := idx_get (i := 0) hl
    rw [Nat.zero_add] at hi1
    have hlt : i < ns.length := by
      rcases Nat.lt_or_ge i ns.length with h | h
      · exact h
      · rw [List.getElem?_eq_none h] at hi2; cases hi2
    have hgd : ns.getD i 0 = l := by rw [List.getD_eq_getElem?_getD, hi2]; rfl
    simp only [AV.ren, hi1]
    refine ⟨hlt, fun e' he' => ?_⟩
    simp only [reB] at he'
    rw [hh, hi2] at he'
    simp only [Option.bind_some, he, Option.map_some, Option.some.injEq] at he'
    subst he'
    refine ⟨Nat.le_refl _, fun _ => ?_⟩
    obtain ⟨_, hav⟩ := hv1
    obtain ⟨_, hav⟩ := hav e he
    obtain ⟨g1, g2, u, bb, o, g3, g4⟩ := hav ha
    refine ⟨g1, g2, u, bb, o, ?_, g4⟩
    by_cases hm : e.mem = true
    · simp only [base, hm, if_true] at g3 ⊢
      have : (reB b ns h').Pl i = b.Pl l := by simp only [reB, hgd]
      rw [this, (loc_inl hcl).1]; exact g3
    · simp only [base, hm, if_false, Bool.false_eq_true] at g3 ⊢
      have hg : ∀ j, (reB b ns h').c.cl (.inr i) j = b.c.cl (.inr l) j := fun j => by simp only [reB, Bd.c, wcf_inr, hgd]
      obtain ⟨B', q1, _, q3⟩ := loc_inr hcl hg g3
      rw [q1, q3 bb rfl]

theorem re_rl {ns : List Nat} {h' : Nat → Option Entry} (hr : b.rl O) (hn : ns.Nodup) (hh : ∀ i, h' i = (ns[i]?).bind fun l => (b.h l).map fun e => { e with v := 0 }) : (reB b ns h').rl O := by
  have inv : ∀ i e, h' i = some e → ∃ l e0, ns[i]? = some l ∧ b.h l = some e0 ∧ e = { e0 with v := 0 } ∧ ns.getD i 0 = l ∧ i < ns.length := fun i e he => by
    rw [hh, Option.bind_eq_some_iff] at he
    obtain ⟨l, hl, he⟩ := he
    rw [Option.map_eq_some_iff] at he
    obtain ⟨e0, he0, rfl⟩ := he
    have hlt : i < ns.length := by
      rcases Nat.lt_or_ge i ns.length with h | h
      · exact h
      · rw [List.getElem?_eq_none h] at hl; cases hl
    exact ⟨l, e0, hl, he0, rfl, by rw [List.getD_eq_getElem?_getD, hl]; rfl, hlt⟩
  refine ⟨fun i e he => (inv i e he).choose_spec.choose_spec.2.2.2.2, fun i e he => ?_, fun i e he hm => ?_, fun i j k hi hj hk1 hk2 => ?_, fun i k hi hk => ?_, hr.new⟩
  · obtain ⟨l, e0, h1, h2, rfl, h3, _⟩ := inv i e he
    simp only [reB, h3]
    exact (hr.ent l e0 h2).re (fun _ _ => rfl) (fun _ => rfl) fun j => by simp only [wcf_inr, h3]
  · obtain ⟨l, e0, h1, h2, rfl, h3, _⟩ := inv i e he
    simp only [reB, h3]
    exact hr.gl l e0 h2 hm
  · obtain ⟨e, he⟩ := Option.isSome_iff_exists.mp hi
    obtain ⟨e', he'⟩ := Option.isSome_iff_exists.mp hj
    obtain ⟨l, e0, h1, h2, _, h3, _⟩ := inv i e he
    obtain ⟨l', e0', h1', h2', _, h3', _⟩ := inv j e' he'
    simp only [reB, h3, h3'] at hk1 hk2
    have := hr.dis l l' k (by simp [h2]) (by simp [h2']) hk1 hk2
    subst this
    exact nodup_inj hn h1 h1'
  · obtain ⟨e, he⟩ := Option.isSome_iff_exists.mp hi
    obtain ⟨l, e0, h1, h2, _, h3, _⟩ := inv i e he
    simp only [reB, h3] at hk
    exact hr.own l k (by simp [h2]) hk

theorem normL_ok : ∀ {vs out : List AV}, normL b.h vs = some out → out.length = vs.length ∧ ∀ (i : Nat) a1, out[i]? = some a1 → ∃ a0, vs[i]? = some a0 ∧ res b.h a0 = some a1 := by
  intro vs
  induction vs with
  | nil => intro out h; simp only [normL, Option.some.injEq] at h; subst h; exact ⟨rfl, fun i a1 h => by simp at h⟩
  | cons v vs ih =>
    intro out h
    simp only [normL] at h
    split at h
    · rename_i v1 hv
      split at h
      · rename_i l hl
        injection h with h
        subst h
        obtain ⟨h1, h2⟩ := ih hl
        refine ⟨by simp [h1], fun i a1 hi => ?_⟩
        cases i with
        | zero => simp at hi; subst hi; exact ⟨v, rfl, hv⟩
        | succ i => simpa using h2 i a1 (by simpa using hi)
      · cases h
    · cases h

theorem pick_mem {t : List (Nat × List AV)} : ∀ {ds : List Nat} {q : Nat × List AV}, q ∈ pick b.h t ds → normL b.h (slot t q.1) = some q.2 ∧ q.2 ≠ [] := by
  intro ds
  induction ds with
  | nil => intro q h; simp [pick] at h
  | cons d ds ih =>
    intro q h
    simp only [pick] at h
    split at h
    · rename_i v l hn
      rcases List.mem_cons.mp h with rfl | h
      · exact ⟨hn, by simp⟩
      · exact ih h
    · exact ih h

theorem slot_map_mem {f : List AV → List AV} {d : Nat} : ∀ {t : List (Nat × List AV)}, slot (t.map fun q => (q.1, f q.2)) d = [] ∨ ∃ q, q ∈ t ∧ q.1 = d ∧ slot (t.map fun q => (q.1, f q.2)) d = f q.2 := by
  intro t
  induction t with
  | nil => exact .inl rfl
  | cons q t ih =>
    simp only [List.map_cons, slot]
    by_cases h : q.1 = d
    · right
      exact ⟨q, by simp, h, by rw [h, Nat.beq_refl, cond_true]⟩
    · rw [beq_ne h, cond_false]
      rcases ih with h1 | ⟨p, h1, h2, h3⟩
      · exact .inl h1
      · exact .inr ⟨p, by simp [h1], h2, h3⟩

theorem clean_ok {N : Nat} {X : Nat → Value} {a : Act} {s : St} {io : List Nat} {live : Nat} (h : Me O N X b a s) : ∃ b', Me O N X b' a (clean io live s) ∧ b'.w = b.w ∧ b'.S = b.S := by
  have hrl := h.rl
  have hcl : clean io live s = ⟨(pick (hget s.h) s.t (io ++ bits 4096 0 live)).map fun q => (q.1, q.2.map (AV.ren (namesT (pick (hget s.h) s.t (io ++ bits 4096 0 live)) []))), hren s.h (namesT (pick (hget s.h) s.t (io ++ bits 4096 0 live)) []) 0, (namesT (pick (hget s.h) s.t (io ++ bits 4096 0 live)) []).length⟩ := rfl
  rw [hcl]
  generalize ht : pick (hget s.h) s.t (io ++ bits 4096 0 live) = t
  generalize hns : namesT t [] = ns
  obtain ⟨g1, _, g3⟩ := namesT_ok (t := t) (acc := []) (by simp)
  rw [hns] at g1 g3
  have hh : ∀ i, hget (hren s.h ns 0) i = (ns[i]?).bind fun l => (b.h l).map fun e => { e with v := 0 } := fun i => by
    rw [hren_get, if_pos (Nat.zero_le _), Nat.sub_zero, h.h]
  refine ⟨reB b ns (hget (hren s.h ns 0)), ⟨re_rl hrl g1 hh, rfl, ⟨fun d => ?_⟩, h.size, fun l hl => hl⟩, rfl, rfl⟩
  rcases slot_map_mem (f := fun l => l.map (AV.ren ns)) (d := d) (t := t) with h0 | ⟨q, hq, rfl, hs⟩
  · rw [h0]; trivial
  · rw [hs]
    have hq' : q ∈ pick b.h s.t (io ++ bits 4096 0 live) := by rw [h.h, ht]; exact hq
    obtain ⟨hn, hne⟩ := pick_mem hq'
    obtain ⟨hlen, hget⟩ := normL_ok hn
    have hsl := h.sl.sl q.1
    have hav : ∀ (i : Nat) a0 V, (slot s.t q.1)[i]? = some a0 → b.av a0 V → ∀ a1, q.2[i]? = some a1 → (reB b ns (Ev.hget (hren s.h ns 0))).av (AV.ren ns a1) V := fun i a0 V h0 hv a1 h1 => by
      obtain ⟨a0', h2, h3⟩ := hget i a1 h1
      rw [h0] at h2; injection h2 with h2; subst h2
      refine av_ren hrl g1 hh hv h3 fun l hl => g3 q hq l ?_
      have : ∀ {vs : List AV} {i : Nat} {a1 : AV}, vs[i]? = some a1 → l ∈ AV.ids [a1] → l ∈ AV.ids vs := by
        intro vs
        induction vs with
        | nil => intro i a1 h; simp at h
        | cons v vs ih =>
          intro i a1 h hl
          cases i with
          | zero => simp at h; subst h; exact ids_cons.mpr (.inl hl)
          | succ i => exact ids_cons.mpr (.inr (ih (by simpa using h) hl))
      exact this h1 hl
    generalize hqs : q.2 = vs at *
    generalize hts : slot s.t q.1 = ts at *
    match vs, ts, hlen with
    | [], _, _ => exact (hne rfl).elim
    | [v], [t0], _ => exact hav 0 t0 _ rfl hsl v rfl
    | v1 :: v2 :: vs, t1 :: t2 :: ts, hlen =>
      obtain ⟨Vs, e1, e2, e3⟩ := hsl
      refine ⟨Vs, e1, by rw [e2]; simp at hlen ⊢; omega, fun i x V hx hV => ?_⟩
      change ((v1 :: v2 :: vs).map (AV.ren ns))[i]? = some x at hx
      rw [List.getElem?_map, Option.map_eq_some_iff] at hx
      obtain ⟨a1, ha1, rfl⟩ := hx
      obtain ⟨a0, h2, _⟩ := hget i a1 ha1
      exact hav i a0 V h2 (e3 i a0 V h2 hV) a1 ha1
end
end Ev
end

section
namespace Ev
open Go

def items : List It → List Item
  | [] => []
  | .c c :: k => .code c :: items k
  | .blk id :: k => .inBlock id :: items k
  | .lp c :: k => .inLoop c :: items k
  | .cut :: k => items k

/-- From here on the code runs to its end, and leaves G. -/
def Goes (P : Program) (G : Act → World → Prop) (k : List It) (a : Act) (w : World) : Prop :=
  ∀ (b : Frame) (cs : List Frame), ∃ a' w' todo, G a' w' ∧ Steps P (lone (b.at a (items k)) cs w) (lone { b.at a' todo with mode := .returning } cs w')

def codeOk (N : Nat) : Code → Bool
  | .region _ ops _ => ops.toList.all (operOk N)
  | .seq a b => codeOk N a && codeOk N b
  | .cond c a b => tmpOk N c && (codeOk N a && codeOk N b)
  | .block _ c => codeOk N c
  | .loop c => codeOk N c
  | _ => true
def itOk (N : Nat) : It → Bool
  | .c c => codeOk N c
  | .lp c => codeOk N c
  | _ => true
def kOk (N : Nat) (k : List It) : Bool := k.all (itOk N)

section
variable {P : Program} {G : Act → World → Prop}

theorem Goes.step {k k' : List It} {a a' : Act} {w w' : World} (h : Goes P G k' a' w') (hs : ∀ (b : Frame) (cs : List Frame), Steps P (lone (b.at a (items k)) cs w) (lone (b.at a' (items k')) cs w')) : Goes P G k a w := by
  intro b cs
  obtain ⟨a2, w2, todo, h1, h2⟩ := h b cs
  exact ⟨a2, w2, todo, h1, (hs b cs).trans h2⟩

theorem steps_inLoop {b : Frame} {a a' : Act} {c : Code} {k todo : List Item} {cs : List Frame} {w w' : World} (h : Steps P (lone (b.at a (.inLoop c :: k)) cs w) (lone { b.at a' todo with mode := .returning } cs w')) :
    Steps P (lone (b.at a (.code c :: .inLoop c :: k)) cs w) (lone { b.at a' todo with mode := .returning } cs w') := by
  obtain ⟨n, hn⟩ := h
  cases n with
  | zero =>
    simp only [runN] at hn
    simp [lone, Frame.at] at hn
  | succ n =>
    simp only [runN, step_inLoop] at hn
    exact ⟨n, hn⟩

theorem unwind_exit {id : Nat} : ∀ {k k' : List It}, unwind id k = some k' → exitTo id (items k) = some (items k') := by
  intro k
  induction k with
  | nil => intro k' h; simp [unwind] at h
  | cons i k ih =>
    intro k' h
    cases i with
    | blk j =>
      simp only [unwind] at h
      simp only [items, exitTo]
      by_cases hj : j = id
      · subst hj
        rw [Nat.beq_refl, cond_true] at h; injection h with h; subst h; simp
      · rw [beq_ne hj, cond_false] at h
        rw [if_neg (by simpa using hj)]
        exact ih h
    | c c => simp only [unwind] at h; simp only [items, exitTo]; exact ih h
    | lp c => simp only [unwind] at h; simp only [items, exitTo]; exact ih h
    | cut => simp only [unwind] at h; simp only [items]; exact ih h

theorem unwind_ok {id N : Nat} : ∀ {k k' : List It}, unwind id k = some k' → kOk N k = true → kOk N k' = true := by
  intro k
  induction k with
  | nil => intro k' h; simp [unwind] at h
  | cons i k ih =>
    intro k' h hk
    simp only [kOk, List.all_cons, Bool.and_eq_true] at hk
    cases i with
    | blk j =>
      simp only [unwind] at h
      by_cases hj : j = id
      · subst hj
        rw [Nat.beq_refl, cond_true] at h; injection h with h; subst h; exact hk.2
      · rw [beq_ne hj, cond_false] at h; exact ih h hk.2
    | c c => simp only [unwind] at h; exact ih h hk.2
    | lp c => simp only [unwind] at h; exact ih h hk.2
    | cut => simp only [unwind] at h; exact ih h hk.2

/-- The state of a call under way. -/
structure Inv (O : Nat → Prop) (N : Nat) (X : Nat → Value) (S0 : Nat → Prop) (w0 : World) (b : Bd) (a : Act) (s : St) : Prop where
  me : Me O N X b a s
  kp : Kp O S0 b.S w0 b.w
  defers : a.defers = []

variable {R : Type} {F : FEnv} {fin : St → Option R} {O S0 : Nat → Prop} {X : Nat → Value} {N : Nat} {w0 : World} {out : R}

theorem Inv.clean {b : Bd} {a : Act} {s : St} (h : Inv O N X S0 w0 b a s) (io : List Nat) (live : Nat) : ∃ b', Inv O N X S0 w0 b' a (Ev.clean io live s) ∧ b'.w = b.w := by
  obtain ⟨b', h1, h2, h3⟩ := clean_ok (io := io) (live := live) h.me
  exact ⟨b', ⟨h1, by rw [h2, h3]; exact h.kp, h.defers⟩, h2⟩

theorem seg_ok (hT : TOk P F.E.TT) (hΦ : ∀ m, m ∈ F.E.Φ → Sound P m) (hmix : P.follows .mixedOrders = true) {r : List It → St → Option R}
    (hfin : ∀ s, fin s = some out → ∀ b a, Inv O N X S0 w0 b a s → G a b.w)
    (hr : ∀ k s, r k s = some out → kOk N k = true → ∀ b a, Inv O N X S0 w0 b a s → Goes P G k a b.w) :
    ∀ (n : Nat) (k : List It) (s : St), segRun F fin r n k s = some out → kOk N k = true → ∀ b a, Inv O N X S0 w0 b a s → Goes P G k a b.w := by
  intro n
  induction n with
  | zero => intro k s e; simp [segRun] at e
  | succ n ih =>
    intro k s e hk b a hinv
    cases k with
    | nil =>
      simp only [segRun] at e
      exact fun fb cs => ⟨a, b.w, [], hfin s e b a hinv, .one step_end⟩
    | cons it k =>
      simp only [kOk, List.all_cons, Bool.and_eq_true] at hk
      have hk2 : kOk N k = true := hk.2
      cases it with
      | cut =>
        simp only [segRun] at e
        obtain ⟨b', h1, h2⟩ := hinv.clean F.io (lvK F.rm k).1
        have := hr _ _ e hk2 b' a h1
        rw [h2] at this
        exact this
      | blk id =>
        simp only [segRun] at e
        exact (ih k s e hk2 b a hinv).step fun fb cs => .one step_inBlock
      | lp c =>
        simp only [segRun] at e
        obtain ⟨b', h1, h2⟩ := hinv.clean F.io (lvK F.rm (.lp c :: k)).1
        have := hr _ _ e (by simp only [kOk, List.all_cons, Bool.and_eq_true]; exact hk) b' a h1
        rw [h2] at this
        exact this
      | c c =>
        have hc : codeOk N c = true := hk.1
        cases c with
        | skip =>
          simp only [segRun] at e
          exact (ih k s e hk2 b a hinv).step fun fb cs => .one step_skip
        | region id ops d =>
          simp only [segRun] at e
          simp only [codeOk, List.all_eq_true] at hc
          obtain ⟨s', e, hreg⟩ := region_ok (K := fun s => segRun F fin r n k s) (N := N) (Q := fun ex a' w' => match ex with | .normal => Goes P G k a' w' | _ => False) hT hΦ hc hmix e
          have := hreg O X b a hinv.me fun b' a' hme' hkp' hd' => ih k s' e hk2 b' a' ⟨hme', hinv.kp.trans hkp', hd'.trans hinv.defers⟩
          intro fb cs
          obtain ⟨ex, a', w', hq, harr⟩ := this fb (items k) cs
          cases ex with
          | normal =>
            obtain ⟨a2, w2, todo, h1, h2⟩ := hq fb cs
            exact ⟨a2, w2, todo, h1, Steps.trans harr h2⟩
          | _ => exact hq.elim
        | seq x y =>
          simp only [segRun] at e
          simp only [codeOk, Bool.and_eq_true] at hc
          exact (ih (.c x :: .c y :: k) s e (by simp only [kOk, List.all_cons, itOk, Bool.and_eq_true]; exact ⟨hc.1, hc.2, hk2⟩) b a hinv).step fun fb cs => .one step_seq
        | cond c x y =>
          simp only [codeOk, Bool.and_eq_true] at hc
          obtain ⟨hct, hcx, hcy⟩ := hc
          have fin2 : ∀ (t : Bool), a.eval c = .bool t → (cond (falls x && falls y) (cond t (segRun F fin r n (.c x :: .cut :: k) s) (segRun F fin r n (.c y :: .cut :: k) s)) (cond t (segRun F fin r n (.c x :: k) s) (segRun F fin r n (.c y :: k) s))) = some out → Goes P G (.c (.cond c x y) :: k) a b.w := by
            intro t ht e
            have hx1 : kOk N (.c x :: .cut :: k) = true := by simp only [kOk, List.all_cons, itOk, Bool.and_eq_true]; exact ⟨hcx, trivial, hk2⟩
            have hy1 : kOk N (.c y :: .cut :: k) = true := by simp only [kOk, List.all_cons, itOk, Bool.and_eq_true]; exact ⟨hcy, trivial, hk2⟩
            have hx2 : kOk N (.c x :: k) = true := by simp only [kOk, List.all_cons, itOk, Bool.and_eq_true]; exact ⟨hcx, hk2⟩
            have hy2 : kOk N (.c y :: k) = true := by simp only [kOk, List.all_cons, itOk, Bool.and_eq_true]; exact ⟨hcy, hk2⟩
            cases hf : (falls x && falls y) with
            | true =>
              rw [hf, cond_true] at e
              cases t with
              | true => exact (ih _ s e hx1 b a hinv).step fun fb cs => .one (step_cond (t := true) ht)
              | false => exact (ih _ s e hy1 b a hinv).step fun fb cs => .one (step_cond (t := false) ht)
            | false =>
              rw [hf, cond_false] at e
              cases t with
              | true => exact (ih _ s e hx2 b a hinv).step fun fb cs => .one (step_cond (t := true) ht)
              | false => exact (ih _ s e hy2 b a hinv).step fun fb cs => .one (step_cond (t := false) ht)
          simp only [segRun] at e
          split at e
          · rename_i d
            split at e
            · rename_i t ht
              refine fin2 t ?_ e
              have hv := hinv.me.sl.sl d
              rw [ht] at hv
              have hv := (av_bool (U := b.U) (h := b.h) (Pl := b.Pl)).mp hv
              have hd : d < a.tmps.size := by rw [hinv.me.size]; exact blt_lt hct
              unfold Vl at hv
              rw [if_pos hd] at hv
              exact hv
            · cases e
          · rename_i t
            have hx2 : kOk N (.c x :: k) = true := by simp only [kOk, List.all_cons, itOk, Bool.and_eq_true]; exact ⟨hcx, hk2⟩
            have hy2 : kOk N (.c y :: k) = true := by simp only [kOk, List.all_cons, itOk, Bool.and_eq_true]; exact ⟨hcy, hk2⟩
            cases t with
            | true => exact (ih _ s e hx2 b a hinv).step fun fb cs => .one (step_cond (t := true) rfl)
            | false => exact (ih _ s e hy2 b a hinv).step fun fb cs => .one (step_cond (t := false) rfl)
          · cases e
        | block id c =>
          simp only [codeOk] at hc
          simp only [segRun] at e
          cases hb : Nat.ble 2 (nExits id c + cond (falls c) 1 0) with
          | true =>
            rw [hb, cond_true] at e
            exact (ih (.c c :: .blk id :: .cut :: k) s e (by simp only [kOk, List.all_cons, itOk, Bool.and_eq_true]; exact ⟨hc, trivial, trivial, hk2⟩) b a hinv).step fun fb cs => .one step_block
          | false =>
            rw [hb, cond_false] at e
            exact (ih (.c c :: .blk id :: k) s e (by simp only [kOk, List.all_cons, itOk, Bool.and_eq_true]; exact ⟨hc, trivial, hk2⟩) b a hinv).step fun fb cs => .one step_block
        | loop c =>
          simp only [codeOk] at hc
          simp only [segRun] at e
          obtain ⟨b', h1, h2⟩ := hinv.clean F.io (lvK F.rm (.lp c :: k)).1
          have := hr _ _ e (by simp only [kOk, List.all_cons, itOk, Bool.and_eq_true]; exact ⟨hc, hk2⟩) b' a h1
          rw [h2] at this
          intro fb cs
          obtain ⟨a2, w2, todo, q1, q2⟩ := this fb cs
          refine ⟨a2, w2, todo, q1, .head step_loop ?_⟩
          exact steps_inLoop q2
        | exit id =>
          simp only [segRun] at e
          split at e
          · rename_i k' hu
            exact (ih k' s e (unwind_ok hu hk2) b a hinv).step fun fb cs => .one (step_exit (unwind_exit hu))
          · cases e
        | ret =>
          simp only [segRun] at e
          exact fun fb cs => ⟨a, b.w, _, hfin s e b a hinv, .one step_ret⟩
        | _ => simp [segRun] at e
end
end Ev
end

section
namespace Ev
open Go

section
variable {R : Type} {E : Env}

theorem evOps_inv {reg n : Nat} {all : List Oper} {out : R} : ∀ {os : List Oper} {i : Nat} {t : List (Nat × List AV)} {h : List (Nat × Entry)} {r : List Rec} {K : List (Nat × List AV) → List (Nat × Entry) → List Rec → Option R},
    evOps E reg all n i os t h r K = some out → ∃ t' h' r', K t' h' r' = some out ∧ ∀ K' : List (Nat × List AV) → List (Nat × Entry) → List Rec → Option R, evOps E reg all n i os t h r K' = K' t' h' r' := by
  intro os
  induction os with
  | nil => intro i t h r K e; exact ⟨t, h, r, e, fun K' => rfl⟩
  | cons o os ih =>
    intro i t h r K e
    have go : ∀ (t1 : List (Nat × List AV)), evOp E reg i (n + 16 * i) t1 (hget h) o (fun v ups => evOps E reg all n (i + 1) os (putT t1 o.dst v) (app ups h) (⟨i, opIds t o, ups.map (·.1)⟩ :: r) K) = some out →
        ∃ t' h' r', K t' h' r' = some out ∧ ∀ K' : List (Nat × List AV) → List (Nat × Entry) → List Rec → Option R, evOp E reg i (n + 16 * i) t1 (hget h) o (fun v ups => evOps E reg all n (i + 1) os (putT t1 o.dst v) (app ups h) (⟨i, opIds t o, ups.map (·.1)⟩ :: r) K') = K' t' h' r' := by
      intro t1 e
      obtain ⟨v, ups, h1, e⟩ := evOp_inv e
      obtain ⟨t', h', r', e, hK⟩ := ih e
      refine ⟨t', h', r', e, fun K' => ?_⟩
      rw [evOp_nat, h1]
      exact hK K'
    simp only [evOps] at e
    split at e
    · rename_i hg
      obtain ⟨t', h', r', e, hK⟩ := go t e
      exact ⟨t', h', r', e, fun K' => by simp only [evOps, hg]; exact hK K'⟩
    · rename_i j want hg
      split at e
      · rename_i d hd
        split at e
        · rename_i b hs
          cases b with
          | true =>
            rw [cond_true] at e
            cases want with
            | true =>
              rw [cond_true] at e
              obtain ⟨t', h', r', e, hK⟩ := go _ e
              exact ⟨t', h', r', e, fun K' => by simp only [evOps, hg, hd, hs, cond_true]; exact hK K'⟩
            | false =>
              rw [cond_false] at e
              obtain ⟨t', h', r', e, hK⟩ := ih e
              exact ⟨t', h', r', e, fun K' => by simp only [evOps, hg, hd, hs, cond_true, cond_false]; exact hK K'⟩
          | false =>
            rw [cond_false] at e
            cases want with
            | true =>
              rw [cond_true] at e
              obtain ⟨t', h', r', e, hK⟩ := ih e
              exact ⟨t', h', r', e, fun K' => by simp only [evOps, hg, hd, hs, cond_true, cond_false]; exact hK K'⟩
            | false =>
              rw [cond_false] at e
              obtain ⟨t', h', r', e, hK⟩ := go _ e
              exact ⟨t', h', r', e, fun K' => by simp only [evOps, hg, hd, hs, cond_false]; exact hK K'⟩
        · rename_i x hs
          obtain ⟨t', h', r', e, hK⟩ := ih e
          exact ⟨t', h', r', e, fun K' => by simp only [evOps, hg, hd, hs]; exact hK K'⟩
        · cases e
      · cases e

variable {F : FEnv} {fin : St → Option R} {out : R}

/-- A piece comes to its end, or hands on to one other piece. -/
theorem seg_tail {r : List It → St → Option R} : ∀ (n : Nat) (k : List It) (s : St), segRun F fin r n k s = some out →
    (∀ r', segRun F fin r' n k s = some out) ∨ ∃ k' s', r k' s' = some out ∧ ∀ r', segRun F fin r' n k s = r' k' s' := by
  intro n
  induction n with
  | zero => intro k s e; simp [segRun] at e
  | succ n ih =>
    intro k s e
    cases k with
    | nil => exact .inl fun r' => by simp only [segRun] at e ⊢; exact e
    | cons it k =>
      cases it with
      | cut => exact .inr ⟨_, _, by simpa only [segRun] using e, fun r' => by simp only [segRun]⟩
      | blk id =>
        simp only [segRun] at e
        rcases ih _ _ e with h | ⟨k', s', h1, h2⟩
        · exact .inl fun r' => by simp only [segRun]; exact h r'
        · exact .inr ⟨k', s', h1, fun r' => by simp only [segRun]; exact h2 r'⟩
      | lp c => exact .inr ⟨_, _, by simpa only [segRun] using e, fun r' => by simp only [segRun]⟩
      | c c =>
        have pass : ∀ {k2 : List It} {s2 : St}, segRun F fin r n k2 s2 = some out → (∀ r', segRun F fin r' (n + 1) (.c c :: k) s = segRun F fin r' n k2 s2) →
            (∀ r', segRun F fin r' (n + 1) (.c c :: k) s = some out) ∨ ∃ k' s', r k' s' = some out ∧ ∀ r', segRun F fin r' (n + 1) (.c c :: k) s = r' k' s' := by
          intro k2 s2 e h
          rcases ih _ _ e with h1 | ⟨k', s', h1, h2⟩
          · exact .inl fun r' => by rw [h]; exact h1 r'
          · exact .inr ⟨k', s', h1, fun r' => by rw [h]; exact h2 r'⟩
        cases c with
        | skip => simp only [segRun] at e; exact pass e fun r' => by simp only [segRun]
        | region id ops d =>
          simp only [segRun] at e
          obtain ⟨t', h', r1, e, hK⟩ := evOps_inv e
          obtain ⟨hc, e⟩ := cond_some e
          exact pass e fun r' => by simp only [segRun]; rw [hK]; rw [hc, cond_true]
        | seq x y => simp only [segRun] at e; exact pass e fun r' => by simp only [segRun]
        | cond c x y =>
          simp only [segRun] at e
          split at e
          · rename_i d
            split at e
            · rename_i t ht
              cases hf : (falls x && falls y) with
              | true =>
                rw [hf, cond_true] at e
                cases t with
                | true => exact pass e fun r' => by simp only [segRun, ht, hf, cond_true]
                | false => exact pass e fun r' => by simp only [segRun, ht, hf, cond_true, cond_false]
              | false =>
                rw [hf, cond_false] at e
                cases t with
                | true => exact pass e fun r' => by simp only [segRun, ht, hf, cond_true, cond_false]
                | false => exact pass e fun r' => by simp only [segRun, ht, hf, cond_false]
            · cases e
          · rename_i t
            cases t with
            | true => exact pass e fun r' => by simp only [segRun, cond_true]
            | false => exact pass e fun r' => by simp only [segRun, cond_false]
          · cases e
        | block id c =>
          simp only [segRun] at e
          cases hb : Nat.ble 2 (nExits id c + cond (falls c) 1 0) with
          | true => rw [hb, cond_true] at e; exact pass e fun r' => by simp only [segRun, hb, cond_true]
          | false => rw [hb, cond_false] at e; exact pass e fun r' => by simp only [segRun, hb, cond_false]
        | loop c => exact .inr ⟨_, _, by simpa only [segRun] using e, fun r' => by simp only [segRun]⟩
        | exit id =>
          simp only [segRun] at e
          split at e
          · rename_i k' hu; exact pass e fun r' => by simp only [segRun, hu]
          · cases e
        | ret => exact .inl fun r' => by simp only [segRun] at e ⊢; exact e
        | _ => simp [segRun] at e

def runN (F : FEnv) (fin : St → Option R) : Nat → List It → St → Option R
  | 0, _, _ => none
  | n + 1, k, s => seg F fin (runN F fin n) k s

theorem runN_mono : ∀ {n : Nat} {k : List It} {s : St}, runN F fin n k s = some out → ∀ m, n ≤ m → runN F fin m k s = some out := by
  intro n
  induction n with
  | zero => intro k s h; simp [runN] at h
  | succ n ih =>
    intro k s h m hm
    cases m with
    | zero => omega
    | succ m =>
      simp only [runN, seg] at h ⊢
      rcases seg_tail _ _ _ h with h1 | ⟨k', s', h1, h2⟩
      · exact h1 _
      · rw [h2]; exact ih h1 m (by omega)

open Classical in
noncomputable def run (F : FEnv) (fin : St → Option R) (k : List It) (s : St) : Option R :=
  if h : ∃ n, (runN F fin n k s).isSome = true then runN F fin h.choose k s else none

theorem run_some {k : List It} {s : St} : run F fin k s = some out ↔ ∃ n, runN F fin n k s = some out := by
  unfold run
  constructor
  · intro h
    split at h
    · exact ⟨_, h⟩
    · cases h
  · rintro ⟨n, hn⟩
    have h : ∃ n, (runN F fin n k s).isSome = true := ⟨n, by rw [hn]; rfl⟩
    rw [dif_pos h]
    obtain ⟨o, ho⟩ := Option.isSome_iff_exists.mp h.choose_spec
    have h1 := runN_mono ho (max n h.choose) (Nat.le_max_right _ _)
    have h2 := runN_mono hn (max n h.choose) (Nat.le_max_left _ _)
    rw [ho, ← h1, h2]

theorem run_eq (k : List It) (s : St) : run F fin k s = seg F fin (run F fin) k s := by
  apply Option.ext
  intro o
  constructor
  · intro h
    obtain ⟨n, hn⟩ := run_some.mp h
    cases n with
    | zero => simp [runN] at hn
    | succ n =>
      simp only [runN, seg] at hn
      show segRun F fin (run F fin) fuel (enter k) s = some o
      rcases seg_tail _ _ _ hn with h1 | ⟨k', s', h1, h2⟩
      · exact h1 _
      · rw [h2]; exact run_some.mpr ⟨n, h1⟩
  · intro h
    refine run_some.mpr ?_
    rcases seg_tail (F := F) (fin := fin) _ _ _ h with h1 | ⟨k', s', h1, h2⟩
    · exact ⟨1, h1 _⟩
    · obtain ⟨n, hn⟩ := run_some.mp h1
      exact ⟨n + 1, by simp only [runN, seg]; rw [h2]; exact hn⟩
end

section
variable {P : Program} {G : Act → World → Prop} {R : Type} {F : FEnv} {fin : St → Option R} {O S0 : Nat → Prop} {X : Nat → Value} {N : Nat} {w0 : World} {out : R}

theorem enter_ok {k : List It} (h : kOk N k = true) : kOk N (enter k) = true := by
  unfold enter
  split
  · simp only [kOk, List.all_cons, itOk, Bool.and_eq_true] at h ⊢; exact ⟨h.1, h.1, h.2⟩
  · exact h

theorem run_ok (hT : TOk P F.E.TT) (hΦ : ∀ m, m ∈ F.E.Φ → Sound P m) (hmix : P.follows .mixedOrders = true)
    (hfin : ∀ s, fin s = some out → ∀ b a, Inv O N X S0 w0 b a s → G a b.w) {k : List It} {s : St} (e : run F fin k s = some out) (hk : kOk N k = true) {b : Bd} {a : Act} (hinv : Inv O N X S0 w0 b a s) : Goes P G k a b.w := by
  obtain ⟨n, hn⟩ := run_some.mp e
  clear e
  induction n generalizing k s b a with
  | zero => simp [runN] at hn
  | succ n ih =>
    simp only [runN, seg] at hn
    have := seg_ok (P := P) hT hΦ hmix hfin (fun k s e hk b a hi => ih hk hi e) _ _ _ hn (enter_ok hk) b a hinv
    unfold enter at this
    split at this
    · exact this.step fun fb cs => .one step_inLoop
    · exact this
end
end Ev
end

section
namespace Ev
open Go

def entT1 (N : Nat) : (p : Prm) → p.ty.den → Nat → List (Nat × List AV) → List (Nat × List AV)
  | .imm τ, x, d, t => (d, [.imm τ x]) :: t
  | .io _ _ false, _, d, t => (d, [.ref d [] 0]) :: (N + d, [.ref d [] 0]) :: t
  | .io _ _ true, _, d, t => (d, [.adr d [] 0]) :: (N + d, [.adr d [] 0]) :: t
  | .take _ _, _, d, t => (d, [.ref d [] 0]) :: t
def entH1 : (p : Prm) → p.ty.den → Nat → List (Nat × Entry) → List (Nat × Entry)
  | .imm _, _, _, h => h
  | .io τ m mem, x, d, h => (d, ⟨τ, x, m, mem, false, 0⟩) :: h
  | .take τ m, x, d, h => (d, ⟨τ, x, m, false, false, 0⟩) :: h
/-- The slots of a call's beginning: the arguments; those that are handed back once more, beyond the code's own slots. -/
def entT (N : Nat) : (ps : List Prm) → (chain (ps.map Prm.ty)).den → Nat → List (Nat × List AV) → List (Nat × List AV)
  | [], _, _, t => t
  | [p], x, d, t => entT1 N p x d t
  | p :: q :: ps, x, d, t => entT N (q :: ps) x.2 (d + 1) (entT1 N p x.1 d t)
def entH : (ps : List Prm) → (chain (ps.map Prm.ty)).den → Nat → List (Nat × Entry) → List (Nat × Entry)
  | [], _, _, h => h
  | [p], x, d, h => entH1 p x d h
  | p :: q :: ps, x, d, h => entH (q :: ps) x.2 (d + 1) (entH1 p x.1 d h)

section
variable {O : Nat → Prop}

theorem hget_cons {h : List (Nat × Entry)} {d : Nat} {e : Entry} : hget ((d, e) :: h) = upd (hget h) d (some e) := by
  funext l
  simp only [hget, upd]
  by_cases hl : l = d
  · subst hl; simp [Nat.beq_refl]
  · rw [beq_ne fun e => hl e.symm, cond_false, if_neg hl]

theorem slot_cons {t : List (Nat × List AV)} {d k : Nat} {v : List AV} : slot ((d, v) :: t) k = if k = d then v else slot t k := by
  simp only [slot]
  by_cases hl : k = d
  · subst hl; simp [Nat.beq_refl]
  · rw [beq_ne fun e => hl e.symm, cond_false, if_neg hl]

theorem ent1_ok {b : Bd} {N d : Nat} {p : Prm} {x : p.ty.den} {V : Value} {F : Nat → Prop} {t : List (Nat × List AV)} {h : List (Nat × Entry)} {val : Nat → Value} (hr : b.rl O) (hh : b.h = hget h) (hU : ∀ l, b.U l → l < d)
    (hsl : ∀ k, SlOk b.U b.h b.c b.S b.Pl (slot t k) (val k)) (hA : ArgAt (wcf b.w nil0) b.S p x V F) (hF : Free O b F) (hv : val d = V ∧ val (N + d) = V) :
    ∃ b', b'.rl O ∧ b'.h = hget (entH1 p x d h) ∧ (∀ l, b'.U l → l < d + 1) ∧ (∀ k, SlOk b'.U b'.h b'.c b'.S b'.Pl (slot (entT1 N p x d t) k) (val k)) ∧ b'.w = b.w ∧ b'.S = b.S ∧ ∀ F2, Free O b F2 → (∀ k, F k → ¬ F2 k) → Free O b' F2 := by
  have hid : ¬ b.U d := fun h => by have := hU d h; omega
  have own : ∀ (τ : Ty) (m : Mask) (x : τ.den), (∃ vs, Own (wcf b.w nil0) b.S ⟨τ, x, m⟩ V vs F) → ∃ b', Mv O b b' ∧ b'.h = upd b.h d (some ⟨τ, x, m, false, false, 0⟩) ∧ b'.w = b.w ∧ (∀ l, b'.U l → l < d + 1) ∧ b'.S = b.S ∧ b'.av (.ref d [] 0) V ∧ ∀ F2, Free O b F2 → (∀ k, F k → ¬ F2 k) → Free O b' F2 := by
    intro τ m x ⟨vs, ho⟩
    obtain ⟨b', h1, h2, h3, h4, h5, h6, h7⟩ := Mv.newDet' (v := 0) hr hid (ho.cf (G' := b.G) fun _ h => h) hF
    refine ⟨b', h1, h2, h3, fun l hl => ?_, h5, h7, fun F2 hF2 hd k hk => ?_⟩
    · rw [h4] at hl
      rcases hl with hl | rfl
      · have := hU l hl; omega
      · omega
    · obtain ⟨a1, a2, a3⟩ := hF2 k hk
      refine ⟨a1, by rw [h5]; exact a2, fun l e he hfk => ?_⟩
      rw [h2] at he
      rw [h6] at hfk
      by_cases hl : l = d
      · subst hl; simp only [upd_same] at hfk; exact hd k hfk hk
      · simp only [upd_ne _ _ hl] at he hfk; exact a3 l e he hfk
  cases p with
  | imm τ =>
    obtain ⟨hF0, vs, h1, h2⟩ := hA
    refine ⟨b, hr, hh, fun l hl => by have := hU l hl; omega, fun k => ?_, rfl, rfl, fun F2 h _ => h⟩
    simp only [entT1, slot_cons]
    by_cases hk : k = d
    · subst hk
      simp only [if_true]
      rw [hv.1]
      exact .inr ⟨vs, h1, h2.1, h2.2.move (fun _ _ => rfl) fun k hk => ⟨hk, fun _ => rfl⟩⟩
    · rw [if_neg hk]; exact hsl k
  | take τ m =>
    obtain ⟨b', h1, h2, h3, h4, h5, h6, h7⟩ := own τ m x hA
    refine ⟨b', h1.rl, by rw [h2, hh]; simp only [entH1, hget_cons], h4, fun k => ?_, h3, h5, h7⟩
    simp only [entT1, slot_cons]
    by_cases hk : k = d
    · subst hk; simp only [if_true]; rw [hv.1]; exact h6
    · rw [if_neg hk]; exact (hsl k).map h1.av
  | io τ m mem =>
    cases mem with
    | false =>
      obtain ⟨b', h1, h2, h3, h4, h5, h6, h7⟩ := own τ m x hA
      refine ⟨b', h1.rl, by rw [h2, hh]; simp only [entH1, hget_cons], h4, fun k => ?_, h3, h5, h7⟩
      simp only [entT1, slot_cons]
      by_cases hk : k = d
      · subst hk; simp only [if_true]; rw [hv.1]; exact h6
      · rw [if_neg hk]
        by_cases hk2 : k = N + d
        · subst hk2; simp only [if_true]; rw [hv.2]; exact h6
        · rw [if_neg hk2]; exact (hsl k).map h1.av
    | true =>
      obtain ⟨bb, o, F', hV, ho, hnb, hFi, n, hbk, hle⟩ := hA
      have hadd := Mv.add (b := b) (l := d) (e := ⟨τ, x, m, true, false, 0⟩) (vs := []) (p := (bb, o)) (F := F) hr hid (by
          unfold EntOk
          simp only [Bool.false_eq_true, if_false, base, if_true]
          exact ⟨F', ho.move (fun _ _ => rfl) (fun k hk => ⟨fun e => by injection e with e; exact hnb (by rw [e]; exact hk), rfl, fun _ => rfl⟩) fun k hk => ⟨hk, fun _ => rfl⟩, fun k hk e => by injection e with e; exact hnb (by rw [e]; exact hk), hFi, n, hbk, hle⟩)
        (fun h => by cases h) (fun k hk => ⟨(hF k hk).1, (hF k hk).2.1⟩) (fun k e' y he hy hF' => (hF y hF').2.2 k e' he hy)
      have hav : AvOk (fun k => b.U k ∨ k = d) (upd b.h d (some ⟨τ, x, m, true, false, 0⟩)) (wcf b.w (upd b.G d [])) b.S (upd b.Pl d (bb, o)) (.adr d [] 0) V := by
        refine ⟨.inr rfl, fun e he => ?_⟩
        simp only [upd_same, Option.some.injEq] at he
        subst he
        refine ⟨Nat.le_refl _, fun _ => ⟨trivial, .inl rfl, τ, bb, o, ?_, hV⟩⟩
        simp [loc, base]
      refine ⟨_, hadd.rl, by simp only [hh, entH1, hget_cons], fun l hl => ?_, fun k => ?_, rfl, rfl, fun F2 hF2 hd k hk => ?_⟩
      · rcases hl with hl | rfl
        · have := hU l hl; omega
        · omega
      · simp only [entT1, slot_cons]
        by_cases hk : k = d
        · subst hk; simp only [if_true]; rw [hv.1]; exact hav
        · rw [if_neg hk]
          by_cases hk2 : k = N + d
          · subst hk2; simp only [if_true]; rw [hv.2]; exact hav
          · rw [if_neg hk2]; exact (hsl k).map hadd.av
      · obtain ⟨a1, a2, a3⟩ := hF2 k hk
        refine ⟨a1, a2, fun l e he hfk => ?_⟩
        by_cases hl : l = d
        · subst hl; simp only [upd_same] at hfk; exact hd k hfk hk
        · simp only [upd_ne _ _ hl] at he hfk; exact a3 l e he hfk

theorem ent_ok {N : Nat} {val : Nat → Value} : ∀ {ps : List Prm} {x : (chain (ps.map Prm.ty)).den} {Vs : List Value} {d : Nat} {b : Bd} {F : Nat → Prop} {t : List (Nat × List AV)} {h : List (Nat × Entry)}, b.rl O → b.h = hget h → (∀ l, b.U l → l < d) →
    (∀ k, SlOk b.U b.h b.c b.S b.Pl (slot t k) (val k)) → ArgsAt (wcf b.w nil0) b.S ps x Vs F → Free O b F → (∀ i V, Vs[i]? = some V → val (d + i) = V ∧ val (N + (d + i)) = V) →
    ∃ b' : Bd, b'.rl O ∧ b'.h = hget (entH ps x d h) ∧ (∀ l, b'.U l → l < d + ps.length) ∧ (∀ k, SlOk b'.U b'.h b'.c b'.S b'.Pl (slot (entT N ps x d t) k) (val k)) ∧ b'.w = b.w ∧ b'.S = b.S := by
  intro ps
  induction ps with
  | nil =>
    intro x Vs d b F t h hr hh hU hsl hA hF hv
    exact ⟨b, hr, hh, fun l hl => by have := hU l hl; simp; omega, hsl, rfl, rfl⟩
  | cons p ps ih =>
    intro x Vs d b F t h hr hh hU hsl hA hF hv
    cases ps with
    | nil =>
      match Vs, hA with
      | [V], hA =>
        obtain ⟨b', h1, h2, h3, h4, h5, h6, _⟩ := ent1_ok (N := N) hr hh hU hsl hA hF (by simpa using hv 0 V rfl)
        exact ⟨b', h1, h2, by simpa using h3, h4, h5, h6⟩
      | [], hA => exact hA.elim
      | _ :: _ :: _, hA => exact hA.elim
    | cons q ps =>
      match Vs, hA with
      | [], hA => exact hA.elim
      | V :: Vs, hA =>
        obtain ⟨F1, F2, hFi, hd, hA1, hA2⟩ := hA
        obtain ⟨b1, h1, h2, h3, h4, h5, h6, h7⟩ := ent1_ok (N := N) hr hh hU hsl hA1 (fun k hk => hF k ((hFi k).mpr (.inl hk))) (by simpa using hv 0 V rfl)
        obtain ⟨b2, g1, g2, g3, g4, g5, g6⟩ := ih (x := x.2) (d := d + 1) h1 h2 h3 h4 (by rw [h5, h6]; exact hA2) (h7 F2 (fun k hk => hF k ((hFi k).mpr (.inr hk))) hd)
          (fun i V hi => by have := hv (i + 1) V (by simpa using hi); rw [show d + 1 + i = d + (i + 1) by omega]; exact this)
        exact ⟨b2, g1, g2, fun l hl => by have := g3 l hl; simp at this ⊢; omega, g4, g5.trans h5, g6.trans h6⟩
end
end Ev
end

section
namespace Ev
open Go

def loadOk (E : Env) (T : TypeId) (t : Ty) : Bool := Nat.ble 1 t.size && (Nat.beq (szOf E T) t.size && cond (aggOf E T) t.agg (!t.agg))

/-- The address of a variable of one's own, as a result. -/
def finP (look : Nat → Option Entry) : (τ : Ty) → Mask → AV → Option (τ.den × List Nat × List Nat)
  | .ip u, .ar m, .adr l [] _ => match look l with
    | some e => cond (e.mem && (!e.fz && decide (e.m = m))) (match cast? e.τ u e.x with
      | some x => some (x, [l], [])
      | none => none) none
    | none => none
  | _, _, _ => none
/-- One result: what it is, the entries that it takes along, and those that stay as they are from now on. -/
def fin1 (E : Env) (N : Nat) (look : Nat → Option Entry) (t : List (Nat × List AV)) (τ : Ty) (m : Mask) (v : ResultVar) : Option (τ.den × List Nat × List Nat) :=
  match v with
  | .tmp d => cond (Nat.blt d N) (match slot t d with
    | [v] => cond m.isSh (match cont look v with
        | some u => match cast? u.τ τ u.x with
          | some x => some (x, [], AV.ids [v])
          | none => none
        | none => none)
      (match v with
        | .ref l [] _ => match look l with
          | some e => cond (!isPt τ m && (!e.mem && (!e.fz && decide (e.m = m)))) (match cast? e.τ τ e.x with
            | some x => some (x, [l], [])
            | none => none) none
          | none => none
        | v => finP look τ m v)
    | _ => none) none
  | .cell d T => cond (Nat.blt d N) (match slot t d with
    | [.adr l [] k] => match look l with
      | some e => cond (e.mem && loadOk E T e.τ) (match cast? e.τ τ e.x with
          | some x => cond m.isSh (some (x, [], [l])) (cond (!isPt τ m && (!e.fz && decide (e.m = m))) (some (x, [l], [])) none)
          | none => none) none
      | none => none
    | [.imm (.ip u) x] => cond (m.isSh && loadOk E T u) (match cast? u τ x with
        | some x => some (x, [], [])
        | none => none) none
    | _ => none) none

section
variable {P : Program} {E : Env} {O : Nat → Prop} {b : Bd}

theorem fin1_ok {N : Nat} {X : Nat → Value} {a : Act} {t : List (Nat × List AV)} {τ : Ty} {m : Mask} {v : ResultVar} {x : τ.den} {own sh : List Nat} (hT : TOk P E.TT) (hr : b.rl O) (hN : a.tmps.size = N) (hsl : Sl b a X (slot t))
    (e : fin1 E N b.h t τ m v = some (x, own, sh)) :
    ∃ V, (match v with | .tmp d => pure (a.tmps.getD d undef) | .cell d T => (do loadVar T (← asAddr (a.tmps.getD d undef))) : Sem Value).run P b.w = .ok V b.w ∧
      (∀ l, l ∈ own → ∃ e, b.h l = some e ∧ e.fz = false) ∧
      ∀ S' : Nat → Prop, (∀ k, b.S k → S' k) → (∀ l k, l ∈ sh → (b.h l).isSome = true → b.ft l k → S' k) → ∃ F, ResAt (wcf b.w nil0) S' τ m x V F ∧ ∀ k, F k → ∃ l, l ∈ own ∧ b.ft l k := by
  have slot_lt : ∀ {d : Nat} {v : AV}, Nat.blt d N = true → slot t d = [v] → b.av v (a.tmps.getD d undef) := fun {d v} hd hv => by
    have := hsl.sl d
    rw [hv] at this
    unfold Vl at this
    rw [if_pos (by rw [hN]; exact blt_lt hd)] at this
    exact this
  have shOwn : ∀ {τ : Ty} {x : τ.den} {V : Value} {S' : Nat → Prop}, AvR b.U b.h b.c S' b.Pl (.imm τ x) V → ∃ F, ResAt (wcf b.w nil0) S' τ .sh x V F ∧ ∀ k, F k → ∃ l, l ∈ ([] : List Nat) ∧ b.ft l k := fun {τ x V S'} ⟨vs, h1, h2⟩ =>
    ⟨fun _ => False, (ResAt.of (by cases τ <;> rfl)).mpr ⟨vs, h1, h2.1, OwnAt.sh_iff.mpr ⟨fun _ h => h, h2.2.move (fun _ _ => rfl) fun k hk => ⟨hk, fun _ => rfl⟩⟩⟩, fun _ h => h.elim⟩
  have ftS : ∀ {l : Nat} {S' : Nat → Prop}, (∀ l' k, l' ∈ [l] → (b.h l').isSome = true → b.ft l' k → S' k) → (b.h l).isSome = true → ∀ k, b.ft l k → S' k := fun h hs k hk => h _ k (by simp) hs hk
  unfold fin1 at e
  split at e
  · rename_i d
    obtain ⟨hd, e1⟩ := cond_some e
    clear e
    split at e1
    · rename_i v hv
      have hav := slot_lt hd hv
      refine ⟨a.tmps.getD d undef, by simp, ?_⟩
      cases hm : m.isSh with
      | true =>
        rw [hm, cond_true] at e1
        have hm := isSh_eq hm
        subst hm
        split at e1
        · rename_i u hu
          split at e1
          · rename_i x' hx
            simp only [Option.some.injEq, Prod.mk.injEq] at e1
            obtain ⟨rfl, rfl, rfl⟩ := e1
            refine ⟨fun l hl => by simp at hl, fun S' hS hF => ?_⟩
            obtain ⟨he, rfl⟩ := cast?_some hx
            have := cont_ok (S' := S') hr hav hu hS fun l k hl hs hk => hF l k hl hs hk
            obtain ⟨τu, xu, mu⟩ := u
            simp only at he this
            subst he
            exact shOwn this
          · cases e1
        · cases e1
      | false =>
        rw [hm, cond_false] at e1
        split at e1
        · rename_i l w
          split at e1
          · rename_i en hen
            obtain ⟨hc, e1⟩ := cond_some e1
            simp only [Bool.and_eq_true, Bool.not_eq_true', decide_eq_true_eq] at hc
            obtain ⟨hpt, hmem, hfz, hmm⟩ := hc
            split at e1
            · rename_i x' hx
              simp only [Option.some.injEq, Prod.mk.injEq] at e1
              obtain ⟨rfl, rfl, rfl⟩ := e1
              refine ⟨fun l' hl => by simp at hl; subst hl; exact ⟨en, hen, hfz⟩, fun S' hS hF => ?_⟩
              obtain ⟨vs, ho⟩ := av_ref_own hr hav hen hfz hmem
              obtain ⟨he, rfl⟩ := cast?_some hx
              subst hmm
              obtain ⟨τ1, x1, m1, mem1, fz1, v1⟩ := en
              simp only at he ho
              subst he
              exact ⟨b.ft l, (ResAt.of hpt).mpr ⟨vs, ho.nil0 hS⟩, fun k hk => ⟨l, by simp, hk⟩⟩
            · cases e1
          · cases e1
        · unfold finP at e1
          split at e1
          · rename_i t m' l w hne
            split at e1
            · rename_i en hen
              obtain ⟨hc, e1⟩ := cond_some e1
              simp only [Bool.and_eq_true, Bool.not_eq_true', decide_eq_true_eq] at hc
              obtain ⟨hmem, hfz, hmm⟩ := hc
              split at e1
              · rename_i x' hx
                simp only [Option.some.injEq, Prod.mk.injEq] at e1
                obtain ⟨rfl, rfl, rfl⟩ := e1
                refine ⟨fun l' hl => by simp at hl; subst hl; exact ⟨en, hen, hfz⟩, fun S' hS hF => ?_⟩
                obtain ⟨he, rfl⟩ := cast?_some hx
                subst hmm
                have hE := hr.ent l en hen
                unfold EntOk at hE
                rw [if_neg (by simp [hfz])] at hE
                obtain ⟨F', h1, h2, h34⟩ := hE
                rw [if_pos hmem] at h34
                obtain ⟨h3, n, hn, hle⟩ := h34
                obtain ⟨_, hav⟩ := hav
                obtain ⟨_, hav⟩ := hav en hen
                obtain ⟨_, _, u, bb, oo, hloc, hV⟩ := hav (by simp [aliveA, deref])
                obtain ⟨τ1, x1, m1, mem1, fz1, v1⟩ := en
                simp only at he h1 h2 h3 hn hle hloc hmem
                subst he
                subst hmem
                simp only [base, if_true] at h1 h2
                simp only [loc, base, if_true, Option.some.injEq, Prod.mk.injEq, Sum.inl.injEq] at hloc
                obtain ⟨rfl, e2, e3⟩ := hloc
                subst e2
                subst e3
                refine ⟨b.ft l, ⟨_, _, F', hV, h1.move (fun _ _ => rfl) (fun k hk => ⟨fun e => by injection e with e; subst e; exact h2 _ hk rfl, rfl, fun _ => rfl⟩) fun k hk => ⟨hS k hk, fun _ => rfl⟩, fun hk => h2 _ hk rfl, h3, n, hn, hle⟩, fun k hk => ⟨l, by simp, hk⟩⟩
              · cases e1
            · cases e1
          · cases e1
    · cases e1
  · rename_i d T
    obtain ⟨hd, e1⟩ := cond_some e
    clear e
    split at e1
    · rename_i l w hv
      have hav := slot_lt hd hv
      split at e1
      · rename_i en hen
        obtain ⟨hc, e1⟩ := cond_some e1
        rw [Bool.and_eq_true] at hc
        obtain ⟨hmem, hlo⟩ := hc
        unfold loadOk at hlo
        rw [Bool.and_eq_true] at hlo
        obtain ⟨i, hti, hsz, hag⟩ := load_facts hT hlo.2 (Nat.le_of_ble_eq_true hlo.1)
        obtain ⟨_, hav'⟩ := hav
        obtain ⟨_, hav'⟩ := hav' en hen
        obtain ⟨_, _, u, bb, q, hl, hV⟩ := hav' (by simp [aliveA, deref])
        simp only [loc, base, hmem, if_true, Option.some.injEq, Prod.mk.injEq, Sum.inl.injEq] at hl
        obtain ⟨_, rfl, rfl⟩ := hl
        have hE := hr.ent l en hen
        -- the cells
        have hcells : ∃ vs : List Value, vs.length = en.τ.size ∧ ∀ j, j < en.τ.size → b.c.cl (.inl (b.Pl l).1) ((b.Pl l).2 + j) = vs[j]? := by
          refine vals_of fun j hj => ?_
          unfold EntOk at hE
          by_cases hz : en.fz = true
          · rw [if_pos hz] at hE
            have h3 := hE.2.2
            simp only [base, hmem, if_true] at h3
            exact h3.cells j hj
          · rw [if_neg hz] at hE
            obtain ⟨F', h1, _⟩ := hE
            simp only [base, hmem, if_true] at h1
            exact h1.cells j hj
        obtain ⟨vs, hvl, hvc⟩ := hcells
        obtain ⟨V, hrun, hval⟩ := run_loadVar' (P := P) (w := b.w) (G := b.G) hti (vs := vs) (by rw [hvl, hsz]) (fun j hj => hvc j (by rw [← hsz]; exact hj))
        have hval : valOf en.τ vs V := by
          unfold valOf; rw [← hag]; exact hval
        refine ⟨V, ?_, ?_⟩
        · simp only [hV, Sem.run_bind, asAddr, Sem.run_pure, Result.andThen_ok]; exact hrun
        · split at e1
          · rename_i x' hx
            cases hm : m.isSh with
            | true =>
              rw [hm, cond_true] at e1
              have hm := isSh_eq hm
              simp only [Option.some.injEq, Prod.mk.injEq] at e1
              obtain ⟨rfl, rfl, rfl⟩ := e1
              subst hm
              refine ⟨fun l hl => by simp at hl, fun S' hS hF => ?_⟩
              have hI := hE.frz (S' := S') hS (ftS hF (by simp [hen]))
              unfold EntOk at hI
              simp only [if_true] at hI
              have h3 := hI.2.2
              simp only [base, hmem, if_true] at h3
              obtain ⟨he, rfl⟩ := cast?_some hx
              obtain ⟨τ1, x1, m1, mem1, fz1, v1⟩ := en
              simp only at he h3 hval hvl hvc
              subst he
              exact shOwn ⟨vs, hval, ImmV.of_at h3 hvl hvc⟩
            | false =>
              rw [hm, cond_false] at e1
              obtain ⟨hc, e1⟩ := cond_some e1
              simp only [Bool.and_eq_true, Bool.not_eq_true', decide_eq_true_eq] at hc
              obtain ⟨hpt, hfz, hmm⟩ := hc
              simp only [Option.some.injEq, Prod.mk.injEq] at e1
              obtain ⟨rfl, rfl, rfl⟩ := e1
              refine ⟨fun l' hl => by simp at hl; subst hl; exact ⟨en, hen, hfz⟩, fun S' hS hF => ?_⟩
              unfold EntOk at hE
              rw [if_neg (by simp [hfz])] at hE
              obtain ⟨F', h1, h2, h34⟩ := hE
              rw [if_pos hmem] at h34
              obtain ⟨h3, _⟩ := h34
              simp only [base, hmem, if_true] at h1 h2
              obtain ⟨he, rfl⟩ := cast?_some hx
              subst hmm
              obtain ⟨τ1, x1, m1, mem1, fz1, v1⟩ := en
              simp only at he h1 h2 h3 hval hvl hvc
              subst he
              exact ⟨F', (ResAt.of hpt).mpr ⟨vs, (Own.of (s := ⟨τ1, x1, m1⟩) h1 hval hvl hvc).nil0 hS⟩, fun k hk => ⟨l, by simp, (h3 k).mpr (.inr hk)⟩⟩
          · cases e1
      · cases e1
    · rename_i u xx hv
      have hav := slot_lt hd hv
      obtain ⟨hc, e1⟩ := cond_some e1
      rw [Bool.and_eq_true] at hc
      obtain ⟨hm, hlo⟩ := hc
      have hm := isSh_eq hm
      unfold loadOk at hlo
      rw [Bool.and_eq_true] at hlo
      obtain ⟨i, hti, hsz, hag⟩ := load_facts hT hlo.2 (Nat.le_of_ble_eq_true hlo.1)
      obtain ⟨bb, q, hV, hS, hI⟩ := av_ip.mp hav
      obtain ⟨vs, hvl, hvc⟩ := vals_of (c := b.c) (B := .inl bb) (o := q) (n := u.size) fun j hj => hI.cells j hj
      obtain ⟨V, hrun, hval⟩ := run_loadVar' (P := P) (w := b.w) (G := b.G) hti (vs := vs) (by rw [hvl, hsz]) (fun j hj => hvc j (by rw [← hsz]; exact hj))
      have hval : valOf u vs V := by unfold valOf; rw [← hag]; exact hval
      refine ⟨V, ?_, ?_⟩
      · simp only [hV, Sem.run_bind, asAddr, Sem.run_pure, Result.andThen_ok]; exact hrun
      · split at e1
        · rename_i x' hx
          simp only [Option.some.injEq, Prod.mk.injEq] at e1
          obtain ⟨rfl, rfl, rfl⟩ := e1
          subst hm
          refine ⟨fun l hl => by simp at hl, fun S' hS' hF => ?_⟩
          obtain ⟨he, rfl⟩ := cast?_some hx
          subst he
          exact shOwn ⟨vs, hval, ImmV.of_at (hI.move (fun _ _ => rfl) fun k hk => ⟨hS' k hk, fun _ => rfl⟩) hvl hvc⟩
        · cases e1
    · cases e1
end
end Ev
end

section
namespace Ev
open Go

def fins (E : Env) (N : Nat) (look : Nat → Option Entry) (t : List (Nat × List AV)) : (rs : List (Ty × Mask)) → List ResultVar → Option ((chain (rs.map (·.1))).den × List Nat × List Nat)
  | [], [] => some ((), [], [])
  | [(τ, m)], [v] => fin1 E N look t τ m v
  | (τ, m) :: r :: rs, v :: vs => match fin1 E N look t τ m v with
    | some x => match fins E N look t (r :: rs) vs with
      | some y => some ((x.1, y.1), x.2.1 ++ y.2.1, x.2.2 ++ y.2.2)
      | none => none
    | none => none
  | _, _ => none

theorem fins_nil {E : Env} {N : Nat} {look : Nat → Option Entry} {t : List (Nat × List AV)} : fins E N look t [] [] = some ((), [], []) := rfl
theorem fins_one {E : Env} {N : Nat} {look : Nat → Option Entry} {t : List (Nat × List AV)} {τ : Ty} {m : Mask} {v : ResultVar} : fins E N look t [(τ, m)] [v] = fin1 E N look t τ m v := rfl
theorem fins_cons {E : Env} {N : Nat} {look : Nat → Option Entry} {t : List (Nat × List AV)} {τ : Ty} {m : Mask} {r : Ty × Mask} {rs : List (Ty × Mask)} {v : ResultVar} {vs : List ResultVar} :
    fins E N look t ((τ, m) :: r :: rs) (v :: vs) = match fin1 E N look t τ m v with
    | some x => match fins E N look t (r :: rs) vs with
      | some y => some ((x.1, y.1), x.2.1 ++ y.2.1, x.2.2 ++ y.2.2)
      | none => none
    | none => none := rfl

def rv (a : Act) : ResultVar → Sem Value
  | .tmp d => pure (a.tmps.getD d undef)
  | .cell d T => do loadVar T (← asAddr (a.tmps.getD d undef))

section
variable {P : Program} {E : Env} {O : Nat → Prop} {b : Bd}

theorem fins_ok {N : Nat} {X : Nat → Value} {a : Act} {t : List (Nat × List AV)} (hT : TOk P E.TT) (hr : b.rl O) (hN : a.tmps.size = N) (hsl : Sl b a X (slot t)) :
    ∀ {rs : List (Ty × Mask)} {vs : List ResultVar} {x : (chain (rs.map (·.1))).den} {own sh : List Nat}, fins E N b.h t rs vs = some (x, own, sh) →
    ∃ Rs : List Value, (vs.mapM (rv a)).run P b.w = .ok Rs b.w ∧ (∀ l, l ∈ own → ∃ e, b.h l = some e ∧ e.fz = false) ∧
      (own.Nodup → ∀ S' : Nat → Prop, (∀ k, b.S k → S' k) → (∀ l k, l ∈ sh → (b.h l).isSome = true → b.ft l k → S' k) → ∃ F, RessAt (wcf b.w nil0) S' rs x Rs F ∧ ∀ k, F k → ∃ l, l ∈ own ∧ b.ft l k) := by
  have one : ∀ {τ : Ty} {m : Mask} {v : ResultVar} {x : τ.den} {own sh : List Nat}, fin1 E N b.h t τ m v = some (x, own, sh) → ∃ V, (rv a v).run P b.w = .ok V b.w ∧ (∀ l, l ∈ own → ∃ e, b.h l = some e ∧ e.fz = false) ∧
      ∀ S' : Nat → Prop, (∀ k, b.S k → S' k) → (∀ l k, l ∈ sh → (b.h l).isSome = true → b.ft l k → S' k) → ∃ F, ResAt (wcf b.w nil0) S' τ m x V F ∧ ∀ k, F k → ∃ l, l ∈ own ∧ b.ft l k := by
    intro τ m v x own sh e
    obtain ⟨V, h1, h2, h3⟩ := fin1_ok (P := P) hT hr hN hsl e
    refine ⟨V, ?_, h2, h3⟩
    cases v <;> exact h1
  intro rs
  induction rs with
  | nil =>
    intro vs x own sh e
    cases vs with
    | nil =>
      rw [fins_nil] at e
      cases e
      exact ⟨[], by simp, fun l h => by simp at h, fun _ S' _ _ => ⟨fun _ => False, fun _ h => h, fun k h => h.elim⟩⟩
    | cons _ _ => exact absurd e (by intro h; cases h)
  | cons q rs ih =>
    intro vs x own sh e
    obtain ⟨τ, m⟩ := q
    cases rs with
    | nil =>
      match vs, e with
      | [], e => exact absurd e (by intro h; cases h)
      | _ :: _ :: _, e => exact absurd e (by intro h; cases h)
      | [v], e =>
        rw [fins_one] at e
        obtain ⟨V, h1, h2, h3⟩ := one e
        refine ⟨[V], by simp [List.mapM_cons, h1], h2, fun _ S' hS hF => ?_⟩
        obtain ⟨F, h4, h5⟩ := h3 S' hS hF
        exact ⟨F, h4, h5⟩
    | cons q2 rs =>
      match vs, e with
      | [], e => exact absurd e (by intro h; cases h)
      | v :: vs, e =>
        rw [fins_cons] at e
        split at e
        · rename_i x1 hx
          split at e
          · rename_i y1 hy
            simp only [Option.some.injEq, Prod.mk.injEq] at e
            obtain ⟨rfl, rfl, rfl⟩ := e
            obtain ⟨V, h1, h2, h3⟩ := one hx
            obtain ⟨Rs, g1, g2, g3⟩ := ih hy
            refine ⟨V :: Rs, by simp [List.mapM_cons, h1, g1], fun l hl => (List.mem_append.mp hl).elim (h2 l) (g2 l), fun hn S' hS hF => ?_⟩
            rw [List.nodup_append] at hn
            obtain ⟨F1, h4, h5⟩ := h3 S' hS fun l k hl => hF l k (List.mem_append_left _ hl)
            obtain ⟨F2, g4, g5⟩ := g3 hn.2.1 S' hS fun l k hl => hF l k (List.mem_append_right _ hl)
            refine ⟨fun k => F1 k ∨ F2 k, ⟨F1, F2, fun k => Iff.rfl, fun k hk1 hk2 => ?_, h4, g4⟩, fun k hk => ?_⟩
            · obtain ⟨l1, a1, a2⟩ := h5 k hk1
              obtain ⟨l2, b1, b2⟩ := g5 k hk2
              obtain ⟨e1, he1, _⟩ := h2 l1 a1
              obtain ⟨e2, he2, _⟩ := g2 l2 b1
              exact hn.2.2 l1 a1 l2 b1 (hr.dis l1 l2 k (by simp [he1]) (by simp [he2]) a2 b2)
            · rcases hk with hk | hk
              · obtain ⟨l, a1, a2⟩ := h5 k hk; exact ⟨l, List.mem_append_left _ a1, a2⟩
              · obtain ⟨l, a1, a2⟩ := g5 k hk; exact ⟨l, List.mem_append_right _ a1, a2⟩
          · cases e
        · cases e

/-- What a function gives back, of the values of its results. -/
theorem results_run {fn : Func} {a : Act} {w : World} {Rs : List Value} (h : (fn.results.toList.mapM (rv a)).run P w = .ok Rs w) : (results fn a.tmps).run P w = .ok (retOf Rs) w := by
  have h1 : (fn.results.mapM (rv a)).run P w = .ok Rs.toArray w := by
    rw [Array.mapM_eq_mapM_toList]
    simp only [map_eq_pure_bind, Sem.run_bind, h, Result.andThen_ok, Sem.run_pure]
  have h2 : results fn a.tmps = (do let vs ← fn.results.mapM (rv a); pure (if h : vs.size = 1 then vs[0] else .tuple vs) : Sem Value) := by
    unfold results
    have : (fun x : ResultVar => (match x with | .tmp t => pure (a.tmps.getD t undef) | .cell d t => do loadVar t (← asAddr (a.tmps.getD d undef)) : Sem Value)) = rv a := by funext v; cases v <;> rfl
    rw [← this]
    rfl
  rw [h2]
  simp only [Sem.run_bind, h1, Result.andThen_ok, Sem.run_pure]
  match Rs with
  | [] => simp [retOf]
  | [v] => simp [retOf]
  | v1 :: v2 :: Rs => simp [retOf]
end
end Ev
end

section
namespace Ev
open Go

/-- What the arguments that are handed back have become, and their entries. -/
def finO (N : Nat) (look : Nat → Option Entry) (t : List (Nat × List AV)) : (ps : List Prm) → Nat → Option ((chainU (outsOf ps)).den × List Nat)
  | [], _ => some ((), [])
  | .imm _ :: ps, d => finO N look t ps (d + 1)
  | .take _ _ :: ps, d => finO N look t ps (d + 1)
  | .io τ m mem :: ps, d => match (match slot t (N + d), mem with
      | [.ref l [] _], false => some l
      | [.adr l [] _], true => some l
      | _, _ => none) with
    | some l => match look l with
      | some e => cond (!(e.mem ^^ mem) && (!e.fz && decide (e.m = m))) (match cast? e.τ τ e.x with
        | some x => match finO N look t ps (d + 1) with
          | some y => some ((x, y.1), l :: y.2)
          | none => none
        | none => none) none
      | none => none
    | none => none

def nodupB : List Nat → Bool
  | [] => true
  | k :: r => !mem? k r && nodupB r
def joinR : (rs os : List Ty) → (chain rs).den → (chainU os).den → (resTy rs os).den
  | _, [], x, _ => x
  | _, _ :: _, x, y => (x, y)
/-- A call's end. -/
def fin (E : Env) (fn : Func) (ps : List Prm) (rs : List (Ty × Mask)) (s : St) : Option (resTy (rs.map (·.1)) (outsOf ps)).den :=
  match fins E fn.ntmps (hget s.h) s.t rs fn.results.toList with
  | some x => match finO fn.ntmps (hget s.h) s.t ps 0 with
    | some y => cond (nodupB (x.2.1 ++ y.2) && x.2.2.all fun l => !mem? l (x.2.1 ++ y.2)) (some (joinR (rs.map (·.1)) (outsOf ps) x.1 y.1)) none
    | none => none
  | none => none

theorem nodupB_ok : ∀ {l : List Nat}, nodupB l = true → l.Nodup := by
  intro l
  induction l with
  | nil => intro _; simp
  | cons k r ih =>
    intro h
    simp only [nodupB, Bool.and_eq_true, Bool.not_eq_true'] at h
    rw [List.nodup_cons]
    exact ⟨fun hk => (by rw [mem?_iff.mpr hk] at h; cases h.1), ih h.2⟩

section
variable {P : Program} {E : Env} {O : Nat → Prop} {b : Bd}

theorem finO_ok {N : Nat} {X : Nat → Value} {a : Act} {t : List (Nat × List AV)} (hr : b.rl O) (hN : a.tmps.size = N) (hsl : Sl b a X (slot t)) :
    ∀ {ps : List Prm} {d : Nat} {o : (chainU (outsOf ps)).den} {own : List Nat} {Vs : List Value}, finO N b.h t ps d = some (o, own) → Vs.length = ps.length → (∀ i V, Vs[i]? = some V → X (N + (d + i)) = V) →
    (∀ l, l ∈ own → ∃ e, b.h l = some e ∧ e.fz = false) ∧ (own.Nodup → ∀ S' : Nat → Prop, (∀ k, b.S k → S' k) → ∃ F, OutsAt (wcf b.w nil0) S' ps o Vs F ∧ ∀ k, F k → ∃ l, l ∈ own ∧ b.ft l k) := by
  intro ps
  induction ps with
  | nil =>
    intro d o own Vs e _ _
    simp only [finO, Option.some.injEq, Prod.mk.injEq] at e
    obtain ⟨_, rfl⟩ := e
    exact ⟨fun l h => by simp at h, fun _ S' _ => ⟨fun _ => False, fun _ h => h, fun k h => h.elim⟩⟩
  | cons p ps ih =>
    intro d o own Vs e hlen hX
    match Vs, hlen with
    | V :: Vs, hlen =>
      have hX' : ∀ i W, Vs[i]? = some W → X (N + (d + 1 + i)) = W := fun i W h => by
        have := hX (i + 1) W (by simpa using h)
        rw [show d + 1 + i = d + (i + 1) by omega]; exact this
      cases p with
      | imm τ => exact ih (d := d + 1) (o := o) e (by simpa using hlen) hX'
      | take τ m => exact ih (d := d + 1) (o := o) e (by simpa using hlen) hX'
      | io τ m mem =>
        have hV := hX 0 V rfl
        have hs := hsl.sl (N + d)
        unfold Vl at hs
        rw [if_neg (by omega)] at hs
        simp only [Nat.add_zero] at hV
        rw [hV] at hs
        unfold finO at e
        split at e
        · rename_i l hl
          split at e
          · rename_i en hen
            obtain ⟨hc, e⟩ := cond_some e
            simp only [Bool.and_eq_true, Bool.not_eq_true', decide_eq_true_eq] at hc
            obtain ⟨hmem, hfz, hmm⟩ := hc
            have hmem : en.mem = mem := by cases h1 : en.mem <;> cases h2 : mem <;> simp_all
            split at e
            · rename_i x hx
              split at e
              · rename_i y hy
                simp only [Option.some.injEq, Prod.mk.injEq] at e
                obtain ⟨rfl, rfl⟩ := e
                obtain ⟨g1, g2⟩ := ih (d := d + 1) (o := y.1) (own := y.2) (Vs := Vs) hy (by simpa using hlen) hX'
                refine ⟨fun l' hl' => (List.mem_cons.mp hl').elim (fun e => e ▸ ⟨en, hen, hfz⟩) (g1 l'), fun hn S' hS => ?_⟩
                rw [List.nodup_cons] at hn
                obtain ⟨F2, h1, h2⟩ := g2 hn.2 S' hS
                obtain ⟨he, rfl⟩ := cast?_some hx
                subst hmm
                have hA : ArgAt (wcf b.w nil0) S' (.io τ en.m mem) (he ▸ en.x) V (b.ft l) := by
                  obtain ⟨τ1, x1, m1, mem1, fz1, v1⟩ := en
                  simp only at he hmem hfz
                  subst he hmem hfz
                  cases mem1 with
                  | false =>
                    have hsl1 : ∃ w, slot t (N + d) = [.ref l [] w] := by
                      split at hl
                      · rename_i l' w hq _; injection hl with hl; subst hl; exact ⟨w, hq⟩
                      · rename_i hq; cases hq
                      · cases hl
                    obtain ⟨w, hq⟩ := hsl1
                    rw [hq] at hs
                    obtain ⟨vs, ho⟩ := av_ref_own hr hs hen rfl rfl
                    exact ⟨vs, ho.nil0 hS⟩
                  | true =>
                    have hsl1 : ∃ w, slot t (N + d) = [.adr l [] w] := by
                      split at hl
                      · rename_i hq; cases hq
                      · rename_i l' w hq _; injection hl with hl; subst hl; exact ⟨w, hq⟩
                      · cases hl
                    obtain ⟨w, hq⟩ := hsl1
                    rw [hq] at hs
                    obtain ⟨_, hav⟩ := hs
                    obtain ⟨_, hav⟩ := hav _ hen
                    obtain ⟨_, _, u, bb, q, hloc, hV⟩ := hav (by simp [aliveA, deref])
                    simp only [loc, base, if_true, Option.some.injEq, Prod.mk.injEq, Sum.inl.injEq] at hloc
                    obtain ⟨_, rfl, rfl⟩ := hloc
                    have hE := hr.ent l _ hen
                    unfold EntOk at hE
                    simp only [Bool.false_eq_true, if_false, if_true, base] at hE
                    obtain ⟨F', q1, q2, q3, n, q4, q5⟩ := hE
                    exact ⟨_, _, F', hV, q1.move (fun _ _ => rfl) (fun k hk => ⟨fun e => q2 k hk e, rfl, fun _ => rfl⟩) fun k hk => ⟨hS k hk, fun _ => rfl⟩, fun hk => q2 _ hk rfl, q3, n, q4, q5⟩
                refine ⟨fun k => b.ft l k ∨ F2 k, ⟨b.ft l, F2, fun k => Iff.rfl, fun k hk1 hk2 => ?_, hA, h1⟩, fun k hk => ?_⟩
                · obtain ⟨l2, b1, b2⟩ := h2 k hk2
                  obtain ⟨e2, he2, _⟩ := g1 l2 b1
                  have := hr.dis l l2 k (by simp [hen]) (by simp [he2]) hk1 b2
                  subst this; exact hn.1 b1
                · rcases hk with hk | hk
                  · exact ⟨l, by simp, hk⟩
                  · obtain ⟨l2, b1, b2⟩ := h2 k hk; exact ⟨l2, by simp [b1], b2⟩
              · cases e
            · cases e
          · cases e
        · cases e
end
end Ev
end

section
namespace Ev
open Go

theorem split_join {rs : List Ty} : ∀ {os : List Ty} {x : (chain rs).den} {y : (chainU os).den}, split rs os (joinR rs os x y) = (x, y) := by
  intro os x y
  cases os with
  | nil => rfl
  | cons o os => rfl

theorem argsAt_len {c : CF} {S : Nat → Prop} : ∀ {ps : List Prm} {x : (chain (ps.map Prm.ty)).den} {Vs : List Value} {F : Nat → Prop}, ArgsAt c S ps x Vs F → Vs.length = ps.length := by
  intro ps
  induction ps with
  | nil => intro x Vs F h; cases Vs with
    | nil => rfl
    | cons _ _ => exact h.elim
  | cons p ps ih =>
    intro x Vs F h
    cases ps with
    | nil =>
      match Vs, h with
      | [V], _ => rfl
      | [], h => exact h.elim
      | _ :: _ :: _, h => exact h.elim
    | cons q ps =>
      match Vs, h with
      | [], h => exact h.elim
      | V :: Vs, h =>
        obtain ⟨F1, F2, _, _, _, h2⟩ := h
        have := ih (x := x.2) h2
        simpa using this

/-- The state that a call begins in. -/
def st0 (N : Nat) (ps : List Prm) (x : (chain (ps.map Prm.ty)).den) : St := ⟨entT N ps x 0 [], entH ps x 0 [], ps.length⟩

noncomputable def fnOf (E : Env) (io : List Nat) (fn : Func) (ps : List Prm) (rs : List (Ty × Mask)) (x : (chain (ps.map Prm.ty)).den) : Option (resTy (rs.map (·.1)) (outsOf ps)).den :=
  run ⟨E, io, resMask fn⟩ (fin E fn ps rs) (lab fn 0) (st0 fn.ntmps ps x)

section
variable {P : Program} {E : Env}

theorem sound_ok {g : Nat} {fn : Func} {c : Code} {ps : List Prm} {rs : List (Ty × Mask)} {io : List Nat} (hT : TOk P E.TT) (hΦ : ∀ m, m ∈ E.Φ → Sound P m) (hmix : P.follows .mixedOrders = true) (hf : P.funcs[g]? = some fn) (hname : fn.name ≠ "runtime.NumGoroutine")
    (hb : fn.body = some c) (hok : codeOk fn.ntmps c = true) (hlen : ps.length ≤ fn.ntmps) : Sound P ⟨g, ps, rs, fnOf E io fn ps rs⟩ := by
  refine ⟨⟨fn, hf, hname, by simp [hb]⟩, fun w S F Vs x r hA hS hF hfx => ?_⟩
  have hVl := argsAt_len hA
  let N := fn.ntmps
  let a0 : Act := { tmps := Vs.toArray ++ Array.replicate (fn.ntmps - Vs.toArray.size) undef, defers := [] }
  have hN0 : a0.tmps.size = N := by simp [a0, N]; simp only at hVl; omega
  let X : Nat → Value := fun k => (Vs[k - N]?).getD undef
  let O := Mine w F
  let bd0 : Bd := ⟨fun _ => False, fun _ => none, S, w, nil0, fun _ => (0, 0), fun _ _ => False⟩
  have hr0 : bd0.rl O := ⟨fun l e he => (by cases he), fun l e he => (by cases he), fun l e he => (by cases he), fun l l' k hl => (by cases hl), fun l k hl => (by cases hl), fun k hk => ⟨.inl hk, hS k hk⟩⟩
  have hval : ∀ i V, Vs[i]? = some V → Vl a0 X (0 + i) = V ∧ Vl a0 X (N + (0 + i)) = V := fun i V hi => by
    have hlt : i < Vs.length := by
      rcases Nat.lt_or_ge i Vs.length with h | h
      · exact h
      · rw [List.getElem?_eq_none h] at hi; cases hi
    have hiN : i < N := by simp only at hVl; have : ps.length ≤ N := hlen; omega
    refine ⟨?_, ?_⟩
    · unfold Vl
      rw [Nat.zero_add, if_pos (by rw [hN0]; exact hiN)]
      simp only [a0]
      rw [Array.getD_eq_getD_getElem?, Array.getElem?_append_left (by simpa using hlt)]
      simp [hi]
    · unfold Vl
      rw [Nat.zero_add, if_neg (by rw [hN0]; omega)]
      simp only [X]
      rw [show N + i - N = i by omega, hi]; rfl
  obtain ⟨b1, k1, k2, k3, k4, k5, k6⟩ := ent_ok (N := N) (val := Vl a0 X) (t := []) (h := []) (d := 0) (b := bd0) (F := F) hr0 rfl (fun l h => h.elim) (fun k => trivial) hA
    (fun k hk => ⟨.inr hk, hF k hk, fun l e he => (by cases he)⟩) hval
  have hinv : Inv O N X S w b1 a0 (st0 N ps x) := ⟨⟨k1, k2, ⟨k4⟩, hN0, fun l hl => by have := k3 l hl; simp only [st0]; simp only at this; omega⟩, by rw [k5, k6]; exact Kp.refl _ _ _, rfl⟩
  let G : Act → World → Prop := fun a' w' => a'.defers = [] ∧ ∃ v, (results fn a'.tmps).run P w' = .ok v w' ∧ ∃ S' F1 F2 Rs, Post S w ⟨g, ps, rs, fnOf E io fn ps rs⟩ Vs F r v w' S' F1 F2 Rs
  have hgo : Goes P G [.c c] a0 b1.w := by
    have hl0 : lab fn 0 = [.c c] := by simp [lab, bodyOf, hb]
    refine run_ok (F := ⟨E, io, resMask fn⟩) (fin := fin E fn ps rs) (O := O) (S0 := S) (X := X) (N := N) (w0 := w) (out := r) hT hΦ hmix (fun s hs b a hi => ?_) (k := [.c c]) (s := st0 N ps x) (by rw [← hl0]; exact hfx)
      (by simp only [kOk, List.all_cons, List.all_nil, itOk, Bool.and_true]; exact hok) hinv
    refine ⟨hi.defers, ?_⟩
    have hrl := hi.me.rl
    unfold fin at hs
    rw [← hi.me.h] at hs
    split at hs
    · rename_i q hq
      split at hs
      · rename_i y hy
        obtain ⟨hc, hs⟩ := cond_some hs
        injection hs with hs
        rw [Bool.and_eq_true, List.all_eq_true] at hc
        have hnd := nodupB_ok hc.1
        rw [List.nodup_append] at hnd
        obtain ⟨Rs, r1, r2, r3⟩ := fins_ok (P := P) hT hrl hi.me.size hi.me.sl (x := q.1) (own := q.2.1) (sh := q.2.2) hq
        obtain ⟨o1, o2⟩ := finO_ok (d := 0) (Vs := Vs) hrl hi.me.size hi.me.sl (o := y.1) (own := y.2) hy (by simpa using hVl) (fun i V hV => by
          simp only [X]; rw [show fn.ntmps + (0 + i) - N = i by simp only [N]; omega, hV]; rfl)
        let S' : Nat → Prop := fun k => b.S k ∨ ∃ l, l ∈ q.2.2 ∧ (b.h l).isSome = true ∧ b.ft l k
        obtain ⟨F1, g1, g2⟩ := r3 hnd.1 S' (fun k h => .inl h) fun l k hl hs hk => .inr ⟨l, hl, hs, hk⟩
        obtain ⟨F2, g3, g4⟩ := o2 hnd.2.1 S' fun k h => .inl h
        have hownS : ∀ l k, l ∈ q.2.1 ++ y.2 → (∃ e, b.h l = some e) → b.ft l k → O k ∧ ¬ S' k := fun l k hl ⟨e, he⟩ hk => by
          obtain ⟨h1, h2⟩ := hrl.own l k (by simp [he]) hk
          refine ⟨h1, fun h => h.elim h2 fun ⟨l2, hl2, hs2, hk2⟩ => ?_⟩
          have := hrl.dis l l2 k (by simp [he]) hs2 hk hk2
          subst this
          have := hc.2 l hl2
          rw [mem?_iff.mpr hl] at this; cases this
        refine ⟨retOf Rs, results_run r1, S', F1, F2, Rs, ⟨?_, rfl, ?_, ?_, fun k h1 h2 => ?_, fun k hk => ?_, fun k hk h => ?_⟩⟩
        · refine hi.kp.trans ⟨rfl, rfl, rfl, Nat.le_refl _, fun _ _ _ => rfl, fun k hk => ⟨.inl hk, rfl⟩, fun k hk => hk.elim .inl fun ⟨l, _, hs, hk⟩ => .inr (hrl.own l k hs hk).1⟩
        · rw [← hs]; simp only [split_join]; exact g1
        · rw [← hs]; simp only [split_join]; exact g3
        · obtain ⟨l1, a1, a2⟩ := g2 k h1
          obtain ⟨l2, c1, c2⟩ := g4 k h2
          obtain ⟨e1, he1, _⟩ := r2 l1 a1
          obtain ⟨e2, he2, _⟩ := o1 l2 c1
          exact hnd.2.2 l1 a1 l2 c1 (hrl.dis l1 l2 k (by simp [he1]) (by simp [he2]) a2 c2)
        · rcases hk with hk | hk
          · obtain ⟨l1, a1, a2⟩ := g2 k hk
            obtain ⟨e1, he1, _⟩ := r2 l1 a1
            exact hownS l1 k (List.mem_append_left _ a1) ⟨e1, he1⟩ a2
          · obtain ⟨l1, a1, a2⟩ := g4 k hk
            obtain ⟨e1, he1, _⟩ := o1 l1 a1
            exact hownS l1 k (List.mem_append_right _ a1) ⟨e1, he1⟩ a2
        · rcases h with h | ⟨l, _, hs2, hk2⟩
          · exact (hrl.new k hk).2 h
          · obtain ⟨e, he⟩ := Option.isSome_iff_exists.mp hs2
            have := (hrl.ent l e he).lt hk2; omega
      · cases hs
    · cases hs
  rw [k5] at hgo
  intro cs
  let fb : Frame := { (default : Frame) with fn := g, kind := .normal }
  have henter : Frame.enter P g Vs.toArray .normal = fb.at a0 [.code c] := by
    simp [Frame.enter, Frame.at, hf, hb, fb, a0]
  obtain ⟨a', w', todo, ⟨hd, v, hres, hpost⟩, hsteps⟩ := hgo fb cs
  simp only [items] at hsteps
  change Steps P (lone (fb.at a0 [.code c]) cs w) _ at hsteps
  rw [← henter] at hsteps
  exact ⟨.returned v, w', _, hpost, hsteps, rfl, rfl, hd, rfl, fn, hf, hres⟩
end
end Ev
end

section
namespace Ev
open Go

def ttGet (t : Nat) : List (Nat × TI) → Option TI
  | [] => none
  | (k, i) :: r => cond (Nat.beq k t) (some i) (ttGet t r)

def AllT (P : Program) : List (Nat × TI) → Prop
  | [] => True
  | (k, i) :: r => TOne P k i ∧ AllT P r

theorem tok_of {P : Program} : ∀ {l : List (Nat × TI)}, AllT P l → TOk P (fun t => ttGet t l) := by
  intro l
  induction l with
  | nil => intro _ t i h; simp [ttGet] at h
  | cons q l ih =>
    intro h t i e
    obtain ⟨k, j⟩ := q
    obtain ⟨h1, h2⟩ := h
    simp only [ttGet] at e
    cases hk : Nat.beq k t with
    | true =>
      rw [hk, cond_true] at e
      obtain rfl := Nat.eq_of_beq_eq_true hk
      injection e with e
      subst e
      exact h1
    | false =>
      rw [hk, cond_false] at e
      exact ih h2 t i e

theorem valOf_agg {τ : Ty} {vs : List Value} {v : Value} (h : τ.agg = true) (e : v = .agg vs.toArray) : valOf τ vs v := by unfold valOf; rw [if_pos h]; exact e
theorem valOf_one {τ : Ty} {vs : List Value} {v : Value} (h : τ.agg = false) (e : vs = [v]) : valOf τ vs v := by unfold valOf; rw [if_neg (by simp [h])]; exact e

def AllS (P : Program) : List FM → Prop
  | [] => True
  | m :: r => Sound P m ∧ AllS P r
theorem mem_sound {P : Program} : ∀ {l : List FM}, AllS P l → ∀ m, m ∈ l → Sound P m := by
  intro l
  induction l with
  | nil => intro _ m h; cases h
  | cons a l ih =>
    intro h m hm
    rcases List.mem_cons.mp hm with rfl | hm
    · exact h.1
    · exact ih h.2 m hm

def okFn (fn : Func) (ps : List Prm) : Bool := fn.name != "runtime.NumGoroutine" && (fn.body.isSome && (codeOk fn.ntmps (bodyOf fn) && Nat.ble ps.length fn.ntmps))

theorem sound_of {P : Program} {E : Env} {g : Nat} {fn : Func} {ps : List Prm} {rs : List (Ty × Mask)} {io : List Nat} (hT : TOk P E.TT) (hΦ : AllS P E.Φ) (hmix : P.follows .mixedOrders = true)
    (hf : P.funcs[g]? = some fn) (hk : okFn fn ps = true) : Sound P ⟨g, ps, rs, fnOf E io fn ps rs⟩ := by
  unfold okFn at hk
  simp only [Bool.and_eq_true, bne_iff_ne, ne_eq] at hk
  obtain ⟨h1, h2, h3, h4⟩ := hk
  obtain ⟨c, hc⟩ := Option.isSome_iff_exists.mp h2
  have hb : bodyOf fn = c := by unfold bodyOf; rw [hc]; rfl
  rw [hb] at h3
  exact sound_ok hT (mem_sound hΦ) hmix hf h1 hc h3 (Nat.le_of_ble_eq_true h4)

theorem fnOf_eq (E : Env) (io : List Nat) (fn : Func) (ps : List Prm) (rs : List (Ty × Mask)) (x : (chain (ps.map Prm.ty)).den) :
    fnOf E io fn ps rs x = seg ⟨E, io, resMask fn⟩ (fin E fn ps rs) (run ⟨E, io, resMask fn⟩ (fin E fn ps rs)) (lab fn 0) (st0 fn.ntmps ps x) := run_eq _ _

/-- A function from some place on. -/
noncomputable def runOf (E : Env) (io : List Nat) (fn : Func) (ps : List Prm) (rs : List (Ty × Mask)) (i : Nat) (s : St) : Option (resTy (rs.map (·.1)) (outsOf ps)).den :=
  run ⟨E, io, resMask fn⟩ (fin E fn ps rs) (lab fn i) s
theorem runOf_eq (E : Env) (io : List Nat) (fn : Func) (ps : List Prm) (rs : List (Ty × Mask)) (i : Nat) (s : St) :
    runOf E io fn ps rs i s = seg ⟨E, io, resMask fn⟩ (fin E fn ps rs) (run ⟨E, io, resMask fn⟩ (fin E fn ps rs)) (lab fn i) s := run_eq _ _
/-- A function that is never reached: nothing is said of it. -/
def okNone (fn : Func) : Bool := fn.name != "runtime.NumGoroutine" && !fn.body.isNone
theorem sound_none {P : Program} {g : Nat} {fn : Func} {ps : List Prm} {rs : List (Ty × Mask)} (hf : P.funcs[g]? = some fn) (hk : okNone fn = true) : Sound P ⟨g, ps, rs, fun _ => none⟩ := by
  unfold okNone at hk
  simp only [Bool.and_eq_true, bne_iff_ne, ne_eq, Bool.not_eq_true'] at hk
  exact ⟨⟨fn, hf, hk.1, hk.2⟩, fun _ _ _ _ _ _ _ _ _ h => by cases h⟩
end Ev
end

section
namespace Ev
open Go

/-- What E does in one operation, En does from some number on. -/
def Appr (E : Env) (En : Nat → Env) : Prop :=
  ∀ (reg i id : Nat) (t : List (Nat × List AV)) (look : Nat → Option Entry) (o : Oper) (q : List AV × Ups), ev1 E reg i id t look o = some q → ∃ n, ∀ m, n ≤ m → ev1 (En m) reg i id t look o = some q

section
variable {R : Type} {E : Env} {En : Nat → Env}

theorem evOp_of1 {E : Env} {reg i id : Nat} {t : List (Nat × List AV)} {look : Nat → Option Entry} {o : Oper} {v : List AV} {ups : Ups} (h : ev1 E reg i id t look o = some (v, ups)) (K : Kt R) : evOp E reg i id t look o K = K v ups := by
  rw [evOp_nat, h]; rfl

theorem evOps_appr (hA : Appr E En) {reg n : Nat} {all : List Oper} {out : R} : ∀ {os : List Oper} {i : Nat} {t : List (Nat × List AV)} {h : List (Nat × Entry)} {r : List Rec} {K : List (Nat × List AV) → List (Nat × Entry) → List Rec → Option R},
    evOps E reg all n i os t h r K = some out → ∃ t' h' r', K t' h' r' = some out ∧ ∃ N, ∀ m, N ≤ m → ∀ K' : List (Nat × List AV) → List (Nat × Entry) → List Rec → Option R, evOps (En m) reg all n i os t h r K' = K' t' h' r' := by
  intro os
  induction os with
  | nil => intro i t h r K e; exact ⟨t, h, r, e, 0, fun m _ K' => rfl⟩
  | cons o os ih =>
    intro i t h r K e
    have go : ∀ (t1 : List (Nat × List AV)), evOp E reg i (n + 16 * i) t1 (hget h) o (fun v ups => evOps E reg all n (i + 1) os (putT t1 o.dst v) (app ups h) (⟨i, opIds t o, ups.map (·.1)⟩ :: r) K) = some out →
        ∃ t' h' r', K t' h' r' = some out ∧ ∃ N, ∀ m, N ≤ m → ∀ K' : List (Nat × List AV) → List (Nat × Entry) → List Rec → Option R, evOp (En m) reg i (n + 16 * i) t1 (hget h) o (fun v ups => evOps (En m) reg all n (i + 1) os (putT t1 o.dst v) (app ups h) (⟨i, opIds t o, ups.map (·.1)⟩ :: r) K') = K' t' h' r' := by
      intro t1 e
      obtain ⟨v, ups, h1, e⟩ := evOp_inv e
      obtain ⟨N1, hN1⟩ := hA _ _ _ _ _ _ _ h1
      obtain ⟨t', h', r', e, N2, hK⟩ := ih e
      refine ⟨t', h', r', e, max N1 N2, fun m hm K' => ?_⟩
      rw [evOp_of1 (hN1 m (by omega))]
      exact hK m (by omega) K'
    simp only [evOps] at e
    split at e
    · rename_i hg
      obtain ⟨t', h', r', e, N, hK⟩ := go t e
      exact ⟨t', h', r', e, N, fun m hm K' => by simp only [evOps, hg]; exact hK m hm K'⟩
    · rename_i j want hg
      split at e
      · rename_i d hd
        split at e
        · rename_i b hs
          cases b with
          | true =>
            rw [cond_true] at e
            cases want with
            | true =>
              rw [cond_true] at e
              obtain ⟨t', h', r', e, N, hK⟩ := go _ e
              exact ⟨t', h', r', e, N, fun m hm K' => by simp only [evOps, hg, hd, hs, cond_true]; exact hK m hm K'⟩
            | false =>
              rw [cond_false] at e
              obtain ⟨t', h', r', e, N, hK⟩ := ih e
              exact ⟨t', h', r', e, N, fun m hm K' => by simp only [evOps, hg, hd, hs, cond_true, cond_false]; exact hK m hm K'⟩
          | false =>
            rw [cond_false] at e
            cases want with
            | true =>
              rw [cond_true] at e
              obtain ⟨t', h', r', e, N, hK⟩ := ih e
              exact ⟨t', h', r', e, N, fun m hm K' => by simp only [evOps, hg, hd, hs, cond_true, cond_false]; exact hK m hm K'⟩
            | false =>
              rw [cond_false] at e
              obtain ⟨t', h', r', e, N, hK⟩ := go _ e
              exact ⟨t', h', r', e, N, fun m hm K' => by simp only [evOps, hg, hd, hs, cond_false]; exact hK m hm K'⟩
        · rename_i x hs
          obtain ⟨t', h', r', e, N, hK⟩ := ih e
          exact ⟨t', h', r', e, N, fun m hm K' => by simp only [evOps, hg, hd, hs]; exact hK m hm K'⟩
        · cases e
      · cases e

variable {io : List Nat} {rm : Nat} {fin : St → Option R} {out : R}

theorem seg_appr (hA : Appr E En) {r : List It → St → Option R} : ∀ (n : Nat) (k : List It) (s : St), segRun ⟨E, io, rm⟩ fin r n k s = some out →
    (∃ N, ∀ m, N ≤ m → ∀ r', segRun ⟨En m, io, rm⟩ fin r' n k s = some out) ∨ ∃ k' s', r k' s' = some out ∧ ∃ N, ∀ m, N ≤ m → ∀ r', segRun ⟨En m, io, rm⟩ fin r' n k s = r' k' s' := by
  intro n
  induction n with
  | zero => intro k s e; simp [segRun] at e
  | succ n ih =>
    intro k s e
    cases k with
    | nil => exact .inl ⟨0, fun m _ r' => by simp only [segRun] at e ⊢; exact e⟩
    | cons it k =>
      cases it with
      | cut => exact .inr ⟨_, _, by simpa only [segRun] using e, 0, fun m _ r' => by simp only [segRun]⟩
      | blk id =>
        simp only [segRun] at e
        rcases ih _ _ e with ⟨N, h⟩ | ⟨k', s', h1, N, h2⟩
        · exact .inl ⟨N, fun m hm r' => by simp only [segRun]; exact h m hm r'⟩
        · exact .inr ⟨k', s', h1, N, fun m hm r' => by simp only [segRun]; exact h2 m hm r'⟩
      | lp c => exact .inr ⟨_, _, by simpa only [segRun] using e, 0, fun m _ r' => by simp only [segRun]⟩
      | c c =>
        have pass : ∀ {k2 : List It} {s2 : St} (N0 : Nat), segRun ⟨E, io, rm⟩ fin r n k2 s2 = some out → (∀ m, N0 ≤ m → ∀ r', segRun ⟨En m, io, rm⟩ fin r' (n + 1) (.c c :: k) s = segRun ⟨En m, io, rm⟩ fin r' n k2 s2) →
            (∃ N, ∀ m, N ≤ m → ∀ r', segRun ⟨En m, io, rm⟩ fin r' (n + 1) (.c c :: k) s = some out) ∨ ∃ k' s', r k' s' = some out ∧ ∃ N, ∀ m, N ≤ m → ∀ r', segRun ⟨En m, io, rm⟩ fin r' (n + 1) (.c c :: k) s = r' k' s' := by
          intro k2 s2 N0 e h
          rcases ih _ _ e with ⟨N, h1⟩ | ⟨k', s', h1, N, h2⟩
          · exact .inl ⟨max N0 N, fun m hm r' => by rw [h m (by omega)]; exact h1 m (by omega) r'⟩
          · exact .inr ⟨k', s', h1, max N0 N, fun m hm r' => by rw [h m (by omega)]; exact h2 m (by omega) r'⟩
        cases c with
        | skip => simp only [segRun] at e; exact pass 0 e fun m _ r' => by simp only [segRun]
        | region id ops d =>
          simp only [segRun] at e
          obtain ⟨t', h', r1, e, N, hK⟩ := evOps_appr hA e
          obtain ⟨hc, e⟩ := cond_some e
          exact pass N e fun m hm r' => by simp only [segRun]; rw [hK m hm]; rw [hc, cond_true]
        | seq x y => simp only [segRun] at e; exact pass 0 e fun m _ r' => by simp only [segRun]
        | cond c x y =>
          simp only [segRun] at e
          split at e
          · rename_i d
            split at e
            · rename_i t ht
              cases hf : (falls x && falls y) with
              | true =>
                rw [hf, cond_true] at e
                cases t with
                | true => exact pass 0 e fun m _ r' => by simp only [segRun, ht, hf, cond_true]
                | false => exact pass 0 e fun m _ r' => by simp only [segRun, ht, hf, cond_true, cond_false]
              | false =>
                rw [hf, cond_false] at e
                cases t with
                | true => exact pass 0 e fun m _ r' => by simp only [segRun, ht, hf, cond_true, cond_false]
                | false => exact pass 0 e fun m _ r' => by simp only [segRun, ht, hf, cond_false]
            · cases e
          · rename_i t
            cases t with
            | true => exact pass 0 e fun m _ r' => by simp only [segRun, cond_true]
            | false => exact pass 0 e fun m _ r' => by simp only [segRun, cond_false]
          · cases e
        | block id c =>
          simp only [segRun] at e
          cases hb : Nat.ble 2 (nExits id c + cond (falls c) 1 0) with
          | true => rw [hb, cond_true] at e; exact pass 0 e fun m _ r' => by simp only [segRun, hb, cond_true]
          | false => rw [hb, cond_false] at e; exact pass 0 e fun m _ r' => by simp only [segRun, hb, cond_false]
        | loop c => exact .inr ⟨_, _, by simpa only [segRun] using e, 0, fun m _ r' => by simp only [segRun]⟩
        | exit id =>
          simp only [segRun] at e
          split at e
          · rename_i k' hu; exact pass 0 e fun m _ r' => by simp only [segRun, hu]
          · cases e
        | ret => exact .inl ⟨0, fun m _ r' => by simp only [segRun] at e ⊢; exact e⟩
        | _ => simp [segRun] at e

theorem runN_appr (hA : Appr E En) : ∀ {n : Nat} {k : List It} {s : St}, runN ⟨E, io, rm⟩ fin n k s = some out → ∃ N, ∀ m, N ≤ m → runN ⟨En m, io, rm⟩ fin n k s = some out := by
  intro n
  induction n with
  | zero => intro k s h; simp [runN] at h
  | succ n ih =>
    intro k s h
    simp only [runN, seg] at h ⊢
    rcases seg_appr hA _ _ _ h with ⟨N, h1⟩ | ⟨k', s', h1, N, h2⟩
    · exact ⟨N, fun m hm => h1 m hm _⟩
    · obtain ⟨N2, h3⟩ := ih h1
      exact ⟨max N N2, fun m hm => by rw [h2 m (by omega)]; exact h3 m (by omega)⟩

theorem run_appr (hA : Appr E En) {k : List It} {s : St} (h : run ⟨E, io, rm⟩ fin k s = some out) : ∃ N, ∀ m, N ≤ m → run ⟨En m, io, rm⟩ fin k s = some out := by
  obtain ⟨n, hn⟩ := run_some.mp h
  obtain ⟨N, hN⟩ := runN_appr hA hn
  exact ⟨N, fun m hm => run_some.mpr ⟨n, hN m hm⟩⟩
end

/-! ## Environments that differ in their functions alone -/
theorem fin_env (TT : TypeId → Option TI) (Φ Φ' : List FM) (A : List (Nat × Nat × Ty × Mask)) (fn : Func) (ps : List Prm) (rs : List (Ty × Mask)) : fin ⟨TT, Φ, A⟩ fn ps rs = fin ⟨TT, Φ', A⟩ fn ps rs := by
  have h1 : ∀ (look : Nat → Option Entry) (t : List (Nat × List AV)) (τ : Ty) (m : Mask) (v : ResultVar), fin1 ⟨TT, Φ, A⟩ fn.ntmps look t τ m v = fin1 ⟨TT, Φ', A⟩ fn.ntmps look t τ m v := fun look t τ m v => rfl
  have h2 : ∀ (look : Nat → Option Entry) (t : List (Nat × List AV)) (rs : List (Ty × Mask)) (vs : List ResultVar), fins ⟨TT, Φ, A⟩ fn.ntmps look t rs vs = fins ⟨TT, Φ', A⟩ fn.ntmps look t rs vs := by
    intro look t rs
    induction rs with
    | nil => intro vs; cases vs <;> rfl
    | cons q rs ih =>
      intro vs
      obtain ⟨τ, m⟩ := q
      cases rs with
      | nil =>
        match vs with
        | [] => rfl
        | [v] => rw [fins_one, fins_one, h1]
        | _ :: _ :: _ => rfl
      | cons q2 rs =>
        match vs with
        | [] => rfl
        | v :: vs => rw [fins_cons, fins_cons, h1, ih]
  funext s
  unfold fin
  simp only [h2]

/-- Is it a call of a function? -/
def isCall : Op → Bool
  | .call { callee := .value _, .. } => true
  | _ => false

theorem ev1_env (TT : TypeId → Option TI) (Φ Φ' : List FM) (A : List (Nat × Nat × Ty × Mask)) {o : Oper} (ho : isCall o.op = false) (reg i id : Nat) (t : List (Nat × List AV)) (look : Nat → Option Entry) :
    ev1 ⟨TT, Φ, A⟩ reg i id t look o = ev1 ⟨TT, Φ', A⟩ reg i id t look o := by
  have hann : ∀ l : List (Nat × Nat × Ty × Mask), annOf ⟨TT, Φ, A⟩ reg i l = annOf ⟨TT, Φ', A⟩ reg i l := by
    intro l
    induction l with
    | nil => rfl
    | cons q l ih => obtain ⟨r, j, q⟩ := q; simp only [annOf, ih]
  have hM : annM ⟨TT, Φ, A⟩ reg i = annM ⟨TT, Φ', A⟩ reg i := by unfold annM; rw [hann]
  have hF : ∀ (fs : List (TypeId × Nat)) (t : Ty) (o : Nat), eqFlat ⟨TT, Φ, A⟩ fs t o = eqFlat ⟨TT, Φ', A⟩ fs t o := by
    intro fs
    induction fs with
    | nil => intro t o; rfl
    | cons q fs ih =>
      intro t o
      obtain ⟨T, off⟩ := q
      cases fs with
      | nil => rfl
      | cons q2 fs => cases t <;> first | rfl | (simp only [eqFlat, ih]; rfl)
  have hE : eqOk ⟨TT, Φ, A⟩ = eqOk ⟨TT, Φ', A⟩ := by
    funext T t
    unfold eqOk
    simp only [hF]
  have hB : ∀ (T : TypeId) (op : BinOp) (a b : AV) (K : AV → Option (List AV × Ups)), bin ⟨TT, Φ, A⟩ T op a b K = bin ⟨TT, Φ', A⟩ T op a b K := by
    intro T op a b K
    unfold bin
    rw [hE]
    rfl
  unfold ev1
  obtain ⟨dst, op, ty, pos, after, guard⟩ := o
  simp only at ho
  cases op with
  | call c =>
    obtain ⟨callee, args, argTypes⟩ := c
    cases callee with
    | value f => simp [isCall] at ho
    | builtin b => cases b <;> rfl
    | invoke r m => rfl
  | move x => simp only [evOp, moveV, hM]; rfl
  | assign x => simp only [evOp, moveV, hM]; rfl
  | buildSlice T n xs => simp only [evOp, buildSl, hM]; rfl
  | makeSlice T l c => simp only [evOp, makeSl, hann]; rfl
  | makeFunc f a b => cases f <;> rfl
  | binOp op T x y U => simp only [evOp, hB]
  | slice T x lo hi mx =>
    simp only [evOp, sliceOp, slice0, hM]
    cases mx with
    | none => rfl
    | some m =>
      cases lo with
      | some _ => rfl
      | none => cases hi <;> rfl
  | _ => rfl

/-- The functions of one list, each with less than those of another. -/
inductive LeΦ : List FM → List FM → Prop
  | nil : LeΦ [] []
  | cons {g ps rs f f' Φ Φ'} : (∀ x r, f x = some r → f' x = some r) → LeΦ Φ Φ' → LeΦ (⟨g, ps, rs, f⟩ :: Φ) (⟨g, ps, rs, f'⟩ :: Φ')
/-- The functions of one list out of those of the others. -/
inductive LimΦ : List FM → (Nat → List FM) → Prop
  | nil : LimΦ [] (fun _ => [])
  | cons {g ps rs f} {fn : Nat → (chain (ps.map Prm.ty)).den → Option (resTy (rs.map (·.1)) (outsOf ps)).den} {Φ : List FM} {Φn : Nat → List FM} : (∀ x r, f x = some r → ∃ n, ∀ m, n ≤ m → fn m x = some r) → LimΦ Φ Φn → LimΦ (⟨g, ps, rs, f⟩ :: Φ) (fun n => ⟨g, ps, rs, fn n⟩ :: Φn n)

theorem findFM_lim {look : Nat → Option Entry} {g : Nat} {vs : List AV} : ∀ {Φ : List FM} {Φn : Nat → List FM}, LimΦ Φ Φn → ∀ {m : FM}, findFM look g vs Φ = some m →
    ∃ fn : Nat → (chain (m.ps.map Prm.ty)).den → Option (resTy (m.rs.map (·.1)) (outsOf m.ps)).den, (∀ n, findFM look g vs (Φn n) = some ⟨m.g, m.ps, m.rs, fn n⟩) ∧ ∀ x r, m.f x = some r → ∃ n, ∀ k, n ≤ k → fn k x = some r := by
  intro Φ Φn h
  induction h with
  | nil => intro m h; simp [findFM] at h
  | @cons g' ps rs f fn Φ Φn hf hΦ ih =>
    intro m h
    simp only [findFM] at h ⊢
    cases hc : (Nat.beq g' g && fits look ps vs) with
    | true =>
      rw [hc, cond_true] at h
      injection h with h
      subst h
      exact ⟨fn, fun n => by rw [cond_true], hf⟩
    | false =>
      rw [hc, cond_false] at h
      obtain ⟨fn', h1, h2⟩ := ih h
      exact ⟨fn', fun n => by rw [cond_false]; exact h1 n, h2⟩

theorem args_inv {R : Type} {look : Nat → Option Entry} {out : R} : ∀ {ps : List Prm} {vs : List AV} {K : (chain (ps.map Prm.ty)).den → Option R}, args look ps vs K = some out → ∃ x, K x = some out ∧ ∀ {R' : Type} (K' : (chain (ps.map Prm.ty)).den → Option R'), args look ps vs K' = K' x := by
  have one : ∀ {R : Type} {out : R} {p : Prm} {v : AV} {K : p.ty.den → Option R}, arg1 look p v K = some out → ∃ x, K x = some out ∧ ∀ {R' : Type} (K' : p.ty.den → Option R'), arg1 look p v K' = K' x := by
    intro R out p v K h
    unfold arg1 at h
    split at h
    · split at h
      · rename_i τ v u hu
        split at h
        · rename_i x hx; exact ⟨x, h, fun K' => by simp only [arg1, hu, hx]⟩
        · cases h
      · cases h
    · split at h
      · rename_i e he
        split at h
        · rename_i x hx; exact ⟨x, h, fun K' => by simp only [arg1, he, hx]⟩
        · cases h
      · cases h
    · split at h
      · rename_i e he
        split at h
        · rename_i x hx; exact ⟨x, h, fun K' => by simp only [arg1, he, hx]⟩
        · cases h
      · cases h
    · split at h
      · rename_i e he
        split at h
        · rename_i x hx; exact ⟨x, h, fun K' => by simp only [arg1, he, hx]⟩
        · cases h
      · cases h
    · cases h
  intro ps
  induction ps with
  | nil =>
    intro vs K h
    cases vs with
    | nil => exact ⟨(), h, fun K' => rfl⟩
    | cons _ _ => simp [args] at h
  | cons p ps ih =>
    intro vs K h
    cases ps with
    | nil =>
      match vs, h with
      | [], h => simp [args] at h
      | [v], h =>
        simp only [args] at h
        obtain ⟨x, h1, h2⟩ := one h
        exact ⟨x, h1, fun K' => by simp only [args]; exact h2 K'⟩
      | _ :: _ :: _, h => simp [args] at h
    | cons q ps =>
      match vs, h with
      | [], h => simp [args] at h
      | v :: vs, h =>
        simp only [args] at h
        obtain ⟨x, h1, h2⟩ := one h
        obtain ⟨y, h3, h4⟩ := ih h1
        exact ⟨(x, y), h3, fun K' => by simp only [args]; rw [h2]; exact h4 _⟩

theorem callG_lim {look : Nat → Option Entry} {id g : Nat} {vs : List AV} {Φ : List FM} {Φn : Nat → List FM} (h : LimΦ Φ Φn) {q : List AV × Ups} (e : callG look id Φ g vs pk = some q) :
    ∃ n, ∀ m, n ≤ m → callG look id (Φn m) g vs pk = some q := by
  unfold callG at e
  split at e
  · cases e
  · rename_i m hm
    obtain ⟨fn, h1, h2⟩ := findFM_lim h hm
    obtain ⟨x, e, hx⟩ := args_inv e
    rw [Option.bind_eq_some_iff] at e
    obtain ⟨r, hr, e⟩ := e
    obtain ⟨n, hn⟩ := h2 x r hr
    refine ⟨n, fun k hk => ?_⟩
    unfold callG
    rw [h1 k]
    simp only
    rw [hx, hn k hk]
    exact e

theorem opdsT_env (TT : TypeId → Option TI) (Φ Φ' : List FM) (A : List (Nat × Nat × Ty × Mask)) (t : List (Nat × List AV)) : ∀ (xs : List Operand) (Ts : List TypeId), opdsT ⟨TT, Φ, A⟩ t xs Ts = opdsT ⟨TT, Φ', A⟩ t xs Ts := by
  intro xs
  induction xs with
  | nil => intro Ts; rfl
  | cons x xs ih =>
    intro Ts
    cases Ts with
    | nil => rfl
    | cons T Ts => simp only [opdsT, ih]; rfl

theorem appr_lim {TT : TypeId → Option TI} {Φ : List FM} {Φn : Nat → List FM} {A : List (Nat × Nat × Ty × Mask)} (h : LimΦ Φ Φn) : Appr ⟨TT, Φ, A⟩ (fun n => ⟨TT, Φn n, A⟩) := by
  intro reg i id t look o q e
  cases ho : isCall o.op with
  | false => exact ⟨0, fun m _ => by rw [← e]; exact ev1_env TT (Φn m) Φ A ho reg i id t look⟩
  | true =>
    obtain ⟨dst, op, ty, pos, after, guard⟩ := o
    simp only at ho
    cases op with
    | call c =>
      obtain ⟨callee, as', Ts⟩ := c
      cases callee with
      | value f =>
        unfold ev1 evOp at e ⊢
        simp only at e ⊢
        split at e
        · rename_i g u c vs hs1 hs2
          obtain ⟨hc, e⟩ := cond_some e
          obtain ⟨n, hn⟩ := callG_lim h e
          refine ⟨n, fun m hm => ?_⟩
          have hs2' : sing (opdsT ⟨TT, Φn m, A⟩ t as'.toList Ts.toList) = some vs := by rw [opdsT_env TT (Φn m) Φ]; exact hs2
          rw [hs1, hs2']
          simp only [hc, cond_true]
          exact hn m hm
        · cases e
      | builtin b => simp [isCall] at ho
      | invoke r m => simp [isCall] at ho
    | _ => simp [isCall] at ho

/-! ## Families of functions that call each other -/
structure Fam where
  E : Nat → Env
  g : Nat → Nat
  ps : Nat → List Prm
  rs : Nat → List (Ty × Mask)
  fn : Nat → Func
  io : Nat → List Nat
  n : Nat

namespace Fam
variable (D : Fam)
def F := (i : Nat) → (chain ((D.ps i).map Prm.ty)).den → Option (resTy ((D.rs i).map (·.1)) (outsOf (D.ps i))).den
def own (f : D.F) : Nat → List FM
  | 0 => []
  | k + 1 => ⟨D.g k, D.ps k, D.rs k, f k⟩ :: own f k
def env (i : Nat) (f : D.F) : Env := ⟨(D.E i).TT, D.own f D.n ++ (D.E i).Φ, (D.E i).A⟩
noncomputable def step (f : D.F) : D.F := fun i => fnOf (D.env i f) (D.io i) (D.fn i) (D.ps i) (D.rs i)
noncomputable def approx : Nat → D.F
  | 0 => fun _ _ => none
  | n + 1 => D.step (approx n)
open Classical in
noncomputable def lim : D.F := fun i x => if h : ∃ n, (D.approx n i x).isSome = true then D.approx h.choose i x else none

theorem limΦ_refl : ∀ Φ : List FM, LimΦ Φ (fun _ => Φ) := by
  intro Φ
  induction Φ with
  | nil => exact .nil
  | cons m Φ ih => obtain ⟨g, ps, rs, f⟩ := m; exact .cons (fn := fun _ => f) (fun x r h => ⟨0, fun _ _ => h⟩) ih

theorem own_lim {f : D.F} {fn : Nat → D.F} (h : ∀ i x r, f i x = some r → ∃ n, ∀ m, n ≤ m → fn m i x = some r) (Φ : List FM) : ∀ k, LimΦ (D.own f k ++ Φ) (fun n => D.own (fn n) k ++ Φ) := by
  intro k
  induction k with
  | zero => exact limΦ_refl Φ
  | succ k ih => exact .cons (fn := fun n => fn n k) (h k) ih

theorem step_lim {f : D.F} {fn : Nat → D.F} (h : ∀ i x r, f i x = some r → ∃ n, ∀ m, n ≤ m → fn m i x = some r) {i : Nat} {x} {r} (e : D.step f i x = some r) : ∃ n, ∀ m, n ≤ m → D.step (fn m) i x = some r := by
  unfold step fnOf at e ⊢
  obtain ⟨N, hN⟩ := run_appr (En := fun m => D.env i (fn m)) (appr_lim (D.own_lim h (D.E i).Φ D.n)) e
  refine ⟨N, fun m hm => ?_⟩
  have := hN m hm
  rw [show fin (D.env i (fn m)) (D.fn i) (D.ps i) (D.rs i) = fin (D.env i f) (D.fn i) (D.ps i) (D.rs i) from fin_env _ _ _ _ _ _ _]
  exact this

theorem approx_succ : ∀ {n i : Nat} {x} {r}, D.approx n i x = some r → D.approx (n + 1) i x = some r := by
  intro n
  induction n with
  | zero => intro i x r h; cases h
  | succ n ih =>
    intro i x r h
    obtain ⟨N, hN⟩ := D.step_lim (f := D.approx n) (fn := fun _ => D.approx (n + 1)) (fun i x r h => ⟨0, fun _ _ => ih h⟩) h
    exact hN N (Nat.le_refl _)
theorem approx_mono {n m i : Nat} {x} {r} (h : D.approx n i x = some r) (hm : n ≤ m) : D.approx m i x = some r := by
  induction hm with
  | refl => exact h
  | step _ ih => exact D.approx_succ ih

theorem lim_some {i : Nat} {x} {r} : D.lim i x = some r ↔ ∃ n, D.approx n i x = some r := by
  unfold lim
  constructor
  · intro h
    split at h
    · exact ⟨_, h⟩
    · cases h
  · rintro ⟨n, hn⟩
    have h : ∃ n, (D.approx n i x).isSome = true := ⟨n, by rw [hn]; rfl⟩
    rw [dif_pos h]
    obtain ⟨o, ho⟩ := Option.isSome_iff_exists.mp h.choose_spec
    have h1 := D.approx_mono ho (Nat.le_max_right n h.choose)
    have h2 := D.approx_mono hn (Nat.le_max_left n h.choose)
    rw [ho, ← h1, h2]

theorem lim_eq (i : Nat) (x) : D.lim i x = fnOf (D.env i D.lim) (D.io i) (D.fn i) (D.ps i) (D.rs i) x := by
  show D.lim i x = D.step D.lim i x
  apply Option.ext
  intro r
  constructor
  · intro h
    obtain ⟨n, hn⟩ := D.lim_some.mp h
    cases n with
    | zero => cases hn
    | succ n =>
      obtain ⟨N, hN⟩ := D.step_lim (f := D.approx n) (fn := fun _ => D.lim) (fun i x r h => ⟨0, fun _ _ => D.lim_some.mpr ⟨n, h⟩⟩) hn
      exact hN N (Nat.le_refl _)
  · intro h
    obtain ⟨N, hN⟩ := D.step_lim (f := D.lim) (fn := D.approx) (fun i x r h => by
      obtain ⟨n, hn⟩ := D.lim_some.mp h
      exact ⟨n, fun m hm => D.approx_mono hn hm⟩) h
    exact D.lim_some.mpr ⟨N + 1, hN N (Nat.le_refl _)⟩

theorem allS_append {P : Program} : ∀ {l k : List FM}, AllS P l → AllS P k → AllS P (l ++ k) := by
  intro l
  induction l with
  | nil => intro k _ h; exact h
  | cons m l ih => intro k h h2; exact ⟨h.1, ih h.2 h2⟩

/-- What is asked of each function of a family. -/
def Ok (P : Program) : Nat → Prop
  | 0 => True
  | k + 1 => (TOk P (D.E k).TT ∧ AllS P (D.E k).Φ ∧ P.funcs[D.g k]? = some (D.fn k) ∧ okFn (D.fn k) (D.ps k) = true) ∧ Ok P k
theorem Ok.at {P : Program} {D : Fam} : ∀ {k i : Nat}, Ok D P k → i < k → TOk P (D.E i).TT ∧ AllS P (D.E i).Φ ∧ P.funcs[D.g i]? = some (D.fn i) ∧ okFn (D.fn i) (D.ps i) = true := by
  intro k
  induction k with
  | zero => intro i _ h; omega
  | succ k ih =>
    intro i h hi
    by_cases e : i = k
    · subst e; exact h.1
    · exact ih h.2 (by omega)

theorem sound_approx {P : Program} (hmix : P.follows .mixedOrders = true) (h : D.Ok P D.n) : ∀ n i, i < D.n → Sound P ⟨D.g i, D.ps i, D.rs i, D.approx n i⟩ := by
  intro n
  induction n with
  | zero =>
    intro i hi
    obtain ⟨h1, h2, h3, h4⟩ := h.at hi
    unfold okFn at h4
    simp only [Bool.and_eq_true, bne_iff_ne, ne_eq] at h4
    exact ⟨⟨D.fn i, h3, h4.1, by have := h4.2.1; cases hb : (D.fn i).body <;> simp_all⟩, fun w S F Vs x r _ _ _ e => by cases e⟩
  | succ n ih =>
    intro i hi
    obtain ⟨h1, h2, h3, h4⟩ := h.at hi
    refine sound_of (E := D.env i (D.approx n)) h1 (allS_append ?_ h2) hmix h3 h4
    have : ∀ k, k ≤ D.n → AllS P (D.own (D.approx n) k) := by
      intro k
      induction k with
      | zero => intro _; trivial
      | succ k ihk => intro hk; exact ⟨ih k (by omega), ihk (by omega)⟩
    exact this D.n (Nat.le_refl _)

theorem sound {P : Program} (hmix : P.follows .mixedOrders = true) (h : D.Ok P D.n) (i : Nat) (hi : i < D.n) : Sound P ⟨D.g i, D.ps i, D.rs i, D.lim i⟩ := by
  refine ⟨(D.sound_approx hmix h 0 i hi).code, fun w S F Vs x r hA hS hF e => ?_⟩
  obtain ⟨n, hn⟩ := D.lim_some.mp e
  refine ((D.sound_approx hmix h n i hi).calls w S F Vs x r hA hS hF hn).mono fun e w' h => ?_
  match e, h with
  | .returned v, h =>
    obtain ⟨S', F1, F2, Rs, hp⟩ := h
    exact ⟨S', F1, F2, Rs, hp.kp, hp.ret, hp.res, hp.outs, hp.dis, hp.own, hp.new⟩
end Fam
end Ev
end

section
namespace Pl
open Go

theorem w64 {n : Int} (h1 : -9223372036854775808 ≤ n) (h2 : n ≤ 9223372036854775807) : IntKind.wrap .i64 n = n := IntWalk.i64_in n ⟨h1, h2⟩
theorem w64s {i n : Nat} (h : i < n) (hn : n ≤ 9223372036854775807) : IntKind.wrap .i64 ((i : Int) + 1) = ((i + 1 : Nat) : Int) := by rw [w64 (by omega) (by omega)]; rfl

theorem w64_wf {n : Int} (h : (Lit.int .i64 n).wf = true) : -9223372036854775808 ≤ n ∧ n ≤ 9223372036854775807 := by
  unfold Lit.wf at h
  simp [IntKind.min, IntKind.max, IntKind.signed, IntKind.bits] at h
  omega

section
variable {α β σ : Type}

/-- A loop that folds a list. -/
theorem loop_fold (L : σ → Nat → Option β) (xs : List α) (step : σ → α → σ) (I : Nat → σ → Prop)
    (h1 : ∀ i s, I i s → (hi : i < xs.length) → L s i = L (step s xs[i]) (i + 1) ∧ I (i + 1) (step s xs[i])) :
    ∀ s, I 0 s → L s 0 = L (xs.foldl step s) xs.length ∧ I xs.length (xs.foldl step s) := by
  have : ∀ d i s, i + d = xs.length → I i s → L s i = L ((xs.drop i).foldl step s) xs.length ∧ I xs.length ((xs.drop i).foldl step s) := by
    intro d
    induction d with
    | zero =>
      intro i s hi hI
      have hi : i = xs.length := by omega
      subst hi
      rw [List.drop_length]
      exact ⟨rfl, hI⟩
    | succ d ih =>
      intro i s hi hI
      have hlt : i < xs.length := by omega
      obtain ⟨h, hI2⟩ := h1 i s hI hlt
      rw [h, List.drop_eq_getElem_cons hlt, List.foldl_cons]
      exact ih (i + 1) _ (by omega) hI2
  intro s h0
  have := this xs.length 0 s (by omega) h0
  simpa using this

/-- A loop that looks for one that has a property. -/
theorem loop_any (L : Nat → Option β) (xs : List α) (p : α → Bool) (a : Option β)
    (h1 : ∀ i (hi : i < xs.length), L i = if p xs[i] then a else L (i + 1)) : L 0 = if xs.any p then a else L xs.length := by
  have : ∀ d i, i + d = xs.length → L i = if (xs.drop i).any p then a else L xs.length := by
    intro d
    induction d with
    | zero =>
      intro i hi
      have hi : i = xs.length := by omega
      subst hi
      simp
    | succ d ih =>
      intro i hi
      have hlt : i < xs.length := by omega
      rw [h1 i hlt, List.drop_eq_getElem_cons hlt, List.any_cons]
      cases hp : p xs[i] with
      | true => simp
      | false => simp only [Bool.false_or]; rw [if_neg (by simp)]; exact ih (i + 1) (by omega)
  have := this xs.length 0 (by omega)
  simpa using this

/-- A loop that looks for the first one that has a property. -/
theorem loop_find (L : Nat → Option β) (xs : List α) (p : α → Bool) (a : Nat → Option β)
    (h1 : ∀ i (hi : i < xs.length), L i = if p xs[i] then a i else L (i + 1)) : L 0 = if xs.any p then a (xs.findIdx p) else L xs.length := by
  have : ∀ d i, i + d = xs.length → L i = if (xs.drop i).any p then a (i + (xs.drop i).findIdx p) else L xs.length := by
    intro d
    induction d with
    | zero =>
      intro i hi
      have hi : i = xs.length := by omega
      subst hi
      simp
    | succ d ih =>
      intro i hi
      have hlt : i < xs.length := by omega
      rw [h1 i hlt, List.drop_eq_getElem_cons hlt, List.any_cons, List.findIdx_cons]
      cases hp : p xs[i] with
      | true => simp
      | false =>
        simp only [Bool.false_or, cond_false]
        rw [if_neg (by simp), ih (i + 1) (by omega)]
        split
        · congr 1; omega
        · rfl
  have := this xs.length 0 (by omega)
  simpa using this

/-- A loop that lays each element of a list anew. -/
theorem loop_set (L : List α → Nat → Option β) (n : Nat) (f : Nat → α) (h1 : ∀ (s : List α) i, s.length = n → i < n → L s i = L (s.set i (f i)) (i + 1)) :
    ∀ s : List α, s.length = n → L s 0 = L ((List.range n).map f) n := by
  have : ∀ d i (s : List α), i + d = n → s.length = n → (∀ j, j < i → s[j]? = some (f j)) → L s i = L ((List.range n).map f) n := by
    intro d
    induction d with
    | zero =>
      intro i s hi hs hj
      have hi : i = n := by omega
      subst hi
      congr 1
      apply List.ext_getElem?
      intro j
      by_cases h : j < i
      · rw [hj j h]; simp [h]
      · rw [List.getElem?_eq_none (by omega), List.getElem?_eq_none (by simp; omega)]
    | succ d ih =>
      intro i s hi hs hj
      rw [h1 s i hs (by omega)]
      refine ih (i + 1) _ (by omega) (by simp [hs]) fun j hji => ?_
      by_cases e : j = i
      · subst e; rw [List.getElem?_set_self (by omega)]
      · rw [List.getElem?_set_ne (by omega)]; exact hj j (by omega)
  intro s hs
  exact this n 0 s (by omega) hs fun j h => by omega
end

theorem getD_nat {xs : List Int} {i : Nat} (h : i < xs.length) (d : Int) : xs.getD i d = xs[i] := by simp [List.getD_eq_getElem?_getD, h]
theorem foldl_snoc {α β : Type} (f : α → β) (xs : List α) (a : List β) : xs.foldl (fun s x => s ++ [f x]) a = a ++ xs.map f := by
  induction xs generalizing a with
  | nil => simp
  | cons x xs ih => rw [List.foldl_cons, ih]; simp
theorem cond_ite {α : Type} (b : Bool) (x y : α) : (bif b then x else y) = if b = true then x else y := by cases b <;> rfl
end Pl
end

section
namespace Ev
open Go Go.RowKit

/-- A slice of integers that came in. -/
def IsRow (k : IntKind) (w : World) (a : Option Addr) (len cap : Nat) (zs : List Int) : Prop :=
  (a = none ∧ len = 0 ∧ cap = 0 ∧ zs = []) ∨
  ∃ x, a = some x ∧ len ≤ cap ∧ cap ≤ maxLen ∧ zs.length = cap ∧ (∀ i, i < zs.length → w.cell? (x.add i) = some (.int k (zs.getD i 0))) ∧ ∀ n ∈ zs, (Lit.int k n).wf = true

def old (w : World) : Nat → Prop := fun b => b < w.heap.size
def no : Nat → Prop := fun _ => False

theorem arg_one {c : CF} {S : Nat → Prop} {τ : Ty} {x : τ.den} {v : Value} (h1 : τ.agg = false) (h2 : τ.size = 1) (h : ImmAt (gh c [v]) S τ (.inr 0) 0 x) : ArgAt c S (.imm τ) x v no :=
  ⟨fun _ h => h, [v], valOf_one h1 rfl, by simp [h2], h⟩
theorem arg_int {c : CF} {S : Nat → Prop} {k : IntKind} {n : Int} : ArgAt c S (.imm (.int k)) n (.int k n) no := arg_one rfl rfl rfl
theorem arg_bool {c : CF} {S : Nat → Prop} {b : Bool} : ArgAt c S (.imm .bool) b (.bool b) no := arg_one rfl rfl rfl
theorem arg_str {c : CF} {S : Nat → Prop} {b : ByteArray} : ArgAt c S (.imm .str) b (.string b) no := arg_one rfl rfl rfl

theorem cell_add {w : World} {x : Addr} {i : Nat} {v : Value} (h : w.cell? (x.add i) = some v) : w.cell? ⟨x.block, x.off + i, none⟩ = some v ∧ x.block < w.heap.size := by
  have hb : x.block < w.heap.size := by
    have e : (x.add i).block = x.block := by unfold Addr.add; split <;> rfl
    rcases Nat.lt_or_ge x.block w.heap.size with h1 | h1
    · exact h1
    · unfold World.cell? at h; rw [e, Array.getElem?_eq_none h1] at h; cases h
  refine ⟨?_, hb⟩
  by_cases hi : i = 0
  · subst hi
    have e : x.add 0 = x := rfl
    rw [e] at h
    obtain ⟨b, q, s⟩ := x
    cases s with
    | none => exact h
    | some t => exact absurd h (by unfold World.cell?; simp only [Option.isSome_some, if_true]; split <;> simp)
  · unfold Addr.add at h; rw [if_neg hi] at h; exact h

theorem arg_ints {w : World} {k : IntKind} {a : Option Addr} {len cap : Nat} {zs : List Int} (h : IsRow k w a len cap zs) :
    ArgAt (wcf w nil0) (old w) (.imm (.sl (.int k))) (zs.take len) (.slice a len cap) no := by
  refine arg_one rfl rfl ?_
  rcases h with ⟨rfl, rfl, rfl, rfl⟩ | ⟨x, rfl, h1, h2, h3, h4, _⟩
  · exact ⟨none, 0, rfl, Nat.le_refl _, fun i hi => by simp at hi⟩
  · have hl : (zs.take len).length = len := by rw [List.length_take]; omega
    refine ⟨some x, cap, by show some _ = _; rw [hl], by rw [hl]; exact h1, fun i hi => ?_⟩
    rw [hl] at hi
    obtain ⟨hc, hb⟩ := cell_add (h4 i (by omega))
    have hs : x = ⟨x.block, x.off, none⟩ := by
      have h0 := h4 0 (by omega)
      obtain ⟨b, q, s⟩ := x
      cases s with
      | none => rfl
      | some t => exact absurd h0 (by unfold Addr.add World.cell?; simp only [if_true, Option.isSome_some]; split <;> simp)
    refine ⟨x.block, x.off, by rw [← hs], hb, ?_⟩
    show (gh (wcf w nil0) _).cl (.inl x.block) (x.off + i * 1) = _
    rw [Nat.mul_one, gh_inl, wcf_inl, hc]
    have hg : List.getD (zs.take len) i (Ty.int k).dflt = zs.getD i 0 := by
      simp only [List.getD_eq_getElem?_getD, List.getElem?_take, hi, if_true]; rfl
    rw [hg]

theorem row_wf {w : World} {k : IntKind} {a : Option Addr} {len cap : Nat} {zs : List Int} (h : IsRow k w a len cap zs) : ∀ n ∈ zs.take len, (Lit.int k n).wf = true := by
  intro n hn
  rcases h with ⟨_, _, _, rfl⟩ | ⟨x, _, _, _, _, _, h⟩
  · simp at hn
  · exact h n (List.mem_of_mem_take hn)
theorem row_len {w : World} {k : IntKind} {a : Option Addr} {len cap : Nat} {zs : List Int} (h : IsRow k w a len cap zs) : (zs.take len).length ≤ maxLen := by
  rcases h with ⟨_, _, _, rfl⟩ | ⟨x, _, h1, h2, h3, _, _⟩
  · simp
  · rw [List.length_take]; omega

theorem argsAt_nil {c : CF} {S : Nat → Prop} : ArgsAt c S [] () [] no := fun _ h => h
theorem argsAt_one {c : CF} {S : Nat → Prop} {p : Prm} {x : p.ty.den} {v : Value} (h : ArgAt c S p x v no) : ArgsAt c S [p] x [v] no := h
theorem argsAt_cons {c : CF} {S : Nat → Prop} {p q : Prm} {ps : List Prm} {x : p.ty.den} {y : (chain ((q :: ps).map Prm.ty)).den} {v : Value} {vs : List Value} (h : ArgAt c S p x v no) (h2 : ArgsAt c S (q :: ps) y vs no) :
    ArgsAt c S (p :: q :: ps) (x, y) (v :: vs) no := ⟨no, no, fun _ => by simp [no], fun _ h => h.elim, h, h2⟩

theorem outs_sub {ps : List Prm} : (∀ p ∈ ps, ∃ τ, p = .imm τ) → outsOf ps = [] := by
  induction ps with
  | nil => intro _; rfl
  | cons p ps ih =>
    intro h
    obtain ⟨τ, rfl⟩ := h p (by simp)
    simp only [outsOf]
    exact ih fun q hq => h q (by simp [hq])

/-- A law's call: it returns true, and all that was there is az it was. -/
theorem law_calls {P : Program} {g : Nat} {ps : List Prm} {f : (chain (ps.map Prm.ty)).den → Option (resTy [Ty.bool] (outsOf ps)).den} (hS : Sound P ⟨g, ps, [(.bool, .sh)], f⟩)
    {w : World} {Vs : List Value} {x : (chain (ps.map Prm.ty)).den} {r : (resTy [Ty.bool] (outsOf ps)).den} (hA : ArgsAt (wcf w nil0) (old w) ps x Vs no) (hf : f x = some r) (hr : (split [Ty.bool] (outsOf ps) r).1 = true) :
    Calls P g Vs.toArray w fun e w' => e = .returned (.bool true) ∧ Below w.heap.size w w' := by
  refine (hS.calls w (old w) no Vs x r hA (fun k h => by unfold old; omega) (fun _ h => h.elim) hf).mono ?_
  intro e w' h
  match e, h with
  | .returned v, h =>
    obtain ⟨S', F1, F2, Rs, hp⟩ := h
    have hres := hp.res
    have hb : v = .bool true := by
      rw [hp.ret]
      match Rs, hres with
      | [V], hres =>
        obtain ⟨vs, hO⟩ := (ResAt.of rfl).mp hres
        show V = _
        have := hO
        unfold Own at this
        obtain ⟨hv, hvl, hat⟩ := this
        simp only [OwnAt, ImmAt] at hat
        obtain ⟨_, hat⟩ := hat
        unfold valOf at hv
        rw [if_neg (by simp [Ty.agg])] at hv
        subst hv
        simp only [gh_inr, List.getElem?_cons_zero, Option.some.injEq] at hat
        rw [hat]
        exact congrArg Value.bool hr
    refine ⟨by rw [hb], ⟨hp.kp.os, hp.kp.tape, hp.kp.output, hp.kp.size, fun k hk => ?_⟩⟩
    refine hp.kp.block k hk ?_
    rintro (h | h)
    · omega
    · exact h.elim
end Ev
end

