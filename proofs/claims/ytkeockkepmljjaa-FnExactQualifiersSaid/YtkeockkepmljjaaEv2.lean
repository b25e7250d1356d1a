/- An evaluator of code over plain values, proved sound: what a function computes, as a plain function. No condition. -/
import Derived.Test.YtkeockkepmljjaaEv1
import Derived.IntWalk
import Derived.IntWalk
import Derived.Below
import Derived.OpenShut
import Derived.Below
import Derived.OpenShut
set_option linter.unusedVariables false
set_option linter.unusedSimpArgs false
set_option maxRecDepth 100000
section
namespace Ev
open Go

def loadOk (E : Env) (T : TypeId) (t : Ty) : Bool := Nat.ble 1 t.size && (Nat.beq (szOf E T) t.size && cond (aggOf E T) t.agg (!t.agg))

/-- One result: what it is, the entries that it takes along, and those that stay as they are from now on. -/
def fin1 (E : Env) (N : Nat) (look : Nat → Option Entry) (t : List (Nat × List AV)) (τ : Ty) (m : Mask) (v : ResultVar) : Option (τ.den × List Nat × List Nat) :=
  match v with
  | .tmp d => cond (Nat.blt d N) (match slot t d with
    | [v] => cond m.isSh (match cont look v with
        | some u => match cast? u.τ τ u.x with
          | some x => some (x, [], AV.ids [v])
          | none => none
        | none => none)
      (match v with
        | .ref l [] _ => match look l with
          | some e => cond (!e.mem && (!e.fz && decide (e.m = m))) (match cast? e.τ τ e.x with
            | some x => some (x, [l], [])
            | none => none) none
          | none => none
        | _ => none)
    | _ => none) none
  | .cell d T => cond (Nat.blt d N) (match slot t d with
    | [.adr l [] k] => match look l with
      | some e => cond (e.mem && loadOk E T e.τ) (match cast? e.τ τ e.x with
          | some x => cond m.isSh (some (x, [], [l])) (cond (!e.fz && decide (e.m = m)) (some (x, [l], [])) none)
          | none => none) none
      | none => none
    | [.imm (.ip u) x] => cond (m.isSh && loadOk E T u) (match cast? u τ x with
        | some x => some (x, [], [])
        | none => none) none
    | _ => none) none

section
variable {P : Program} {E : Env} {O : Nat → Prop} {b : Bd}

theorem fin1_ok {N : Nat} {X : Nat → Value} {a : Act} {t : List (Nat × List AV)} {τ : Ty} {m : Mask} {v : ResultVar} {x : τ.den} {own sh : List Nat} (hT : TOk P E.TT) (hr : b.rl O) (hN : a.tmps.size = N) (hsl : Sl b a X (slot t))
    (e : fin1 E N b.h t τ m v = some (x, own, sh)) :
    ∃ V, (match v with | .tmp d => pure (a.tmps.getD d undef) | .cell d T => (do loadVar T (← asAddr (a.tmps.getD d undef))) : Sem Value).run P b.w = .ok V b.w ∧
      (∀ l, l ∈ own → ∃ e, b.h l = some e ∧ e.fz = false) ∧
      ∀ S' : Nat → Prop, (∀ k, b.S k → S' k) → (∀ l k, l ∈ sh → (b.h l).isSome = true → b.ft l k → S' k) → ∃ vs F, Own (wcf b.w nil0) S' ⟨τ, x, m⟩ V vs F ∧ ∀ k, F k → ∃ l, l ∈ own ∧ b.ft l k := by
  have slot_lt : ∀ {d : Nat} {v : AV}, Nat.blt d N = true → slot t d = [v] → b.av v (a.tmps.getD d undef) := fun {d v} hd hv => by
    have := hsl.sl d
    rw [hv] at this
    unfold Vl at this
    rw [if_pos (by rw [hN]; exact blt_lt hd)] at this
    exact this
  have shOwn : ∀ {τ : Ty} {x : τ.den} {V : Value} {S' : Nat → Prop}, AvOk b.U b.h b.c S' b.Pl (.imm τ x) V → ∃ vs F, Own (wcf b.w nil0) S' ⟨τ, x, .sh⟩ V vs F ∧ ∀ k, F k → ∃ l, l ∈ ([] : List Nat) ∧ b.ft l k := fun {τ x V S'} ⟨vs, h1, h2⟩ =>
    ⟨vs, fun _ => False, ⟨h1, h2.1, OwnAt.sh_iff.mpr ⟨fun _ h => h, h2.2.move (fun _ _ => rfl) fun k hk => ⟨hk, fun _ => rfl⟩⟩⟩, fun _ h => h.elim⟩
  have ftS : ∀ {l : Nat} {S' : Nat → Prop}, (∀ l' k, l' ∈ [l] → (b.h l').isSome = true → b.ft l' k → S' k) → (b.h l).isSome = true → ∀ k, b.ft l k → S' k := fun h hs k hk => h _ k (by simp) hs hk
  unfold fin1 at e
  split at e
  · rename_i d
    obtain ⟨hd, e1⟩ := cond_some e
    clear e
    split at e1
    · rename_i v hv
      have hav := slot_lt hd hv
      refine ⟨a.tmps.getD d undef, by simp, ?_⟩
      cases hm : m.isSh with
      | true =>
        rw [hm, cond_true] at e1
        have hm := isSh_eq hm
        subst hm
        split at e1
        · rename_i u hu
          split at e1
          · rename_i x' hx
            simp only [Option.some.injEq, Prod.mk.injEq] at e1
            obtain ⟨rfl, rfl, rfl⟩ := e1
            refine ⟨fun l hl => by simp at hl, fun S' hS hF => ?_⟩
            obtain ⟨he, rfl⟩ := cast?_some hx
            have := cont_ok (S' := S') hr hav hu hS fun l k hl hs hk => hF l k hl hs hk
            obtain ⟨τu, xu, mu⟩ := u
            simp only at he this
            subst he
            exact shOwn this
          · cases e1
        · cases e1
      | false =>
        rw [hm, cond_false] at e1
        split at e1
        · rename_i l w
          split at e1
          · rename_i en hen
            obtain ⟨hc, e1⟩ := cond_some e1
            simp only [Bool.and_eq_true, Bool.not_eq_true', decide_eq_true_eq] at hc
            obtain ⟨hmem, hfz, hmm⟩ := hc
            split at e1
            · rename_i x' hx
              simp only [Option.some.injEq, Prod.mk.injEq] at e1
              obtain ⟨rfl, rfl, rfl⟩ := e1
              refine ⟨fun l' hl => by simp at hl; subst hl; exact ⟨en, hen, hfz⟩, fun S' hS hF => ?_⟩
              obtain ⟨vs, ho⟩ := av_ref_own hr hav hen hfz hmem
              obtain ⟨he, rfl⟩ := cast?_some hx
              subst hmm
              obtain ⟨τ1, x1, m1, mem1, fz1, v1⟩ := en
              simp only at he ho
              subst he
              exact ⟨vs, b.ft l, ho.nil0 hS, fun k hk => ⟨l, by simp, hk⟩⟩
            · cases e1
          · cases e1
        · cases e1
    · cases e1
  · rename_i d T
    obtain ⟨hd, e1⟩ := cond_some e
    clear e
    split at e1
    · rename_i l w hv
      have hav := slot_lt hd hv
      split at e1
      · rename_i en hen
        obtain ⟨hc, e1⟩ := cond_some e1
        rw [Bool.and_eq_true] at hc
        obtain ⟨hmem, hlo⟩ := hc
        unfold loadOk at hlo
        rw [Bool.and_eq_true] at hlo
        obtain ⟨i, hti, hsz, hag⟩ := load_facts hT hlo.2 (Nat.le_of_ble_eq_true hlo.1)
        obtain ⟨_, hav'⟩ := hav
        obtain ⟨_, hav'⟩ := hav' en hen
        obtain ⟨_, _, u, bb, q, hl, hV⟩ := hav' (by simp [aliveA, deref])
        simp only [loc, base, hmem, if_true, Option.some.injEq, Prod.mk.injEq, Sum.inl.injEq] at hl
        obtain ⟨_, rfl, rfl⟩ := hl
        have hE := hr.ent l en hen
        -- the cells
        have hcells : ∃ vs : List Value, vs.length = en.τ.size ∧ ∀ j, j < en.τ.size → b.c.cl (.inl (b.Pl l).1) ((b.Pl l).2 + j) = vs[j]? := by
          refine vals_of fun j hj => ?_
          unfold EntOk at hE
          by_cases hz : en.fz = true
          · rw [if_pos hz] at hE
            have h3 := hE.2.2
            simp only [base, hmem, if_true] at h3
            exact h3.cells j hj
          · rw [if_neg hz] at hE
            obtain ⟨F', h1, _⟩ := hE
            simp only [base, hmem, if_true] at h1
            exact h1.cells j hj
        obtain ⟨vs, hvl, hvc⟩ := hcells
        obtain ⟨V, hrun, hval⟩ := run_loadVar' (P := P) (w := b.w) (G := b.G) hti (vs := vs) (by rw [hvl, hsz]) (fun j hj => hvc j (by rw [← hsz]; exact hj))
        have hval : valOf en.τ vs V := by
          unfold valOf; rw [← hag]; exact hval
        refine ⟨V, ?_, ?_⟩
        · simp only [hV, Sem.run_bind, asAddr, Sem.run_pure, Result.andThen_ok]; exact hrun
        · split at e1
          · rename_i x' hx
            cases hm : m.isSh with
            | true =>
              rw [hm, cond_true] at e1
              have hm := isSh_eq hm
              simp only [Option.some.injEq, Prod.mk.injEq] at e1
              obtain ⟨rfl, rfl, rfl⟩ := e1
              subst hm
              refine ⟨fun l hl => by simp at hl, fun S' hS hF => ?_⟩
              have hI := hE.frz (S' := S') hS (ftS hF (by simp [hen]))
              unfold EntOk at hI
              simp only [if_true] at hI
              have h3 := hI.2.2
              simp only [base, hmem, if_true] at h3
              obtain ⟨he, rfl⟩ := cast?_some hx
              obtain ⟨τ1, x1, m1, mem1, fz1, v1⟩ := en
              simp only at he h3 hval hvl hvc
              subst he
              exact shOwn ⟨vs, hval, ImmV.of_at h3 hvl hvc⟩
            | false =>
              rw [hm, cond_false] at e1
              obtain ⟨hc, e1⟩ := cond_some e1
              simp only [Bool.and_eq_true, Bool.not_eq_true', decide_eq_true_eq] at hc
              obtain ⟨hfz, hmm⟩ := hc
              simp only [Option.some.injEq, Prod.mk.injEq] at e1
              obtain ⟨rfl, rfl, rfl⟩ := e1
              refine ⟨fun l' hl => by simp at hl; subst hl; exact ⟨en, hen, hfz⟩, fun S' hS hF => ?_⟩
              unfold EntOk at hE
              rw [if_neg (by simp [hfz])] at hE
              obtain ⟨F', h1, h2, h34⟩ := hE
              rw [if_pos hmem] at h34
              obtain ⟨h3, _⟩ := h34
              simp only [base, hmem, if_true] at h1 h2
              obtain ⟨he, rfl⟩ := cast?_some hx
              subst hmm
              obtain ⟨τ1, x1, m1, mem1, fz1, v1⟩ := en
              simp only at he h1 h2 h3 hval hvl hvc
              subst he
              exact ⟨vs, F', (Own.of (s := ⟨τ1, x1, m1⟩) h1 hval hvl hvc).nil0 hS, fun k hk => ⟨l, by simp, (h3 k).mpr (.inr hk)⟩⟩
          · cases e1
      · cases e1
    · rename_i u xx hv
      have hav := slot_lt hd hv
      obtain ⟨hc, e1⟩ := cond_some e1
      rw [Bool.and_eq_true] at hc
      obtain ⟨hm, hlo⟩ := hc
      have hm := isSh_eq hm
      unfold loadOk at hlo
      rw [Bool.and_eq_true] at hlo
      obtain ⟨i, hti, hsz, hag⟩ := load_facts hT hlo.2 (Nat.le_of_ble_eq_true hlo.1)
      obtain ⟨bb, q, hV, hS, hI⟩ := av_ip.mp hav
      obtain ⟨vs, hvl, hvc⟩ := vals_of (c := b.c) (B := .inl bb) (o := q) (n := u.size) fun j hj => hI.cells j hj
      obtain ⟨V, hrun, hval⟩ := run_loadVar' (P := P) (w := b.w) (G := b.G) hti (vs := vs) (by rw [hvl, hsz]) (fun j hj => hvc j (by rw [← hsz]; exact hj))
      have hval : valOf u vs V := by unfold valOf; rw [← hag]; exact hval
      refine ⟨V, ?_, ?_⟩
      · simp only [hV, Sem.run_bind, asAddr, Sem.run_pure, Result.andThen_ok]; exact hrun
      · split at e1
        · rename_i x' hx
          simp only [Option.some.injEq, Prod.mk.injEq] at e1
          obtain ⟨rfl, rfl, rfl⟩ := e1
          subst hm
          refine ⟨fun l hl => by simp at hl, fun S' hS' hF => ?_⟩
          obtain ⟨he, rfl⟩ := cast?_some hx
          subst he
          exact shOwn ⟨vs, hval, ImmV.of_at (hI.move (fun _ _ => rfl) fun k hk => ⟨hS' k hk, fun _ => rfl⟩) hvl hvc⟩
        · cases e1
    · cases e1
end
end Ev
end

section
namespace Ev
open Go

def fins (E : Env) (N : Nat) (look : Nat → Option Entry) (t : List (Nat × List AV)) : (rs : List (Ty × Mask)) → List ResultVar → Option ((chain (rs.map (·.1))).den × List Nat × List Nat)
  | [], [] => some ((), [], [])
  | [(τ, m)], [v] => fin1 E N look t τ m v
  | (τ, m) :: r :: rs, v :: vs => match fin1 E N look t τ m v with
    | some x => match fins E N look t (r :: rs) vs with
      | some y => some ((x.1, y.1), x.2.1 ++ y.2.1, x.2.2 ++ y.2.2)
      | none => none
    | none => none
  | _, _ => none

theorem fins_nil {E : Env} {N : Nat} {look : Nat → Option Entry} {t : List (Nat × List AV)} : fins E N look t [] [] = some ((), [], []) := rfl
theorem fins_one {E : Env} {N : Nat} {look : Nat → Option Entry} {t : List (Nat × List AV)} {τ : Ty} {m : Mask} {v : ResultVar} : fins E N look t [(τ, m)] [v] = fin1 E N look t τ m v := rfl
theorem fins_cons {E : Env} {N : Nat} {look : Nat → Option Entry} {t : List (Nat × List AV)} {τ : Ty} {m : Mask} {r : Ty × Mask} {rs : List (Ty × Mask)} {v : ResultVar} {vs : List ResultVar} :
    fins E N look t ((τ, m) :: r :: rs) (v :: vs) = match fin1 E N look t τ m v with
    | some x => match fins E N look t (r :: rs) vs with
      | some y => some ((x.1, y.1), x.2.1 ++ y.2.1, x.2.2 ++ y.2.2)
      | none => none
    | none => none := rfl

def rv (a : Act) : ResultVar → Sem Value
  | .tmp d => pure (a.tmps.getD d undef)
  | .cell d T => do loadVar T (← asAddr (a.tmps.getD d undef))

section
variable {P : Program} {E : Env} {O : Nat → Prop} {b : Bd}

theorem fins_ok {N : Nat} {X : Nat → Value} {a : Act} {t : List (Nat × List AV)} (hT : TOk P E.TT) (hr : b.rl O) (hN : a.tmps.size = N) (hsl : Sl b a X (slot t)) :
    ∀ {rs : List (Ty × Mask)} {vs : List ResultVar} {x : (chain (rs.map (·.1))).den} {own sh : List Nat}, fins E N b.h t rs vs = some (x, own, sh) →
    ∃ Rs : List Value, (vs.mapM (rv a)).run P b.w = .ok Rs b.w ∧ (∀ l, l ∈ own → ∃ e, b.h l = some e ∧ e.fz = false) ∧
      (own.Nodup → ∀ S' : Nat → Prop, (∀ k, b.S k → S' k) → (∀ l k, l ∈ sh → (b.h l).isSome = true → b.ft l k → S' k) → ∃ F, RessAt (wcf b.w nil0) S' rs x Rs F ∧ ∀ k, F k → ∃ l, l ∈ own ∧ b.ft l k) := by
  have one : ∀ {τ : Ty} {m : Mask} {v : ResultVar} {x : τ.den} {own sh : List Nat}, fin1 E N b.h t τ m v = some (x, own, sh) → ∃ V, (rv a v).run P b.w = .ok V b.w ∧ (∀ l, l ∈ own → ∃ e, b.h l = some e ∧ e.fz = false) ∧
      ∀ S' : Nat → Prop, (∀ k, b.S k → S' k) → (∀ l k, l ∈ sh → (b.h l).isSome = true → b.ft l k → S' k) → ∃ vs F, Own (wcf b.w nil0) S' ⟨τ, x, m⟩ V vs F ∧ ∀ k, F k → ∃ l, l ∈ own ∧ b.ft l k := by
    intro τ m v x own sh e
    obtain ⟨V, h1, h2, h3⟩ := fin1_ok (P := P) hT hr hN hsl e
    refine ⟨V, ?_, h2, h3⟩
    cases v <;> exact h1
  intro rs
  induction rs with
  | nil =>
    intro vs x own sh e
    cases vs with
    | nil =>
      rw [fins_nil] at e
      cases e
      exact ⟨[], by simp, fun l h => by simp at h, fun _ S' _ _ => ⟨fun _ => False, fun _ h => h, fun k h => h.elim⟩⟩
    | cons _ _ => exact absurd e (by intro h; cases h)
  | cons q rs ih =>
    intro vs x own sh e
    obtain ⟨τ, m⟩ := q
    cases rs with
    | nil =>
      match vs, e with
      | [], e => exact absurd e (by intro h; cases h)
      | _ :: _ :: _, e => exact absurd e (by intro h; cases h)
      | [v], e =>
        rw [fins_one] at e
        obtain ⟨V, h1, h2, h3⟩ := one e
        refine ⟨[V], by simp [List.mapM_cons, h1], h2, fun _ S' hS hF => ?_⟩
        obtain ⟨vs, F, h4, h5⟩ := h3 S' hS hF
        exact ⟨F, ⟨vs, h4⟩, h5⟩
    | cons q2 rs =>
      match vs, e with
      | [], e => exact absurd e (by intro h; cases h)
      | v :: vs, e =>
        rw [fins_cons] at e
        split at e
        · rename_i x1 hx
          split at e
          · rename_i y1 hy
            simp only [Option.some.injEq, Prod.mk.injEq] at e
            obtain ⟨rfl, rfl, rfl⟩ := e
            obtain ⟨V, h1, h2, h3⟩ := one hx
            obtain ⟨Rs, g1, g2, g3⟩ := ih hy
            refine ⟨V :: Rs, by simp [List.mapM_cons, h1, g1], fun l hl => (List.mem_append.mp hl).elim (h2 l) (g2 l), fun hn S' hS hF => ?_⟩
            rw [List.nodup_append] at hn
            obtain ⟨vs1, F1, h4, h5⟩ := h3 S' hS fun l k hl => hF l k (List.mem_append_left _ hl)
            obtain ⟨F2, g4, g5⟩ := g3 hn.2.1 S' hS fun l k hl => hF l k (List.mem_append_right _ hl)
            refine ⟨fun k => F1 k ∨ F2 k, ⟨F1, F2, fun k => Iff.rfl, fun k hk1 hk2 => ?_, ⟨vs1, h4⟩, g4⟩, fun k hk => ?_⟩
            · obtain ⟨l1, a1, a2⟩ := h5 k hk1
              obtain ⟨l2, b1, b2⟩ := g5 k hk2
              obtain ⟨e1, he1, _⟩ := h2 l1 a1
              obtain ⟨e2, he2, _⟩ := g2 l2 b1
              exact hn.2.2 l1 a1 l2 b1 (hr.dis l1 l2 k (by simp [he1]) (by simp [he2]) a2 b2)
            · rcases hk with hk | hk
              · obtain ⟨l, a1, a2⟩ := h5 k hk; exact ⟨l, List.mem_append_left _ a1, a2⟩
              · obtain ⟨l, a1, a2⟩ := g5 k hk; exact ⟨l, List.mem_append_right _ a1, a2⟩
          · cases e
        · cases e

/-- What a function gives back, of the values of its results. -/
theorem results_run {fn : Func} {a : Act} {w : World} {Rs : List Value} (h : (fn.results.toList.mapM (rv a)).run P w = .ok Rs w) : (results fn a.tmps).run P w = .ok (retOf Rs) w := by
  have h1 : (fn.results.mapM (rv a)).run P w = .ok Rs.toArray w := by
    rw [Array.mapM_eq_mapM_toList]
    simp only [map_eq_pure_bind, Sem.run_bind, h, Result.andThen_ok, Sem.run_pure]
  have h2 : results fn a.tmps = (do let vs ← fn.results.mapM (rv a); pure (if h : vs.size = 1 then vs[0] else .tuple vs) : Sem Value) := by
    unfold results
    have : (fun x : ResultVar => (match x with | .tmp t => pure (a.tmps.getD t undef) | .cell d t => do loadVar t (← asAddr (a.tmps.getD d undef)) : Sem Value)) = rv a := by funext v; cases v <;> rfl
    rw [← this]
    rfl
  rw [h2]
  simp only [Sem.run_bind, h1, Result.andThen_ok, Sem.run_pure]
  match Rs with
  | [] => simp [retOf]
  | [v] => simp [retOf]
  | v1 :: v2 :: Rs => simp [retOf]
end
end Ev
end

section
namespace Ev
open Go

/-- What the arguments that are handed back have become, and their entries. -/
def finO (N : Nat) (look : Nat → Option Entry) (t : List (Nat × List AV)) : (ps : List Prm) → Nat → Option ((chainU (outsOf ps)).den × List Nat)
  | [], _ => some ((), [])
  | .imm _ :: ps, d => finO N look t ps (d + 1)
  | .take _ _ :: ps, d => finO N look t ps (d + 1)
  | .io τ m mem :: ps, d => match (match slot t (N + d), mem with
      | [.ref l [] _], false => some l
      | [.adr l [] _], true => some l
      | _, _ => none) with
    | some l => match look l with
      | some e => cond (!(e.mem ^^ mem) && (!e.fz && decide (e.m = m))) (match cast? e.τ τ e.x with
        | some x => match finO N look t ps (d + 1) with
          | some y => some ((x, y.1), l :: y.2)
          | none => none
        | none => none) none
      | none => none
    | none => none

def nodupB : List Nat → Bool
  | [] => true
  | k :: r => !mem? k r && nodupB r
def joinR : (rs os : List Ty) → (chain rs).den → (chainU os).den → (resTy rs os).den
  | _, [], x, _ => x
  | _, _ :: _, x, y => (x, y)
/-- A call's end. -/
def fin (E : Env) (fn : Func) (ps : List Prm) (rs : List (Ty × Mask)) (s : St) : Option (resTy (rs.map (·.1)) (outsOf ps)).den :=
  match fins E fn.ntmps (hget s.h) s.t rs fn.results.toList with
  | some x => match finO fn.ntmps (hget s.h) s.t ps 0 with
    | some y => cond (nodupB (x.2.1 ++ y.2) && x.2.2.all fun l => !mem? l (x.2.1 ++ y.2)) (some (joinR (rs.map (·.1)) (outsOf ps) x.1 y.1)) none
    | none => none
  | none => none

theorem nodupB_ok : ∀ {l : List Nat}, nodupB l = true → l.Nodup := by
  intro l
  induction l with
  | nil => intro _; simp
  | cons k r ih =>
    intro h
    simp only [nodupB, Bool.and_eq_true, Bool.not_eq_true'] at h
    rw [List.nodup_cons]
    exact ⟨fun hk => (by rw [mem?_iff.mpr hk] at h; cases h.1), ih h.2⟩

section
variable {P : Program} {E : Env} {O : Nat → Prop} {b : Bd}

theorem finO_ok {N : Nat} {X : Nat → Value} {a : Act} {t : List (Nat × List AV)} (hr : b.rl O) (hN : a.tmps.size = N) (hsl : Sl b a X (slot t)) :
    ∀ {ps : List Prm} {d : Nat} {o : (chainU (outsOf ps)).den} {own : List Nat} {Vs : List Value}, finO N b.h t ps d = some (o, own) → Vs.length = ps.length → (∀ i V, Vs[i]? = some V → X (N + (d + i)) = V) →
    (∀ l, l ∈ own → ∃ e, b.h l = some e ∧ e.fz = false) ∧ (own.Nodup → ∀ S' : Nat → Prop, (∀ k, b.S k → S' k) → ∃ F, OutsAt (wcf b.w nil0) S' ps o Vs F ∧ ∀ k, F k → ∃ l, l ∈ own ∧ b.ft l k) := by
  intro ps
  induction ps with
  | nil =>
    intro d o own Vs e _ _
    simp only [finO, Option.some.injEq, Prod.mk.injEq] at e
    obtain ⟨_, rfl⟩ := e
    exact ⟨fun l h => by simp at h, fun _ S' _ => ⟨fun _ => False, fun _ h => h, fun k h => h.elim⟩⟩
  | cons p ps ih =>
    intro d o own Vs e hlen hX
    match Vs, hlen with
    | V :: Vs, hlen =>
      have hX' : ∀ i W, Vs[i]? = some W → X (N + (d + 1 + i)) = W := fun i W h => by
        have := hX (i + 1) W (by simpa using h)
        rw [show d + 1 + i = d + (i + 1) by omega]; exact this
      cases p with
      | imm τ => exact ih (d := d + 1) (o := o) e (by simpa using hlen) hX'
      | take τ m => exact ih (d := d + 1) (o := o) e (by simpa using hlen) hX'
      | io τ m mem =>
        have hV := hX 0 V rfl
        have hs := hsl.sl (N + d)
        unfold Vl at hs
        rw [if_neg (by omega)] at hs
        simp only [Nat.add_zero] at hV
        rw [hV] at hs
        unfold finO at e
        split at e
        · rename_i l hl
          split at e
          · rename_i en hen
            obtain ⟨hc, e⟩ := cond_some e
            simp only [Bool.and_eq_true, Bool.not_eq_true', decide_eq_true_eq] at hc
            obtain ⟨hmem, hfz, hmm⟩ := hc
            have hmem : en.mem = mem := by cases h1 : en.mem <;> cases h2 : mem <;> simp_all
            split at e
            · rename_i x hx
              split at e
              · rename_i y hy
                simp only [Option.some.injEq, Prod.mk.injEq] at e
                obtain ⟨rfl, rfl⟩ := e
                obtain ⟨g1, g2⟩ := ih (d := d + 1) (o := y.1) (own := y.2) (Vs := Vs) hy (by simpa using hlen) hX'
                refine ⟨fun l' hl' => (List.mem_cons.mp hl').elim (fun e => e ▸ ⟨en, hen, hfz⟩) (g1 l'), fun hn S' hS => ?_⟩
                rw [List.nodup_cons] at hn
                obtain ⟨F2, h1, h2⟩ := g2 hn.2 S' hS
                obtain ⟨he, rfl⟩ := cast?_some hx
                subst hmm
                have hA : ArgAt (wcf b.w nil0) S' (.io τ en.m mem) (he ▸ en.x) V (b.ft l) := by
                  obtain ⟨τ1, x1, m1, mem1, fz1, v1⟩ := en
                  simp only at he hmem hfz
                  subst he hmem hfz
                  cases mem1 with
                  | false =>
                    have hsl1 : ∃ w, slot t (N + d) = [.ref l [] w] := by
                      split at hl
                      · rename_i l' w hq _; injection hl with hl; subst hl; exact ⟨w, hq⟩
                      · rename_i hq; cases hq
                      · cases hl
                    obtain ⟨w, hq⟩ := hsl1
                    rw [hq] at hs
                    obtain ⟨vs, ho⟩ := av_ref_own hr hs hen rfl rfl
                    exact ⟨vs, ho.nil0 hS⟩
                  | true =>
                    have hsl1 : ∃ w, slot t (N + d) = [.adr l [] w] := by
                      split at hl
                      · rename_i hq; cases hq
                      · rename_i l' w hq _; injection hl with hl; subst hl; exact ⟨w, hq⟩
                      · cases hl
                    obtain ⟨w, hq⟩ := hsl1
                    rw [hq] at hs
                    obtain ⟨_, hav⟩ := hs
                    obtain ⟨_, hav⟩ := hav _ hen
                    obtain ⟨_, _, u, bb, q, hloc, hV⟩ := hav (by simp [aliveA, deref])
                    simp only [loc, base, if_true, Option.some.injEq, Prod.mk.injEq, Sum.inl.injEq] at hloc
                    obtain ⟨_, rfl, rfl⟩ := hloc
                    have hE := hr.ent l _ hen
                    unfold EntOk at hE
                    simp only [Bool.false_eq_true, if_false, if_true, base] at hE
                    obtain ⟨F', q1, q2, q3, n, q4, q5⟩ := hE
                    exact ⟨_, _, F', hV, q1.move (fun _ _ => rfl) (fun k hk => ⟨fun e => q2 k hk e, rfl, fun _ => rfl⟩) fun k hk => ⟨hS k hk, fun _ => rfl⟩, fun hk => q2 _ hk rfl, q3, n, q4, q5⟩
                refine ⟨fun k => b.ft l k ∨ F2 k, ⟨b.ft l, F2, fun k => Iff.rfl, fun k hk1 hk2 => ?_, hA, h1⟩, fun k hk => ?_⟩
                · obtain ⟨l2, b1, b2⟩ := h2 k hk2
                  obtain ⟨e2, he2, _⟩ := g1 l2 b1
                  have := hr.dis l l2 k (by simp [hen]) (by simp [he2]) hk1 b2
                  subst this; exact hn.1 b1
                · rcases hk with hk | hk
                  · exact ⟨l, by simp, hk⟩
                  · obtain ⟨l2, b1, b2⟩ := h2 k hk; exact ⟨l2, by simp [b1], b2⟩
              · cases e
            · cases e
          · cases e
        · cases e
end
end Ev
end

section
namespace Ev
open Go

theorem split_join {rs : List Ty} : ∀ {os : List Ty} {x : (chain rs).den} {y : (chainU os).den}, split rs os (joinR rs os x y) = (x, y) := by
  intro os x y
  cases os with
  | nil => rfl
  | cons o os => rfl

theorem argsAt_len {c : CF} {S : Nat → Prop} : ∀ {ps : List Prm} {x : (chain (ps.map Prm.ty)).den} {Vs : List Value} {F : Nat → Prop}, ArgsAt c S ps x Vs F → Vs.length = ps.length := by
  intro ps
  induction ps with
  | nil => intro x Vs F h; cases Vs with
    | nil => rfl
    | cons _ _ => exact h.elim
  | cons p ps ih =>
    intro x Vs F h
    cases ps with
    | nil =>
      match Vs, h with
      | [V], _ => rfl
      | [], h => exact h.elim
      | _ :: _ :: _, h => exact h.elim
    | cons q ps =>
      match Vs, h with
      | [], h => exact h.elim
      | V :: Vs, h =>
        obtain ⟨F1, F2, _, _, _, h2⟩ := h
        have := ih (x := x.2) h2
        simpa using this

/-- The state that a call begins in. -/
def st0 (N : Nat) (ps : List Prm) (x : (chain (ps.map Prm.ty)).den) : St := ⟨entT N ps x 0 [], entH ps x 0 [], ps.length⟩

noncomputable def fnOf (E : Env) (io : List Nat) (fn : Func) (ps : List Prm) (rs : List (Ty × Mask)) (x : (chain (ps.map Prm.ty)).den) : Option (resTy (rs.map (·.1)) (outsOf ps)).den :=
  run ⟨E, io, resMask fn⟩ (fin E fn ps rs) (lab fn 0) (st0 fn.ntmps ps x)

section
variable {P : Program} {E : Env}

theorem sound_ok {g : Nat} {fn : Func} {c : Code} {ps : List Prm} {rs : List (Ty × Mask)} {io : List Nat} (hT : TOk P E.TT) (hΦ : ∀ m, m ∈ E.Φ → Sound P m) (hmix : P.follows .mixedOrders = true) (hf : P.funcs[g]? = some fn) (hname : fn.name ≠ "runtime.NumGoroutine")
    (hb : fn.body = some c) (hok : codeOk fn.ntmps c = true) (hlen : ps.length ≤ fn.ntmps) : Sound P ⟨g, ps, rs, fnOf E io fn ps rs⟩ := by
  refine ⟨⟨fn, hf, hname, by simp [hb]⟩, fun w S F Vs x r hA hS hF hfx => ?_⟩
  have hVl := argsAt_len hA
  let N := fn.ntmps
  let a0 : Act := { tmps := Vs.toArray ++ Array.replicate (fn.ntmps - Vs.toArray.size) undef, defers := [] }
  have hN0 : a0.tmps.size = N := by simp [a0, N]; simp only at hVl; omega
  let X : Nat → Value := fun k => (Vs[k - N]?).getD undef
  let O := Mine w F
  let bd0 : Bd := ⟨fun _ => False, fun _ => none, S, w, nil0, fun _ => (0, 0), fun _ _ => False⟩
  have hr0 : bd0.rl O := ⟨fun l e he => (by cases he), fun l e he => (by cases he), fun l e he => (by cases he), fun l l' k hl => (by cases hl), fun l k hl => (by cases hl), fun k hk => ⟨.inl hk, hS k hk⟩⟩
  have hval : ∀ i V, Vs[i]? = some V → Vl a0 X (0 + i) = V ∧ Vl a0 X (N + (0 + i)) = V := fun i V hi => by
    have hlt : i < Vs.length := by
      rcases Nat.lt_or_ge i Vs.length with h | h
      · exact h
      · rw [List.getElem?_eq_none h] at hi; cases hi
    have hiN : i < N := by simp only at hVl; have : ps.length ≤ N := hlen; omega
    refine ⟨?_, ?_⟩
    · unfold Vl
      rw [Nat.zero_add, if_pos (by rw [hN0]; exact hiN)]
      simp only [a0]
      rw [Array.getD_eq_getD_getElem?, Array.getElem?_append_left (by simpa using hlt)]
      simp [hi]
    · unfold Vl
      rw [Nat.zero_add, if_neg (by rw [hN0]; omega)]
      simp only [X]
      rw [show N + i - N = i by omega, hi]; rfl
  obtain ⟨b1, k1, k2, k3, k4, k5, k6⟩ := ent_ok (N := N) (val := Vl a0 X) (t := []) (h := []) (d := 0) (b := bd0) (F := F) hr0 rfl (fun l h => h.elim) (fun k => trivial) hA
    (fun k hk => ⟨.inr hk, hF k hk, fun l e he => (by cases he)⟩) hval
  have hinv : Inv O N X S w b1 a0 (st0 N ps x) := ⟨⟨k1, k2, ⟨k4⟩, hN0, fun l hl => by have := k3 l hl; simp only [st0]; simp only at this; omega⟩, by rw [k5, k6]; exact Kp.refl _ _ _, rfl⟩
  let G : Act → World → Prop := fun a' w' => a'.defers = [] ∧ ∃ v, (results fn a'.tmps).run P w' = .ok v w' ∧ ∃ S' F1 F2 Rs, Post S w ⟨g, ps, rs, fnOf E io fn ps rs⟩ Vs F r v w' S' F1 F2 Rs
  have hgo : Goes P G [.c c] a0 b1.w := by
    have hl0 : lab fn 0 = [.c c] := by simp [lab, bodyOf, hb]
    refine run_ok (F := ⟨E, io, resMask fn⟩) (fin := fin E fn ps rs) (O := O) (S0 := S) (X := X) (N := N) (w0 := w) (out := r) hT hΦ hmix (fun s hs b a hi => ?_) (k := [.c c]) (s := st0 N ps x) (by rw [← hl0]; exact hfx)
      (by simp only [kOk, List.all_cons, List.all_nil, itOk, Bool.and_true]; exact hok) hinv
    refine ⟨hi.defers, ?_⟩
    have hrl := hi.me.rl
    unfold fin at hs
    rw [← hi.me.h] at hs
    split at hs
    · rename_i q hq
      split at hs
      · rename_i y hy
        obtain ⟨hc, hs⟩ := cond_some hs
        injection hs with hs
        rw [Bool.and_eq_true, List.all_eq_true] at hc
        have hnd := nodupB_ok hc.1
        rw [List.nodup_append] at hnd
        obtain ⟨Rs, r1, r2, r3⟩ := fins_ok (P := P) hT hrl hi.me.size hi.me.sl (x := q.1) (own := q.2.1) (sh := q.2.2) hq
        obtain ⟨o1, o2⟩ := finO_ok (d := 0) (Vs := Vs) hrl hi.me.size hi.me.sl (o := y.1) (own := y.2) hy (by simpa using hVl) (fun i V hV => by
          simp only [X]; rw [show fn.ntmps + (0 + i) - N = i by simp only [N]; omega, hV]; rfl)
        let S' : Nat → Prop := fun k => b.S k ∨ ∃ l, l ∈ q.2.2 ∧ (b.h l).isSome = true ∧ b.ft l k
        obtain ⟨F1, g1, g2⟩ := r3 hnd.1 S' (fun k h => .inl h) fun l k hl hs hk => .inr ⟨l, hl, hs, hk⟩
        obtain ⟨F2, g3, g4⟩ := o2 hnd.2.1 S' fun k h => .inl h
        have hownS : ∀ l k, l ∈ q.2.1 ++ y.2 → (∃ e, b.h l = some e) → b.ft l k → O k ∧ ¬ S' k := fun l k hl ⟨e, he⟩ hk => by
          obtain ⟨h1, h2⟩ := hrl.own l k (by simp [he]) hk
          refine ⟨h1, fun h => h.elim h2 fun ⟨l2, hl2, hs2, hk2⟩ => ?_⟩
          have := hrl.dis l l2 k (by simp [he]) hs2 hk hk2
          subst this
          have := hc.2 l hl2
          rw [mem?_iff.mpr hl] at this; cases this
        refine ⟨retOf Rs, results_run r1, S', F1, F2, Rs, ⟨?_, rfl, ?_, ?_, fun k h1 h2 => ?_, fun k hk => ?_, fun k hk h => ?_⟩⟩
        · refine hi.kp.trans ⟨rfl, rfl, rfl, Nat.le_refl _, fun _ _ _ => rfl, fun k hk => ⟨.inl hk, rfl⟩, fun k hk => hk.elim .inl fun ⟨l, _, hs, hk⟩ => .inr (hrl.own l k hs hk).1⟩
        · rw [← hs]; simp only [split_join]; exact g1
        · rw [← hs]; simp only [split_join]; exact g3
        · obtain ⟨l1, a1, a2⟩ := g2 k h1
          obtain ⟨l2, c1, c2⟩ := g4 k h2
          obtain ⟨e1, he1, _⟩ := r2 l1 a1
          obtain ⟨e2, he2, _⟩ := o1 l2 c1
          exact hnd.2.2 l1 a1 l2 c1 (hrl.dis l1 l2 k (by simp [he1]) (by simp [he2]) a2 c2)
        · rcases hk with hk | hk
          · obtain ⟨l1, a1, a2⟩ := g2 k hk
            obtain ⟨e1, he1, _⟩ := r2 l1 a1
            exact hownS l1 k (List.mem_append_left _ a1) ⟨e1, he1⟩ a2
          · obtain ⟨l1, a1, a2⟩ := g4 k hk
            obtain ⟨e1, he1, _⟩ := o1 l1 a1
            exact hownS l1 k (List.mem_append_right _ a1) ⟨e1, he1⟩ a2
        · rcases h with h | ⟨l, _, hs2, hk2⟩
          · exact (hrl.new k hk).2 h
          · obtain ⟨e, he⟩ := Option.isSome_iff_exists.mp hs2
            have := (hrl.ent l e he).lt hk2; omega
      · cases hs
    · cases hs
  rw [k5] at hgo
  intro cs
  let fb : Frame := { (default : Frame) with fn := g, kind := .normal }
  have henter : Frame.enter P g Vs.toArray .normal = fb.at a0 [.code c] := by
    simp [Frame.enter, Frame.at, hf, hb, fb, a0]
  obtain ⟨a', w', todo, ⟨hd, v, hres, hpost⟩, hsteps⟩ := hgo fb cs
  simp only [items] at hsteps
  change Steps P (lone (fb.at a0 [.code c]) cs w) _ at hsteps
  rw [← henter] at hsteps
  exact ⟨.returned v, w', _, hpost, hsteps, rfl, rfl, hd, rfl, fn, hf, hres⟩
end
end Ev
end

section
namespace Ev
open Go

def ttGet (t : Nat) : List (Nat × TI) → Option TI
  | [] => none
  | (k, i) :: r => cond (Nat.beq k t) (some i) (ttGet t r)

def AllT (P : Program) : List (Nat × TI) → Prop
  | [] => True
  | (k, i) :: r => TOne P k i ∧ AllT P r

theorem tok_of {P : Program} : ∀ {l : List (Nat × TI)}, AllT P l → TOk P (fun t => ttGet t l) := by
  intro l
  induction l with
  | nil => intro _ t i h; simp [ttGet] at h
  | cons q l ih =>
    intro h t i e
    obtain ⟨k, j⟩ := q
    obtain ⟨h1, h2⟩ := h
    simp only [ttGet] at e
    cases hk : Nat.beq k t with
    | true =>
      rw [hk, cond_true] at e
      obtain rfl := Nat.eq_of_beq_eq_true hk
      injection e with e
      subst e
      exact h1
    | false =>
      rw [hk, cond_false] at e
      exact ih h2 t i e

theorem valOf_agg {τ : Ty} {vs : List Value} {v : Value} (h : τ.agg = true) (e : v = .agg vs.toArray) : valOf τ vs v := by unfold valOf; rw [if_pos h]; exact e
theorem valOf_one {τ : Ty} {vs : List Value} {v : Value} (h : τ.agg = false) (e : vs = [v]) : valOf τ vs v := by unfold valOf; rw [if_neg (by simp [h])]; exact e

def AllS (P : Program) : List FM → Prop
  | [] => True
  | m :: r => Sound P m ∧ AllS P r
theorem mem_sound {P : Program} : ∀ {l : List FM}, AllS P l → ∀ m, m ∈ l → Sound P m := by
  intro l
  induction l with
  | nil => intro _ m h; cases h
  | cons a l ih =>
    intro h m hm
    rcases List.mem_cons.mp hm with rfl | hm
    · exact h.1
    · exact ih h.2 m hm

def okFn (fn : Func) (ps : List Prm) : Bool := fn.name != "runtime.NumGoroutine" && (fn.body.isSome && (codeOk fn.ntmps (bodyOf fn) && Nat.ble ps.length fn.ntmps))

theorem sound_of {P : Program} {E : Env} {g : Nat} {fn : Func} {ps : List Prm} {rs : List (Ty × Mask)} {io : List Nat} (hT : TOk P E.TT) (hΦ : AllS P E.Φ) (hmix : P.follows .mixedOrders = true)
    (hf : P.funcs[g]? = some fn) (hk : okFn fn ps = true) : Sound P ⟨g, ps, rs, fnOf E io fn ps rs⟩ := by
  unfold okFn at hk
  simp only [Bool.and_eq_true, bne_iff_ne, ne_eq] at hk
  obtain ⟨h1, h2, h3, h4⟩ := hk
  obtain ⟨c, hc⟩ := Option.isSome_iff_exists.mp h2
  have hb : bodyOf fn = c := by unfold bodyOf; rw [hc]; rfl
  rw [hb] at h3
  exact sound_ok hT (mem_sound hΦ) hmix hf h1 hc h3 (Nat.le_of_ble_eq_true h4)

theorem fnOf_eq (E : Env) (io : List Nat) (fn : Func) (ps : List Prm) (rs : List (Ty × Mask)) (x : (chain (ps.map Prm.ty)).den) :
    fnOf E io fn ps rs x = seg ⟨E, io, resMask fn⟩ (fin E fn ps rs) (run ⟨E, io, resMask fn⟩ (fin E fn ps rs)) (lab fn 0) (st0 fn.ntmps ps x) := run_eq _ _

/-- A function from some place on. -/
noncomputable def runOf (E : Env) (io : List Nat) (fn : Func) (ps : List Prm) (rs : List (Ty × Mask)) (i : Nat) (s : St) : Option (resTy (rs.map (·.1)) (outsOf ps)).den :=
  run ⟨E, io, resMask fn⟩ (fin E fn ps rs) (lab fn i) s
theorem runOf_eq (E : Env) (io : List Nat) (fn : Func) (ps : List Prm) (rs : List (Ty × Mask)) (i : Nat) (s : St) :
    runOf E io fn ps rs i s = seg ⟨E, io, resMask fn⟩ (fin E fn ps rs) (run ⟨E, io, resMask fn⟩ (fin E fn ps rs)) (lab fn i) s := run_eq _ _
end Ev
end

section
namespace Pl
open Go

theorem w64 {n : Int} (h1 : -9223372036854775808 ≤ n) (h2 : n ≤ 9223372036854775807) : IntKind.wrap .i64 n = n := IntWalk.i64_in n ⟨h1, h2⟩
theorem w64s {i n : Nat} (h : i < n) (hn : n ≤ 9223372036854775807) : IntKind.wrap .i64 ((i : Int) + 1) = ((i + 1 : Nat) : Int) := by rw [w64 (by omega) (by omega)]; rfl

theorem w64_wf {n : Int} (h : (Lit.int .i64 n).wf = true) : -9223372036854775808 ≤ n ∧ n ≤ 9223372036854775807 := by
  unfold Lit.wf at h
  simp [IntKind.min, IntKind.max, IntKind.signed, IntKind.bits] at h
  omega

section
variable {α β σ : Type}

/-- A loop that folds a list. -/
theorem loop_fold (L : σ → Nat → Option β) (xs : List α) (step : σ → α → σ) (I : Nat → σ → Prop)
    (h1 : ∀ i s, I i s → (hi : i < xs.length) → L s i = L (step s xs[i]) (i + 1) ∧ I (i + 1) (step s xs[i])) :
    ∀ s, I 0 s → L s 0 = L (xs.foldl step s) xs.length ∧ I xs.length (xs.foldl step s) := by
  have : ∀ d i s, i + d = xs.length → I i s → L s i = L ((xs.drop i).foldl step s) xs.length ∧ I xs.length ((xs.drop i).foldl step s) := by
    intro d
    induction d with
    | zero =>
      intro i s hi hI
      have hi : i = xs.length := by omega
      subst hi
      rw [List.drop_length]
      exact ⟨rfl, hI⟩
    | succ d ih =>
      intro i s hi hI
      have hlt : i < xs.length := by omega
      obtain ⟨h, hI2⟩ := h1 i s hI hlt
      rw [h, List.drop_eq_getElem_cons hlt, List.foldl_cons]
      exact ih (i + 1) _ (by omega) hI2
  intro s h0
  have := this xs.length 0 s (by omega) h0
  simpa using this

/-- A loop that looks for one that has a property. -/
theorem loop_any (L : Nat → Option β) (xs : List α) (p : α → Bool) (a : Option β)
    (h1 : ∀ i (hi : i < xs.length), L i = if p xs[i] then a else L (i + 1)) : L 0 = if xs.any p then a else L xs.length := by
  have : ∀ d i, i + d = xs.length → L i = if (xs.drop i).any p then a else L xs.length := by
    intro d
    induction d with
    | zero =>
      intro i hi
      have hi : i = xs.length := by omega
      subst hi
      simp
    | succ d ih =>
      intro i hi
      have hlt : i < xs.length := by omega
      rw [h1 i hlt, List.drop_eq_getElem_cons hlt, List.any_cons]
      cases hp : p xs[i] with
      | true => simp
      | false => simp only [Bool.false_or]; rw [if_neg (by simp)]; exact ih (i + 1) (by omega)
  have := this xs.length 0 (by omega)
  simpa using this

/-- A loop that looks for the first one that has a property. -/
theorem loop_find (L : Nat → Option β) (xs : List α) (p : α → Bool) (a : Nat → Option β)
    (h1 : ∀ i (hi : i < xs.length), L i = if p xs[i] then a i else L (i + 1)) : L 0 = if xs.any p then a (xs.findIdx p) else L xs.length := by
  have : ∀ d i, i + d = xs.length → L i = if (xs.drop i).any p then a (i + (xs.drop i).findIdx p) else L xs.length := by
    intro d
    induction d with
    | zero =>
      intro i hi
      have hi : i = xs.length := by omega
      subst hi
      simp
    | succ d ih =>
      intro i hi
      have hlt : i < xs.length := by omega
      rw [h1 i hlt, List.drop_eq_getElem_cons hlt, List.any_cons, List.findIdx_cons]
      cases hp : p xs[i] with
      | true => simp
      | false =>
        simp only [Bool.false_or, cond_false]
        rw [if_neg (by simp), ih (i + 1) (by omega)]
        split
        · congr 1; omega
        · rfl
  have := this xs.length 0 (by omega)
  simpa using this

/-- A loop that lays each element of a list anew. -/
theorem loop_set (L : List α → Nat → Option β) (n : Nat) (f : Nat → α) (h1 : ∀ (s : List α) i, s.length = n → i < n → L s i = L (s.set i (f i)) (i + 1)) :
    ∀ s : List α, s.length = n → L s 0 = L ((List.range n).map f) n := by
  have : ∀ d i (s : List α), i + d = n → s.length = n → (∀ j, j < i → s[j]? = some (f j)) → L s i = L ((List.range n).map f) n := by
    intro d
    induction d with
    | zero =>
      intro i s hi hs hj
      have hi : i = n := by omega
      subst hi
      congr 1
      apply List.ext_getElem?
      intro j
      by_cases h : j < i
      · rw [hj j h]; simp [h]
      · rw [List.getElem?_eq_none (by omega), List.getElem?_eq_none (by simp; omega)]
    | succ d ih =>
      intro i s hi hs hj
      rw [h1 s i hs (by omega)]
      refine ih (i + 1) _ (by omega) (by simp [hs]) fun j hji => ?_
      by_cases e : j = i
      · subst e; rw [List.getElem?_set_self (by omega)]
      · rw [List.getElem?_set_ne (by omega)]; exact hj j (by omega)
  intro s hs
  exact this n 0 s (by omega) hs fun j h => by omega
end

theorem getD_nat {xs : List Int} {i : Nat} (h : i < xs.length) (d : Int) : xs.getD i d = xs[i] := by simp [List.getD_eq_getElem?_getD, h]
theorem foldl_snoc {α β : Type} (f : α → β) (xs : List α) (a : List β) : xs.foldl (fun s x => s ++ [f x]) a = a ++ xs.map f := by
  induction xs generalizing a with
  | nil => simp
  | cons x xs ih => rw [List.foldl_cons, ih]; simp
theorem cond_ite {α : Type} (b : Bool) (x y : α) : (bif b then x else y) = if b = true then x else y := by cases b <;> rfl
end Pl
end

section
namespace Ev
open Go Go.RowKit

/-- A slice of integers that came in. -/
def IsRow (k : IntKind) (w : World) (a : Option Addr) (len cap : Nat) (zs : List Int) : Prop :=
  (a = none ∧ len = 0 ∧ cap = 0 ∧ zs = []) ∨
  ∃ x, a = some x ∧ len ≤ cap ∧ cap ≤ maxLen ∧ zs.length = cap ∧ (∀ i, i < zs.length → w.cell? (x.add i) = some (.int k (zs.getD i 0))) ∧ ∀ n ∈ zs, (Lit.int k n).wf = true

def old (w : World) : Nat → Prop := fun b => b < w.heap.size
def no : Nat → Prop := fun _ => False

theorem arg_one {c : CF} {S : Nat → Prop} {τ : Ty} {x : τ.den} {v : Value} (h1 : τ.agg = false) (h2 : τ.size = 1) (h : ImmAt (gh c [v]) S τ (.inr 0) 0 x) : ArgAt c S (.imm τ) x v no :=
  ⟨fun _ h => h, [v], valOf_one h1 rfl, by simp [h2], h⟩
theorem arg_int {c : CF} {S : Nat → Prop} {k : IntKind} {n : Int} : ArgAt c S (.imm (.int k)) n (.int k n) no := arg_one rfl rfl rfl
theorem arg_bool {c : CF} {S : Nat → Prop} {b : Bool} : ArgAt c S (.imm .bool) b (.bool b) no := arg_one rfl rfl rfl
theorem arg_str {c : CF} {S : Nat → Prop} {b : ByteArray} : ArgAt c S (.imm .str) b (.string b) no := arg_one rfl rfl rfl

theorem cell_add {w : World} {x : Addr} {i : Nat} {v : Value} (h : w.cell? (x.add i) = some v) : w.cell? ⟨x.block, x.off + i, none⟩ = some v ∧ x.block < w.heap.size := by
  have hb : x.block < w.heap.size := by
    have e : (x.add i).block = x.block := by unfold Addr.add; split <;> rfl
    rcases Nat.lt_or_ge x.block w.heap.size with h1 | h1
    · exact h1
    · unfold World.cell? at h; rw [e, Array.getElem?_eq_none h1] at h; cases h
  refine ⟨?_, hb⟩
  by_cases hi : i = 0
  · subst hi
    have e : x.add 0 = x := rfl
    rw [e] at h
    obtain ⟨b, q, s⟩ := x
    cases s with
    | none => exact h
    | some t => exact absurd h (by unfold World.cell?; simp only [Option.isSome_some, if_true]; split <;> simp)
  · unfold Addr.add at h; rw [if_neg hi] at h; exact h

theorem arg_ints {w : World} {k : IntKind} {a : Option Addr} {len cap : Nat} {zs : List Int} (h : IsRow k w a len cap zs) :
    ArgAt (wcf w nil0) (old w) (.imm (.sl (.int k))) (zs.take len) (.slice a len cap) no := by
  refine arg_one rfl rfl ?_
  rcases h with ⟨rfl, rfl, rfl, rfl⟩ | ⟨x, rfl, h1, h2, h3, h4, _⟩
  · exact ⟨none, 0, rfl, Nat.le_refl _, fun i hi => by simp at hi⟩
  · have hl : (zs.take len).length = len := by rw [List.length_take]; omega
    refine ⟨some x, cap, by show some _ = _; rw [hl], by rw [hl]; exact h1, fun i hi => ?_⟩
    rw [hl] at hi
    obtain ⟨hc, hb⟩ := cell_add (h4 i (by omega))
    have hs : x = ⟨x.block, x.off, none⟩ := by
      have h0 := h4 0 (by omega)
      obtain ⟨b, q, s⟩ := x
      cases s with
      | none => rfl
      | some t => exact absurd h0 (by unfold Addr.add World.cell?; simp only [if_true, Option.isSome_some]; split <;> simp)
    refine ⟨x.block, x.off, by rw [← hs], hb, ?_⟩
    show (gh (wcf w nil0) _).cl (.inl x.block) (x.off + i * 1) = _
    rw [Nat.mul_one, gh_inl, wcf_inl, hc]
    have hg : List.getD (zs.take len) i (Ty.int k).dflt = zs.getD i 0 := by
      simp only [List.getD_eq_getElem?_getD, List.getElem?_take, hi, if_true]; rfl
    rw [hg]

theorem row_wf {w : World} {k : IntKind} {a : Option Addr} {len cap : Nat} {zs : List Int} (h : IsRow k w a len cap zs) : ∀ n ∈ zs.take len, (Lit.int k n).wf = true := by
  intro n hn
  rcases h with ⟨_, _, _, rfl⟩ | ⟨x, _, _, _, _, _, h⟩
  · simp at hn
  · exact h n (List.mem_of_mem_take hn)
theorem row_len {w : World} {k : IntKind} {a : Option Addr} {len cap : Nat} {zs : List Int} (h : IsRow k w a len cap zs) : (zs.take len).length ≤ maxLen := by
  rcases h with ⟨_, _, _, rfl⟩ | ⟨x, _, h1, h2, h3, _, _⟩
  · simp
  · rw [List.length_take]; omega

theorem argsAt_nil {c : CF} {S : Nat → Prop} : ArgsAt c S [] () [] no := fun _ h => h
theorem argsAt_one {c : CF} {S : Nat → Prop} {p : Prm} {x : p.ty.den} {v : Value} (h : ArgAt c S p x v no) : ArgsAt c S [p] x [v] no := h
theorem argsAt_cons {c : CF} {S : Nat → Prop} {p q : Prm} {ps : List Prm} {x : p.ty.den} {y : (chain ((q :: ps).map Prm.ty)).den} {v : Value} {vs : List Value} (h : ArgAt c S p x v no) (h2 : ArgsAt c S (q :: ps) y vs no) :
    ArgsAt c S (p :: q :: ps) (x, y) (v :: vs) no := ⟨no, no, fun _ => by simp [no], fun _ h => h.elim, h, h2⟩

theorem outs_sub {ps : List Prm} : (∀ p ∈ ps, ∃ τ, p = .imm τ) → outsOf ps = [] := by
  induction ps with
  | nil => intro _; rfl
  | cons p ps ih =>
    intro h
    obtain ⟨τ, rfl⟩ := h p (by simp)
    simp only [outsOf]
    exact ih fun q hq => h q (by simp [hq])

/-- A law's call: it returns true, and all that was there is az it was. -/
theorem law_calls {P : Program} {g : Nat} {ps : List Prm} {f : (chain (ps.map Prm.ty)).den → Option (resTy [Ty.bool] (outsOf ps)).den} (hS : Sound P ⟨g, ps, [(.bool, .sh)], f⟩)
    {w : World} {Vs : List Value} {x : (chain (ps.map Prm.ty)).den} {r : (resTy [Ty.bool] (outsOf ps)).den} (hA : ArgsAt (wcf w nil0) (old w) ps x Vs no) (hf : f x = some r) (hr : (split [Ty.bool] (outsOf ps) r).1 = true) :
    Calls P g Vs.toArray w fun e w' => e = .returned (.bool true) ∧ Below w.heap.size w w' := by
  refine (hS.calls w (old w) no Vs x r hA (fun k h => by unfold old; omega) (fun _ h => h.elim) hf).mono ?_
  intro e w' h
  match e, h with
  | .returned v, h =>
    obtain ⟨S', F1, F2, Rs, hp⟩ := h
    have hres := hp.res
    have hb : v = .bool true := by
      rw [hp.ret]
      match Rs, hres with
      | [V], hres =>
        obtain ⟨vs, hO⟩ := hres
        show V = _
        have := hO
        unfold Own at this
        obtain ⟨hv, hvl, hat⟩ := this
        simp only [OwnAt, ImmAt] at hat
        obtain ⟨_, hat⟩ := hat
        unfold valOf at hv
        rw [if_neg (by simp [Ty.agg])] at hv
        subst hv
        simp only [gh_inr, List.getElem?_cons_zero, Option.some.injEq] at hat
        rw [hat]
        exact congrArg Value.bool hr
    refine ⟨by rw [hb], ⟨hp.kp.os, hp.kp.tape, hp.kp.output, hp.kp.size, fun k hk => ?_⟩⟩
    refine hp.kp.block k hk ?_
    rintro (h | h)
    · omega
    · exact h.elim
end Ev
end

