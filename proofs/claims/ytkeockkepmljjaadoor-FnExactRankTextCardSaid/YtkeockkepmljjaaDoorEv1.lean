/- An evaluator of code over plain values, proved sound: what a function computes, as a plain function. No condition. -/
import Derived.Test.YtkeockkepmljjaaDoorEv0
import Derived.Laws.AppendOwn
import Derived.Laws.Strings
import Derived.Laws.AppendOwn
import Derived.Laws.Strings
import Derived.Laws.StructEq
import Derived.Laws.BytesString
import Derived.Laws.StructEq
import Derived.Laws.BytesString
import Derived.Orders
import Derived.Orders
set_option linter.unusedVariables false
set_option linter.unusedSimpArgs false
set_option maxRecDepth 100000
section
namespace Ev
open Go

/-- A block that nobody owns, and that need not stay, is turned. -/
theorem Mv.scribble {O : Nat → Prop} {b : Bd} (hr : b.rl O) {k : Nat} {w2 : World} (hO : O k) (hS : ¬ b.S k) (hf : ∀ l e, b.h l = some e → ¬ b.ft l k)
    (q1 : w2.os = b.w.os) (q2 : w2.tape = b.w.tape) (q3 : w2.output = b.w.output) (q4 : w2.heap.size = b.w.heap.size) (q5 : ∀ j, j ≠ k → w2.heap[j]? = b.w.heap[j]?) : Mv O b { b with w := w2 } := by
  have hSk : ∀ x, b.S x → x ≠ k := fun x hx hxk => hS (hxk ▸ hx)
  have hA : AgreeS b.c (wcf w2 b.G) b.S b.S := fun x hx => ⟨hx, fun j => cell?_congr (q5 x (hSk x hx))⟩
  have hun : ∀ l e, b.h l = some e → Un b.c (wcf w2 b.G) b.S e l (b.Pl l) (b.ft l) := fun l e he => by
    have hne : ∀ x, b.ft l x → x ≠ k := fun x hx hxk => hf l e he (hxk ▸ hx)
    refine ⟨fun i hi => ?_, fun x hx => ⟨bkOf_congr (q5 x (hne x hx)), fun j => cell?_congr (q5 x (hne x hx))⟩⟩
    by_cases hm : e.mem = true
    · simp only [base, hm, if_true, wcf_inl]
      refine cell?_congr (q5 _ ?_)
      have hE := hr.ent l e he
      unfold EntOk at hE
      by_cases hz : e.fz = true
      · rw [if_pos hz] at hE; exact hSk _ (hE.2.1 hm)
      · rw [if_neg hz] at hE
        obtain ⟨F2, _, _, h6⟩ := hE
        rw [if_pos hm] at h6
        exact hne _ ((h6.1 _).mpr (.inl rfl))
    · simp only [base, hm, if_false, Bool.false_eq_true, wcf_inr]
  exact ⟨⟨hr.us, fun l e he => (hr.ent l e he).move (hun l e he) hA, hr.gl, hr.dis, hr.own, fun x hx => hr.new x (by rw [← q4]; exact hx)⟩,
    fun av V h => AvOk.keep hr.ent (fun _ h => h) hA (fun l e' _ he => ⟨e', he, rfl, rfl, hun l e' he⟩) h,
    ⟨q1, q2, q3, Nat.le_of_eq q4.symm, fun x hx hO' => q5 x fun hxk => hO' (hxk ▸ hO), fun x hx => ⟨hx, q5 x (hSk x hx)⟩, fun _ h => .inl h⟩, fun _ h => h⟩

section
variable {P : Program} {E : Env} {O : Nat → Prop} {b : Bd} {R : Type} {out : R}

/-- What is appended: its cells, and what they are. -/
structure Src (P : Program) (O : Nat → Prop) (b : Bd) (t : Ty) (m : Mask) (ys : List t.den) (x : Value) (news : List Value) (Fs : Nat → Nat → Prop) : Prop where
  len : ∀ w, (Builtin.lenOf x).run P w = .ok ys.length w
  cells : news.length = ys.length * t.size
  one : ∀ (j : Nat) (v : Value), news[j]? = some v → v.oneCell' = true
  first : ∀ w', (∀ k, k < b.w.heap.size → w'.heap[k]? = b.w.heap[k]?) → (Builtin.firstCells t.size ys.length x).run P w' = .ok news.toArray w'
  own : ∀ j, j < ys.length → OwnAt (gh b.c news) b.S t m (.inr 0) (j * t.size) (ys.getD j t.dflt) (Fs j)
  free : ∀ j, j < ys.length → Free O b (Fs j)
  dis : ∀ i j k, i < ys.length → j < ys.length → Fs i k → Fs j k → i = j

theorem run_append_room' {T T' el : TypeId} {ty : TypeId} {f : TypeInfo} {d : TypeDesc} {base : Option Addr} {len cap n : Nat} {x : Value} {news : List Value} {w : World}
    (hu : P.underlying T = some (.slice el)) (hu' : P.underlying T' = some d) (hd : (∃ e, d = .slice e) ∨ d = .string) (hf : P.info? el = some f)
    (hl : ∀ w, (Builtin.lenOf x).run P w = .ok n w) (hn : (Builtin.firstCells f.size n x).run P w = .ok news.toArray w) (hle : len + n ≤ cap) :
    (Builtin.append_ #[T, T'] ty #[.slice base len cap, x]).run P w = ((match base with | some a => storeCells (a.add (len * f.size)) news | none => pure () : Sem Unit).run P w).andThen fun _ w' => .ok (.slice base (len + n) cap) w' := by
  rcases hd with ⟨e, rfl⟩ | rfl
  · cases base <;> simp [Builtin.append_, run_underlying' hu, run_underlying' hu', run_sizeOf' hf, hl, hle, hn]
  · cases base <;> simp [Builtin.append_, run_underlying' hu, run_underlying' hu', run_sizeOf' hf, hl, hle, hn]

theorem run_append_grow' {T T' el : TypeId} {ty : TypeId} {f : TypeInfo} {z : Value} {d : TypeDesc} {base : Option Addr} {len cap n : Nat} {x : Value} {news olds : List Value} {w : World}
    (hu : P.underlying T = some (.slice el)) (hu' : P.underlying T' = some d) (hd : (∃ e, d = .slice e) ∨ d = .string) (hf : P.info? el = some f) (hz : f.zero = some z)
    (hl : ∀ w, (Builtin.lenOf x).run P w = .ok n w) (hn : (Builtin.firstCells f.size n x).run P w.drew = .ok news.toArray w.drew) (hb : (len + n) * f.bytes ≤ 140737488355328) (hb1 : 1 ≤ f.bytes)
    (hlt : cap < len + n) (ho : (Builtin.firstCells f.size len (.slice base len cap)).run P w.drew = .ok olds.toArray w.drew) :
    (Builtin.append_ #[T, T'] ty #[.slice base len cap, x]).run P w = .ok (.slice (some ⟨w.heap.size, 0, none⟩) (len + n) (grownCap w (len + n) cap el))
        (w.drew.alloc (.cells (olds ++ news ++ (Builtin.zeroCells z.cells (grownCap w (len + n) cap el - (len + n))).toList).toArray el)) := by
  have hle : ¬ len + n ≤ cap := by omega
  have hfit := growslice_fits hlt hb
  have h48 : ¬ (281474976710656 < Builtin.nextslicecap (len + n) cap * f.bytes) := by omega
  have h63 : ¬ (9223372036854775807 < ((len : Int) + (n : Int))) := by
    have : len + n ≤ (len + n) * f.bytes := Nat.le_mul_of_pos_right _ hb1
    omega
  have hb0 : ¬ f.bytes = 0 := by omega
  rcases hd with ⟨e, rfl⟩ | rfl
  · simp [Builtin.append_, run_underlying' hu, run_underlying' hu', run_sizeOf' hf, run_typeInfo' hf, hl, hle, hn, h48, h63, hb0, ho, Question.forced, newRow, zeroValue, hz, grownCap]
    congr 2; apply Array.ext'; simp
  · simp [Builtin.append_, run_underlying' hu, run_underlying' hu', run_sizeOf' hf, run_typeInfo' hf, hl, hle, hn, h48, h63, hb0, ho, Question.forced, newRow, zeroValue, hz, grownCap]
    congr 2; apply Array.ext'; simp

/-- The elements of a row of the call's own, with those that are appended: all of them, somewhere. -/
theorem own_join {c : CF} {S : Nat → Prop} {t : Ty} {m : Mask} {n : Nat} {xs ys : List t.den} {q : Nat} {F1 F2 : Nat → Nat → Prop}
    (h1 : ∀ i, i < xs.length → OwnAt c S t m (.inl n) (q + i * t.size) (xs.getD i t.dflt) (F1 i)) (h2 : ∀ j, j < ys.length → OwnAt c S t m (.inl n) (q + (xs.length + j) * t.size) (ys.getD j t.dflt) (F2 j)) :
    ∀ i, i < (xs ++ ys).length → OwnAt c S t m (.inl n) (q + i * t.size) ((xs ++ ys).getD i t.dflt) (if i < xs.length then F1 i else F2 (i - xs.length)) := by
  intro i hi
  rw [List.length_append] at hi
  by_cases hlt : i < xs.length
  · rw [if_pos hlt, show (xs ++ ys).getD i t.dflt = xs.getD i t.dflt by simp [List.getD, List.getElem?_append_left hlt]]
    exact h1 i hlt
  · rw [if_neg hlt, show (xs ++ ys).getD i t.dflt = ys.getD (i - xs.length) t.dflt by simp [List.getD, List.getElem?_append_right (Nat.le_of_not_lt hlt)]]
    have := h2 (i - xs.length) (by omega)
    rwa [show xs.length + (i - xs.length) = i by omega] at this

theorem append_core {T T' el : TypeId} {ty : TypeId} {f : TypeInfo} {z : Value} {d : TypeDesc} {t : Ty} {m : Mask} {xs ys : List t.den} {V X : Value} {vs news : List Value} {F : Nat → Prop} {Fs : Nat → Nat → Prop} {id : Nat}
    (hu : P.underlying T = some (.slice el)) (hu' : P.underlying T' = some d) (hd : (∃ e, d = .slice e) ∨ d = .string) (hf : P.info? el = some f) (hz : f.zero = some z) (hfs : f.size = t.size) (hzs : z.cells.size = t.size) (hb1 : 1 ≤ f.bytes)
    (hb : (xs.length + ys.length) * f.bytes ≤ 140737488355328) (hr : b.rl O) (hid : ¬ b.U id) (hown : Own b.c b.S ⟨.sl t, xs, .sl m⟩ V vs F) (hfree : Free O b F) (hsrc : Src P O b t m ys X news Fs)
    (hdis : ∀ j k, j < ys.length → Fs j k → ¬ F k) :
    ∃ b' V', (Builtin.append_ #[T, T'] ty #[V, X]).run P b.w = .ok V' b'.w ∧ Mv O b b' ∧ b'.h = upd b.h id (some ⟨.sl t, xs ++ ys, .sl m, false, false, 0⟩) ∧ b'.U = (fun k => b.U k ∨ k = id) ∧ b'.av (.ref id [] 0) V' := by
  have hval := hown.val
  simp only [valOf, Ty.agg, Bool.false_eq_true, if_false] at hval
  subst hval
  have ho := hown.own
  simp only [OwnAt, gh_inr, List.getElem?_cons_zero, Option.some.injEq] at ho
  -- new block: the same for both
  have grow : ∀ {base : Option Addr} {cap : Nat} {olds : List Value} {F1 : Nat → Nat → Prop}, V = .slice base xs.length cap → cap < xs.length + ys.length →
      (Builtin.firstCells f.size xs.length (.slice base xs.length cap)).run P b.w.drew = .ok olds.toArray b.w.drew → olds.length = xs.length * t.size →
      (∀ i, i < xs.length → OwnAt (gh b.c olds) b.S t m (.inr 0) (i * t.size) (xs.getD i t.dflt) (F1 i)) → (∀ i k, i < xs.length → F1 i k → F k) → (∀ i j k, i < xs.length → j < xs.length → F1 i k → F1 j k → i = j) →
      ∃ b' V', (Builtin.append_ #[T, T'] ty #[V, X]).run P b.w = .ok V' b'.w ∧ Mv O b b' ∧ b'.h = upd b.h id (some ⟨.sl t, xs ++ ys, .sl m, false, false, 0⟩) ∧ b'.U = (fun k => b.U k ∨ k = id) ∧ b'.av (.ref id [] 0) V' := by
    intro base cap olds F1 hV hlt hold holen hF1 hsub hF1d
    subst hV
    have hrun := run_append_grow' (P := P) (ty := ty) (w := b.w) hu hu' hd hf hz hsrc.len (by rw [hfs]; exact hsrc.first b.w.drew fun _ _ => rfl) hb hb1 hlt hold
    generalize hgc : grownCap b.w (xs.length + ys.length) cap el = gc at hrun
    have hgcl : xs.length + ys.length ≤ gc := by rw [← hgc]; exact grownCap_ge _ _ _ _
    have hd1 := Mv.drew hr
    have hd2 := Mv.alloc hd1.rl (.cells (olds ++ news ++ (Builtin.zeroCells z.cells (gc - (xs.length + ys.length))).toList).toArray el)
    have hnb : b.w.heap.size = b.w.drew.heap.size := rfl
    have hsz : bkOf (b.w.drew.alloc (.cells (olds ++ news ++ (Builtin.zeroCells z.cells (gc - (xs.length + ys.length))).toList).toArray el)) b.w.heap.size = some (gc * t.size) := by
      rw [hnb, bkOf_alloc_new]
      simp only [List.size_toArray, List.length_append, holen, hsrc.cells, Array.length_toList, size_zeroCells, hzs]
      rw [← Nat.add_mul, ← Nat.add_mul]; congr 2; omega
    have hcell : ∀ j, j < olds.length + news.length → (b.w.drew.alloc (.cells (olds ++ news ++ (Builtin.zeroCells z.cells (gc - (xs.length + ys.length))).toList).toArray el)).cell? ⟨b.w.heap.size, j, none⟩ = (olds ++ news)[j]? := by
      intro j hj
      rw [hnb, World.cell?_alloc_new]
      simp only [List.getElem?_toArray]
      rw [List.getElem?_append_left (by simpa using hj)]
    have hltb : ∀ k n', bkOf b.w k = some n' → k < b.w.heap.size := fun k n' h => bkOf_lt h
    have hblk : ∀ k, k < b.w.heap.size → (b.w.drew.alloc (.cells (olds ++ news ++ (Builtin.zeroCells z.cells (gc - (xs.length + ys.length))).toList).toArray el)).heap[k]? = b.w.heap[k]? := fun k hk => alloc_block b.w.drew _ hk
    have hS2 : ∀ k, b.S k → k < b.w.heap.size := fun k hk => by
      rcases Nat.lt_or_ge k b.w.heap.size with h | h
      · exact h
      · exact ((hr.new k h).2 hk).elim
    have key := own_join (c := wcf (b.w.drew.alloc (.cells (olds ++ news ++ (Builtin.zeroCells z.cells (gc - (xs.length + ys.length))).toList).toArray el)) b.G) (S := b.S) (n := b.w.heap.size) (q := 0) (F1 := F1) (F2 := Fs) (m := m) (xs := xs) (ys := ys)
      (fun i hi => (hF1 i hi).move (fun j hj => by
          have hle := mul_le_of_lt (s := t.size) hi
          simp only [wcf_inl, gh_inr, Nat.zero_add]
          rw [hcell _ (by omega), List.getElem?_append_left (by omega)])
        (fun k hk => by
          obtain ⟨n', hn'⟩ := (hF1 i hi).blocks k hk
          have := hltb k n' hn'
          exact ⟨fun e => by injection e with e; omega, bkOf_congr (hblk k this), fun j => cell?_congr (hblk k this)⟩) fun k hk => ⟨hk, fun j => cell?_congr (hblk k (hS2 k hk))⟩)
      (fun i hi => (hsrc.own i hi).move (fun j hj => by
          have hle := mul_le_of_lt (s := t.size) hi
          have hce := hsrc.cells
          simp only [wcf_inl, gh_inr, Nat.zero_add]
          rw [Nat.add_mul, hcell _ (by omega), List.getElem?_append_right (by omega)]
          congr 1; omega)
        (fun k hk => by
          obtain ⟨n', hn'⟩ := (hsrc.own i hi).blocks k hk
          have := hltb k n' hn'
          exact ⟨fun e => by injection e with e; omega, bkOf_congr (hblk k this), fun j => cell?_congr (hblk k this)⟩) fun k hk => ⟨hk, fun j => cell?_congr (hblk k (hS2 k hk))⟩)
    have hlt1 : ∀ i k, i < xs.length → F1 i k → k < b.w.heap.size := fun i k hi hk => by obtain ⟨n', hn'⟩ := (hF1 i hi).blocks k hk; exact hltb k n' hn'
    have hlt2 : ∀ i k, i < ys.length → Fs i k → k < b.w.heap.size := fun i k hi hk => by obtain ⟨n', hn'⟩ := (hsrc.own i hi).blocks k hk; exact hltb k n' hn'
    obtain ⟨b', m1, m2, m3, m4, m5⟩ := Mv.newRow (b := b) (len := 0) (m := m) (F := fun k => k = b.w.heap.size ∨ ∃ i, i < (xs ++ ys).length ∧ (if i < xs.length then F1 i else Fs (i - xs.length)) k) (n := b.w.heap.size) (cap := gc) (xs := xs ++ ys) (id := id) hd2.rl hid hsz
      (by simpa using hgcl)
      ⟨fun i => if i < xs.length then F1 i else Fs (i - xs.length), fun k => Iff.rfl, fun i hi hk => by
        rw [List.length_append] at hi
        by_cases hlt' : i < xs.length
        · rw [if_pos hlt'] at hk; have := hlt1 i _ hlt' hk; omega
        · rw [if_neg hlt'] at hk; have := hlt2 _ _ (by omega) hk; omega, fun i j k hi hj hk1 hk2 => by
        rw [List.length_append] at hi hj
        by_cases h1 : i < xs.length <;> by_cases h2 : j < xs.length
        · rw [if_pos h1] at hk1; rw [if_pos h2] at hk2; exact hF1d i j k h1 h2 hk1 hk2
        · rw [if_pos h1] at hk1; rw [if_neg h2] at hk2; exact (hdis _ k (by omega) hk2 (hsub i k h1 hk1)).elim
        · rw [if_neg h1] at hk1; rw [if_pos h2] at hk2; exact (hdis _ k (by omega) hk1 (hsub j k h2 hk2)).elim
        · rw [if_neg h1] at hk1; rw [if_neg h2] at hk2; have := hsrc.dis _ _ k (by omega) (by omega) hk1 hk2; omega, fun i hi => by
        have := key i hi; rwa [Nat.zero_add] at this⟩
      (fun k hk => by
        rcases hk with rfl | ⟨i, hi, hk⟩
        · obtain ⟨q1, q2⟩ := hr.new _ (Nat.le_refl b.w.heap.size)
          exact ⟨q1, q2, fun l e' he' hf' => by have := (hr.ent l e' he').lt hf'; omega⟩
        · rw [List.length_append] at hi
          by_cases hlt' : i < xs.length
          · rw [if_pos hlt'] at hk; exact hfree k (hsub i k hlt' hk)
          · rw [if_neg hlt'] at hk; exact hsrc.free _ (by omega) k hk)
    rw [List.length_append] at m5
    exact ⟨b', _, by rw [hrun, m3], (hd1.trans hd2).trans m1, m2, m4, m5⟩
  rcases ho with ⟨h1, h2, h3⟩ | ⟨nb, q, cap, n, h1, h2, h3, h4, _, F1, e, dd, ddd, hx⟩
  · -- nil
    subst h2
    obtain ⟨A0, h1⟩ := h1
    have hx0 : (V : Value) = .slice A0 0 0 := h1
    by_cases hy : ys.length = 0
    · have hy' : ys = [] := List.length_eq_zero_iff.mp hy
      subst hy'
      have hn0 : news = [] := by have := hsrc.cells; simp at this; exact this
      subst hn0
      have hrun := run_append_room' (P := P) (ty := ty) (w := b.w) (base := A0) (len := 0) (cap := 0) hu hu' hd hf hsrc.len (by rw [hfs]; exact hsrc.first b.w fun _ _ => rfl) (by simp)
      obtain ⟨b', m1, m2, m3, m4, _, _, m5⟩ := Mv.newDet (v := 0) (id := id) hr hid hown hfree
      refine ⟨b', V, ?_, m1, by simpa using m2, m4, m5⟩
      rw [hx0, hrun, m3]
      cases A0 <;> simp [storeCells]
    · refine grow (base := A0) (cap := 0) (olds := []) (F1 := fun _ _ => False) hx0 (by simp; omega) ?_ (by simp) (fun i hi => by simp at hi) (fun i k hi => by simp at hi) (fun i j k hi => by simp at hi)
      cases A0 <;> simp [Builtin.firstCells, loadCells, loadCellsFrom]
  · have hcells : ∀ j, j < xs.length * t.size → ∃ v, b.w.cell? ⟨nb, q + j, none⟩ = some v := fun j hj => by
      refine bkOf_cell h3 ?_
      have : xs.length * t.size ≤ cap * t.size := Nat.mul_le_mul_right _ h2
      omega
    by_cases hroom : xs.length + ys.length ≤ cap
    · -- in place
      have hrun := run_append_room' (P := P) (ty := ty) (w := b.w) (base := some ⟨nb, q, none⟩) hu hu' hd hf hsrc.len (by rw [hfs]; exact hsrc.first b.w fun _ _ => rfl) hroom
      have hfit : q + xs.length * t.size + 0 + news.length ≤ n := by
        have : (xs.length + ys.length) * t.size ≤ cap * t.size := Nat.mul_le_mul_right _ hroom
        rw [Nat.add_mul] at this
        rw [hsrc.cells]; omega
      obtain ⟨w2, r1, r2, r3, r4, r5, r6, r7, r8⟩ := run_storeCells (P := P) (b := nb) (o := q + xs.length * t.size) news 0 b.w h3 hfit hsrc.one
      have hFb : F nb := (e nb).mpr (.inl rfl)
      have hfn := hfree nb hFb
      have hsc := Mv.scribble (w2 := w2) hr hfn.1 hfn.2.1 hfn.2.2 r2 r3 r4 r5 r6
      have hS2 : ∀ k, b.S k → k ≠ nb := fun k hk hkn => hfn.2.1 (hkn ▸ hk)
      have hAg : AgreeS b.c (wcf w2 b.G) b.S b.S := fun k hk => ⟨hk, fun j => cell?_congr (r6 k (hS2 k hk))⟩
      have hF1n : ∀ i k, i < xs.length → F1 i k → k ≠ nb := fun i k hi hk hkn => dd i hi (hkn ▸ hk)
      have hFsn : ∀ i k, i < ys.length → Fs i k → k ≠ nb := fun i k hi hk hkn => hdis i k hi hk (hkn ▸ hFb)
      have hF1F : ∀ i k, i < xs.length → F1 i k → F k := fun i k hi hk => (e k).mpr (.inr ⟨i, hi, hk⟩)
      have key := own_join (c := wcf w2 b.G) (S := b.S) (n := nb) (q := q) (F1 := F1) (F2 := Fs) (m := m) (xs := xs) (ys := ys)
        (fun i hi => (hx i hi).move (fun j hj => by
            have hle := mul_le_of_lt (s := t.size) hi
            simp only [wcf_inl, gh_inl]
            rw [r8, if_neg (by omega)])
          (fun k hk => ⟨fun e' => hF1n i k hi hk (by injection e' with e'; exact e'.symm), bkOf_congr (r6 k (hF1n i k hi hk)), fun j => cell?_congr (r6 k (hF1n i k hi hk))⟩) hAg)
        (fun i hi => (hsrc.own i hi).move (fun j hj => by
            have hle := mul_le_of_lt (s := t.size) hi
            have hce := hsrc.cells
            simp only [wcf_inl, gh_inr, Nat.zero_add]
            rw [r8, if_pos (by rw [Nat.add_mul]; omega)]
            congr 1; rw [Nat.add_mul]; omega)
          (fun k hk => ⟨fun e' => hFsn i k hi hk (by injection e' with e'; exact e'.symm), bkOf_congr (r6 k (hFsn i k hi hk)), fun j => cell?_congr (r6 k (hFsn i k hi hk))⟩) hAg)
      obtain ⟨b', m1, m2, m3, m4, _, _, m5⟩ := Mv.newDet (b := { b with w := w2 }) (v := 0) (id := id) (s := ⟨.sl t, xs ++ ys, .sl m⟩) (V := .slice (some ⟨nb, q, none⟩) (xs.length + ys.length) cap) (vs := [.slice (some ⟨nb, q, none⟩) (xs.length + ys.length) cap])
        (F := fun k => k = nb ∨ ∃ i, i < (xs ++ ys).length ∧ (if i < xs.length then F1 i else Fs (i - xs.length)) k) hsc.rl hid
        ⟨by simp [valOf, Ty.agg], rfl, by
          simp only [OwnAt, gh_inr, List.getElem?_cons_zero]
          refine .inr ⟨nb, q, cap, n, by rw [List.length_append], by rw [List.length_append]; exact hroom, r7, h4, (fun e => by cases e), fun i => if i < xs.length then F1 i else Fs (i - xs.length), fun k => Iff.rfl, fun i hi hk => ?_, fun i j k hi hj hk1 hk2 => ?_, fun i hi => ?_⟩
          · rw [List.length_append] at hi
            by_cases hlt' : i < xs.length
            · rw [if_pos hlt'] at hk; exact hF1n i _ hlt' hk rfl
            · rw [if_neg hlt'] at hk; exact hFsn _ _ (by omega) hk rfl
          · rw [List.length_append] at hi hj
            by_cases h5 : i < xs.length <;> by_cases h6 : j < xs.length
            · rw [if_pos h5] at hk1; rw [if_pos h6] at hk2; exact ddd i j k h5 h6 hk1 hk2
            · rw [if_pos h5] at hk1; rw [if_neg h6] at hk2; exact (hdis _ k (by omega) hk2 (hF1F i k h5 hk1)).elim
            · rw [if_neg h5] at hk1; rw [if_pos h6] at hk2; exact (hdis _ k (by omega) hk1 (hF1F j k h6 hk2)).elim
            · rw [if_neg h5] at hk1; rw [if_neg h6] at hk2; have := hsrc.dis _ _ k (by omega) (by omega) hk1 hk2; omega
          · have hne' : ∀ k, (if i < xs.length then F1 i else Fs (i - xs.length)) k → k ≠ nb := fun k hk => by
              rw [List.length_append] at hi
              by_cases hlt' : i < xs.length
              · rw [if_pos hlt'] at hk; exact hF1n i k hlt' hk
              · rw [if_neg hlt'] at hk; exact hFsn _ k (by omega) hk
            exact (key i hi).move (fun _ _ => rfl) (fun k hk => ⟨fun e' => hne' k hk (by injection e' with e'; exact e'.symm), rfl, fun _ => rfl⟩) fun k hk => ⟨hk, fun _ => rfl⟩⟩
        (fun k hk => by
          rcases hk with rfl | ⟨i, hi, hk⟩
          · exact hfn
          · rw [List.length_append] at hi
            by_cases hlt' : i < xs.length
            · rw [if_pos hlt'] at hk; exact hfree k (hF1F i k hlt' hk)
            · rw [if_neg hlt'] at hk; exact hsrc.free _ (by omega) k hk)
      refine ⟨b', _, ?_, hsc.trans m1, m2, m4, m5⟩
      rw [h1, hrun, m3]
      simp only [add_eq, hfs, r1, Result.andThen_ok]
    · obtain ⟨olds, ho1, ho2⟩ := vals_of (c := b.c) (B := .inl nb) (o := q) hcells
      refine grow (base := some ⟨nb, q, none⟩) (cap := cap) (olds := olds) (F1 := F1) h1 (by omega) ?_ ho1 (fun i hi => ?_) (fun i k hi hk => (e k).mpr (.inr ⟨i, hi, hk⟩)) ddd
      · rw [hfs]
        have hlen : (olds.length) = xs.length * t.size := ho1
        have := run_loadCells_list (P := P) (w := b.w.drew) ⟨nb, q, none⟩ olds fun j v hj => by
          have hlt : j < olds.length := by
            rcases Nat.lt_or_ge j olds.length with h | h
            · exact h
            · rw [List.getElem?_eq_none h] at hj; cases hj
          rw [add_eq]
          have := ho2 j (by omega)
          rw [hj] at this
          exact this
        rw [hlen] at this
        simpa [Builtin.firstCells] using this
      · refine (hx i hi).move (fun j hj => ?_) (fun k hk => ⟨(fun e' => by cases e'), rfl, fun _ => rfl⟩) fun k hk => ⟨hk, fun _ => rfl⟩
        have hle := mul_le_of_lt (s := t.size) hi
        simp only [gh_inr, gh_inl, Nat.zero_add]
        rw [← ho2 _ (by omega)]
        congr 1; omega

theorem ImmAt.norefs {c : CF} {S S' : Nat → Prop} : ∀ {τ : Ty} {B : Nat ⊕ Nat} {o : Nat} {x : τ.den}, τ.refs = false → ImmAt c S τ B o x → ImmAt c S' τ B o x := by
  intro τ
  induction τ with
  | pair a d iha ihd => intro B o x h hI; simp only [Ty.refs, Bool.or_eq_false_iff] at h; exact ⟨iha h.1 hI.1, ihd h.2 hI.2⟩
  | st t ih => intro B o x h hI; exact ih (by simpa [Ty.refs] using h) hI
  | arr n t ih => intro B o x h hI; exact ⟨hI.1, fun i hi => ih (by simpa [Ty.refs] using h) (hI.2 i hi)⟩
  | sl t _ => intro B o x h; simp [Ty.refs] at h
  | ip t _ => intro B o x h; simp [Ty.refs] at h
  | fn g t _ => intro B o x h; simp [Ty.refs] at h
  | unit => intro B o x h hI; trivial
  | _ => intro B o x h hI; exact hI

/-- A row in a block: what is appended of it. -/
theorem Src.of_block {t : Ty} {m : Mask} {ys : List t.den} {nb q cap : Nat} {Fs : Nat → Nat → Prop} (hb : nb < b.w.heap.size)
    (ho : ∀ i, i < ys.length → OwnAt b.c b.S t m (.inl nb) (q + i * t.size) (ys.getD i t.dflt) (Fs i)) (hf : ∀ j, j < ys.length → Free O b (Fs j)) (hd : ∀ i j k, i < ys.length → j < ys.length → Fs i k → Fs j k → i = j) :
    ∃ news, Src P O b t m ys (.slice (some ⟨nb, q, none⟩) ys.length cap) news Fs := by
  have hpos : ∀ j, j < ys.length * t.size → ∃ v, b.c.cl (.inl nb) (q + j) = some v ∧ v.oneCell' = true := fun j hj => by
    have hp : 0 < t.size := Nat.pos_of_ne_zero fun h0 => by simp [h0] at hj
    have hlt : j / t.size < ys.length := Nat.div_lt_of_lt_mul (by rw [Nat.mul_comm]; exact hj)
    obtain ⟨v, h1, h2⟩ := (ho _ hlt).cells1 (j % t.size) (Nat.mod_lt _ hp)
    refine ⟨v, ?_, h2⟩
    rw [← h1]; congr 1
    have := Nat.div_add_mod j t.size
    have : j / t.size * t.size = t.size * (j / t.size) := Nat.mul_comm _ _
    omega
  obtain ⟨news, hn1, hn2⟩ := vals_of (c := b.c) (B := .inl nb) (o := q) (n := ys.length * t.size) fun j hj => let ⟨v, h, _⟩ := hpos j hj; ⟨v, h⟩
  have hlt : ∀ (j : Nat) (v : Value), news[j]? = some v → j < news.length := fun j v hj => by
    rcases Nat.lt_or_ge j news.length with h | h
    · exact h
    · rw [List.getElem?_eq_none h] at hj; cases hj
  refine ⟨news, fun w => by simp [Builtin.lenOf], hn1, fun j v hj => ?_, fun w' hw' => ?_, fun i hi => ?_, hf, hd⟩
  · have := hlt j v hj
    obtain ⟨v', h1, h2⟩ := hpos j (by omega)
    rw [hn2 j (by omega), hj] at h1
    injection h1 with h1; rw [h1]; exact h2
  · have := run_loadCells_list (P := P) (w := w') ⟨nb, q, none⟩ news fun j v hj => by
      have hl := hlt j v hj
      rw [add_eq]
      have h1 := hn2 j (by omega)
      rw [hj] at h1
      rw [cell?_congr (hw' nb hb)]
      exact h1
    rw [hn1] at this
    simpa [Builtin.firstCells] using this
  · refine (ho i hi).move (fun j hj => ?_) (fun k hk => ⟨(fun e' => by cases e'), rfl, fun _ => rfl⟩) fun k hk => ⟨hk, fun _ => rfl⟩
    have hle := mul_le_of_lt (s := t.size) hi
    simp only [gh_inr, gh_inl, Nat.zero_add]
    rw [← hn2 _ (by omega)]
    congr 1; omega

theorem Src.nil {t : Ty} {m : Mask} {A : Option Addr} {cap : Nat} : Src P O b t m [] (.slice A 0 cap) [] (fun _ _ => False) :=
  ⟨fun w => by simp [Builtin.lenOf], by simp, fun j v hj => by simp at hj, fun w' _ => by cases A <;> simp [Builtin.firstCells, loadCells, loadCellsFrom], fun j hj => by simp at hj, fun j hj => by simp at hj, fun i j k hi => by simp at hi⟩

theorem Src.imm {t : Ty} {ys : List t.den} {X : Value} (hr : b.rl O) (h : b.av (.imm (.sl t) ys) X) : ∃ news Fs, Src P O b t .sh ys X news Fs := by
  obtain ⟨A, cap, rfl, hcap, hx⟩ := av_sl.mp h
  by_cases hy : ys.length = 0
  · have hy' := List.length_eq_zero_iff.mp hy
    subst hy'
    exact ⟨[], _, Src.nil⟩
  · obtain ⟨nb, q, rfl, hb, _⟩ := hx 0 (by omega)
    have hlt : nb < b.w.heap.size := by
      rcases Nat.lt_or_ge nb b.w.heap.size with h | h
      · exact h
      · exact ((hr.new nb h).2 hb).elim
    obtain ⟨news, hs⟩ := Src.of_block (P := P) (O := O) (b := b) (t := t) (m := .sh) (ys := ys) (nb := nb) (q := q) (cap := cap) (Fs := fun _ _ => False) hlt (fun i hi => by
      obtain ⟨nb', q', h1, h2, h3⟩ := hx i hi
      simp only [Option.some.injEq, Addr.mk.injEq, and_true] at h1
      obtain ⟨rfl, rfl⟩ := h1
      exact OwnAt.sh_iff.mpr ⟨fun _ h => h, h3⟩) (fun _ _ _ h => h.elim) fun _ _ _ _ _ h => h.elim
    exact ⟨news, _, hs⟩

theorem Src.str {s : ByteArray} : Src P O b (.int .u8) .sh (s.toList.map fun c => (c.toNat : Int)) (.string s) (s.toList.map fun c => Value.int .u8 (c.toNat : Int)) (fun _ _ => False) := by
  have hl : s.toList.length = s.size := by rw [ByteArray.toList_eq]; rfl
  refine ⟨fun w => by simp [Builtin.lenOf, hl], by simp [Ty.size], fun j v hj => ?_, fun w' _ => ?_, fun j hj => ?_, fun _ _ _ h => h.elim, fun _ _ _ _ _ h => h.elim⟩
  · simp only [List.getElem?_map, Option.map_eq_some_iff] at hj
    obtain ⟨c, _, rfl⟩ := hj; rfl
  · have he : s.extract 0 (s.toList.map fun c => (c.toNat : Int)).length = s := by
      rw [List.length_map, hl]
      exact ByteArray.extract_zero_size
    have h2 : (s.toList.map fun c => Value.int .u8 (c.toNat : Int)).toArray = s.data.map fun c => Value.int .u8 (c.toNat : Int) := by
      rw [ByteArray.toList_eq]; apply Array.ext'; rw [Array.toList_map]
    simp only [Builtin.firstCells, he, h2]
    rfl
  · refine OwnAt.sh_iff.mpr ⟨fun _ h => h, ?_⟩
    rw [List.length_map] at hj
    simp only [ImmAt, gh_inr, Ty.size, Nat.mul_one, Nat.zero_add]
    rw [List.getElem?_map, List.getD_eq_getElem?_getD, List.getElem?_map, List.getElem?_eq_getElem hj]
    rfl

theorem cast_sl {u t : Ty} {x : List u.den} {y : List t.den} (h : cast? (.sl u) (.sl t) x = some y) : ∃ e : u = t, e ▸ x = y := by
  obtain ⟨e, h⟩ := cast?_some h
  injection e with e
  subst e
  exact ⟨rfl, h.symm⟩

theorem OwnAt.norefs {c : CF} {S : Nat → Prop} : ∀ {τ : Ty} {m : Mask} {B : Nat ⊕ Nat} {o : Nat} {x : τ.den} {F : Nat → Prop}, τ.refs = false → OwnAt c S τ m B o x F → ImmAt c S τ B o x := by
  intro τ
  induction τ with
  | pair a d iha ihd => intro m B o x F h hI; simp only [Ty.refs, Bool.or_eq_false_iff] at h; obtain ⟨F1, F2, _, _, h1, h2⟩ := hI; exact ⟨iha h.1 h1, ihd h.2 h2⟩
  | st t ih => intro m B o x F h hI; exact ih (by simpa [Ty.refs] using h) hI
  | arr n t ih => intro m B o x F h hI; obtain ⟨hn, Fs, _, _, hI⟩ := hI; exact ⟨hn, fun i hi => ih (by simpa [Ty.refs] using h) (hI i hi)⟩
  | sl t _ => intro m B o x F h; simp [Ty.refs] at h
  | ip t _ => intro m B o x F h; simp [Ty.refs] at h
  | fn g t _ => intro m B o x F h; simp [Ty.refs] at h
  | _ => intro m B o x F h hI; simp only [OwnAt] at hI; exact hI.2

theorem entOwn {b : Bd} (hr : b.rl O) {l : Nat} {e : Entry} (he : b.h l = some e) (hf : e.fz = false) (hm : e.mem = false) : OwnAt b.c b.S e.τ e.m (.inr l) 0 e.x (b.ft l) := by
  have hE := hr.ent l e he
  unfold EntOk at hE
  rw [if_neg (by simp [hf])] at hE
  obtain ⟨F', h1, _, h2⟩ := hE
  rw [if_neg (by simp [hm])] at h2
  simp only [base, hm, Bool.false_eq_true, if_false] at h1
  exact h1.congr h2

/-- A name of an entry that is a value of its own: its cells. -/
theorem av_ref {b : Bd} (hr : b.rl O) {l k : Nat} {e : Entry} {V : Value} (hv : b.av (.ref l [] k) V) (he : b.h l = some e) (hm : e.mem = false) :
    ∃ vs : List Value, vs.length = e.τ.size ∧ (∀ i, i < e.τ.size → b.c.cl (.inr l) i = vs[i]?) ∧ valOf e.τ vs V := by
  obtain ⟨_, hv⟩ := hv
  obtain ⟨_, hv⟩ := hv e he
  obtain ⟨u, h1, _, B, o, vs, h2, h3, h4, h5⟩ := hv (by simp [aliveR, hm, isNil])
  simp only [getP, Option.some.injEq] at h1
  subst h1
  simp only [loc, base, hm, Bool.false_eq_true, if_false, Option.some.injEq, Prod.mk.injEq, true_and] at h2
  obtain ⟨rfl, rfl⟩ := h2
  exact ⟨vs, h3, fun i hi => by simpa using h4 i hi, h5⟩

theorem av_ref_own {b : Bd} (hr : b.rl O) {l k : Nat} {e : Entry} {V : Value} (hv : b.av (.ref l [] k) V) (he : b.h l = some e) (hf : e.fz = false) (hm : e.mem = false) :
    ∃ vs : List Value, Own b.c b.S ⟨e.τ, e.x, e.m⟩ V vs (b.ft l) := by
  obtain ⟨vs, h1, h2, h3⟩ := av_ref hr hv he hm
  exact ⟨vs, Own.of (B := .inr l) (o := 0) (entOwn hr he hf hm) h3 h1 fun i hi => by rw [Nat.zero_add]; exact h2 i hi⟩

theorem Src.del {t : Ty} {m : Mask} {ys : List t.den} {x : Value} {news : List Value} {Fs : Nat → Nat → Prop} (h : Src P O b t m ys x news Fs) (k : Nat) : Src P O { b with h := upd b.h k none } t m ys x news Fs :=
  ⟨h.len, h.cells, h.one, h.first, h.own, fun j hj x hx => by
    obtain ⟨h1, h2, h3⟩ := h.free j hj x hx
    refine ⟨h1, h2, fun l e he => ?_⟩
    by_cases hl : l = k
    · subst hl; simp at he
    · simp only [upd_ne _ _ hl] at he; exact h3 l e he, h.dis⟩

theorem av_ref_row {b : Bd} (hr : b.rl O) {l k : Nat} {t : Ty} {ys : List t.den} {m : Mask} {v : Nat} {V : Value} (hv : b.av (.ref l [] k) V) (he : b.h l = some ⟨.sl t, ys, .sl m, false, false, v⟩) :
    ((∃ A, V = .slice A 0 0) ∧ ys = []) ∨ ∃ nb q cap, ∃ Fs : Nat → Nat → Prop, V = .slice (some ⟨nb, q, none⟩) ys.length cap ∧ nb < b.w.heap.size ∧ b.ft l nb ∧
      (∀ i, i < ys.length → OwnAt b.c b.S t m (.inl nb) (q + i * t.size) (ys.getD i t.dflt) (Fs i)) ∧ (∀ i k, i < ys.length → Fs i k → b.ft l k) ∧ (∀ i j k, i < ys.length → j < ys.length → Fs i k → Fs j k → i = j) := by
  obtain ⟨vs, h1, h2, h3⟩ := av_ref hr hv he rfl
  have ho := entOwn hr he rfl rfl
  simp only [valOf, Ty.agg, Bool.false_eq_true, if_false] at h3
  subst h3
  have h0 := h2 0 (by simp [Ty.size])
  simp only [List.getElem?_cons_zero] at h0
  simp only [OwnAt] at ho
  rcases ho with ⟨g1, g2, _⟩ | ⟨nb, q, cap, n, g1, _, g3, _, _, Fs, e, _, dd, g⟩
  · obtain ⟨A, g1⟩ := g1; rw [h0] at g1; injection g1 with g1; exact .inl ⟨⟨A, g1⟩, g2⟩
  · rw [h0] at g1; injection g1 with g1
    exact .inr ⟨nb, q, cap, Fs, g1, bkOf_lt g3, (e nb).mpr (.inl rfl), g, fun i k hi hk => (e k).mpr (.inr ⟨i, hi, hk⟩), dd⟩

theorem srcV_ok {k : Nat} {bv : AV} {X : Value} {t : Ty} {m : Mask} {ek : Entry} {K : List t.den → Ups → Option R} (hr : b.rl O) (hv : b.av bv X) (hk : b.h k = some ek) (e : srcV b.h k bv t m K = some out) :
    ∃ ys ups b1 news Fs, K ys ups = some out ∧ Mv O b b1 ∧ updF ups b.h = b1.h ∧ b1.w = b.w ∧ b1.U = b.U ∧ b1.h k = b.h k ∧ Src P O b1 t m ys X news Fs := by
  unfold srcV at e
  split at e
  · rename_i u ys hres
    split at e
    · rename_i zs hc
      obtain ⟨hm, e⟩ := cond_some e
      obtain ⟨rfl, rfl⟩ := cast_sl hc
      have hm := isSh_eq hm
      subst hm
      have h2 : b.av (.imm (.sl u) ys) X := (res_ok hr hv hres).ok
      obtain ⟨news, Fs, hs⟩ := Src.imm (P := P) hr h2
      exact ⟨ys, [], b, news, Fs, e, Mv.refl hr, rfl, rfl, rfl, rfl, hs⟩
    · cases e
  · rename_i s hres
    split at e
    · rename_i zs hc
      obtain ⟨hm, e⟩ := cond_some e
      obtain ⟨rfl, rfl⟩ := cast_sl hc
      have hm := isSh_eq hm
      subst hm
      have h2 : b.av (.imm .str s) X := (res_ok hr hv hres).ok
      have hX : X = .string s := av_str.mp h2
      subst hX
      exact ⟨_, [], b, _, _, e, Mv.refl hr, rfl, rfl, rfl, rfl, Src.str⟩
    · cases e
  · rename_i l kv hres
    have hvl : b.av (.ref l [] kv) X := (res_ok hr hv hres).ok
    split at e
    · rename_i u ys m' v hl
      split at e
      · rename_i zs hc
        obtain ⟨hkl, e2⟩ := cond_none e
        clear e
        obtain ⟨rfl, rfl⟩ := cast_sl hc
        have hne : k ≠ l := fun h => by subst h; simp at hkl
        have hrow := av_ref_row hr hvl hl
        cases hc1 : (!u.refs && m.isSh) with
        | true =>
          rw [hc1, cond_true] at e2
          simp only [Bool.and_eq_true, Bool.not_eq_true'] at hc1
          have hm := isSh_eq hc1.2
          subst hm
          rcases hrow with ⟨⟨A0, rfl⟩, rfl⟩ | ⟨nb, q, cap, Fs, rfl, hlt, hft, ho, hsub, hdd⟩
          · exact ⟨[], [], b, [], _, e2, Mv.refl hr, rfl, rfl, rfl, rfl, Src.nil⟩
          · obtain ⟨news, hs⟩ := Src.of_block (P := P) (O := O) (b := b) (t := u) (m := .sh) (ys := ys) (nb := nb) (q := q) (cap := cap) (Fs := fun _ _ => False) hlt
              (fun i hi => OwnAt.sh_iff.mpr ⟨fun _ h => h, (ho i hi).norefs hc1.1⟩) (fun _ _ _ h => h.elim) fun _ _ _ _ _ h => h.elim
            exact ⟨ys, [], b, news, _, e2, Mv.refl hr, rfl, rfl, rfl, rfl, hs⟩
        | false =>
          rw [hc1, cond_false] at e2
          by_cases hmm : m = m'
          · subst hmm
            rw [decide_eq_true rfl, cond_true] at e2
            refine ⟨ys, [(l, none)], { b with h := upd b.h l none }, ?_⟩
            have hd := Mv.del hr l
            have hup : upd b.h l none k = b.h k := upd_ne _ _ hne
            rcases hrow with ⟨⟨A0, rfl⟩, rfl⟩ | ⟨nb, q, cap, Fs, rfl, hlt, hft, ho, hsub, hdd⟩
            · exact ⟨[], _, e2, hd, rfl, rfl, rfl, hup, Src.nil⟩
            · obtain ⟨news, hs⟩ := Src.of_block (P := P) (O := O) (b := { b with h := upd b.h l none }) (t := u) (m := m) (ys := ys) (nb := nb) (q := q) (cap := cap) (Fs := Fs) hlt ho
                (fun j hj x hx => by
                  have hx' := hsub j x hj hx
                  obtain ⟨h7, h8⟩ := hr.own l x (by simp [hl]) hx'
                  refine ⟨h7, h8, fun l' e' he' hf => ?_⟩
                  by_cases hne' : l' = l
                  · subst hne'; simp at he'
                  · simp only [upd_ne _ _ hne'] at he'
                    exact hne' (hr.dis l' l x (by simp [he']) (by simp [hl]) hf hx')) hdd
              exact ⟨news, _, e2, hd, rfl, rfl, rfl, hup, hs⟩
          · rw [decide_eq_false hmm, cond_false] at e2
            obtain ⟨hm, e3⟩ := cond_some e2
            have hm := isSh_eq hm
            subst hm
            have hf := Mv.frz hr hl
            refine ⟨ys, [(l, some ⟨.sl u, ys, .sl m', false, true, v⟩)], { b with h := upd b.h l (some ⟨.sl u, ys, .sl m', false, true, v⟩), S := fun x => b.S x ∨ b.ft l x, ft := upd b.ft l fun _ => False }, ?_⟩
            have hup : upd b.h l (some ⟨.sl u, ys, .sl m', false, true, v⟩) k = b.h k := upd_ne _ _ hne
            rcases hrow with ⟨⟨A0, rfl⟩, rfl⟩ | ⟨nb, q, cap, Fs, rfl, hlt, hft, ho, hsub, hdd⟩
            · exact ⟨[], _, e3, hf, rfl, rfl, rfl, hup, Src.nil⟩
            · obtain ⟨news, hs⟩ := Src.of_block (P := P) (O := O) (b := { b with h := upd b.h l (some ⟨.sl u, ys, .sl m', false, true, v⟩), S := fun x => b.S x ∨ b.ft l x, ft := upd b.ft l fun _ => False })
                (t := u) (m := .sh) (ys := ys) (nb := nb) (q := q) (cap := cap) (Fs := fun _ _ => False) hlt
                (fun i hi => OwnAt.sh_iff.mpr ⟨fun _ h => h, (ho i hi).freeze (fun _ h => .inl h) fun x hx => .inr (hsub i x hi hx)⟩) (fun _ _ _ h => h.elim) fun _ _ _ _ _ h => h.elim
              exact ⟨news, _, e3, hf, rfl, rfl, rfl, hup, hs⟩
      · cases e
    · cases e
  · cases e
end
end Ev
end

section
namespace Ev
open Go

section
variable {P : Program} {E : Env} {O : Nat → Prop} {b : Bd} {R : Type} {out : R}

theorem builtin_run {o : Oper} {a : Act} {n : Builtin} {az : Array Operand} {Ts : Array TypeId} (ho : o.op = .call { callee := .builtin n, args := az, argTypes := Ts }) :
    ∃ cs, ∀ w, (execOp a.eval o).run P w = (Go.builtin n Ts o.type cs (az.map a.eval)).run P w := by
  refine ⟨az.map fun | .const _ => true | _ => false, fun w => ?_⟩
  simp only [execOp, ho, resolve, Sem.run_bind, Sem.run_pure, Result.andThen_ok, invoke]
  rfl

theorem okArg_facts {T : TypeId} (hT : TOk P E.TT) (h : okArg E T = true) : ∃ d, P.underlying T = some d ∧ ((∃ e, d = .slice e) ∨ d = .string) := by
  unfold okArg at h
  rw [Bool.or_eq_true] at h
  rcases h with h | h
  · unfold isSl at h
    split at h
    · rename_i e _ _ _ _ he
      have := (hT _ _ he)
      obtain ⟨d, hd, hk, _⟩ := this.under
      cases hk
      exact ⟨_, hd, .inl ⟨_, rfl⟩⟩
    · cases h
  · unfold isStr at h
    split at h
    · rename_i he
      have := (hT _ _ he)
      obtain ⟨d, hd, hk, _⟩ := this.under
      cases hk
      exact ⟨_, hd, .inr rfl⟩
    · cases h

theorem append_ok {o : Oper} {a : Act} {az : Array Operand} {Ts : Array TypeId} {A B : Operand} {T T' : TypeId} {av bv : AV} {id : Nat} {K : Kt R}
    (ho : o.op = .call { callee := .builtin .append, args := az, argTypes := Ts }) (has : az.toList = [A, B]) (hTs : Ts.toList = [T, T']) (hT : TOk P E.TT) (hr : b.rl O) (hid : ¬ b.U id)
    (ha : b.av av (a.eval A)) (hb : b.av bv (a.eval B)) (e : appendV E b.h id T T' av bv K = some out) :
    ∃ avs ups, K avs ups = some out ∧ OpOk P o a b.U id b.h O b.S b.w b.G b.Pl avs ups := by
  have has : az = #[A, B] := Array.ext' (by simpa using has)
  have hTs : Ts = #[T, T'] := Array.ext' (by simpa using hTs)
  subst has hTs
  unfold appendV at e
  split at e
  · rename_i k v t' ti hel
    split at e
    · rename_i t xs m v' hk
      obtain ⟨h1, e⟩ := cond_some e
      simp only [Bool.and_eq_true] at h1
      obtain ⟨h1, h2, h3, h4⟩ := h1
      obtain ⟨ys, ups, b1, news, Fs, e, hm, hh, hw, hU, hk1, hs⟩ := srcV_ok (P := P) hr hb hk e
      obtain ⟨h5, e⟩ := cond_some e
      have h5 := of_decide_eq_true h5
      obtain ⟨el, f, hu, hti, hf, hfs, hfb, hp, hts, _, hV, z, hz, hval⟩ := elTy_some hT hel
      obtain ⟨d, hd, hd'⟩ := okArg_facts hT h4
      have hzc := zero_cells (c := b.c) (S := b.S) hp hV hval
      have hst : f.size = t.size := by rw [hfs, ← hts]; exact Nat.eq_of_beq_eq_true h1
      have hzs : z.cells.size = t.size := by rw [hzc]; simp [zero_len hp]; rw [← hst, hfs]
      rw [hk] at hk1
      have hd1 := Mv.del hm.rl k
      obtain ⟨vs, hown⟩ := av_ref_own hm.rl (hm.av _ _ ha) hk1 rfl rfl
      have hfree : Free O { b1 with h := upd b1.h k none } (b1.ft k) := fun x hx => by
        obtain ⟨h7, h8⟩ := hm.rl.own k x (by simp [hk1]) hx
        refine ⟨h7, h8, fun l' e' he' hf => ?_⟩
        by_cases hne : l' = k
        · subst hne; simp at he'
        · simp only [upd_ne _ _ hne] at he'
          exact hne (hm.rl.dis l' k x (by simp [he']) (by simp [hk1]) hf hx)
      obtain ⟨b', V', r1, r2, r3, r4, r5⟩ := append_core (P := P) (id := id) (ty := o.type) (b := { b1 with h := upd b1.h k none }) (xs := xs) (ys := ys) (F := b1.ft k) hu hd hd' hf hz hst hzs
        (by rw [hfb]; exact Nat.le_of_ble_eq_true h2) (by
          rw [hfb]
          refine Nat.le_trans (Nat.mul_le_mul_right _ h5) ?_
          exact Nat.div_mul_le_self _ _) hd1.rl (by rw [hU]; exact hid) hown hfree (hs.del k)
        (fun j x hj hx hk' => (hs.free j hj x hx).2.2 k _ hk1 hk')
      refine ⟨_, _, e, OpOk.of (v := V') (b' := b') ?_ ((hm.trans hd1).trans r2) (fun l hl => ?_) ?_ r5⟩
      · obtain ⟨cs, hcs⟩ := builtin_run (P := P) (a := a) ho
        have : (#[A, B] : Array Operand).map a.eval = #[a.eval A, a.eval B] := by simp
        rw [hcs, this, ← hw]
        simp only [Go.builtin, Sem.run_bind, Sem.run_pure, r1, Result.andThen_ok]
      · rw [r4, hU] at hl
        exact hl.elim .inl fun h => .inr ⟨by omega, by omega⟩
      · rw [updF_append, hh, r3]; rfl
    · cases e
  · cases e
end
end Ev
end

section
namespace Ev
open Go

/-- What laying a value does. -/
inductive Laid1 {A : Type} (look : Nat → Option Entry) (v : AV) (own : Sub → Option A) (u : A) : Ups → Prop
  | imm (τ x) : res look v = some (.imm τ x) → own ⟨τ, x, .sh⟩ = some u → Laid1 look v own u []
  | own (l w e) : res look v = some (.ref l [] w) → look l = some e → e.mem = false → own ⟨e.τ, e.x, e.m⟩ = some u → Laid1 look v own u [(l, none)]
  | frz (l w e) : res look v = some (.ref l [] w) → look l = some e → e.mem = false → own ⟨e.τ, e.x, e.m⟩ = none → own ⟨e.τ, e.x, .sh⟩ = some u → Laid1 look v own u [(l, some { e with fz := true })]

theorem laid_inv {R A : Type} {out : R} {look : Nat → Option Entry} {v : AV} {own : Sub → Option A} {K : A → Ups → Option R} (e : laid look v own K = some out) : ∃ u ups, K u ups = some out ∧ Laid1 look v own u ups := by
  unfold laid at e
  split at e
  · rename_i τ x hres
    split at e
    · rename_i u hu; exact ⟨u, [], e, .imm τ x hres hu⟩
    · cases e
  · rename_i l w hres
    split at e
    · rename_i en hen
      obtain ⟨hmem, e⟩ := cond_none e
      split at e
      · rename_i u hu; exact ⟨u, _, e, .own l w en hres hen hmem hu⟩
      · rename_i hn
        split at e
        · rename_i u hu; exact ⟨u, _, e, .frz l w en hres hen hmem hn hu⟩
        · cases e
    · cases e
  · cases e

theorem res_ref_congr {look look' : Nat → Option Entry} {l w : Nat} {p : List Stp} (h : look' l = look l) : res look' (.ref l p w) = res look (.ref l p w) := by
  simp only [res, atR, isFz, h]

theorem res_idem {look : Nat → Option Entry} {v : AV} {l w : Nat} {p : List Stp} (h : res look v = some (.ref l p w)) : res look (.ref l p w) = some (.ref l p w) := by
  cases v with
  | imm τ x => cases τ <;> simp [res] at h
  | ref l' p' k' =>
    simp only [res] at h
    split at h
    · rename_i s' hs
      injection h with h
      by_cases hc : (isFz look l' || s'.m.isSh) = true
      · simp only [hc, cond_true] at h; cases h
      · simp only [Bool.not_eq_true] at hc
        simp only [hc, cond_false, AV.ref.injEq] at h
        obtain ⟨rfl, rfl, rfl⟩ := h
        simp only [res, hs, hc, cond_false]
    · cases h
  | adr l' p' k' =>
    simp only [res] at h
    split at h
    · injection h with h
      by_cases hc : isFz look l' = true
      · simp only [hc, cond_true] at h; cases h
      · simp only [Bool.not_eq_true] at hc
        simp only [hc, cond_false] at h; cases h
    · cases h

section
variable {P : Program} {E : Env} {O : Nat → Prop} {b : Bd} {R : Type} {out : R}

theorem laid_do {A : Type} {v : AV} {V : Value} {own : Sub → Option A} {u : A} {ups : Ups} {bi : Bd} (hr : b.rl O) (hv : b.av v V) (hm : Mv O b bi) (h : Laid1 b.h v own u ups) (hsame : ∀ q, q ∈ ups → bi.h q.1 = b.h q.1) :
    ∃ b' s vs F, own s = some u ∧ Mv O bi b' ∧ updF ups bi.h = b'.h ∧ b'.w = bi.w ∧ b'.U = bi.U ∧ b'.G = bi.G ∧ b'.Pl = bi.Pl ∧ Own b'.c b'.S s V vs F ∧ Free O b' F ∧ ∀ Fx, Free O bi Fx → Free O b' Fx ∧ ∀ k, Fx k → ¬ F k := by
  have main : ∀ v', bi.av v' V → laid bi.h v' own (fun u ups => some (u, ups)) = some (u, ups) → ∃ b' s vs F, own s = some u ∧ Mv O bi b' ∧ updF ups bi.h = b'.h ∧ b'.w = bi.w ∧ b'.U = bi.U ∧ b'.G = bi.G ∧ b'.Pl = bi.Pl ∧ Own b'.c b'.S s V vs F ∧ Free O b' F ∧ ∀ Fx, Free O bi Fx → Free O b' Fx ∧ ∀ k, Fx k → ¬ F k := by
    intro v' hv' e
    obtain ⟨u', ups', b', s, vs, F, h1, h2, h3, h4, h5, h6, h7, h8, h9, h10, _, h11⟩ := laid_ok hm.rl hv' e
    simp only [Option.some.injEq, Prod.mk.injEq] at h1
    obtain ⟨rfl, rfl⟩ := h1
    exact ⟨b', s, vs, F, h2, h3, h4, h5, h6, h7, h8, h9, h10, h11⟩
  cases h with
  | imm τ x h1 h2 =>
    refine main (.imm τ x) (hm.av _ _ (show b.av _ _ from (res_ok hr hv h1).ok)) ?_
    have hτ : τ ≠ .unit := by
      rintro rfl
      obtain ⟨vs, k1, k2, _⟩ := (res_ok hr hv h1).imm
      simp only [valOf, Ty.agg, Bool.false_eq_true, if_false] at k1
      subst k1
      simp [Ty.size] at k2
    have hre : res bi.h (.imm τ x) = some (.imm τ x) := by cases τ <;> first | rfl | exact (hτ rfl).elim
    simp only [laid, hre, h2]
  | own l w e h1 h2 h3 h4 =>
    have hs := hsame (l, none) (by simp)
    refine main (.ref l [] w) (hm.av _ _ (show b.av _ _ from (res_ok hr hv h1).ok)) ?_
    have : res bi.h (.ref l [] w) = some (.ref l [] w) := by rw [res_ref_congr hs]; exact res_idem h1
    simp only [laid, this, hs, h2, h3, cond_false, h4]
  | frz l w e h1 h2 h3 h4 h5 =>
    have hs := hsame (l, some { e with fz := true }) (by simp)
    refine main (.ref l [] w) (hm.av _ _ (show b.av _ _ from (res_ok hr hv h1).ok)) ?_
    have : res bi.h (.ref l [] w) = some (.ref l [] w) := by rw [res_ref_congr hs]; exact res_idem h1
    simp only [laid, this, hs, h2, h3, cond_false, h4, h5]

theorem fold_over (off : Nat) : ∀ (vs : List Value) (k : Nat) (cs : Array Value), off + k + vs.length ≤ cs.size →
    ((vs.zipIdx k).foldl (fun cs p => cs.setIfInBounds (off + p.2) p.1) cs).size = cs.size ∧
    ∀ j : Nat, ((vs.zipIdx k).foldl (fun cs p => cs.setIfInBounds (off + p.2) p.1) cs)[j]? = if off + k ≤ j ∧ j < off + k + vs.length then vs[j - (off + k)]? else cs[j]? := by
  intro vs
  induction vs with
  | nil => intro k cs _; exact ⟨rfl, fun j => by rw [if_neg (by simp only [List.length_nil]; omega)]; rfl⟩
  | cons v r ih =>
    intro k cs h
    simp only [List.length_cons] at h
    simp only [List.zipIdx_cons, List.foldl_cons]
    obtain ⟨h1, h2⟩ := ih (k + 1) (cs.setIfInBounds (off + k) v) (by simp; omega)
    refine ⟨by rw [h1]; simp, fun j => ?_⟩
    rw [h2]
    simp only [List.length_cons]
    by_cases hj : j = off + k
    · subst hj
      rw [if_neg (by omega), if_pos (by omega)]
      simp [Array.getElem?_setIfInBounds]; omega
    · by_cases hin : off + (k + 1) ≤ j ∧ j < off + (k + 1) + r.length
      · rw [if_pos hin, if_pos (by omega), show j - (off + k) = (j - (off + (k + 1))) + 1 by omega, List.getElem?_cons_succ]
      · rw [if_neg hin, if_neg (by omega), Array.getElem?_setIfInBounds, if_neg (fun e => hj e.symm)]

/-- One part goes in. -/
theorem fill_one {place : Nat → Option (Nat × Nat)} {i off : Nat} {v : Value} {vs cs : List Value} {rest : List (Nat × Value)} (hp : place i = some (off, vs.length)) (hv : v.cells = vs.toArray) (hle : off + vs.length ≤ cs.length) :
    ∃ cs' : List Value, Instr.fill place cs.toArray ((i, v) :: rest) = Instr.fill place cs'.toArray rest ∧ cs'.length = cs.length ∧ ∀ j, cs'[j]? = if off ≤ j ∧ j < off + vs.length then vs[j - off]? else cs[j]? := by
  obtain ⟨h1, h2⟩ := fold_over off vs 0 cs.toArray (by simpa using hle)
  refine ⟨((vs.zipIdx 0).foldl (fun cs p => cs.setIfInBounds (off + p.2) p.1) cs.toArray).toList, ?_, by simp only [Array.length_toList, h1, List.size_toArray], fun j => ?_⟩
  · simp only [Instr.fill, hp, hv, List.size_toArray, ne_eq, not_true_eq_false, decide_false, Bool.false_or, decide_eq_true_eq]
    rw [if_neg (by omega)]
    simp
  · have := h2 j
    simp only [Nat.add_zero, List.getElem?_toArray] at this
    rw [← this]
    simp

theorem distinct_cons {k : Nat} {e : Option Entry} {r : Ups} (h : distinct ((k, e) :: r) = true) : (∀ q, q ∈ r → q.1 ≠ k) ∧ distinct r = true := by
  simp only [distinct, Bool.and_eq_true, Bool.not_eq_true', List.any_eq_false] at h
  refine ⟨fun q hq hk => ?_, h.2⟩
  have := h.1 q hq
  rw [hk, Nat.beq_refl] at this
  exact this rfl

theorem distinct_append : ∀ {r s : Ups}, distinct (r ++ s) = true → distinct r = true ∧ distinct s = true ∧ ∀ q p, q ∈ r → p ∈ s → p.1 ≠ q.1 := by
  intro r
  induction r with
  | nil => intro s h; exact ⟨rfl, h, fun q p hq => by simp at hq⟩
  | cons c r ih =>
    intro s h
    obtain ⟨k, e⟩ := c
    obtain ⟨h1, h2⟩ := distinct_cons h
    obtain ⟨h3, h4, h5⟩ := ih h2
    refine ⟨?_, h4, fun q p hq hp => ?_⟩
    · simp only [distinct, Bool.and_eq_true, Bool.not_eq_true', List.any_eq_false]
      exact ⟨fun q hq hk => h1 q (List.mem_append_left _ hq) (Nat.eq_of_beq_eq_true hk), h3⟩
    · rcases List.mem_cons.mp hq with rfl | hq
      · exact h1 p (List.mem_append_right _ hp)
      · exact h5 q p hq hp

theorem updF_other : ∀ {ups : Ups} {h : Nat → Option Entry} {l : Nat}, (∀ q, q ∈ ups → q.1 ≠ l) → updF ups h l = h l := by
  intro ups
  induction ups with
  | nil => intro h l _; rfl
  | cons q r ih =>
    intro h l hq
    obtain ⟨k, e⟩ := q
    simp only [updF]
    rw [ih fun q' hq' => hq q' (List.mem_cons_of_mem _ hq')]
    rw [if_neg]
    exact fun e' => hq _ (List.mem_cons_self) e'.symm

/-- The values of the parts. -/
inductive Parts (b : Bd) : List (Nat × List AV) → List (Nat × Value) → Prop
  | nil : Parts b [] []
  | cons {i v V ps vs} : (∀ x, v = [x] → b.av x V) → Parts b ps vs → Parts b ((i, v) :: ps) ((i, V) :: vs)

/-- What a part's place is. -/
def PlaceOk (mk : Nat → Stp) (chk : Nat → Ty → Bool) (place : Nat → Option (Nat × Nat)) (T : Ty) : Prop :=
  ∀ i (s : Sub) (x : T.den) (m : Mask) y, chk i s.τ = true → setP T x m [mk i] s = some y →
    pathOk [mk i] T x m ∧ ∃ off u, getP T x m [mk i] = some u ∧ place i = some (off, u.τ.size) ∧ (∀ c, loc c [mk i] T (.inr 0) 0 = some (u.τ, .inr 0, off)) ∧ off + u.τ.size ≤ T.size ∧ s.τ = u.τ ∧ s.τ.isV = true

theorem parts_ok {mk : Nat → Stp} {chk : Nat → Ty → Bool} {place : Nat → Option (Nat × Nat)} {T : Ty} (hp : PlaceOk mk chk place T) (hr : b.rl O) {K : Sub → Ups → Option R} :
    ∀ {ps : List (Nat × List AV)} {vals : List (Nat × Value)} {x : T.den} {m : Mask} {ups0 : Ups}, Parts b ps vals → partsIn b.h mk chk ps ⟨T, x, m⟩ ups0 K = some out →
    ∃ x' m' ups, K ⟨T, x', m'⟩ (ups0 ++ ups) = some out ∧ (∀ I : Mask → Prop, (∀ i s x m y, I m → setP T x m [mk i] s = some y → I y.2) → I m → I m') ∧ ∀ (bi : Bd) (cs : List Value) (F : Nat → Prop), Mv O b bi → (∀ q, q ∈ ups → bi.h q.1 = b.h q.1) → distinct ups = true →
      OwnAt (gh bi.c cs) bi.S T m (.inr 0) 0 x F → cs.length = T.size → Free O bi F →
      ∃ b' cs' F', Mv O bi b' ∧ updF ups bi.h = b'.h ∧ b'.w = bi.w ∧ b'.U = bi.U ∧ b'.G = bi.G ∧ OwnAt (gh b'.c cs') b'.S T m' (.inr 0) 0 x' F' ∧ cs'.length = T.size ∧ Free O b' F' ∧ Instr.fill place cs.toArray vals = some cs'.toArray := by
  intro ps
  induction ps with
  | nil =>
    intro vals x m ups0 hps e
    cases hps
    refine ⟨x, m, [], by simpa [partsIn] using e, fun I _ h => h, fun bi cs F hm _ _ ho hn hf => ⟨bi, cs, F, Mv.refl hm.rl, rfl, rfl, rfl, rfl, ho, hn, hf, rfl⟩⟩
  | cons q ps ih =>
    intro vals x m ups0 hps e
    cases hps with
    | @cons i v V _ vs hv hps =>
      match v, hv, e with
      | [], _, e => simp [partsIn] at e
      | _ :: _ :: _, _, e => simp [partsIn] at e
      | [v], hv, e =>
        simp only [partsIn] at e
        obtain ⟨y, ups1, e, hl⟩ := laid_inv e
        obtain ⟨x', m', ups2, e, hinv, hrest⟩ := ih hps e
        refine ⟨x', m', ups1 ++ ups2, by rw [← List.append_assoc]; exact e, fun I hI h => hinv I hI (by
          cases hl with
          | imm _ _ _ h1 => exact hI _ _ _ _ _ h (cond_some h1).2
          | own _ _ _ _ _ _ h1 => exact hI _ _ _ _ _ h (cond_some h1).2
          | frz _ _ _ _ _ _ _ h1 => exact hI _ _ _ _ _ h (cond_some h1).2), fun bi cs F hm hsame hd ho hn hf => ?_⟩
        obtain ⟨hd1, hd2, hd3⟩ := distinct_append hd
        obtain ⟨b1, s, vs1, Fs, h1, h2, h3, h4, h5, h6, h7, h8, h9, h10⟩ := laid_do hr (hv v rfl) hm hl fun q hq => hsame q (List.mem_append_left _ hq)
        obtain ⟨hck, h1⟩ := cond_some h1
        obtain ⟨hpo, off, u, hg, hpl, hloc, hle, hst, hV⟩ := hp i s x m y hck h1
        obtain ⟨hf1, hdis⟩ := h10 F hf
        have ho1 : OwnAt (gh b1.c cs) b1.S T m (.inr 0) 0 x F := by
          refine ho.move (fun _ _ => rfl) (fun k hk => ⟨(fun e => by cases e), by simp only [gh, Bd.c, wcf, h4], fun j => by simp only [gh_inl, Bd.c, wcf_inl, h4]⟩) fun k hk => ⟨(h2.kp.sh k hk).1, fun j => by simp only [gh_inl, Bd.c, wcf_inl, h4]⟩
        obtain ⟨B', o', Fu, g1, g2, g3, g4, g5, g6⟩ := ho1.wand hpo hg (fun k _ e => by cases e)
        rw [hloc] at g1
        simp only [Option.some.injEq, Prod.mk.injEq, true_and] at g1
        obtain ⟨rfl, rfl⟩ := g1
        obtain ⟨hcells, hone⟩ := h8.cells hV
        have hvl : vs1.length = u.τ.size := by rw [h8.len, hst]
        obtain ⟨cs', c1, c2, c3⟩ := fill_one (place := place) (i := i) (off := off) (v := V) (vs := vs1) (cs := cs) (rest := vs) (by rw [hvl]; exact hpl) hcells (by omega)
        have hnew := g6 (gh b1.c cs') b1.S s Fs y h1 (fun B1 j hB hnot hnF => by
            cases B1 with
            | inl k => rfl
            | inr k =>
              simp only [gh_inr]
              rw [c3, if_neg]
              intro hin
              rcases hB with hB | ⟨_, _, hB⟩
              · injection hB with hB; subst hB; exact hnot ⟨rfl, hin.1, by omega⟩
              · cases hB) (fun _ _ _ => rfl) (fun k hk => ⟨hk, fun _ => rfl⟩)
          (h8.at (fun j hj => by
            simp only [gh_inr]
            rw [c3, if_pos (by rw [hst] at hj; omega), Nat.add_sub_cancel_left]) (fun k hk => ⟨(fun e => by cases e), rfl, fun _ => rfl⟩) fun k hk => ⟨hk, fun _ => rfl⟩)
          (fun k hk hk' => (hdis k hk' hk).elim)
        obtain ⟨b', cs2, F', k1, k2, k3, k4, k5, k6, k7, k8, k9⟩ := hrest b1 cs' _ (hm.trans h2) (fun q hq => by
            rw [← h3, updF_other]
            · exact hsame q (List.mem_append_right _ hq)
            · exact fun p hp' e => hd3 p q hp' hq e.symm) hd2 hnew (by rw [c2, hn]) (fun k hk => hk.elim (fun hk => hf1 k hk.1) fun hk => h9 k hk)
        exact ⟨b', cs2, F', h2.trans k1, by rw [updF_append, h3, k2], by rw [k3, h4], by rw [k4, h5], by rw [k5, h6], k6, k7, k8, by rw [c1]; exact k9⟩

theorem offOf_le : ∀ {τ : Ty} {x : τ.den} {m : Mask} {k : Nat} {u : Sub}, fld τ x m k = some u → offOf τ k + u.τ.size ≤ τ.size := by
  intro τ
  induction τ with
  | pair a b iha ihb =>
    intro x m k u h
    cases k with
    | zero => simp only [fld, Option.some.injEq] at h; subst h; simp [offOf, Ty.size]
    | succ k => simp only [fld] at h; have := ihb h; simp only [offOf, Ty.size]; omega
  | _ => intro x m k u h; cases k <;> simp [fld] at h <;> (subst h; simp [offOf])

theorem run_mapM {α β : Type} {f : α → Sem β} {g : α → β} {w : World} : ∀ (l : List α), (∀ x, x ∈ l → (f x).run P w = .ok (g x) w) → (l.mapM f).run P w = .ok (l.map g) w := by
  intro l
  induction l with
  | nil => intro _; simp
  | cons x l ih =>
    intro h
    simp [List.mapM_cons, h x (by simp), ih fun y hy => h y (by simp [hy])]

theorem run_places {fs : Array Field} {w : World} (h : ∀ f, f ∈ fs.toList → ∃ fi, P.info? f.type = some fi) :
    ∃ places : Array (Nat × Nat), (fs.mapM fun f => do pure (f.offset, ← Go.sizeOf f.type) : Sem (Array (Nat × Nat))).run P w = .ok places w ∧ ∀ (k : Nat) (f : Field) (fi : TypeInfo), fs[k]? = some f → P.info? f.type = some fi → places[k]? = some (f.offset, fi.size) := by
  refine ⟨(fs.toList.map fun f => (f.offset, match P.info? f.type with | some fi => fi.size | none => 0)).toArray, ?_, fun k f fi hk hf => ?_⟩
  · rw [Array.mapM_eq_mapM_toList]
    have := run_mapM (P := P) (w := w) (f := fun f : Field => (do pure (f.offset, ← Go.sizeOf f.type) : Sem (Nat × Nat))) (g := fun f => (f.offset, match P.info? f.type with | some fi => fi.size | none => 0)) fs.toList (fun f hf => by
      obtain ⟨fi, hfi⟩ := h f hf
      simp [run_sizeOf' hfi, hfi])
    simp only [map_eq_pure_bind, Sem.run_bind, this, Result.andThen_ok, Sem.run_pure]
  · simp [List.getElem?_map, hk, hf]

theorem place_st {T : TypeId} {t : Ty} {places : Array (Nat × Nat)} {fs : Array Field} (hT : TOk P E.TT) (hu : P.underlying T = some (.struct fs))
    (hpl : ∀ (k : Nat) (f : Field) (fi : TypeInfo), fs[k]? = some f → P.info? f.type = some fi → places[k]? = some (f.offset, fi.size)) : PlaceOk .f (fun k u => fldOk E T t k u && u.isV) (places[·]?) (.st t) := by
  intro i s x m y hc hy
  simp only [Bool.and_eq_true] at hc
  obtain ⟨fs', f, ti, fi, h1, h2, h3, h4, h5, h6, h7, h8, h9⟩ := fld_facts hT hc.1
  rw [hu] at h1
  simp only [Option.some.injEq, TypeDesc.struct.injEq] at h1
  subst h1
  simp only [setP, Option.bind_eq_some_iff] at hy
  obtain ⟨u, hf, y', hy', hs⟩ := hy
  have hst : s.τ = u.τ := by
    rw [Option.map_eq_some_iff] at hy'
    obtain ⟨z, hz, _⟩ := hy'
    exact (cast?_some hz).1
  have h10 := offOf_le hf
  refine ⟨⟨u, hf, trivial⟩, offOf t i, u, by simp [getP, hf], by have := hpl i f fi h2 h5; rw [h3, h6, hst] at this; exact this, fun c => by simp only [loc, fldTy_of hf]; simp [loc], by simpa [Ty.size] using h10, hst, hc.2⟩

theorem place_arr {t : Ty} {n : Nat} (hV : t.isV = true) : PlaceOk .e (fun i _ => Nat.blt i n) (fun i => some (i * t.size, t.size)) (.arr n t) := by
  intro i s x m y hc hy
  have hlt : i < n := Nat.le_of_ble_eq_true hc
  simp only [setP, Option.bind_eq_some_iff] at hy
  obtain ⟨y', hy', hs⟩ := hy
  have hst : s.τ = t := by
    rw [Option.map_eq_some_iff] at hy'
    obtain ⟨z, hz, _⟩ := hy'
    exact (cast?_some hz).1
  exact ⟨⟨hlt, trivial⟩, i * t.size, ⟨t, List.getD x i t.dflt, m.el⟩, rfl, rfl, fun c => by simp [loc], by simpa [Ty.size] using mul_le_of_lt hlt, hst, by rw [hst]; exact hV⟩

theorem tyI_some {T : TypeId} {τ : Ty} (hT : TOk P E.TT) (e : tyI E T = some τ) : ∃ i f z, E.TT T = some i ∧ P.info? T = some f ∧ f.size = i.size ∧ τ.plain = true ∧ τ.size = i.size ∧ τ.agg = i.agg ∧ f.zero = some z ∧ valOf τ (zeroCells τ) z := by
  unfold tyI at e
  rw [Option.bind_eq_some_iff] at e
  obtain ⟨i, hi, hτ⟩ := e
  obtain ⟨f, hf, hs, hb, hz⟩ := (hT T i hi).info
  obtain ⟨hp, hsz, hag, z, hz1, hz2⟩ := hz τ hτ
  exact ⟨i, f, z, hi, hf, hs, hp, hsz, hag, hz1, hz2⟩

theorem OwnAt.zero {τ : Ty} (hp : τ.plain = true) {m : Mask} {c : CF} {S : Nat → Prop} : OwnAt (gh c (zeroCells τ)) S τ m (.inr 0) 0 τ.dflt (fun _ => False) :=
  own_zero hp fun i _ => by simp

theorem mkRes_ok {o : Oper} {a : Act} {id : Nat} {u : Sub} {K : Kt R} {ups : Ups} {b' : Bd} {vs : List Value} {V : Value} {F : Nat → Prop} (hm : Mv O b b') (hid : ¬ b.U id) (hU : b'.U = b.U) (hh : updF ups b.h = b'.h)
    (ho : Own b'.c b'.S u V vs F) (hf : Free O b' F) (hrun : (execOp a.eval o).run P b.w = .ok (.value V) b'.w) (e : mkRes id u K ups = some out) :
    ∃ avs ups', K avs ups' = some out ∧ OpOk P o a b.U id b.h O b.S b.w b.G b.Pl avs ups' := by
  unfold mkRes at e
  cases hs : u.m.isSh with
  | true =>
    rw [hs, cond_true] at e
    have hsh := isSh_eq hs
    refine ⟨_, _, e, OpOk.of (b' := b') hrun hm (fun l h => .inl (by rw [← hU]; exact h)) hh ?_⟩
    refine .inr ⟨vs, ho.val, ho.len, ?_⟩
    have := ho.own
    rw [hsh] at this
    exact (OwnAt.sh_iff.mp this).2
  | false =>
    rw [hs, cond_false] at e
    obtain ⟨b2, h1, h2, h3, h4, _, _, h5⟩ := Mv.newDet (v := 0) (id := id) hm.rl (by rw [hU]; exact hid) ho hf
    refine ⟨_, _, e, OpOk.of (v := V) (b' := b2) (by rw [hrun, h3]) (hm.trans h1) (fun l hl => ?_) (by rw [updF_append, hh, updF_one, h2]) h5⟩
    rw [h4, hU] at hl
    exact hl.elim .inl fun h => .inr ⟨by omega, by omega⟩

theorem build_ok {o : Oper} {a : Act} {T : TypeId} {qs : Array (Nat × Operand)} {f : Operand → List AV} {id : Nat} {K : Kt R} (ho : o.op = .build T qs) (hT : TOk P E.TT) (hr : b.rl O) (hid : ¬ b.U id)
    (hps : Parts b (qs.toList.map fun q => (q.1, f q.2)) (qs.toList.map fun q => (q.1, a.eval q.2))) (e : build E b.h id T (qs.toList.map fun q => (q.1, f q.2)) K = some out) :
    ∃ avs ups, K avs ups = some out ∧ OpOk P o a b.U id b.h O b.S b.w b.G b.Pl avs ups := by
  have hq : (qs.map fun q => (q.1, a.eval q.2)).toList = qs.toList.map fun q => (q.1, a.eval q.2) := by simp
  unfold build at e
  split at e
  · rename_i t hty
    obtain ⟨hfi, e⟩ := cond_some e
    obtain ⟨i, fi, z, hi, hf, hfs, hp, hsz, hag, hz1, hz2⟩ := tyI_some hT hty
    unfold fieldsIn at hfi
    split at hfi
    · rename_i gs bs sz ag τ hgs
      rw [hi] at hgs
      obtain ⟨d, hd, hdk, _⟩ := (hT T i hi).under
      injection hgs with hgs
      subst hgs
      cases hdk with
      | struct fs gs hg =>
        rw [List.all_eq_true] at hfi
        obtain ⟨places, hpl, hget⟩ := run_places (P := P) (fs := fs) (w := b.w) fun f hf => by
          have hm : (f.type, f.offset) ∈ gs := by rw [← hg]; exact List.mem_map.mpr ⟨f, hf, rfl⟩
          obtain ⟨ti, hti⟩ := Option.isSome_iff_exists.mp (hfi _ hm)
          obtain ⟨fi, hfi, _⟩ := (hT _ ti hti).info
          exact ⟨fi, hfi⟩
        obtain ⟨x', m', ups, e, hinv, hgo⟩ := parts_ok (place_st hT hd hget) hr hps e
        obtain ⟨hdist, e⟩ := cond_some e
        rw [List.nil_append] at hdist e
        obtain ⟨b', cs', F', k1, k2, k3, k4, k5, k6, k7, k8, k9⟩ := hgo b (zeroCells (.st t)) (fun _ => False) (Mv.refl hr) (fun _ _ => rfl) hdist (OwnAt.zero (τ := .st t) hp) (zero_len hp) fun _ h => h.elim
        refine mkRes_ok (V := .agg cs'.toArray) (vs := cs') k1 hid k4 k2 ⟨by simp [valOf, Ty.agg], k7, k6⟩ k8 ?_ e
        simp only [valOf, Ty.agg, if_true] at hz2
        rw [k3]
        simp only [execOp, ho, Sem.run_bind, Instr.build, zeroValue, run_typeInfo' hf, hz1, Result.andThen_ok, Sem.run_pure, run_underlying' hd, hpl, hz2, Value.cells, hq, k9]
    · cases hfi
  · rename_i n t hty
    obtain ⟨hc, e⟩ := cond_some e
    simp only [Bool.and_eq_true] at hc
    obtain ⟨⟨hc1, hc2⟩, hV⟩ := hc
    obtain ⟨i, fi, z, hi, hf, hfs, hp, hsz, hag, hz1, hz2⟩ := tyI_some hT hty
    obtain ⟨el, hu, hel⟩ := arr_facts hT hc1 hc2
    obtain ⟨x', m', ups, e, hinv, hgo⟩ := parts_ok (place_arr hV) hr hps e
    obtain ⟨hdist, e⟩ := cond_some e
    rw [List.nil_append] at hdist e
    obtain ⟨b', cs', F', k1, k2, k3, k4, k5, k6, k7, k8, k9⟩ := hgo b (zeroCells (.arr n t)) (fun _ => False) (Mv.refl hr) (fun _ _ => rfl) hdist (OwnAt.zero (τ := .arr n t) hp) (zero_len hp) fun _ h => h.elim
    refine mkRes_ok (V := .agg cs'.toArray) (vs := cs') k1 hid k4 k2 ⟨by simp [valOf, Ty.agg], k7, k6⟩ k8 ?_ e
    simp only [valOf, Ty.agg, if_true] at hz2
    rw [k3]
    simp only [execOp, ho, Sem.run_bind, Instr.build, zeroValue, run_typeInfo' hf, hz1, Result.andThen_ok, Sem.run_pure, run_underlying' hu, hel, hz2, Value.cells, hq, k9]
  · cases e

theorem made_zero {t : Ty} {z : Value} {len : Nat} (hp : t.plain = true) (hzc : z.cells = (zeroCells t).toArray) (h1 : 1 ≤ t.size) : madeCells z.cells (len * t.size) = (zeroCells (.arr len t)).toArray := by
  have hz : z.cells.size = t.size := by rw [hzc]; simp [zero_len hp]
  have hl : (zeroCells (.arr len t)).length = len * t.size := zero_len (τ := .arr len t) hp
  apply Array.ext_getElem?
  intro k
  by_cases hk : k < len * t.size
  · rw [made_get hz hk h1, hzc]
    have hm : k % t.size < t.size := Nat.mod_lt _ h1
    have := flat_get (t := zeroCells t) (s := t.size) (zero_len hp) len (k / t.size) (k % t.size) (Nat.div_lt_of_lt_mul (by rw [Nat.mul_comm]; exact hk)) hm
    rw [show k / t.size * t.size + k % t.size = k by rw [Nat.mul_comm]; exact Nat.div_add_mod k t.size] at this
    simp only [List.getElem?_toArray, zeroCells, this]
  · rw [Array.getElem?_eq_none (by simp [madeCells]; omega), Array.getElem?_eq_none (by simp [hl]; omega)]

theorem buildSl_ok {o : Oper} {a : Act} {T : TypeId} {len : Nat} {qs : Array (Nat × Operand)} {f : Operand → List AV} {reg i id : Nat} {K : Kt R} (ho : o.op = .buildSlice T len qs) (hT : TOk P E.TT) (hr : b.rl O) (hid : ¬ b.U id)
    (hps : Parts b (qs.toList.map fun q => (q.1, f q.2)) (qs.toList.map fun q => (q.1, a.eval q.2))) (e : buildSl E b.h reg i id T len (qs.toList.map fun q => (q.1, f q.2)) K = some out) :
    ∃ avs ups, K avs ups = some out ∧ OpOk P o a b.U id b.h O b.S b.w b.G b.Pl avs ups := by
  have hq : (qs.map fun q => (q.1, a.eval q.2)).toList = qs.toList.map fun q => (q.1, a.eval q.2) := by simp
  unfold buildSl at e
  split at e
  · rename_i t ti hty
    generalize annM E reg i = m at e
    obtain ⟨hc, e⟩ := cond_some e
    simp only [Bool.and_eq_true] at hc
    obtain ⟨hc1, hc2⟩ := hc
    have hc2 := Nat.le_of_ble_eq_true hc2
    obtain ⟨el, fi, hu, hti, hf, hfs, hfb, hp, hts, hag, hV, z, hz, hval⟩ := elTy_some hT hty
    have hzc := zero_cells (c := b.c) (S := b.S) hp hV hval
    have h1 : 1 ≤ t.size := by
      unfold elemSz at hc1
      split at hc1
      · simp only [Bool.and_eq_true] at hc1; exact Nat.le_of_ble_eq_true hc1.1
      · simp only [Bool.and_eq_true] at hc1; exact Nat.le_of_ble_eq_true hc1.1
      · cases hc1
    obtain ⟨x', m', ups, e, hinv, hgo⟩ := parts_ok (place_arr hV) hr hps e
    obtain ⟨hdist, e2⟩ := cond_some e
    clear e
    rw [List.nil_append] at hdist e2
    simp only [cast?, dif_pos] at e2
    obtain ⟨b', cs', F', k1, k2, k3, k4, k5, k6, k7, k8, k9⟩ := hgo b (zeroCells (.arr len t)) (fun _ => False) (Mv.refl hr) (fun _ _ => rfl) hdist (OwnAt.zero (τ := .arr len t) hp) (zero_len (τ := .arr len t) hp) fun _ h => h.elim
    have hmm : m' = .ar m := hinv (fun k => k = .ar m) (fun i s x m2 y h hy => by
      subst h
      simp only [setP, Option.bind_eq_some_iff] at hy
      obtain ⟨y', _, hy⟩ := hy
      split at hy
      · injection hy with hy; rw [← hy]
      · cases hy) rfl
    subst hmm
    have hrun : (execOp a.eval o).run P b.w = .ok (.value (.slice (some ⟨b'.w.heap.size, 0, none⟩) len len)) (b'.w.alloc (.cells cs'.toArray el)) := by
      have hmade := made_zero (len := len) hp hzc h1
      have hnot : ¬ len * t.size > 2 ^ 24 := by omega
      rw [k3]
      by_cases h0 : len * t.size = 0
      · have hz0 : zeroCells (.arr len t) = [] := List.length_eq_zero_iff.mp (by rw [zero_len (τ := .arr len t) hp]; exact h0)
        rw [hz0] at k9
        simp only [execOp, ho, Sem.run_bind, Instr.buildSlice, run_underlying' hu, run_sizeOf' hf, Result.andThen_ok, hfs, h0, hq]
        simp only [show ¬ (0 > 2 ^ 24) by omega, if_false, if_true, Sem.run_pure, Sem.run_bind, Result.andThen_ok]
        have : ((Array.range 0).map fun x => (#[] : Array Value)[x % (#[] : Array Value).size]!) = #[] := by simp
        simp only [this, k9, newRow]
        simp
      · simp only [execOp, ho, Sem.run_bind, Instr.buildSlice, run_underlying' hu, run_sizeOf' hf, Result.andThen_ok, hfs, hq, hnot, h0, if_false, Sem.run_pure, zeroValue, run_typeInfo' hf, hz]
        have : ((Array.range (len * t.size)).map fun x => z.cells[x % z.cells.size]!) = (zeroCells (.arr len t)).toArray := hmade
        simp only [this, k9, newRow]
        simp
    have hg := Mv.alloc k1.rl (.cells cs'.toArray el)
    obtain ⟨hn, Fs, hF, hd, hx⟩ := k6
    have hlt : ∀ i k, i < len → Fs i k → k < b'.w.heap.size := fun i k hi hk => by obtain ⟨n, hn⟩ := (hx i hi).blocks k hk; exact bkOf_lt hn
    obtain ⟨b2, n1, n2, n3, n4, n5⟩ := Mv.newRow (b := b') (len := 0) (m := m) (F := fun k => k = b'.w.heap.size ∨ F' k) (n := b'.w.heap.size) (cap := len) (xs := x') (id := id) hg.rl (by simpa [k4] using hid)
      (by rw [bkOf_alloc_new]; simp [k7, Ty.size]) (Nat.le_of_eq hn)
      ⟨Fs, fun k => by rw [hF k, hn], fun i hi hk => by rw [hn] at hi; have := hlt i _ hi hk; omega, fun i j k hi hj => by rw [hn] at hi hj; exact hd i j k hi hj, fun i hi => by
        rw [hn] at hi
        have hle := mul_le_of_lt (s := t.size) hi
        refine (hx i hi).move (fun j hj => ?_) (fun k hk => ?_) fun k hk => ?_
        · simp only [wcf_inl, gh_inr]
          rw [World.cell?_alloc_new]; simp
        · have := hlt i k hi hk
          exact ⟨fun e => by injection e with e; omega, bkOf_congr (alloc_block _ _ this), fun j => cell?_congr (alloc_block _ _ this)⟩
        · have : k < b'.w.heap.size := by
            rcases Nat.lt_or_ge k b'.w.heap.size with h | h
            · exact h
            · exact ((k1.rl.new k h).2 hk).elim
          exact ⟨hk, fun j => cell?_congr (alloc_block _ _ this)⟩⟩
      (fun k hk => by
        rcases hk with rfl | hk
        · obtain ⟨q1, q2⟩ := k1.rl.new _ (Nat.le_refl _)
          exact ⟨q1, q2, fun l e' he' hf' => by have := (k1.rl.ent l e' he').lt hf'; omega⟩
        · exact k8 k hk)
    have hxl : x'.length = len := hn
    refine ⟨[.ref id [] 0], _, e2, OpOk.of (b' := b2) (by rw [hrun, n3]) ((k1.trans hg).trans n1) (fun l hl => ?_) (by rw [updF_append, k2, updF_one, n2]) (by rw [hxl] at n5; exact n5)⟩
    rw [n4] at hl
    exact hl.elim (fun h => .inl (by rw [← k4]; exact h)) fun h => .inr ⟨by omega, by omega⟩
  · cases e
end
end Ev
end

section
namespace Ev
open Go

section
variable {P : Program} {E : Env} {O : Nat → Prop} {b : Bd} {R : Type} {out : R}

theorem isSl_u {T : TypeId} (hT : TOk P E.TT) (h : isSl E T = true) : ∃ e, P.underlying T = some (.slice e) := by
  unfold isSl at h
  split at h
  · rename_i e _ _ _ _ he
    obtain ⟨d, hd, hk, _⟩ := (hT _ _ he).under
    cases hk; exact ⟨_, hd⟩
  · cases h
theorem isStr_u {T : TypeId} (hT : TOk P E.TT) (h : isStr E T = true) : P.underlying T = some .string := by
  unfold isStr at h
  split at h
  · rename_i he
    obtain ⟨d, hd, hk, _⟩ := (hT _ _ he).under
    cases hk; exact hd
  · cases h
theorem isArr_u {T : TypeId} {n : Nat} (hT : TOk P E.TT) (h : isArr E T n = true) : ∃ e, P.underlying T = some (.array n e) := by
  unfold isArr at h
  split at h
  · rename_i n' e _ _ _ _ he
    obtain ⟨d, hd, hk, _⟩ := (hT _ _ he).under
    have := Nat.eq_of_beq_eq_true h
    subst this
    cases hk; exact ⟨_, hd⟩
  · cases h

theorem read_ok {o : Oper} {a : Act} {id : Nat} {avs : List AV} {V : Value} (hr : b.rl O) (hrun : (execOp a.eval o).run P b.w = .ok (.value V) b.w) (hv : SlOk b.U b.h b.c b.S b.Pl avs V) :
    OpOk P o a b.U id b.h O b.S b.w b.G b.Pl avs [] := OpOk.value hr hrun hv

theorem run_eqb {T : TypeId} {x y : Bool} {w : World} (hT : TOk P E.TT) (h : isBool E T = true) : (Op.equal T (.bool x) (.bool y)).run P w = .ok (x == y) w := by
  unfold isBool at h
  split at h
  · rename_i he
    obtain ⟨d, hd, hk, _⟩ := (hT _ _ he).under
    cases hk
    have : ∀ n, (Op.equalIn (n + 1) T (.bool x) (.bool y)).run P w = .ok (x == y) w := fun n => by simp [Op.equalIn, run_underlying' hd]
    exact this 9999
  · cases h

theorem run_sc {T : TypeId} {t : Ty} {x y : t.den} {X Y : Value} {w : World} (hT : TOk P E.TT) (h : eqSc E T t = true) {c c' : CF} {S : Nat → Prop} {o o' : Nat} {B B' : Nat ⊕ Nat} (hx : ImmAt c S t B o x) (hX : c.cl B o = some X) (hy : ImmAt c' S t B' o' y) (hY : c'.cl B' o' = some Y) (n : Nat) :
    (Op.equalIn (n + 1) T X Y).run P w = .ok (eqDen t x y) w ∧ aggD (match P.underlying T with | some d => d | none => .bool) = false ∧ (∃ d, P.underlying T = some d) ∧ t.size = 1 := by
  unfold eqSc at h
  split at h
  · rename_i k k' he
    have hk := of_decide_eq_true h
    subst hk
    obtain ⟨d, hd, hk, _⟩ := (hT _ _ he).under
    cases hk
    simp only [ImmAt] at hx hy
    rw [hX] at hx; injection hx with hx; subst hx
    rw [hY] at hy; injection hy with hy; subst hy
    exact ⟨by simp [Op.equalIn, run_underlying' hd, eqDen], by rw [hd]; rfl, ⟨_, hd⟩, rfl⟩
  · rename_i he
    obtain ⟨d, hd, hk, _⟩ := (hT _ _ he).under
    cases hk
    simp only [ImmAt] at hx hy
    rw [hX] at hx; injection hx with hx; subst hx
    rw [hY] at hy; injection hy with hy; subst hy
    exact ⟨by simp [Op.equalIn, run_underlying' hd, eqDen], by rw [hd]; rfl, ⟨_, hd⟩, rfl⟩
  · cases h

theorem run_part1 {T : TypeId} {xs : Array Value} {o : Nat} {X : Value} {w : World} (hd : ∃ d, P.underlying T = some d) (ha : aggD (match P.underlying T with | some d => d | none => .bool) = false) (hX : xs[o]? = some X) : (part T xs o).run P w = .ok X w := by
  obtain ⟨d, hd⟩ := hd
  rw [hd] at ha
  simp only at ha
  simp only [part, Sem.run_bind, run_isAgg' hd, Result.andThen_ok, ha, Bool.false_eq_true, if_false, hX, Sem.run_pure]

theorem eqFields_flat (hT : TOk P E.TT) {S : Nat → Prop} {xs ys : List Value} {w : World} {c : CF} (n : Nat) : ∀ {fs : List Field} {t : Ty} {o : Nat} {x y : t.den}, eqFlat E (fs.map fun f => (f.type, f.offset)) t o = true → fs.all (fun f => f.name != "_") = true →
    ImmAt (gh c xs) S t (.inr 0) o x → ImmAt (gh c ys) S t (.inr 0) o y → (Op.eqFields (n + 1) xs.toArray ys.toArray fs).run P w = .ok (eqDen t x y) w := by
  have cell : ∀ {T : TypeId} {t : Ty} {x : t.den} {xs : List Value} {o : Nat}, eqSc E T t = true → ImmAt (gh c xs) S t (.inr 0) o x → ∃ X, xs[o]? = some X := by
    intro T t x xs o h hx
    unfold eqSc at h
    split at h
    · exact ⟨_, hx⟩
    · exact ⟨_, hx⟩
    · cases h
  intro fs
  induction fs with
  | nil => intro t o x y h; simp [eqFlat] at h
  | cons f fs ih =>
    intro t o x y h hn hx hy
    simp only [List.all_cons, Bool.and_eq_true] at hn
    have hn1 : f.name ≠ "_" := by simpa using hn.1
    cases fs with
    | nil =>
      simp only [List.map_cons, List.map_nil, eqFlat, Bool.and_eq_true] at h
      have ho := Nat.eq_of_beq_eq_true h.1
      obtain ⟨X, hX⟩ := cell h.2 hx
      obtain ⟨Y, hY⟩ := cell h.2 hy
      obtain ⟨h1, h2, h3, _⟩ := run_sc (w := w) hT h.2 hx hX hy hY n
      rw [← ho] at hX hY
      have p1 := run_part1 (w := w) (xs := xs.toArray) (o := f.offset) (X := X) h3 h2 (by simpa using hX)
      have p2 := run_part1 (w := w) (xs := ys.toArray) (o := f.offset) (X := Y) h3 h2 (by simpa using hY)
      simp only [Op.eqFields, if_pos hn1, Sem.run_bind, p1, p2, h1, Result.andThen_ok]
      cases eqDen t x y <;> simp
    | cons f2 fs =>
      cases t with
      | pair a b =>
        simp only [List.map_cons, eqFlat, Bool.and_eq_true] at h
        obtain ⟨ho, hs, hr⟩ := h
        have ho := Nat.eq_of_beq_eq_true ho
        simp only [ImmAt] at hx hy
        obtain ⟨X, hX⟩ := cell hs hx.1
        obtain ⟨Y, hY⟩ := cell hs hy.1
        obtain ⟨h1, h2, h3, h4⟩ := run_sc (w := w) hT hs hx.1 hX hy.1 hY n
        rw [← ho] at hX hY
        have p1 := run_part1 (w := w) (xs := xs.toArray) (o := f.offset) (X := X) h3 h2 (by simpa using hX)
        have p2 := run_part1 (w := w) (xs := ys.toArray) (o := f.offset) (X := Y) h3 h2 (by simpa using hY)
        rw [h4] at hx hy
        have hrest := ih (t := b) (o := o + 1) (x := x.2) (y := y.2) hr hn.2 hx.2 hy.2
        rw [Op.eqFields]
        simp only [if_pos hn1, Sem.run_bind, p1, p2, h1, Result.andThen_ok, eqDen]
        cases eqDen a x.1 y.1
        · simp
        · simpa using hrest
      | _ => simp [eqFlat] at h

theorem run_eqs {T : TypeId} {t : Ty} {x y : t.den} {X Y : Value} {w : World} (hT : TOk P E.TT) (h : eqOk E T t = true) (hx : b.av (.imm (.st t) x) X) (hy : b.av (.imm (.st t) y) Y) :
    (Op.equal T X Y).run P w = .ok (eqDen t x y) w ∧ ∀ op p q, (eqGuard op T p q X Y).run P w = .ok () w := by
  unfold eqOk at h
  split at h
  · rename_i gs _ _ _ _ he
    obtain ⟨h1, h2, h3⟩ := (hT _ _ he).eqs gs rfl rfl
    obtain ⟨d, hd, hk, _⟩ := (hT _ _ he).under
    cases hk with
    | struct fs gs hg =>
      obtain ⟨vs, v1, v2, v3⟩ := hx.resolve_left fun h => by cases h.1
      obtain ⟨us, u1, u2, u3⟩ := hy.resolve_left fun h => by cases h.1
      simp only [valOf, Ty.agg, if_true] at v1 u1
      subst v1; subst u1
      have hf : P.fieldsOf T = fs := by simp [Program.fieldsOf, hd]
      simp only [ImmAt] at v3 u3
      have hfl := eqFields_flat (w := w) hT 9998 (fs := fs.toList) (by rw [hg]; exact h) (h3 fs hd) v3 u3
      refine ⟨?_, fun op p q => ?_⟩
      · unfold Op.equal
        show (Op.equalIn (9999 + 1) T _ _).run P w = _
        rw [run_equalIn_struct (P := P) w 9999 T vs.toArray us.toArray (by rw [hf]; exact hd) h1, hf]
        exact hfl
      · unfold eqGuard
        cases op <;> simp [h2]
  · cases h

theorem bin_ok {op : BinOp} {x y : AV} {X Y : Value} {xT : TypeId} {p q : Operand} {K : AV → Option R} (hT : TOk P E.TT) (hx : b.av x X) (hy : b.av y Y) (e : bin E xT op x y K = some out) :
    ∃ r v, K r = some out ∧ (do eqGuard op xT p q X Y; binOp op xT X Y : Sem Value).run P b.w = .ok v b.w ∧ b.av r v := by
  have guard : ∀ {k k' : IntKind} {m n : Int}, (eqGuard op xT p q (.int k m) (.int k' n)).run P b.w = .ok () b.w := by
    intro k k' m n; unfold eqGuard; split <;> simp
  have guardS : ∀ {m n : ByteArray}, (eqGuard op xT p q (.string m) (.string n)).run P b.w = .ok () b.w := by
    intro m n; unfold eqGuard; split <;> simp
  have guardB : ∀ {m n : Bool}, (eqGuard op xT p q (.bool m) (.bool n)).run P b.w = .ok () b.w := by
    intro m n; unfold eqGuard; split <;> simp
  unfold bin at e
  split at e
  · obtain rfl := av_int.mp hx; obtain rfl := av_int.mp hy
    obtain ⟨r, v, h1, h2, h3⟩ := shOp_ok (P := P) (w := b.w) (.inl rfl) e xT
    exact ⟨r, v, h1, by simp only [Sem.run_bind, guard, Result.andThen_ok]; exact h2, h3 _ _ _ _ _⟩
  · obtain rfl := av_int.mp hx; obtain rfl := av_int.mp hy
    obtain ⟨r, v, h1, h2, h3⟩ := shOp_ok (P := P) (w := b.w) (.inr rfl) e xT
    exact ⟨r, v, h1, by simp only [Sem.run_bind, guard, Result.andThen_ok]; exact h2, h3 _ _ _ _ _⟩
  · obtain rfl := av_int.mp hx; obtain rfl := av_int.mp hy
    obtain ⟨hk, e⟩ := cond_some e
    have hk := of_decide_eq_true hk
    subst hk
    obtain ⟨r, v, h1, h2, h3⟩ := intOp_ok (P := P) (w := b.w) e xT
    exact ⟨r, v, h1, by simp only [Sem.run_bind, guard, Result.andThen_ok]; exact h2, h3 _ _ _ _ _⟩
  · obtain rfl := av_str.mp hx; obtain rfl := av_str.mp hy
    obtain ⟨r, v, h1, h2, h3⟩ := strOp_ok (P := P) (w := b.w) e xT
    exact ⟨r, v, h1, by simp only [Sem.run_bind, guardS, Result.andThen_ok]; exact h2, h3 _ _ _ _ _⟩
  · obtain rfl := av_bool.mp hx; obtain rfl := av_bool.mp hy
    obtain ⟨hb, e⟩ := cond_some e
    exact ⟨_, _, e, by simp only [Sem.run_bind, guardB, Result.andThen_ok]; simp [binOp, run_eqb hT hb], av_bool.mpr rfl⟩
  · obtain rfl := av_bool.mp hx; obtain rfl := av_bool.mp hy
    obtain ⟨hb, e⟩ := cond_some e
    exact ⟨_, _, e, by simp only [Sem.run_bind, guardB, Result.andThen_ok]; simp [binOp, run_eqb hT hb], av_bool.mpr rfl⟩
  · split at e
    · rename_i t x u y0 _ y hc
      obtain ⟨hk, e⟩ := cond_some e
      obtain ⟨he, rfl⟩ := cast?_some hc
      injection he with he
      subst he
      obtain ⟨r1, r2⟩ := run_eqs (w := b.w) hT hk hx hy
      exact ⟨_, .bool (eqDen u x y0), e, by simp only [Sem.run_bind, r2, Result.andThen_ok]; obtain ⟨vs, v1, _⟩ := hx.resolve_left fun h => (by cases h.1); obtain ⟨us, u1, _⟩ := hy.resolve_left fun h => (by cases h.1); simp only [valOf, Ty.agg, if_true] at v1 u1; subst v1; subst u1; simp [binOp, r1], av_bool.mpr rfl⟩
    · cases e
  · split at e
    · rename_i t x u y0 _ y hc
      obtain ⟨hk, e⟩ := cond_some e
      obtain ⟨he, rfl⟩ := cast?_some hc
      injection he with he
      subst he
      obtain ⟨r1, r2⟩ := run_eqs (w := b.w) hT hk hx hy
      exact ⟨_, .bool (!eqDen u x y0), e, by simp only [Sem.run_bind, r2, Result.andThen_ok]; obtain ⟨vs, v1, _⟩ := hx.resolve_left fun h => (by cases h.1); obtain ⟨us, u1, _⟩ := hy.resolve_left fun h => (by cases h.1); simp only [valOf, Ty.agg, if_true] at v1 u1; subst v1; subst u1; simp [binOp, r1], av_bool.mpr rfl⟩
    · cases e
  · cases e

theorem una_ok {op : UnOp} {x : AV} {X : Value} {K : AV → Option R} (hx : b.av x X) (e : una op x K = some out) :
    ∃ r v, K r = some out ∧ (Op.unary op X).run P b.w = .ok v b.w ∧ b.av r v := by
  unfold una at e
  split at e
  · obtain rfl := av_bool.mp hx
    exact ⟨_, _, e, by simp [Op.unary], av_bool.mpr rfl⟩
  · obtain rfl := av_int.mp hx
    rename_i k n
    exact ⟨_, .int k (k.wrap (0 - n)), e, by simp [Op.unary, Op.intArith], av_int.mpr rfl⟩
  · obtain rfl := av_int.mp hx
    exact ⟨_, _, e, by simp [Op.unary, Op.intBits, ibits], av_int.mpr rfl⟩
  · cases e

theorem len_ok {T ty : TypeId} {v : AV} {V : Value} {K : Kt R} (hT : TOk P E.TT) (hr : b.rl O) (hv : b.av v V) (e : lenV E b.h T v K = some out) :
    ∃ avs V', K avs [] = some out ∧ (Builtin.len_ #[T] ty #[V]).run P b.w = .ok V' b.w ∧ SlOk b.U b.h b.c b.S b.Pl avs V' := by
  unfold lenV at e
  split at e
  · rename_i t xs m hc
    obtain ⟨h1, e⟩ := cond_some e
    obtain ⟨el, hu⟩ := isSl_u hT h1
    have := cont_ok (S' := fun _ => True) hr hv hc (fun _ _ => trivial) fun _ _ _ _ _ => trivial
    obtain ⟨A, cap, rfl, _⟩ := (av_sl (U := b.U) (h := b.h) (Pl := b.Pl)).mp (.inr this)
    exact ⟨_, .int .i64 (List.length xs : Int), e, by simp [Builtin.len_, run_underlying' hu, goInt], (av_int (U := b.U) (h := b.h) (Pl := b.Pl)).mpr rfl⟩
  · rename_i s m hc
    obtain ⟨h1, e⟩ := cond_some e
    have hu := isStr_u hT h1
    have := cont_ok (S' := fun _ => True) hr hv hc (fun _ _ => trivial) fun _ _ _ _ _ => trivial
    obtain rfl := (av_str (U := b.U) (h := b.h) (Pl := b.Pl)).mp (.inr this)
    exact ⟨_, .int .i64 (ByteArray.size s : Int), e, by simp [Builtin.len_, run_underlying' hu, goInt], (av_int (U := b.U) (h := b.h) (Pl := b.Pl)).mpr rfl⟩
  · rename_i n t xs m hc
    obtain ⟨h1, e⟩ := cond_some e
    obtain ⟨el, hu⟩ := isArr_u hT h1
    exact ⟨_, .int .i64 (n : Int), e, by simp [Builtin.len_, run_underlying' hu, goInt], (av_int (U := b.U) (h := b.h) (Pl := b.Pl)).mpr rfl⟩
  · cases e

theorem elU8_u {T : TypeId} (hT : TOk P E.TT) (h : elU8 E T = true) : ∃ e, P.underlying T = some (.slice e) ∧ P.underlying e = some (.int .u8) := by
  unfold elU8 at h
  split at h
  · rename_i e _ _ _ _ he
    obtain ⟨d, hd, hk, _⟩ := (hT _ _ he).under
    cases hk
    unfold isU8 at h
    split at h
    · rename_i he2
      obtain ⟨d, hd2, hk, _⟩ := (hT _ _ he2).under
      cases hk
      exact ⟨_, hd, hd2⟩
    · cases h
  · cases h

theorem cond_or {R : Type} {c : Bool} {x y : Option R} {out : R} (h : cond c x y = some out) : (c = true ∧ x = some out) ∨ (c = false ∧ y = some out) := by cases c <;> simp_all

theorem bytesV_ok {s d : TypeId} {v : AV} {V : Value} {K : Kt R} (hT : TOk P E.TT) (hr : b.rl O) (hv : b.av v V) (h1 : elU8 E s = true) (h2 : isStr E d = true) (e : bytesV b.h v K = some out) :
    ∃ avs V', K avs [] = some out ∧ (convert s d V).run P b.w = .ok V' b.w ∧ SlOk b.U b.h b.c b.S b.Pl avs V' := by
  unfold bytesV at e
  split at e
  · rename_i t xs m hc
    split at e
    · rename_i ys hcast
      obtain ⟨rfl, rfl⟩ := cast_sl hcast
      have := cont_ok (S' := fun _ => True) hr hv hc (fun _ _ => trivial) fun _ _ _ _ _ => trivial
      obtain ⟨A, cap, rfl, hle, hx⟩ := (av_sl (U := b.U) (h := b.h) (Pl := b.Pl)).mp (.inr this)
      obtain ⟨el, hu, hel⟩ := elU8_u hT h1
      have hd := isStr_u hT h2
      refine ⟨_, .string (strOf xs), e, ?_, (av_str (U := b.U) (h := b.h) (Pl := b.Pl)).mpr rfl⟩
      rw [run_convert_bytes_string b.w s d el _ _ _ hu hel hd]
      by_cases hn : xs.length = 0
      · obtain rfl := List.length_eq_zero_iff.mp hn
        cases A with
        | none => simp [Conv.bytesToString, strOf]
        | some A => exact run_bytesToString b.w A 0 cap [] (by simp [loadCells, loadCellsFrom])
      · obtain ⟨nb, q, rfl, _, _⟩ := hx 0 (Nat.pos_of_ne_zero hn)
        have hl := run_loadCells_list (P := P) (w := b.w) ⟨nb, q, none⟩ (xs.map (Value.int .u8)) fun j v hj => by
          simp only [List.getElem?_map, Option.map_eq_some_iff] at hj
          obtain ⟨n, hn, rfl⟩ := hj
          obtain ⟨hlt, rfl⟩ := List.getElem?_eq_some_iff.mp hn
          obtain ⟨nb', q', g1, _, g3⟩ := hx j hlt
          simp only [Option.some.injEq, Addr.mk.injEq, and_true] at g1
          obtain ⟨rfl, rfl⟩ := g1
          simp only [ImmAt, gh_inl, Ty.size, Nat.mul_one] at g3
          rw [add_eq]
          have hg : xs.getD j (Ty.int IntKind.u8).dflt = xs[j] := by simp [List.getD_eq_getElem?_getD, hlt]
          rw [hg] at g3
          exact g3
        rw [List.length_map] at hl
        exact run_bytesToString b.w ⟨nb, q, none⟩ xs.length cap xs hl
    · cases e
  · cases e

theorem minmax_ok {mx : Bool} {T : Array TypeId} {ty : TypeId} {vs : List AV} {Vs : List Value} {K : Kt R} (hlen : Vs.length = vs.length) (hv : ∀ (i : Nat) x X, vs[i]? = some x → Vs[i]? = some X → b.av x X) (e : minmax mx K vs = some out) :
    ∃ avs V', K avs [] = some out ∧ (if mx then Builtin.max_ T ty Vs.toArray else Builtin.min_ T ty Vs.toArray : Sem Value).run P b.w = .ok V' b.w ∧ SlOk b.U b.h b.c b.S b.Pl avs V' := by
  unfold minmax at e
  split at e
  · rename_i k x k' y
    obtain ⟨hk, e⟩ := cond_some e
    have hk := of_decide_eq_true hk
    subst hk
    match Vs, hlen with
    | [X, Y], _ =>
      obtain rfl := av_int.mp (hv 0 _ _ rfl rfl)
      obtain rfl := av_int.mp (hv 1 _ _ rfl rfl)
      refine ⟨_, .int k (cond mx (if x < y then y else x) (if y < x then y else x)), e, ?_, (av_int (U := b.U) (h := b.h) (Pl := b.Pl)).mpr rfl⟩
      cases mx <;> simp [Builtin.max_, Builtin.min_, Builtin.max2, Builtin.min2]
  · cases e
end
end Ev
end

section
namespace Ev
open Go

section
variable {P : Program} {E : Env} {O : Nat → Prop} {b : Bd} {R : Type} {out : R}

theorem numOk_len {lo : Option AV} {vlo : Option Value} (h : NumOk b.U b.h b.c b.S b.Pl lo vlo) : NumOk b.U b.h (wcf b.w b.G) b.S b.Pl lo vlo := h

theorem slice_own_ok {T : TypeId} {t : Ty} {xs : List t.den} {m : Mask} {v k w : Nat} {V : Value} {lo hi : Option AV} {vlo vhi : Option Value} {l h : Int} {id : Nat} (hT : TOk P E.TT) (hc : (isSl E T && elemSz E T t) = true) (hr : b.rl O) (hid : ¬ b.U id)
    (hv : b.av (.ref k [] w) V) (hk : b.h k = some ⟨.sl t, xs, .sl m, false, false, v⟩) (hlo : NumOk b.U b.h b.c b.S b.Pl lo vlo) (hhi : NumOk b.U b.h b.c b.S b.Pl hi vhi)
    (el : numOf lo 0 = some l) (eh : numOf hi xs.length = some h) (h0 : 0 ≤ l) (h1 : l ≤ h) (h2 : h ≤ (xs.length : Int)) :
    ∃ b' V', (Instr.sliceAt T V vlo vhi none).run P b.w = .ok V' b'.w ∧ Mv O b b' ∧ b'.h = updF [(k, none), (id, some ⟨.sl t, List.drop l.toNat (List.take h.toNat xs), .sl m, false, false, 0⟩)] b.h ∧ b'.U = (fun k => b.U k ∨ k = id) ∧ b'.av (.ref id [] 0) V' := by
  rw [Bool.and_eq_true] at hc
  obtain ⟨el', hu, hs⟩ := sl_facts hT hc.1 hc.2
  obtain ⟨vs, hown⟩ := av_ref_own hr hv hk rfl rfl
  have hd := Mv.del hr k
  have hfree : Free O { b with h := upd b.h k none } (b.ft k) := fun x hx => by
    obtain ⟨h7, h8⟩ := hr.own k x (by simp [hk]) hx
    refine ⟨h7, h8, fun l' e' he' hf => ?_⟩
    by_cases hne : l' = k
    · subst hne; simp at he'
    · simp only [upd_ne _ _ hne] at he'
      exact hne (hr.dis l' k x (by simp [he']) (by simp [hk]) hf hx)
  have hval := hown.val
  simp only [valOf, Ty.agg, Bool.false_eq_true, if_false] at hval
  subst hval
  have ho := hown.own
  simp only [OwnAt, gh_inr, List.getElem?_cons_zero, Option.some.injEq] at ho
  have hlen : (List.drop l.toNat (List.take h.toNat xs)).length = h.toNat - l.toNat := by simp; omega
  rcases ho with ⟨g1, g2, _⟩ | ⟨nb, q, cap, n, g1, g2, g3, g4, _, Fs, e, dd, ddd, hx⟩
  · subst g2
    obtain ⟨A0, g1⟩ := g1
    have g1 : V = .slice A0 0 0 := g1
    subst g1
    have hl0 : l = 0 := by simp at h2; omega
    have hh0 : h = 0 := by simp at h2; omega
    subst hl0 hh0
    have hrun : (Instr.sliceAt T (.slice A0 0 0) vlo vhi none).run P b.w = .ok (.slice A0 0 0) b.w := by
      have := run_sliceBounds (P := P) (s := true) (cap := 0) (len := 0) hlo hhi el eh (by omega) (by omega) (by simp) (Nat.le_refl _)
      simp [Instr.sliceAt, Instr.slice, run_underlying' hu, this, hs]
    obtain ⟨b', m1, m2, m3, m4, _, _, m5⟩ := Mv.newDet (v := 0) (id := id) (s := ⟨.sl t, [], .sl m⟩) (V := .slice A0 0 0) (vs := [.slice A0 0 0]) (F := fun _ => False) hd.rl hid
      ⟨by simp [valOf, Ty.agg], rfl, by simp only [OwnAt, gh_inr, List.getElem?_cons_zero]; exact .inl ⟨⟨_, rfl⟩, trivial, fun _ h => h⟩⟩ fun _ h => h.elim
    exact ⟨b', _, by rw [hrun, m3], hd.trans m1, by rw [m2]; simp [updF]; rfl, m4, m5⟩
  · have g1 : V = .slice (some ⟨nb, q, none⟩) xs.length cap := g1
    subst g1
    have hrun : (Instr.sliceAt T (.slice (some ⟨nb, q, none⟩) xs.length cap) vlo vhi none).run P b.w = .ok (.slice (if cap = l.toNat then some ⟨nb, q, none⟩ else some ⟨nb, q + l.toNat * t.size, none⟩) (h.toNat - l.toNat) (cap - l.toNat)) b.w := by
      have := run_sliceBounds (P := P) (s := true) (cap := cap) (len := xs.length) hlo hhi el eh h0 h1 h2 g2
      simp only [Instr.sliceAt, Instr.slice, Sem.run_bind, run_underlying' hu, this, hs, Result.andThen_ok, Sem.run_pure]
      simp [run_sliceBounds (P := P) (s := true) (cap := cap) (len := xs.length) hlo hhi el eh h0 h1 h2 g2, hs, add_eq]
    have hnew : ∃ q', (if cap = l.toNat then some (⟨nb, q, none⟩ : Addr) else some ⟨nb, q + l.toNat * t.size, none⟩) = some ⟨nb, q', none⟩ ∧ q' + (cap - l.toNat) * t.size ≤ n ∧ (l.toNat < cap → q' = q + l.toNat * t.size) := by
      by_cases hcl : cap = l.toNat
      · exact ⟨q, by rw [if_pos hcl], by rw [hcl]; simp; omega, fun h => by omega⟩
      · refine ⟨_, by rw [if_neg hcl], ?_, fun _ => rfl⟩
        have : l.toNat * t.size + (cap - l.toNat) * t.size = cap * t.size := by rw [← Nat.add_mul]; congr 1; omega
        omega
    obtain ⟨q', hq1, hq2, hq3⟩ := hnew
    rw [hq1] at hrun
    obtain ⟨b', m1, m2, m3, m4, _, _, m5⟩ := Mv.newDet (v := 0) (id := id) (s := ⟨.sl t, List.drop l.toNat (List.take h.toNat xs), .sl m⟩) (V := .slice (some ⟨nb, q', none⟩) (h.toNat - l.toNat) (cap - l.toNat)) (vs := [.slice (some ⟨nb, q', none⟩) (h.toNat - l.toNat) (cap - l.toNat)])
      (F := fun k => k = nb ∨ ∃ i, i < h.toNat - l.toNat ∧ Fs (l.toNat + i) k) hd.rl hid
      ⟨by simp [valOf, Ty.agg], rfl, by
        simp only [OwnAt, gh_inr, List.getElem?_cons_zero]
        refine .inr ⟨nb, q', cap - l.toNat, n, by rw [hlen], by rw [hlen]; omega, g3, hq2, (fun e => by cases e), fun i => Fs (l.toNat + i), fun k => by rw [hlen], fun i hi => dd _ (by rw [hlen] at hi; omega), fun i j k hi hj hk1 hk2 => by
          rw [hlen] at hi hj
          have := ddd _ _ k (by omega) (by omega) hk1 hk2; omega, fun i hi => ?_⟩
        rw [hlen] at hi
        have hg : List.getD (List.drop l.toNat (List.take h.toNat xs)) i t.dflt = List.getD xs (l.toNat + i) t.dflt := by
          simp only [List.getD_eq_getElem?_getD, List.getElem?_drop]
          rw [List.getElem?_take_of_lt (by omega)]
        rw [hg, hq3 (by omega)]
        have hxi := hx (l.toNat + i) (by omega)
        rw [show q + l.toNat * t.size + i * t.size = q + (l.toNat + i) * t.size by rw [Nat.add_mul, Nat.add_assoc]]
        exact hxi.move (fun _ _ => rfl) (fun k hk => ⟨fun e' => dd (l.toNat + i) (by omega) (by injection e' with e'; rw [e']; exact hk), rfl, fun _ => rfl⟩) fun k hk => ⟨hk, fun _ => rfl⟩⟩
      (fun k hk => hfree k (by
        rcases hk with rfl | ⟨i, hi, hk⟩
        · exact (e _).mpr (.inl rfl)
        · exact (e _).mpr (.inr ⟨_, by omega, hk⟩)))
    exact ⟨b', _, by rw [hrun, m3], hd.trans m1, by rw [m2]; simp [updF]; rfl, m4, m5⟩

theorem slice0_ok {o : Oper} {a : Act} {T : TypeId} {x hi mx : Operand} {av : AV} {reg i id : Nat} {k k' : IntKind} {K : Kt R} (ho : o.op = .slice T x none (some hi) (some mx)) (hT : TOk P E.TT) (hr : b.rl O) (hid : ¬ b.U id)
    (hx : b.av av (a.eval x)) (hhi : a.eval hi = .int k 0) (hmx : a.eval mx = .int k' 0) (e : slice0 E b.h reg i id T av K = some out) :
    ∃ avs ups, K avs ups = some out ∧ OpOk P o a b.U id b.h O b.S b.w b.G b.Pl avs ups := by
  unfold slice0 at e
  split at e
  · rename_i t xs m hc
    obtain ⟨h1, e⟩ := cond_some e
    rw [Bool.and_eq_true] at h1
    obtain ⟨el, hu, hsz⟩ := sl_facts hT h1.1 h1.2
    have := cont_ok (S' := fun _ => True) hr hx hc (fun _ _ => trivial) fun _ _ _ _ _ => trivial
    obtain ⟨A, cap, hV, hcap, _⟩ := (av_sl (U := b.U) (h := b.h) (Pl := b.Pl)).mp (.inr this)
    have hrun : (execOp a.eval o).run P b.w = .ok (.value (.slice A 0 0)) b.w := by
      simp [execOp, ho, hV, hhi, hmx, Instr.sliceAt, Instr.slice, Instr.sliceBounds, Instr.sliceBound, asIntOf, run_underlying' hu, hsz]
    obtain ⟨b', m1, m2, m3, m4, _, _, m5⟩ := Mv.newDet (v := 0) (id := id) (s := ⟨.sl t, [], .sl (annM E reg i)⟩) (V := .slice A 0 0) (vs := [.slice A 0 0]) (F := fun _ => False) hr hid
      ⟨by simp [valOf, Ty.agg], rfl, by simp only [OwnAt, gh_inr, List.getElem?_cons_zero]; exact .inl ⟨⟨_, rfl⟩, trivial, fun _ h => h⟩⟩ fun _ h => h.elim
    refine ⟨_, _, e, OpOk.of (v := .slice A 0 0) (b' := b') ?_ m1 (Us.of_or m4) (by rw [updF_one, m2]) m5⟩
    rw [hrun, m3]
  · cases e

theorem sliceV_ok {o : Oper} {a : Act} {T : TypeId} {x : Operand} {vlo vhi : Option Operand} {av : AV} {lo hi : Option AV} {id : Nat} {K : Kt R} (ho : o.op = .slice T x vlo vhi none) (hT : TOk P E.TT) (hr : b.rl O) (hid : ¬ b.U id)
    (hx : b.av av (a.eval x)) (hlo : NumOk b.U b.h b.c b.S b.Pl lo (vlo.map a.eval)) (hhi : NumOk b.U b.h b.c b.S b.Pl hi (vhi.map a.eval)) (e : sliceV E b.h id T av lo hi K = some out) :
    ∃ avs ups, K avs ups = some out ∧ OpOk P o a b.U id b.h O b.S b.w b.G b.Pl avs ups := by
  have hex : ∀ w, (execOp a.eval o).run P w = ((Instr.sliceAt T (a.eval x) (vlo.map a.eval) (vhi.map a.eval) none).run P w).andThen fun v w' => .ok (.value v) w' := fun w => by simp [execOp, ho]
  unfold sliceV at e
  split at e
  · rename_i s hres
    split at e
    · rename_i l h hl hh
      obtain ⟨h1, e⟩ := cond_some e
      obtain ⟨h2, e⟩ := cond_some e
      obtain ⟨h3, e⟩ := cond_some e
      obtain ⟨h4, e⟩ := cond_some e
      have hX := av_str.mp (res_ok hr hx hres).ok
      have := slice_str_ok (P := P) (isStr_u hT h1) hlo hhi hl hh (of_decide_eq_true h2) (of_decide_eq_true h3) (of_decide_eq_true h4)
      exact ⟨_, _, e, OpOk.value hr (by rw [hex, hX, this]; rfl) ((av_str (U := b.U) (h := b.h) (Pl := b.Pl)).mpr rfl)⟩
    · cases e
  · rename_i t xs hres
    split at e
    · rename_i l h hl hh
      obtain ⟨h1, e⟩ := cond_some e
      obtain ⟨h2, e⟩ := cond_some e
      obtain ⟨h3, e⟩ := cond_some e
      obtain ⟨h4, e⟩ := cond_some e
      rw [Bool.and_eq_true] at h1
      obtain ⟨el', hu, hs⟩ := sl_facts hT h1.1 h1.2
      obtain ⟨V, r1, r2⟩ := slice_sl_ok (P := P) hu hs (res_ok hr hx hres).ok hlo hhi hl hh (of_decide_eq_true h2) (of_decide_eq_true h3) (of_decide_eq_true h4)
      exact ⟨_, _, e, OpOk.value hr (by rw [hex, r1]; rfl) r2⟩
    · cases e
  · rename_i k w hres
    split at e
    · rename_i t xs m v hk
      split at e
      · rename_i l h hl hh
        obtain ⟨h1, e⟩ := cond_some e
        obtain ⟨h2, e⟩ := cond_some e
        obtain ⟨h3, e⟩ := cond_some e
        obtain ⟨h4, e⟩ := cond_some e
        obtain ⟨b', V', r1, r2, r3, r4, r5⟩ := slice_own_ok (P := P) (id := id) hT h1 hr hid (res_ok hr hx hres).ok hk hlo hhi hl hh (of_decide_eq_true h2) (of_decide_eq_true h3) (of_decide_eq_true h4)
        exact ⟨_, _, e, OpOk.of (b' := b') (v := V') (by rw [hex, r1]; rfl) r2 (Us.of_or r4) r3.symm r5⟩
      · cases e
    · cases e
  · cases e

/-- Values side by side. -/
inductive Avs (b : Bd) : List AV → List Value → Prop
  | nil : Avs b [] []
  | cons {v V vs Vs} : b.av v V → Avs b vs Vs → Avs b (v :: vs) (V :: Vs)

theorem Avs.get {vs : List AV} {Vs : List Value} (h : Avs b vs Vs) : Vs.length = vs.length ∧ ∀ (i : Nat) x X, vs[i]? = some x → Vs[i]? = some X → b.av x X := by
  induction h with
  | nil => exact ⟨rfl, fun i x X h => by simp at h⟩
  | cons hv _ ih =>
    refine ⟨by simp [ih.1], fun i x X h1 h2 => ?_⟩
    cases i with
    | zero => simp at h1 h2; subst h1 h2; exact hv
    | succ i => exact ih.2 i x X (by simpa using h1) (by simpa using h2)

theorem cap1_ok {v : AV} {V : Value} {K : Sub → Ups → Option R} (hr : b.rl O) (hv : b.av v V) (e : evOp.cap1 b.h v K = some out) :
    ∃ c ups, K c ups = some out ∧ c.τ.size = 1 ∧ ∀ bi, Mv O b bi → bi.w = b.w → bi.G = b.G → (∀ q, q ∈ ups → bi.h q.1 = b.h q.1) →
      ∃ b', Mv O bi b' ∧ updF ups bi.h = b'.h ∧ b'.w = bi.w ∧ b'.U = bi.U ∧ b'.G = bi.G ∧ ∃ bb q, V = .pointer (some ⟨bb, q, none⟩) ∧ ∀ (vs : List Value) (k : Nat), vs[k]? = some V → ImmAt (gh b'.c vs) b'.S c.τ (.inr 0) k c.x := by
  unfold evOp.cap1 at e
  split at e
  · rename_i u x
    obtain ⟨bb, q, h1, h2, h3⟩ := av_ip.mp hv
    refine ⟨_, _, e, rfl, fun bi hm hw hG _ => ⟨bi, Mv.refl hm.rl, rfl, rfl, rfl, rfl, bb, q, h1, fun vs k hk => ?_⟩⟩
    simp only [ImmAt, gh_inr]
    exact ⟨bb, q, by rw [hk, h1], (hm.kp.sh bb h2).1, h3.move (fun _ _ => by simp only [gh_inl, Bd.c, wcf_inl, hw]) fun x hx => ⟨(hm.kp.sh x hx).1, fun j => by simp only [gh_inl, Bd.c, wcf_inl, hw]⟩⟩
  · rename_i l w
    split at e
    · rename_i en hen
      obtain ⟨_, hav⟩ := hv
      obtain ⟨_, hav⟩ := hav en hen
      obtain ⟨_, hmm, u, bb, q, hl, hV⟩ := hav (by simp [aliveA, deref])
      simp only [loc, Option.some.injEq, Prod.mk.injEq] at hl
      have hmem : en.mem = true := by simpa [deref] using hmm
      simp only [base, hmem, if_true, Sum.inl.injEq] at hl
      obtain ⟨_, rfl, rfl⟩ := hl
      cases hfz : en.fz with
      | true =>
        rw [hfz, cond_true] at e
        refine ⟨_, _, e, rfl, fun bi hm hw hG _ => ⟨bi, Mv.refl hm.rl, rfl, rfl, rfl, rfl, _, _, hV, fun vs k hk => ?_⟩⟩
        have hE := hr.ent l en hen
        unfold EntOk at hE
        rw [if_pos hfz] at hE
        have h3 := hE.2.2
        simp only [base, hmem, if_true] at h3
        simp only [ImmAt, gh_inr]
        exact ⟨_, _, by rw [hk, hV], (hm.kp.sh _ (hE.2.1 hmem)).1, h3.move (fun _ _ => by simp only [gh_inl, Bd.c, wcf_inl, hw]) fun x hx => ⟨(hm.kp.sh x hx).1, fun j => by simp only [gh_inl, Bd.c, wcf_inl, hw]⟩⟩
      | false =>
        rw [hfz, cond_false] at e
        refine ⟨_, _, e, rfl, fun bi hm hw hG hsame => ?_⟩
        have hs : bi.h l = some en := by rw [hsame _ (List.mem_singleton_self _)]; exact hen
        refine ⟨_, Mv.frz hm.rl hs, rfl, rfl, rfl, rfl, _, _, hV, fun vs k hk => ?_⟩
        have hav2 := hm.av (.adr l [] w) V ⟨hr.us l en hen, fun e' he' => by
          rw [hen] at he'; injection he' with he'; subst he'
          exact ⟨by assumption, fun _ => ⟨trivial, .inl hmem, _, _, _, by simp only [loc, base, hmem, if_true]; rfl, hV⟩⟩⟩
        obtain ⟨_, hav2⟩ := hav2
        obtain ⟨_, hav2⟩ := hav2 en hs
        obtain ⟨_, _, u2, bb2, q2, hl2, hV2⟩ := hav2 (by simp [aliveA, deref])
        simp only [loc, Option.some.injEq, Prod.mk.injEq, base, hmem, if_true, Sum.inl.injEq] at hl2
        obtain ⟨_, rfl, rfl⟩ := hl2
        have hE2 := (hm.rl.ent l en hs).frz (S' := fun x => bi.S x ∨ bi.ft l x) (fun _ h => .inl h) fun _ h => .inr h
        unfold EntOk at hE2
        simp only [if_true] at hE2
        have h3 := hE2.2.2
        simp only [base, hmem, if_true] at h3
        simp only [ImmAt, gh_inr]
        exact ⟨_, _, by rw [hk, hV2], hE2.2.1 hmem, h3.move (fun _ _ => by simp only [gh_inl, Bd.c, wcf_inl]) fun x hx => ⟨hx, fun j => by simp only [gh_inl, Bd.c, wcf_inl]⟩⟩
    · cases e
  · cases e

theorem capsIn_ok (hr : b.rl O) : ∀ {vs : List AV} {Vs : List Value} {K : Sub → Ups → Option R}, Avs b vs Vs → evOp.capsIn b.h vs K = some out →
    ∃ c ups, K c ups = some out ∧ c.τ.size = Vs.length ∧ ∀ bi, Mv O b bi → bi.w = b.w → bi.G = b.G → (∀ q, q ∈ ups → bi.h q.1 = b.h q.1) → distinct ups = true →
      ∃ b', Mv O bi b' ∧ updF ups bi.h = b'.h ∧ b'.w = bi.w ∧ b'.U = bi.U ∧ b'.G = bi.G ∧ ∀ (xs : List Value) (k : Nat), (∀ i V, Vs[i]? = some V → xs[k + i]? = some V) → ImmAt (gh b'.c xs) b'.S c.τ (.inr 0) k c.x := by
  intro vs
  induction vs with
  | nil =>
    intro Vs K hv e
    cases hv
    exact ⟨_, _, e, rfl, fun bi hm _ _ _ _ => ⟨bi, Mv.refl hm.rl, rfl, rfl, rfl, rfl, fun xs k _ => trivial⟩⟩
  | cons v vs ih =>
    intro Vs K hv e
    cases hv with
    | @cons _ V _ Vs h1 h2 =>
      cases vs with
      | nil =>
        cases h2
        simp only [evOp.capsIn] at e
        obtain ⟨c, ups, e, hs, hgo⟩ := cap1_ok hr h1 e
        refine ⟨c, ups, e, hs, fun bi hm hw hG hsame _ => ?_⟩
        obtain ⟨b', g1, g2, g3, g4, g5, _, _, _, g6⟩ := hgo bi hm hw hG hsame
        exact ⟨b', g1, g2, g3, g4, g5, fun xs k hk => g6 xs k (by have := hk 0 V rfl; simpa using this)⟩
      | cons v2 r =>
        simp only [evOp.capsIn] at e
        obtain ⟨c, ups, e, hs, hgo⟩ := cap1_ok hr h1 e
        obtain ⟨c2, ups2, e, hs2, hgo2⟩ := ih h2 e
        refine ⟨_, _, e, by simp [Ty.size, hs, hs2]; omega, fun bi hm hw hG hsame hd => ?_⟩
        obtain ⟨hd1, hd2, hd3⟩ := distinct_append hd
        obtain ⟨b1, g1, g2, g3, g4, g5, _, _, _, g6⟩ := hgo bi hm hw hG fun q hq => hsame q (List.mem_append_left _ hq)
        obtain ⟨b2, k1, k2, k3, k4, k5, k6⟩ := hgo2 b1 (hm.trans g1) (g3.trans hw) (g5.trans hG) (fun q hq => by
          rw [← g2, updF_other]
          · exact hsame q (List.mem_append_right _ hq)
          · exact fun p hp' e => hd3 p q hp' hq e.symm) hd2
        refine ⟨b2, g1.trans k1, by rw [updF_append, g2, k2], k3.trans g3, k4.trans g4, k5.trans g5, fun xs k hk => ?_⟩
        refine ⟨?_, ?_⟩
        · have hA := g6 xs k (by have := hk 0 V rfl; simpa using this)
          exact hA.move (fun _ _ => rfl) fun x hx => ⟨(k1.kp.sh x hx).1, fun j => by simp only [gh_inl, Bd.c, wcf_inl, k3]⟩
        · rw [hs]
          refine k6 xs (k + 1) fun i W hW => ?_
          rw [show k + 1 + i = k + (i + 1) by omega]
          exact hk (i + 1) W (by simpa using hW)

theorem makeFunc_ok {o : Oper} {a : Act} {g id : Nat} {first caps : Array Operand} {vs : List AV} {K : Kt R} (ho : o.op = .makeFunc (.func g) first caps) (hf : first.toList = []) (hr : b.rl O)
    (hv : Avs b vs (caps.toList.map a.eval)) (e : evOp.capsIn b.h vs (fun c ups => cond (distinct ups) (K [.imm (.fn g c.τ) c.x] ups) none) = some out) :
    ∃ avs ups, K avs ups = some out ∧ OpOk P o a b.U id b.h O b.S b.w b.G b.Pl avs ups := by
  obtain ⟨c, ups, e, hs, hgo⟩ := capsIn_ok hr hv e
  obtain ⟨hd, e⟩ := cond_some e
  obtain ⟨b', g1, g2, g3, g4, g5, g6⟩ := hgo b (Mv.refl hr) rfl rfl (fun _ _ => rfl) hd
  have hf : first = #[] := Array.ext' (by simpa using hf)
  refine ⟨_, _, e, OpOk.of (b' := b') (v := .func (.func g) #[] (caps.map a.eval)) ?_ g1 (fun l h => .inl (by rw [← g4]; exact h)) g2 ?_⟩
  · rw [g3]
    simp [execOp, ho, Instr.makeFunc, hf]
  · refine (av_fn (U := b'.U) (h := b'.h) (Pl := b'.Pl)).mpr ⟨_, rfl, by simp [hs], ?_⟩
    exact g6 _ 0 fun i V hV => by simpa using hV

/-- What is known at an operation. -/
structure At (P : Program) (E : Env) (O : Nat → Prop) (b : Bd) (a : Act) (t : List (Nat × List AV)) (id : Nat) : Prop where
  T : TOk P E.TT
  rl : b.rl O
  id : ∀ l, id ≤ l → l < id + 16 → ¬ b.U l
  sl : ∀ d, SlOk b.U b.h b.c b.S b.Pl (slot t d) (a.tmps.getD d undef)

theorem At.op1 {a : Act} {t : List (Nat × List AV)} {id : Nat} (h : At P E O b a t id) {x : Operand} {v : AV} (e : opd t x = [v]) : b.av v (a.eval x) := opd_one h.sl e

theorem At.opT {a : Act} {t : List (Nat × List AV)} {id : Nat} (h : At P E O b a t id) {T : TypeId} {x : Operand} {v : AV} (e : opdT E t T x = [v]) : b.av v (a.eval x) := by
  unfold opdT at e
  split at e
  · split at e
    · simp only [List.cons.injEq, and_true] at e
      subst e
      exact av_sl.mpr ⟨none, 0, rfl, Nat.le_refl _, fun i hi => by simp at hi⟩
    · cases e
  · exact h.op1 e

theorem At.opO {a : Act} {t : List (Nat × List AV)} {id : Nat} (h : At P E O b a t id) {x : Option Operand} {v : Option AV} (e : optV t x = some v) : NumOk b.U b.h b.c b.S b.Pl v (x.map a.eval) := by
  cases x with
  | none => simp only [optV, Option.some.injEq] at e; subst e; trivial
  | some x =>
    simp only [optV] at e
    split at e
    · rename_i v' hv
      simp only [Option.some.injEq] at e
      subst e
      exact h.op1 hv
    · cases e

theorem At.avs {a : Act} {t : List (Nat × List AV)} {id : Nat} (h : At P E O b a t id) : ∀ {xs : List Operand} {vs : List AV}, sing (xs.map (opd t)) = some vs → Avs b vs (xs.map a.eval) := by
  intro xs
  induction xs with
  | nil => intro vs e; simp [sing] at e; subst e; exact .nil
  | cons x xs ih =>
    intro vs e
    simp only [List.map_cons] at e ⊢
    match hx : opd t x, e with
    | [v], e =>
      simp only [sing, Option.map_eq_some_iff] at e
      obtain ⟨l, hl, rfl⟩ := e
      exact .cons (h.op1 hx) (ih hl)
    | [], e => simp [sing] at e
    | _ :: _ :: _, e => simp [sing] at e

theorem At.avsT {a : Act} {t : List (Nat × List AV)} {id : Nat} (h : At P E O b a t id) : ∀ {xs : List Operand} {Ts : List TypeId} {vs : List AV}, xs.length = Ts.length → sing (opdsT E t xs Ts) = some vs → Avs b vs (xs.map a.eval) := by
  intro xs
  induction xs with
  | nil => intro Ts vs _ e; cases Ts <;> simp [opdsT, sing] at e <;> subst e <;> exact .nil
  | cons x xs ih =>
    intro Ts vs hl e
    cases Ts with
    | nil => simp at hl
    | cons T Ts =>
      simp only [opdsT] at e
      simp only [List.map_cons]
      match hx : opdT E t T x, e with
      | [v], e =>
        simp only [sing, Option.map_eq_some_iff] at e
        obtain ⟨l, hl', rfl⟩ := e
        exact .cons (h.opT hx) (ih (by simpa using hl) hl')
      | [], e => simp [sing] at e
      | _ :: _ :: _, e => simp [sing] at e

theorem At.parts {a : Act} {t : List (Nat × List AV)} {id : Nat} (h : At P E O b a t id) : ∀ qs : List (Nat × Operand), Parts b (qs.map fun q => (q.1, opd t q.2)) (qs.map fun q => (q.1, a.eval q.2)) := by
  intro qs
  induction qs with
  | nil => exact .nil
  | cons q qs ih => exact .cons (fun x hx => h.op1 hx) ih
end
end Ev
end

section
namespace Ev
open Go

def nil0 : Nat → List Value := fun _ => []

/-- An argument, and its blocks. -/
def ArgAt (c : CF) (S : Nat → Prop) : (p : Prm) → p.ty.den → Value → (Nat → Prop) → Prop
  | .imm τ, x, V, F => (∀ k, ¬ F k) ∧ ∃ vs, valOf τ vs V ∧ ImmV c S τ vs x
  | .io τ m true, x, V, F => ∃ b o F', V = .pointer (some ⟨b, o, none⟩) ∧ OwnAt c S τ m (.inl b) o x F' ∧ ¬ F' b ∧ (∀ k, F k ↔ k = b ∨ F' k) ∧ ∃ n, c.bk b = some n ∧ o + τ.size ≤ n
  | .io τ m false, x, V, F => ∃ vs, Own c S ⟨τ, x, m⟩ V vs F
  | .take τ m, x, V, F => ∃ vs, Own c S ⟨τ, x, m⟩ V vs F

def ArgsAt (c : CF) (S : Nat → Prop) : (ps : List Prm) → (chain (ps.map Prm.ty)).den → List Value → (Nat → Prop) → Prop
  | [], _, [], F => ∀ k, ¬ F k
  | [p], x, [V], F => ArgAt c S p x V F
  | p :: q :: ps, x, V :: Vs, F => ∃ F1 F2 : Nat → Prop, (∀ k, F k ↔ F1 k ∨ F2 k) ∧ (∀ k, F1 k → ¬ F2 k) ∧ ArgAt c S p x.1 V F1 ∧ ArgsAt c S (q :: ps) x.2 Vs F2
  | _, _, _, _ => False

/-- A result: a value, or the address of what is one's own. -/
def ResAt (c : CF) (S : Nat → Prop) : (τ : Ty) → Mask → τ.den → Value → (Nat → Prop) → Prop
  | .ip t, .ar m, x, V, F => ArgAt c S (.io t m true) x V F
  | τ, m, x, V, F => ∃ vs, Own c S ⟨τ, x, m⟩ V vs F

theorem ResAt.of {c : CF} {S : Nat → Prop} {τ : Ty} {m : Mask} {x : τ.den} {V : Value} {F : Nat → Prop} (hm : isPt τ m = false) : ResAt c S τ m x V F ↔ ∃ vs, Own c S ⟨τ, x, m⟩ V vs F := by
  cases m <;> cases τ <;> first | exact Iff.rfl | cases hm

/-- The results. -/
def RessAt (c : CF) (S : Nat → Prop) : (rs : List (Ty × Mask)) → (chain (rs.map (·.1))).den → List Value → (Nat → Prop) → Prop
  | [], _, [], F => ∀ k, ¬ F k
  | [(τ, m)], x, [V], F => ResAt c S τ m x V F
  | (τ, m) :: r :: rs, x, V :: Vs, F => ∃ F1 F2 : Nat → Prop, (∀ k, F k ↔ F1 k ∨ F2 k) ∧ (∀ k, F1 k → ¬ F2 k) ∧ ResAt c S τ m x.1 V F1 ∧ RessAt c S (r :: rs) x.2 Vs F2
  | _, _, _, _ => False

/-- What has become of the arguments that are handed back. -/
def OutsAt (c : CF) (S : Nat → Prop) : (ps : List Prm) → (chainU (outsOf ps)).den → List Value → (Nat → Prop) → Prop
  | [], _, _, F => ∀ k, ¬ F k
  | .imm _ :: ps, x, _ :: Vs, F => OutsAt c S ps x Vs F
  | .take _ _ :: ps, x, _ :: Vs, F => OutsAt c S ps x Vs F
  | .io τ m mem :: ps, x, V :: Vs, F => ∃ F1 F2 : Nat → Prop, (∀ k, F k ↔ F1 k ∨ F2 k) ∧ (∀ k, F1 k → ¬ F2 k) ∧ ArgAt c S (.io τ m mem) x.1 V F1 ∧ OutsAt c S ps x.2 Vs F2
  | _ :: _, _, [], _ => False

/-- What a call gives back, as the machine hands it over. -/
def retOf (vs : List Value) : Value := match vs with | [v] => v | vs => .tuple vs.toArray

/-- The blocks that a call may turn. -/
def Mine (w : World) (F : Nat → Prop) : Nat → Prop := fun k => w.heap.size ≤ k ∨ F k

structure Post (S : Nat → Prop) (w : World) (m : FM) (Vs : List Value) (F : Nat → Prop) (r : (resTy (m.rs.map (·.1)) (outsOf m.ps)).den) (v : Value) (w' : World) (S' F1 F2 : Nat → Prop) (Rs : List Value) : Prop where
  kp : Kp (Mine w F) S S' w w'
  ret : v = retOf Rs
  res : RessAt (wcf w' nil0) S' m.rs (split (m.rs.map (·.1)) (outsOf m.ps) r).1 Rs F1
  outs : OutsAt (wcf w' nil0) S' m.ps (split (m.rs.map (·.1)) (outsOf m.ps) r).2 Vs F2
  dis : ∀ k, F1 k → ¬ F2 k
  own : ∀ k, F1 k ∨ F2 k → Mine w F k ∧ ¬ S' k
  new : ∀ k, w'.heap.size ≤ k → ¬ S' k

structure Sound (P : Program) (m : FM) : Prop where
  code : ∃ fn, P.funcs[m.g]? = some fn ∧ fn.name ≠ "runtime.NumGoroutine" ∧ fn.body.isNone = false
  calls : ∀ (w : World) (S F : Nat → Prop) (Vs : List Value) x r, ArgsAt (wcf w nil0) S m.ps x Vs F → (∀ k, w.heap.size ≤ k → ¬ S k) → (∀ k, F k → ¬ S k) → m.f x = some r →
    Calls P m.g Vs.toArray w fun | .returned v, w' => ∃ S' F1 F2 Rs, Post S w m Vs F r v w' S' F1 F2 Rs | _, _ => False

section
variable {P : Program} {E : Env} {O : Nat → Prop} {b : Bd} {R : Type} {out : R}

/-- Entries are turned with the world. -/
theorem Mv.turn (hr : b.rl O) {w' : World} {S' : Nat → Prop} (nw : Nat → Option (Entry × (Nat → Prop))) (hkp : Kp O b.S S' b.w w') (hnew : ∀ k, w'.heap.size ≤ k → ¬ S' k)
    (h1 : ∀ l e F, nw l = some (e, F) → ∃ e0, b.h l = some e0 ∧ e0.fz = false ∧ e.τ = e0.τ ∧ e.mem = e0.mem ∧ e.fz = false ∧ e.v = vUp e0.v ∧ EntOk (wcf w' b.G) S' e l (b.Pl l) F ∧ ∀ k, F k → O k ∧ ¬ S' k)
    (h2 : ∀ l l' e F e' F' k, nw l = some (e, F) → nw l' = some (e', F') → F k → F' k → l = l')
    (h3 : ∀ l e F l' e' k, nw l = some (e, F) → nw l' = none → b.h l' = some e' → F k → ¬ b.ft l' k)
    (h4 : ∀ l e k, b.h l = some e → nw l = none → b.ft l k → w'.heap[k]? = b.w.heap[k]? ∧ ¬ S' k) :
    Mv O b { b with w := w', S := S', h := fun l => match nw l with | some q => some q.1 | none => b.h l, ft := fun l => match nw l with | some q => q.2 | none => b.ft l } := by
  have hS : AgreeS b.c (wcf w' b.G) b.S S' := hkp.agree b.G b.G
  have hun : ∀ l e, b.h l = some e → nw l = none → Un b.c (wcf w' b.G) b.S e l (b.Pl l) (b.ft l) := fun l e he hn => by
    refine ⟨fun i hi => ?_, fun x hx => ⟨bkOf_congr (h4 l e x he hn hx).1, fun j => cell?_congr (h4 l e x he hn hx).1⟩⟩
    by_cases hm : e.mem = true
    · simp only [base, hm, if_true, wcf_inl]
      refine cell?_congr ?_
      have hE := hr.ent l e he
      unfold EntOk at hE
      by_cases hz : e.fz = true
      · rw [if_pos hz] at hE; exact (hkp.sh _ (hE.2.1 hm)).2
      · rw [if_neg hz] at hE
        obtain ⟨F2, _, _, h6⟩ := hE
        rw [if_pos hm] at h6
        exact (h4 l e _ he hn ((h6.1 _).mpr (.inl rfl))).1
    · simp only [base, hm, if_false, Bool.false_eq_true, wcf_inr]
  refine ⟨⟨fun l e he => ?_, fun l e he => ?_, fun l e he => ?_, fun l l' k hl hl' hk hk' => ?_, fun l k hl hk => ?_, fun k hk => ⟨(hr.new k (Nat.le_trans hkp.size hk)).1, hnew k hk⟩⟩, fun av V hav => ?_, hkp, fun _ h => h⟩
  · cases hn : nw l with
    | none => simp only [hn] at he; exact hr.us l e he
    | some q => obtain ⟨e0, he0, _⟩ := h1 l q.1 q.2 hn; exact hr.us l e0 he0
  · cases hn : nw l with
    | none => simp only [hn] at he ⊢; exact (hr.ent l e he).move (hun l e he hn) hS
    | some q =>
      obtain ⟨e0, he0, _, _, _, _, _, hE, _⟩ := h1 l q.1 q.2 hn
      simp only [hn, Option.some.injEq] at he ⊢; subst he; exact hE
  · cases hn : nw l with
    | none => simp only [hn] at he ⊢; exact hr.gl l e he
    | some q =>
      obtain ⟨e0, he0, _, a1, a2, _⟩ := h1 l q.1 q.2 hn
      simp only [hn, Option.some.injEq] at he; subst he
      intro hm; rw [a1]; exact hr.gl l e0 he0 (by rw [← a2]; exact hm)
  · cases hn : nw l with
    | none =>
      cases hn' : nw l' with
      | none => simp only [hn, hn'] at hl hl' hk hk'; exact hr.dis l l' k hl hl' hk hk'
      | some q' =>
        simp only [hn, hn'] at hl hk hk'
        obtain ⟨e, he⟩ := Option.isSome_iff_exists.mp hl
        exact (h3 l' q'.1 q'.2 l e k hn' hn he hk' hk).elim
    | some q =>
      cases hn' : nw l' with
      | none =>
        simp only [hn, hn'] at hl' hk hk'
        obtain ⟨e, he⟩ := Option.isSome_iff_exists.mp hl'
        exact (h3 l q.1 q.2 l' e k hn hn' he hk hk').elim
      | some q' => simp only [hn, hn'] at hk hk'; exact h2 l l' q.1 q.2 q'.1 q'.2 k hn hn' hk hk'
  · cases hn : nw l with
    | none =>
      simp only [hn] at hl hk
      obtain ⟨e, he⟩ := Option.isSome_iff_exists.mp hl
      exact ⟨(hr.own l k hl hk).1, (h4 l e k he hn hk).2⟩
    | some q =>
      obtain ⟨e0, he0, _, _, _, _, _, _, hF⟩ := h1 l q.1 q.2 hn
      simp only [hn] at hk
      exact hF k hk
  · cases av with
    | imm τ x => exact hav.imp id fun ⟨vs', a1, a2⟩ => ⟨vs', a1, a2.mono hS⟩
    | ref l p kv =>
      cases hn : nw l with
      | none =>
        have := AvOk.keep (av := .ref l p kv) (ft := b.ft) (h := fun j => if j = l then b.h j else none) (h' := fun j => if j = l then b.h j else none) (Pl := b.Pl) (Pl' := b.Pl) (U := b.U) (U' := b.U) (c := b.c) (c' := wcf w' b.G) (S := b.S) (S' := S') (v := V)
          (fun j ej hj => by
            by_cases hjl : j = l
            · simp only [hjl, if_true] at hj; rw [hjl]; exact hr.ent l ej hj
            · simp only [hjl, if_false] at hj; cases hj) (fun _ h => h) hS
          (fun j ej hU hj => by
            by_cases hjl : j = l
            · subst hjl
              simp only [if_true] at hj
              exact ⟨ej, by simpa using hj, rfl, rfl, hun j ej hj hn⟩
            · simp only [hjl, if_false] at hj; cases hj)
          (by obtain ⟨hU, hav⟩ := hav; exact ⟨hU, fun e0 he0 => hav e0 (by simpa using he0)⟩)
        exact ⟨this.1, fun e0 he0 => this.2 e0 (by simpa [hn] using he0)⟩
      | some q =>
        obtain ⟨e0, he0, hz, a1, a2, a3, a4, hE, _⟩ := h1 l q.1 q.2 hn
        obtain ⟨e, F⟩ := q
        obtain ⟨τ, y, m, mem, fz, v⟩ := e
        simp only at a1 a2 a3 a4 hE
        subst a1 a2 a3 a4
        obtain ⟨hU, hav⟩ := hav
        obtain ⟨hkv, hav⟩ := hav e0 he0
        refine ⟨hU, fun e' he' => ?_⟩
        simp only [hn, Option.some.injEq] at he'
        subst he'
        refine ⟨by have := lt_vUp e0.v; simp only; omega, fun ha => ?_⟩
        simp only [aliveR] at ha
        have hb : Nat.beq kv (vUp e0.v) = false := beq_ne (by have := lt_vUp e0.v; omega)
        simp only [hb, Bool.or_false, Bool.and_eq_true, Bool.not_eq_true'] at ha
        have hq : p = [] := by cases p <;> simp [isNil] at ha ⊢
        subst hq
        obtain ⟨u0, hg0, hp0, B0, o0, vs0, hl0, hn0, hc0, hv0⟩ := hav (by simp [aliveR, ha.1, isNil])
        simp only [getP, Option.some.injEq] at hg0; subst hg0
        simp only [loc, base, ha.1, Bool.false_eq_true, if_false, Option.some.injEq, Prod.mk.injEq, true_and] at hl0
        obtain ⟨rfl, rfl⟩ := hl0
        refine ⟨⟨e0.τ, y, m⟩, rfl, trivial, .inr l, 0, vs0, ?_, hn0, fun i hi => ?_, hv0⟩
        · simp [loc, base, ha.1]
        · rw [← hc0 i hi]; rfl
    | adr l p kv =>
      cases hn : nw l with
      | none =>
        have := AvOk.keep (av := .adr l p kv) (ft := b.ft) (h := fun j => if j = l then b.h j else none) (h' := fun j => if j = l then b.h j else none) (Pl := b.Pl) (Pl' := b.Pl) (U := b.U) (U' := b.U) (c := b.c) (c' := wcf w' b.G) (S := b.S) (S' := S') (v := V)
          (fun j ej hj => by
            by_cases hjl : j = l
            · simp only [hjl, if_true] at hj; rw [hjl]; exact hr.ent l ej hj
            · simp only [hjl, if_false] at hj; cases hj) (fun _ h => h) hS
          (fun j ej hU hj => by
            by_cases hjl : j = l
            · subst hjl
              simp only [if_true] at hj
              exact ⟨ej, by simpa using hj, rfl, rfl, hun j ej hj hn⟩
            · simp only [hjl, if_false] at hj; cases hj)
          (by obtain ⟨hU, hav⟩ := hav; exact ⟨hU, fun e0 he0 => hav e0 (by simpa using he0)⟩)
        exact ⟨this.1, fun e0 he0 => this.2 e0 (by simpa [hn] using he0)⟩
      | some q =>
        obtain ⟨e0, he0, hz, a1, a2, a3, a4, hE, _⟩ := h1 l q.1 q.2 hn
        obtain ⟨e, F⟩ := q
        obtain ⟨τ, y, m, mem, fz, v⟩ := e
        simp only at a1 a2 a3 a4 hE
        subst a1 a2 a3 a4
        obtain ⟨hU, hav⟩ := hav
        obtain ⟨hkv, hav⟩ := hav e0 he0
        refine ⟨hU, fun e' he' => ?_⟩
        simp only [hn, Option.some.injEq] at he'
        subst he'
        refine ⟨by have := lt_vUp e0.v; simp only; omega, fun ha => ?_⟩
        simp only [aliveA] at ha
        have hb : Nat.beq (kv / 65536) (vUp e0.v / 65536) = false := beq_ne (vUp_era (by omega))
        simp only [hb, Bool.or_false, Bool.not_eq_true'] at ha
        obtain ⟨hp0, hm0, u0, b0, o0, hl0, hv0⟩ := hav (by simp [aliveA, ha])
        obtain ⟨hp1, hl1⟩ := fields_path (x' := y) (m' := m) ha hp0
        refine ⟨hp1, hm0, u0, b0, o0, ?_, hv0⟩
        rw [← hl0]
        exact hl1 b.c (wcf w' b.G) _ _
end
end Ev
end

section
namespace Ev
open Go

def immIds : List Prm → List AV → List Nat
  | .imm _ :: ps, v :: vs => AV.ids [v] ++ immIds ps vs
  | _ :: ps, _ :: vs => immIds ps vs
  | _, _ => []
def ioIds : List Prm → List AV → List Nat
  | .io _ _ _ :: ps, v :: vs => AV.ids [v] ++ ioIds ps vs
  | _ :: ps, _ :: vs => ioIds ps vs
  | _, _ => []
def takeIds : List Prm → List AV → List Nat
  | .take _ _ :: ps, v :: vs => AV.ids [v] ++ takeIds ps vs
  | _ :: ps, _ :: vs => takeIds ps vs
  | _, _ => []
def outIds : List Prm → List AV → List Nat
  | .imm _ :: ps, _ :: vs => outIds ps vs
  | _ :: ps, v :: vs => AV.ids [v] ++ outIds ps vs
  | _, _ => []

theorem mem_outIds : ∀ {ps : List Prm} {vs : List AV} {l : Nat}, l ∈ outIds ps vs ↔ l ∈ ioIds ps vs ∨ l ∈ takeIds ps vs := by
  intro ps
  induction ps with
  | nil => intro vs l; simp [outIds, ioIds, takeIds]
  | cons p ps ih =>
    intro vs l
    cases vs with
    | nil => simp [outIds, ioIds, takeIds]
    | cons v vs =>
      cases p with
      | imm τ => simp only [outIds, ioIds, takeIds]; exact ih
      | io τ m mem => simp only [outIds, ioIds, takeIds, List.mem_append, ih, or_assoc]
      | take τ m => simp only [outIds, ioIds, takeIds, List.mem_append, ih]; constructor <;> rintro (h | h | h) <;> simp [h]

section
variable {P : Program} {E : Env} {O : Nat → Prop} {b : Bd} {R : Type} {out : R}

/-- An own argument's shape. -/
theorem fit_own {p : Prm} {v : AV} (hp : ∀ τ, p ≠ .imm τ) (h : fit1 b.h p v = true) : ∃ l e, AV.ids [v] = [l] ∧ b.h l = some e ∧ e.fz = false ∧
    ((∃ τ m, p = .io τ m false ∧ (∃ w, v = .ref l [] w) ∧ e.mem = false ∧ e.τ = τ ∧ e.m = m) ∨ (∃ τ m, p = .io τ m true ∧ (∃ w, v = .adr l [] w) ∧ e.mem = true ∧ e.τ = τ ∧ e.m = m) ∨ (∃ τ m, p = .take τ m ∧ (∃ w, v = .ref l [] w) ∧ e.mem = false ∧ e.τ = τ ∧ e.m = m)) := by
  unfold fit1 at h
  split at h
  · exact (hp _ rfl).elim
  · rename_i τ m mem l w
    split at h
    · rename_i e he
      simp only [Bool.and_eq_true, Bool.not_eq_true', decide_eq_true_eq] at h
      obtain ⟨h1, h2, h3, h4, h5⟩ := h
      subst h1
      exact ⟨l, e, rfl, he, h3, .inl ⟨τ, m, rfl, ⟨w, rfl⟩, h2, h4, h5⟩⟩
    · cases h
  · rename_i τ m mem l w
    split at h
    · rename_i e he
      simp only [Bool.and_eq_true, Bool.not_eq_true', decide_eq_true_eq] at h
      obtain ⟨h1, h2, h3, h4, h5⟩ := h
      subst h1
      exact ⟨l, e, rfl, he, h3, .inr (.inl ⟨τ, m, rfl, ⟨w, rfl⟩, h2, h4, h5⟩)⟩
    · cases h
  · rename_i τ m l w
    split at h
    · rename_i e he
      simp only [Bool.and_eq_true, Bool.not_eq_true', decide_eq_true_eq] at h
      obtain ⟨h1, h2, h3, h4⟩ := h
      exact ⟨l, e, rfl, he, h2, .inr (.inr ⟨τ, m, rfl, ⟨w, rfl⟩, h1, h3, h4⟩)⟩
    · cases h
  · cases h

theorem Own.nil0 {w : World} {G : Nat → List Value} {S S' : Nat → Prop} {s : Sub} {V : Value} {vs : List Value} {F : Nat → Prop} (h : Own (wcf w G) S s V vs F) (hS : ∀ k, S k → S' k) : Own (wcf w nil0) S' s V vs F :=
  ⟨h.val, h.len, h.own.move (fun _ _ => rfl) (fun k _ => ⟨(fun e => by cases e), rfl, fun _ => rfl⟩) fun k hk => ⟨hS k hk, fun _ => rfl⟩⟩

theorem arg1_ok (hr : b.rl O) {S1 : Nat → Prop} (hS : ∀ k, b.S k → S1 k) {p : Prm} {v : AV} {V : Value} {K : p.ty.den → Option R} (hfit : fit1 b.h p v = true) (hv : b.av v V) (e : arg1 b.h p v K = some out)
    (himm : (∃ τ, p = .imm τ) → ∀ l k, l ∈ AV.ids [v] → (b.h l).isSome = true → b.ft l k → S1 k) :
    ∃ x, K x = some out ∧ ArgAt (wcf b.w nil0) S1 p x V (fun k => ∃ l, l ∈ outIds [p] [v] ∧ b.ft l k) := by
  by_cases hp : ∃ τ, p = .imm τ
  · obtain ⟨τ, rfl⟩ := hp
    simp only [arg1] at e
    split at e
    · rename_i u hu
      split at e
      · rename_i x hx
        refine ⟨x, e, fun k hk => ?_, ?_⟩
        · obtain ⟨l, hl, _⟩ := hk; simp [outIds] at hl
        · obtain ⟨he, rfl⟩ := cast?_some hx
          have := cont_ok (S' := S1) hr hv hu hS fun l k hl hs hk => himm ⟨_, rfl⟩ l k hl hs hk
          obtain ⟨τu, xu, mu⟩ := u
          simp only at he this
          subst he
          obtain ⟨vs, h1, h2⟩ := this
          exact ⟨vs, h1, h2.1, h2.2.move (fun _ _ => rfl) fun k hk => ⟨hk, fun _ => rfl⟩⟩
      · cases e
    · cases e
  · have hp' : ∀ τ, p ≠ .imm τ := fun τ h => hp ⟨τ, h⟩
    obtain ⟨l, en, hid, hen, hfz, hc⟩ := fit_own hp' hfit
    have hF : ∀ (F : Nat → Prop), (∀ k, F k ↔ b.ft l k) → outIds [p] [v] = [l] → (fun k => ∃ l', l' ∈ outIds [p] [v] ∧ b.ft l' k) = F := fun F h1 h2 => by
      funext k; rw [h2]; simp [h1]
    rcases hc with ⟨τ, m, rfl, ⟨w, rfl⟩, hm, rfl, rfl⟩ | ⟨τ, m, rfl, ⟨w, rfl⟩, hm, rfl, rfl⟩ | ⟨τ, m, rfl, ⟨w, rfl⟩, hm, rfl, rfl⟩
    · simp only [arg1, hen, cast?, dif_pos] at e
      obtain ⟨vs, ho⟩ := av_ref_own hr hv hen hfz hm
      refine ⟨en.x, e, ?_⟩
      rw [hF (b.ft l) (fun _ => Iff.rfl) (by simp [outIds, AV.ids])]
      exact ⟨vs, ho.nil0 hS⟩
    · simp only [arg1, hen, cast?, dif_pos] at e
      refine ⟨en.x, e, ?_⟩
      rw [hF (b.ft l) (fun _ => Iff.rfl) (by simp [outIds, AV.ids])]
      obtain ⟨_, hav⟩ := hv
      obtain ⟨_, hav⟩ := hav en hen
      obtain ⟨_, _, u, bb, q, hl, hV⟩ := hav (by simp [aliveA, deref])
      simp only [loc, base, hm, if_true, Option.some.injEq, Prod.mk.injEq, Sum.inl.injEq] at hl
      obtain ⟨_, rfl, rfl⟩ := hl
      have hE := hr.ent l en hen
      unfold EntOk at hE
      rw [if_neg (by simp [hfz])] at hE
      obtain ⟨F', h1, h2, h3⟩ := hE
      simp only [base, hm, if_true] at h1 h2 h3
      exact ⟨_, _, F', hV, h1.move (fun _ _ => rfl) (fun k hk => ⟨fun e => h2 k hk e, rfl, fun _ => rfl⟩) fun k hk => ⟨hS k hk, fun _ => rfl⟩, fun hk => h2 _ hk rfl, h3.1, h3.2⟩
    · simp only [arg1, hen, cast?, dif_pos] at e
      obtain ⟨vs, ho⟩ := av_ref_own hr hv hen hfz hm
      refine ⟨en.x, e, ?_⟩
      rw [hF (b.ft l) (fun _ => Iff.rfl) (by simp [outIds, AV.ids])]
      exact ⟨vs, ho.nil0 hS⟩

theorem outIds_cons {p : Prm} {ps : List Prm} {v : AV} {vs : List AV} : outIds (p :: ps) (v :: vs) = outIds [p] [v] ++ outIds ps vs := by cases p <;> simp [outIds]

theorem outIds_some : ∀ {ps : List Prm} {vs : List AV}, fits b.h ps vs = true → ∀ l, l ∈ outIds ps vs → ∃ e, b.h l = some e ∧ e.fz = false := by
  intro ps
  induction ps with
  | nil => intro vs _ l hl; simp [outIds] at hl
  | cons p ps ih =>
    intro vs hf l hl
    cases vs with
    | nil => simp [fits] at hf
    | cons v vs =>
      simp only [fits, Bool.and_eq_true] at hf
      rw [outIds_cons, List.mem_append] at hl
      rcases hl with hl | hl
      · by_cases hp : ∃ τ, p = .imm τ
        · obtain ⟨τ, rfl⟩ := hp; simp [outIds] at hl
        · obtain ⟨l', e, hid, he, hz, _⟩ := fit_own (fun τ h => hp ⟨τ, h⟩) hf.1
          have : outIds [p] [v] = [l'] := by cases p with
            | imm τ => exact (hp ⟨τ, rfl⟩).elim
            | io τ m mem => simp [outIds, hid]
            | take τ m => simp [outIds, hid]
          rw [this, List.mem_singleton] at hl
          subst hl; exact ⟨e, he, hz⟩
      · exact ih hf.2 l hl

theorem args_ok (hr : b.rl O) {S1 : Nat → Prop} (hS : ∀ k, b.S k → S1 k) : ∀ {ps : List Prm} {vs : List AV} {Vs : List Value} {K : (chain (ps.map Prm.ty)).den → Option R}, fits b.h ps vs = true → Avs b vs Vs → args b.h ps vs K = some out →
    (∀ l k, l ∈ immIds ps vs → (b.h l).isSome = true → b.ft l k → S1 k) → (outIds ps vs).Nodup →
    ∃ x, K x = some out ∧ ArgsAt (wcf b.w nil0) S1 ps x Vs (fun k => ∃ l, l ∈ outIds ps vs ∧ b.ft l k) := by
  intro ps
  induction ps with
  | nil =>
    intro vs Vs K hf hv e _ _
    cases hv with
    | nil =>
      simp only [args] at e
      exact ⟨_, e, fun k hk => by obtain ⟨l, hl, _⟩ := hk; simp [outIds] at hl⟩
    | cons _ _ => simp [fits] at hf
  | cons p ps ih =>
    intro vs Vs K hf hv e himm hnd
    cases hv with
    | nil => simp [fits] at hf
    | @cons v V vs Vs h1 h2 =>
      simp only [fits, Bool.and_eq_true] at hf
      have himm1 : (∃ τ, p = .imm τ) → ∀ l k, l ∈ AV.ids [v] → (b.h l).isSome = true → b.ft l k → S1 k := fun ⟨τ, hp⟩ l k hl hs hk => himm l k (by subst hp; simp only [immIds, List.mem_append]; exact .inl hl) hs hk
      have himm2 : ∀ l k, l ∈ immIds ps vs → (b.h l).isSome = true → b.ft l k → S1 k := fun l k hl hs hk => himm l k (by cases p <;> simp only [immIds, List.mem_append] <;> first | exact hl | exact .inr hl) hs hk
      cases ps with
      | nil =>
        cases h2 with
        | cons _ _ => simp [fits] at hf
        | nil =>
          simp only [args] at e
          exact arg1_ok hr hS hf.1 h1 e himm1
      | cons q ps =>
        cases h2 with
        | nil => simp [fits] at hf
        | @cons v2 V2 vs Vs h2 h3 =>
          simp only [args] at e
          obtain ⟨x, e, hx⟩ := arg1_ok hr hS hf.1 h1 e himm1
          rw [outIds_cons, List.nodup_append] at hnd
          obtain ⟨y, e, hy⟩ := ih hf.2 (.cons h2 h3) e himm2 hnd.2.1
          refine ⟨(x, y), e, _, _, fun k => ?_, fun k hk1 hk2 => ?_, hx, hy⟩
          · rw [outIds_cons]
            simp only [List.mem_append]
            constructor
            · rintro ⟨l, hl | hl, hk⟩
              · exact .inl ⟨l, hl, hk⟩
              · exact .inr ⟨l, hl, hk⟩
            · rintro (⟨l, hl, hk⟩ | ⟨l, hl, hk⟩)
              · exact ⟨l, .inl hl, hk⟩
              · exact ⟨l, .inr hl, hk⟩
          · obtain ⟨l1, hl1, hk1⟩ := hk1
            obtain ⟨l2, hl2, hk2⟩ := hk2
            have hf' : fits b.h (p :: q :: ps) (v :: v2 :: vs) = true := by simp only [fits, Bool.and_eq_true] at hf ⊢; exact hf
            obtain ⟨e1, he1, _⟩ := outIds_some hf' l1 (by rw [outIds_cons]; exact List.mem_append_left _ hl1)
            obtain ⟨e2, he2, _⟩ := outIds_some hf' l2 (by rw [outIds_cons]; exact List.mem_append_right _ hl2)
            exact hnd.2.2 l1 hl1 l2 hl2 (hr.dis l1 l2 k (by simp [he1]) (by simp [he2]) hk1 hk2)
end
end Ev
end

section
namespace Ev
open Go

section
variable {P : Program} {E : Env} {O : Nat → Prop} {b : Bd} {R : Type} {out : R}

theorem valOf_inj {τ : Ty} {vs vs' : List Value} {V : Value} (h : valOf τ vs V) (h' : valOf τ vs' V) : vs = vs' := by
  unfold valOf at h h'
  by_cases ha : τ.agg = true
  · rw [if_pos ha] at h h'
    rw [h] at h'
    injection h' with h'
    have := congrArg Array.toList h'
    simpa using this
  · rw [if_neg ha] at h h'
    rw [h, h']

theorem ioIds_sub {ps : List Prm} {vs : List AV} {l : Nat} (h : l ∈ ioIds ps vs) : l ∈ outIds ps vs := mem_outIds.mpr (.inl h)
theorem takeIds_sub {ps : List Prm} {vs : List AV} {l : Nat} (h : l ∈ takeIds ps vs) : l ∈ outIds ps vs := mem_outIds.mpr (.inr h)

/-- What the arguments that are handed back have become. -/
theorem outs_nw (hr : b.rl O) {w' : World} {S' : Nat → Prop} : ∀ {ps : List Prm} {vs : List AV} {Vs : List Value} {o : (chainU (outsOf ps)).den} {F : Nat → Prop}, fits b.h ps vs = true → Avs b vs Vs → (outIds ps vs).Nodup →
    OutsAt (wcf w' nil0) S' ps o Vs F →
    ∃ nw : Nat → Option (Entry × (Nat → Prop)), (∀ l q, nw l = some q → l ∈ ioIds ps vs) ∧ (∀ l, l ∈ ioIds ps vs → ∃ q, nw l = some q) ∧
      (∀ h : Nat → Option Entry, updF (outs b.h ps vs o) h = fun l => if l ∈ takeIds ps vs then none else match nw l with | some q => some q.1 | none => h l) ∧
      (∀ l e F', nw l = some (e, F') → ∃ e0, b.h l = some e0 ∧ e0.fz = false ∧ e.τ = e0.τ ∧ e.mem = e0.mem ∧ e.fz = false ∧ e.v = vUp e0.v ∧ EntOk (wcf w' b.G) S' e l (b.Pl l) F' ∧ ∀ k, F' k → F k) ∧
      (∀ l l' e F1 e' F2 k, nw l = some (e, F1) → nw l' = some (e', F2) → F1 k → F2 k → l = l') := by
  intro ps
  induction ps with
  | nil =>
    intro vs Vs o F hf hv _ ho
    cases hv with
    | cons _ _ => simp [fits] at hf
    | nil =>
      refine ⟨fun _ => none, ?_, ?_, ?_, ?_, ?_⟩
      · intro l q h; cases h
      · intro l h; exact absurd h (by simp [ioIds])
      · intro h; funext l; simp [outs, updF, takeIds]
      · intro l e F' h; cases h
      · intro l l' e F1 e' F2 k h; cases h
  | cons p ps ih =>
    intro vs Vs o F hf hv hnd ho
    cases hv with
    | nil => simp [fits] at hf
    | @cons v V vs Vs h1 h2 =>
      simp only [fits, Bool.and_eq_true] at hf
      rw [outIds_cons, List.nodup_append] at hnd
      cases p with
      | imm τ =>
        obtain ⟨nw, n1, n2, n3, n4, n5⟩ := ih (F := F) (o := o) hf.2 h2 hnd.2.1 ho
        exact ⟨nw, fun l q h => by simp only [ioIds]; exact n1 l q h, fun l h => n2 l (by simpa only [ioIds] using h), fun h => by simp only [outs, takeIds]; exact n3 h, n4, n5⟩
      | take τ m =>
        obtain ⟨nw, n1, n2, n3, n4, n5⟩ := ih (F := F) (o := o) hf.2 h2 hnd.2.1 ho
        obtain ⟨l0, e0, hid, he0, hz0, hc⟩ := fit_own (fun τ h => by cases h) hf.1
        obtain ⟨τ', m', hp, ⟨w0, rfl⟩, hm, _, _⟩ : ∃ τ' m', Prm.take τ m = .take τ' m' ∧ (∃ w, v = .ref l0 [] w) ∧ e0.mem = false ∧ e0.τ = τ' ∧ e0.m = m' := by
          rcases hc with ⟨_, _, h, _⟩ | ⟨_, _, h, _⟩ | h
          · cases h
          · cases h
          · exact h
        refine ⟨nw, fun l q h => by simp only [ioIds]; exact n1 l q h, fun l h => n2 l (by simpa only [ioIds] using h), fun h => ?_, n4, n5⟩
        simp only [outs, takeIds, updF, n3, AV.ids, List.singleton_append, List.mem_cons]
        funext l
        have hl0 : nw l0 = none := by
          cases hn : nw l0 with
          | none => rfl
          | some q => exact (hnd.2.2 l0 (by simp [outIds, AV.ids]) l0 (ioIds_sub (n1 l0 q hn)) rfl).elim
        by_cases hl : l = l0
        · subst hl; simp [hl0]
        · simp [hl]
      | io τ m mem =>
        obtain ⟨F1, F2, hF, hdis, hA, ho⟩ := ho
        obtain ⟨nw, n1, n2, n3, n4, n5⟩ := ih (F := F2) (o := o.2) hf.2 h2 hnd.2.1 ho
        obtain ⟨l0, e0, hid, he0, hz0, hc⟩ := fit_own (fun τ h => by cases h) hf.1
        have hl0 : nw l0 = none := by
          cases hn : nw l0 with
          | none => rfl
          | some q => exact (hnd.2.2 l0 (by simp [outIds, hid]) l0 (ioIds_sub (n1 l0 q hn)) rfl).elim
        have htake : l0 ∉ takeIds ps vs := fun h => hnd.2.2 l0 (by simp [outIds, hid]) l0 (takeIds_sub h) rfl
        have hτ : e0.τ = τ ∧ e0.m = m ∧ e0.mem = mem := by
          rcases hc with ⟨_, _, h, _, h3, h4, h5⟩ | ⟨_, _, h, _, h3, h4, h5⟩ | ⟨_, _, h, _⟩
          · cases h; exact ⟨h4, h5, h3⟩
          · cases h; exact ⟨h4, h5, h3⟩
          · cases h
        have hver : verOf b.h l0 = e0.v := by simp [verOf, he0]
        have hE : EntOk (wcf w' b.G) S' ⟨τ, o.1, m, mem, false, vUp e0.v⟩ l0 (b.Pl l0) F1 := by
          unfold EntOk
          simp only [Bool.false_eq_true, if_false]
          rcases hc with ⟨_, _, h, ⟨w0, rfl⟩, h3, h4, h5⟩ | ⟨_, _, h, ⟨w0, rfl⟩, h3, h4, h5⟩ | ⟨_, _, h, _⟩
          · cases h
            obtain ⟨vs1, hA⟩ := hA
            obtain ⟨vs0, g1, g2, g3⟩ := av_ref hr h1 he0 h3
            rw [h4] at g3
            have hvs : vs1 = vs0 := valOf_inj hA.val g3
            subst hvs
            refine ⟨F1, ?_, fun k hk e => by simp [base] at e, by simp⟩
            simp only [base, Bool.false_eq_true, if_false]
            refine hA.own.move (fun i hi => ?_) (fun k hk => ⟨(fun e => by cases e), rfl, fun _ => rfl⟩) fun k hk => ⟨hk, fun _ => rfl⟩
            have := g2 i (by rw [h4]; exact hi)
            simp only [wcf_inr, gh_inr, Nat.zero_add] at this ⊢
            exact this
          · cases h
            obtain ⟨bb, oo, F', g1, g2, g3, g4, n, g5, g6⟩ := hA
            obtain ⟨_, hav⟩ := h1
            obtain ⟨_, hav⟩ := hav e0 he0
            obtain ⟨_, _, u, bb', q, hl, hV⟩ := hav (by simp [aliveA, deref])
            simp only [loc, base, h3, if_true, Option.some.injEq, Prod.mk.injEq, Sum.inl.injEq] at hl
            obtain ⟨_, rfl, rfl⟩ := hl
            rw [hV] at g1
            simp only [Value.pointer.injEq, Option.some.injEq, Addr.mk.injEq, and_true] at g1
            obtain ⟨rfl, rfl⟩ := g1
            refine ⟨F', ?_, fun k hk e => ?_, ?_⟩
            · simp only [base, if_true]
              exact g2.move (fun _ _ => rfl) (fun k hk => ⟨fun e => by injection e with e; exact g3 (by rw [e]; exact hk), rfl, fun _ => rfl⟩) fun k hk => ⟨hk, fun _ => rfl⟩
            · simp only [base, if_true, Sum.inl.injEq] at e; exact g3 (by rw [e]; exact hk)
            · simp only [if_true]; exact ⟨g4, n, g5, g6⟩
          · cases h
        refine ⟨fun l => if l = l0 then some (⟨τ, o.1, m, mem, false, vUp e0.v⟩, F1) else nw l, fun l q h => ?_, fun l h => ?_, fun h => ?_, fun l e F' h => ?_, fun l l' e G1 e' G2 k ha hb hk1 hk2 => ?_⟩
        · simp only [ioIds, hid, List.singleton_append, List.mem_cons]
          by_cases hl : l = l0
          · exact .inl hl
          · simp only [hl, if_false] at h; exact .inr (n1 l q h)
        · simp only [ioIds, hid, List.singleton_append, List.mem_cons] at h
          by_cases hl : l = l0
          · exact ⟨_, by simp only [hl, if_true]; rfl⟩
          · obtain ⟨q, hq⟩ := n2 l (h.resolve_left hl)
            exact ⟨q, by simp only [hl, if_false]; exact hq⟩
        · have hout : outs b.h (.io τ m mem :: ps) (v :: vs) o = (l0, some ⟨τ, o.1, m, mem, false, vUp (verOf b.h l0)⟩) :: outs b.h ps vs o.2 := by
            rcases hc with ⟨_, _, h, ⟨w0, rfl⟩, _⟩ | ⟨_, _, h, ⟨w0, rfl⟩, _⟩ | ⟨_, _, h, _⟩
            · rfl
            · rfl
            · cases h
          rw [hout]
          simp only [updF, n3, takeIds]
          funext l
          by_cases hl : l = l0
          · subst hl; simp [hl0, htake, hver]
          · simp [hl]
        · by_cases hl : l = l0
          · subst hl
            simp only [if_true, Option.some.injEq, Prod.mk.injEq] at h
            obtain ⟨rfl, rfl⟩ := h
            exact ⟨e0, he0, hz0, hτ.1.symm, hτ.2.2.symm, rfl, rfl, hE, fun k hk => (hF k).mpr (.inl hk)⟩
          · simp only [hl, if_false] at h
            obtain ⟨e1, a1, a2, a3, a4, a5, a6, a7, a8⟩ := n4 l e F' h
            exact ⟨e1, a1, a2, a3, a4, a5, a6, a7, fun k hk => (hF k).mpr (.inr (a8 k hk))⟩
        · by_cases hl : l = l0 <;> by_cases hl' : l' = l0
          · rw [hl, hl']
          · simp only [hl, if_true, Option.some.injEq, Prod.mk.injEq] at ha
            simp only [hl', if_false] at hb
            obtain ⟨_, _, _, _, _, _, _, _, a8⟩ := n4 l' e' G2 hb
            exact (hdis k (by rw [ha.2]; exact hk1) (a8 k hk2)).elim
          · simp only [hl', if_true, Option.some.injEq, Prod.mk.injEq] at hb
            simp only [hl, if_false] at ha
            obtain ⟨_, _, _, _, _, _, _, _, a8⟩ := n4 l e G1 ha
            exact (hdis k (by rw [hb.2]; exact hk2) (a8 k hk1)).elim
          · simp only [hl, hl', if_false] at ha hb
            exact n5 l l' e G1 e' G2 k ha hb hk1 hk2

/-- Entries are frozen. -/
theorem frz_list : ∀ {fz : Ups} {b : Bd}, b.rl O → (∀ l x, (l, x) ∈ fz → ∃ e, b.h l = some e ∧ x = some { e with fz := true }) → distinct fz = true →
    ∃ b', Mv O b b' ∧ updF fz b.h = b'.h ∧ b'.w = b.w ∧ b'.U = b.U ∧ b'.G = b.G ∧ b'.Pl = b.Pl ∧ (∀ k, b'.S k ↔ b.S k ∨ ∃ l x, (l, x) ∈ fz ∧ b.ft l k) ∧ (∀ l, (∀ x, (l, x) ∉ fz) → b'.ft l = b.ft l) ∧ (∀ l x, (l, x) ∈ fz → ∀ k, ¬ b'.ft l k) := by
  intro fz
  induction fz with
  | nil => intro b hr _ _; exact ⟨b, Mv.refl hr, rfl, rfl, rfl, rfl, rfl, fun k => by simp, fun _ _ => rfl, fun l x h => by simp at h⟩
  | cons q fz ih =>
    intro b hr hfz hd
    obtain ⟨l0, x0⟩ := q
    obtain ⟨hd1, hd2⟩ := distinct_cons hd
    obtain ⟨e0, he0, hx0⟩ := hfz l0 x0 (by simp)
    have hf := Mv.frz hr he0
    obtain ⟨b', m1, m2, m3, m4, m5, m6, m7, m8, m9⟩ := ih (b := { b with h := upd b.h l0 (some { e0 with fz := true }), S := fun x => b.S x ∨ b.ft l0 x, ft := upd b.ft l0 fun _ => False }) hf.rl
      (fun l x h => by
        have hne : l ≠ l0 := hd1 _ h
        obtain ⟨e, he, hx⟩ := hfz l x (by simp [h])
        exact ⟨e, by simp only [upd_ne _ _ hne]; exact he, hx⟩) hd2
    refine ⟨b', hf.trans m1, ?_, m3, m4, m5, m6, fun k => ?_, fun l hl => ?_, fun l x hl k => ?_⟩
    · simp only [updF]; rw [← m2, hx0]; rfl
    · rw [m7]
      simp only
      constructor
      · rintro ((h | h) | ⟨l, x, hl, hk⟩)
        · exact .inl h
        · exact .inr ⟨l0, x0, by simp, h⟩
        · have hne : l ≠ l0 := hd1 _ hl
          simp only [upd_ne _ _ hne] at hk
          exact .inr ⟨l, x, by simp [hl], hk⟩
      · rintro (h | ⟨l, x, hl, hk⟩)
        · exact .inl (.inl h)
        · rcases List.mem_cons.mp hl with h | h
          · injection h with h1 h2; subst h1; exact .inl (.inr hk)
          · have hne : l ≠ l0 := hd1 _ h
            exact .inr ⟨l, x, h, by simp only [upd_ne _ _ hne]; exact hk⟩
    · have hne : l ≠ l0 := fun h => hl x0 (by simp [h])
      rw [m8 l fun x h => hl x (by simp [h])]
      simp only [upd_ne _ _ hne]
    · rcases List.mem_cons.mp hl with h | h
      · injection h with h1 h2; subst h1
        rw [m8 l fun x h => (hd1 _ h) rfl]
        simp
      · exact m9 l x h k

/-- Entries go. -/
theorem del_list : ∀ (ls : List Nat) {b : Bd}, b.rl O → Mv O b { b with h := fun l => if l ∈ ls then none else b.h l } := by
  intro ls
  induction ls with
  | nil => intro b hr; simpa using Mv.refl hr
  | cons l0 ls ih =>
    intro b hr
    have h1 := Mv.del hr l0
    have h2 := ih h1.rl
    have : (fun l => if l ∈ ls then none else upd b.h l0 none l) = fun l => if l ∈ l0 :: ls then none else b.h l := by
      funext l
      by_cases h : l = l0
      · subst h; simp
      · simp [upd_ne _ _ h, h]
    simp only [this] at h2
    exact h1.trans h2
end
end Ev
end

section
namespace Ev
open Go

section
variable {P : Program} {E : Env} {O : Nat → Prop} {b : Bd} {R : Type} {out : R}

theorem Own.cf {w : World} {G G' : Nat → List Value} {S S' : Nat → Prop} {s : Sub} {V : Value} {vs : List Value} {F : Nat → Prop} (h : Own (wcf w G) S s V vs F) (hS : ∀ k, S k → S' k) : Own (wcf w G') S' s V vs F :=
  ⟨h.val, h.len, h.own.move (fun _ _ => rfl) (fun k _ => ⟨(fun e => by cases e), rfl, fun _ => rfl⟩) fun k hk => ⟨hS k hk, fun _ => rfl⟩⟩

theorem Mv.newDet' {s : Sub} {V : Value} {vs : List Value} {F : Nat → Prop} {id v : Nat} (hr : b.rl O) (hid : ¬ b.U id) (ho : Own b.c b.S s V vs F) (hf : Free O b F) :
    ∃ b', Mv O b b' ∧ b'.h = upd b.h id (some ⟨s.τ, s.x, s.m, false, false, v⟩) ∧ b'.w = b.w ∧ b'.U = (fun k => b.U k ∨ k = id) ∧ b'.S = b.S ∧ b'.ft = upd b.ft id F ∧ b'.av (.ref id [] 0) V := by
  have hadd := Mv.add (l := id) (e := ⟨s.τ, s.x, s.m, false, false, v⟩) (vs := vs) (p := (0, 0)) (F := F) hr hid ?_ (fun _ => ho.len) (fun k hk => ⟨(hf k hk).1, (hf k hk).2.1⟩) (fun k e' x he hx hF => (hf x hF).2.2 k e' he hx)
  · refine ⟨_, hadd, rfl, rfl, rfl, rfl, rfl, .inr rfl, fun e he => ?_⟩
    simp only [upd_same, Option.some.injEq] at he
    subst he
    refine ⟨Nat.zero_le _, fun _ => ⟨⟨s.τ, s.x, s.m⟩, rfl, trivial, .inr id, 0, vs, rfl, ho.len, fun i hi => ?_, ho.val⟩⟩
    simp
  · unfold EntOk
    simp only [Bool.false_eq_true, if_false, base]
    exact ⟨F, ho.at (fun i hi => by simp) (fun k hk => ⟨(fun e => by cases e), rfl, fun _ => rfl⟩) fun k hk => ⟨hk, fun _ => rfl⟩, fun k hk e => (by cases e), fun k => Iff.rfl⟩

theorem Avs.mv {b b' : Bd} (h : ∀ av V, b.av av V → b'.av av V) {vs : List AV} {Vs : List Value} (k : Avs b vs Vs) : Avs b' vs Vs := by
  induction k with
  | nil => exact .nil
  | cons h1 _ ih => exact .cons (h _ _ h1) ih

/-- A variable that nobody else knows gets a name. -/
theorem Mv.newPtr {t : Ty} {m : Mask} {x : t.den} {V : Value} {F : Nat → Prop} {id : Nat} (hr : b.rl O) (hid : ¬ b.U id) (hA : ArgAt (wcf b.w nil0) b.S (.io t m true) x V F) (hf : Free O b F) :
    ∃ b', Mv O b b' ∧ b'.h = upd b.h id (some ⟨t, x, m, true, false, 0⟩) ∧ b'.w = b.w ∧ b'.U = (fun k => b.U k ∨ k = id) ∧ b'.S = b.S ∧ b'.ft = upd b.ft id F ∧ b'.av (.adr id [] 0) V := by
  obtain ⟨bb, oo, F', rfl, hown, hnb, hF, n, hn, hle⟩ := hA
  have hadd := Mv.add (l := id) (e := ⟨t, x, m, true, false, 0⟩) (vs := []) (p := (bb, oo)) (F := F) hr hid ?_ (fun h => by cases h) (fun k hk => ⟨(hf k hk).1, (hf k hk).2.1⟩) (fun k e' x he hx hF => (hf x hF).2.2 k e' he hx)
  · refine ⟨_, hadd, rfl, rfl, rfl, rfl, rfl, .inr rfl, fun e he => ?_⟩
    simp only [upd_same, Option.some.injEq] at he
    subst he
    exact ⟨Nat.zero_le _, fun _ => ⟨trivial, .inl rfl, t, bb, oo, by simp [loc, base], rfl⟩⟩
  · unfold EntOk
    simp only [Bool.false_eq_true, if_false, if_true, base]
    refine ⟨F', hown.move (fun _ _ => rfl) (fun k hk => ⟨(fun e => by injection e with e; subst e; exact hnb hk), rfl, fun _ => rfl⟩) fun k hk => ⟨hk, fun _ => rfl⟩, fun k hk e => ?_, hF, n, hn, hle⟩
    injection e with e
    subst e
    exact hnb hk

theorem ress1_eq {id : Nat} {τ : Ty} {m : Mask} {x : τ.den} (hm : isPt τ m = false) : ress1 id τ m x = cond m.isSh (.imm τ x, []) (.ref id [] 0, [(id, some ⟨τ, x, m, false, false, 0⟩)]) := by
  cases m <;> cases τ <;> first | rfl | cases hm

theorem res1_ok {τ : Ty} {m : Mask} {x : τ.den} {V : Value} {F : Nat → Prop} {id : Nat} (hr : b.rl O) (hid : ¬ b.U id) (hR : ResAt (wcf b.w nil0) b.S τ m x V F) (hf : Free O b F) :
    ∃ b', Mv O b b' ∧ updF (ress1 id τ m x).2 b.h = b'.h ∧ b'.w = b.w ∧ b'.S = b.S ∧ (∀ l, b'.U l → b.U l ∨ l = id) ∧ b'.av (ress1 id τ m x).1 V ∧ ∀ F2, Free O b F2 → (∀ k, F k → ¬ F2 k) → Free O b' F2 := by
  by_cases hpt : isPt τ m = true
  · match τ, m, hpt with
    | .ip t, .ar m', _ =>
      obtain ⟨b', h1, h2, h3, h4, h5, h6, h7⟩ := Mv.newPtr hr hid hR hf
      refine ⟨b', h1, by rw [h2]; rfl, h3, h5, fun l hl => by rw [h4] at hl; exact hl, h7, fun F2 hF2 hd k hk => ?_⟩
      obtain ⟨a1, a2, a3⟩ := hF2 k hk
      refine ⟨a1, by rw [h5]; exact a2, fun l e he hfk => ?_⟩
      rw [h2] at he
      rw [h6] at hfk
      by_cases hl : l = id
      · subst hl; simp only [upd_same] at hfk; exact hd k hfk hk
      · simp only [upd_ne _ _ hl] at he hfk; exact a3 l e he hfk
  have hp : isPt τ m = false := by simpa using hpt
  have hR : ∃ vs, Own (wcf b.w nil0) b.S ⟨τ, x, m⟩ V vs F := (ResAt.of hp).mp hR
  have hre : ress1 id τ m x = cond m.isSh (.imm τ x, []) (.ref id [] 0, [(id, some ⟨τ, x, m, false, false, 0⟩)]) := ress1_eq hp
  rw [hre]
  obtain ⟨vs, ho⟩ := hR
  cases hs : m.isSh with
  | true =>
    have hsh := isSh_eq hs
    subst hsh
    refine ⟨b, Mv.refl hr, rfl, rfl, rfl, fun l h => .inl h, .inr ⟨vs, ho.val, ho.len, ?_⟩, fun F2 h _ => h⟩
    exact (OwnAt.sh_iff.mp ho.own).2
  | false =>
    obtain ⟨b', h1, h2, h3, h4, h5, h6, h7⟩ := Mv.newDet' (v := 0) hr hid (ho.cf (G' := b.G) fun _ h => h) hf
    refine ⟨b', h1, by rw [h2]; rfl, h3, h5, fun l hl => by rw [h4] at hl; exact hl, h7, fun F2 hF2 hd k hk => ?_⟩
    obtain ⟨a1, a2, a3⟩ := hF2 k hk
    refine ⟨a1, by rw [h5]; exact a2, fun l e he hfk => ?_⟩
    rw [h2] at he
    rw [h6] at hfk
    by_cases hl : l = id
    · subst hl; simp only [upd_same] at hfk; exact hd k hfk hk
    · simp only [upd_ne _ _ hl] at he hfk; exact a3 l e he hfk

theorem ress_ok : ∀ {rs : List (Ty × Mask)} {x : (chain (rs.map (·.1))).den} {Rs : List Value} {F : Nat → Prop} {id : Nat} {b : Bd}, b.rl O → (∀ l, id ≤ l → l < id + rs.length → ¬ b.U l) → RessAt (wcf b.w nil0) b.S rs x Rs F → Free O b F →
    ∃ b', Mv O b b' ∧ updF (ress id rs x).2 b.h = b'.h ∧ b'.w = b.w ∧ (∀ l, b'.U l → b.U l ∨ (id ≤ l ∧ l < id + rs.length)) ∧ Avs b' (ress id rs x).1 Rs := by
  intro rs
  induction rs with
  | nil =>
    intro x Rs F id b hr hid hR hf
    match Rs, hR with
    | [], hR => exact ⟨b, Mv.refl hr, rfl, rfl, fun l h => .inl h, .nil⟩
  | cons q rs ih =>
    intro x Rs F id b hr hid hR hf
    obtain ⟨τ, m⟩ := q
    cases rs with
    | nil =>
      match Rs, hR with
      | [V], hR =>
        obtain ⟨b', h1, h2, h3, h4, h5, h6, _⟩ := res1_ok hr (hid id (Nat.le_refl _) (by simp)) hR hf
        exact ⟨b', h1, h2, h3, fun l hl => (h5 l hl).elim .inl fun h => .inr ⟨by omega, by simp; omega⟩, .cons h6 .nil⟩
      | [], hR => exact hR.elim
      | _ :: _ :: _, hR => exact hR.elim
    | cons q2 rs =>
      match Rs, hR with
      | [], hR => exact hR.elim
      | V :: Vs, hR =>
        obtain ⟨F1, F2, hF, hd, hR1, hR2⟩ := hR
        obtain ⟨b1, h1, h2, h3, h4, h5, h6, h7⟩ := res1_ok hr (hid id (Nat.le_refl _) (by simp)) hR1 fun k hk => hf k ((hF k).mpr (.inl hk))
        have hf2 := h7 F2 (fun k hk => hf k ((hF k).mpr (.inr hk))) hd
        obtain ⟨b2, g1, g2, g3, g4, g5⟩ := ih (id := id + 1) (x := x.2) h1.rl (fun l hl hl2 hU => by
          rcases h5 l hU with h | h
          · exact hid l (by omega) (by simp at hl2 ⊢; omega) h
          · omega) (by rw [h3, h4]; exact hR2) hf2
        refine ⟨b2, h1.trans g1, ?_, by rw [g3, h3], fun l hl => ?_, ?_⟩
        · rw [← g2, ← h2]
          simp only [ress]
          rw [updF_append]
        · rcases g4 l hl with h | h
          · exact (h5 l h).elim .inl fun h => .inr ⟨by omega, by simp; omega⟩
          · exact .inr ⟨by omega, by simp at h ⊢; omega⟩
        · have h6' := g1.av _ _ h6
          exact .cons h6' g5

/-- A value that holds nothing that is shared. -/
theorem OwnAt.noSh {c : CF} {S S' : Nat → Prop} : ∀ {τ : Ty} {m : Mask} {B : Nat ⊕ Nat} {o : Nat} {x : τ.den} {F : Nat → Prop}, τ.hasSh m = false → OwnAt c S τ m B o x F → OwnAt c S' τ m B o x F := by
  intro τ
  induction τ with
  | sl t ih =>
    intro m B o x F h hI
    cases m with
    | sl m =>
      simp only [Ty.hasSh] at h
      simp only [OwnAt] at hI ⊢
      rcases hI with hI | ⟨nb, q, cap, n, h1, h2, h3, h4, h5, Fs, e, d, dd, hI⟩
      · exact .inl hI
      · exact .inr ⟨nb, q, cap, n, h1, h2, h3, h4, h5, Fs, e, d, dd, fun i hi => ih h (hI i hi)⟩
    | _ => simp [Ty.hasSh] at h
  | pair a d iha ihd =>
    intro m B o x F h hI
    simp only [Ty.hasSh, Bool.or_eq_false_iff] at h
    obtain ⟨F1, F2, e, d, h1, h2⟩ := hI
    exact ⟨F1, F2, e, d, iha h.1 h1, ihd h.2 h2⟩
  | st t ih => intro m B o x F h hI; simp only [Ty.hasSh] at h; simp only [OwnAt] at hI ⊢; exact ih h hI
  | arr n t ih =>
    intro m B o x F h hI
    simp only [Ty.hasSh] at h
    obtain ⟨hn, Fs, e, d, hI⟩ := hI
    exact ⟨hn, Fs, e, d, fun i hi => ih h (hI i hi)⟩
  | ip t _ => intro m B o x F h; simp [Ty.hasSh] at h
  | fn g t _ => intro m B o x F h; simp [Ty.hasSh] at h
  | int k => intro m B o x F h hI; simp only [OwnAt] at hI ⊢; exact ⟨hI.1, hI.2⟩
  | bool => intro m B o x F h hI; simp only [OwnAt] at hI ⊢; exact ⟨hI.1, hI.2⟩
  | str => intro m B o x F h hI; simp only [OwnAt] at hI ⊢; exact ⟨hI.1, hI.2⟩
  | unit => intro m B o x F h hI; simp only [OwnAt] at hI ⊢; exact ⟨hI.1, hI.2⟩

theorem ResAt.noSh {c : CF} {S S' : Nat → Prop} {τ : Ty} {m : Mask} {x : τ.den} {V : Value} {F : Nat → Prop} (hs : hasSh1 τ m = false) (h : ResAt c S τ m x V F) : ResAt c S' τ m x V F := by
  by_cases hpt : isPt τ m = true
  · match τ, m, hpt with
    | .ip t, .ar m', _ =>
      obtain ⟨bb, oo, F', a1, a2, a3⟩ := h
      exact ⟨bb, oo, F', a1, a2.noSh hs, a3⟩
  have hp : isPt τ m = false := by simpa using hpt
  have hsh : τ.hasSh m = false := by
    cases m <;> cases τ <;> first | exact hs | cases hp
  have key : ∀ {S : Nat → Prop}, ResAt c S τ m x V F ↔ ∃ vs, Own c S ⟨τ, x, m⟩ V vs F := ResAt.of hp
  obtain ⟨vs, h⟩ := key.mp h
  exact key.mpr ⟨vs, h.val, h.len, h.own.noSh hsh⟩

theorem RessAt.noSh {c : CF} {S S' : Nat → Prop} : ∀ {rs : List (Ty × Mask)} {x : (chain (rs.map (·.1))).den} {Rs : List Value} {F : Nat → Prop}, hasShR rs = false → RessAt c S rs x Rs F → RessAt c S' rs x Rs F := by
  intro rs
  induction rs with
  | nil => intro x Rs F _ h; cases Rs <;> exact h
  | cons q rs ih =>
    intro x Rs F hs h
    obtain ⟨τ, m⟩ := q
    simp only [hasShR, Bool.or_eq_false_iff] at hs
    cases rs with
    | nil =>
      match Rs, h with
      | [V], h => exact ResAt.noSh hs.1 h
      | [], h => exact h
      | _ :: _ :: _, h => exact h
    | cons q2 rs =>
      match Rs, h with
      | [], h => exact h
      | V :: Vs, h =>
        obtain ⟨F1, F2, hF, hd, h1, h2⟩ := h
        exact ⟨F1, F2, hF, hd, ResAt.noSh hs.1 h1, ih hs.2 h2⟩

theorem OutsAt.noSh {c : CF} {S S' : Nat → Prop} : ∀ {ps : List Prm} {o : (chainU (outsOf ps)).den} {Vs : List Value} {F : Nat → Prop}, hasShP ps = false → OutsAt c S ps o Vs F → OutsAt c S' ps o Vs F := by
  intro ps
  induction ps with
  | nil => intro o Vs F _ h; exact h
  | cons p ps ih =>
    intro o Vs F hs h
    cases Vs with
    | nil => cases p <;> exact h
    | cons V Vs =>
      cases p with
      | imm τ => exact ih (o := o) hs h
      | take τ m => exact ih (o := o) hs h
      | io τ m mem =>
        simp only [hasShP, Bool.or_eq_false_iff] at hs
        obtain ⟨F1, F2, hF, hd, h1, h2⟩ := h
        refine ⟨F1, F2, hF, hd, ?_, ih hs.2 h2⟩
        cases mem with
        | false => obtain ⟨vs, h1⟩ := h1; exact ⟨vs, h1.val, h1.len, h1.own.noSh hs.1⟩
        | true => obtain ⟨bb, oo, F', a1, a2, a3⟩ := h1; exact ⟨bb, oo, F', a1, a2.noSh hs.1, a3⟩
end
end Ev
end

section
namespace Ev
open Go

section
variable {P : Program} {E : Env} {O : Nat → Prop} {b : Bd} {R : Type} {out : R}

theorem distinct_nodup : ∀ {u : Ups}, distinct u = true → (u.map (·.1)).Nodup := by
  intro u
  induction u with
  | nil => intro _; simp
  | cons q u ih =>
    intro h
    obtain ⟨k, e⟩ := q
    obtain ⟨h1, h2⟩ := distinct_cons h
    simp only [List.map_cons, List.nodup_cons, List.mem_map, not_exists, not_and]
    exact ⟨fun q hq => h1 q hq, ih h2⟩

theorem outs_keys : ∀ {ps : List Prm} {vs : List AV} {o : (chainU (outsOf ps)).den}, fits b.h ps vs = true → (outs b.h ps vs o).map (·.1) = outIds ps vs := by
  intro ps
  induction ps with
  | nil => intro vs o hf; simp [outs, outIds]
  | cons p ps ih =>
    intro vs o hf
    cases vs with
    | nil => simp [fits] at hf
    | cons v vs =>
      simp only [fits, Bool.and_eq_true] at hf
      cases p with
      | imm τ => simp only [outs, outIds]; exact ih hf.2
      | take τ m =>
        obtain ⟨l0, e0, hid, he0, hz0, hc⟩ := fit_own (fun τ h => by cases h) hf.1
        rcases hc with ⟨_, _, h, _⟩ | ⟨_, _, h, _⟩ | ⟨_, _, h, ⟨w, rfl⟩, _⟩
        · cases h
        · cases h
        · simp only [outs, outIds, AV.ids, List.map_cons, List.singleton_append, List.cons.injEq, true_and]
          exact ih hf.2
      | io τ m mem =>
        obtain ⟨l0, e0, hid, he0, hz0, hc⟩ := fit_own (fun τ h => by cases h) hf.1
        rcases hc with ⟨_, _, h, ⟨w, rfl⟩, _⟩ | ⟨_, _, h, ⟨w, rfl⟩, _⟩ | ⟨_, _, h, _⟩
        · simp only [outs, outIds, AV.ids, List.map_cons, List.singleton_append, List.cons.injEq, true_and]
          exact ih hf.2
        · simp only [outs, outIds, AV.ids, List.map_cons, List.singleton_append, List.cons.injEq, true_and]
          exact ih hf.2
        · cases h

theorem toFrz_mem : ∀ {ps : List Prm} {vs : List AV} {l : Nat} {x : Option Entry}, (l, x) ∈ toFrz b.h ps vs → l ∈ immIds ps vs ∧ ∃ e, b.h l = some e ∧ e.fz = false ∧ x = some { e with fz := true } := by
  intro ps
  induction ps with
  | nil => intro vs l x h; simp [toFrz] at h
  | cons p ps ih =>
    intro vs l x h
    cases vs with
    | nil => cases p <;> simp [toFrz] at h
    | cons v vs =>
      cases p with
      | take τ m => simp only [toFrz] at h; simp only [immIds]; exact ih h
      | io τ m mem => simp only [toFrz] at h; simp only [immIds]; exact ih h
      | imm τ =>
        simp only [immIds, List.mem_append]
        have key : ∀ l0, (match b.h l0 with | some e => cond (e.fz || (toFrz b.h ps vs).any fun q => Nat.beq q.1 l0) (toFrz b.h ps vs) ((l0, some { e with fz := true }) :: toFrz b.h ps vs) | none => toFrz b.h ps vs) = toFrz b.h (.imm τ :: ps) (v :: vs) → AV.ids [v] = [l0] →
            (l ∈ AV.ids [v] ∨ l ∈ immIds ps vs) ∧ ∃ e, b.h l = some e ∧ e.fz = false ∧ x = some { e with fz := true } := by
          intro l0 hk hid
          rw [← hk] at h
          split at h
          · rename_i e he
            cases hc : (e.fz || (toFrz b.h ps vs).any fun q => Nat.beq q.1 l0) with
            | true => rw [hc, cond_true] at h; exact ⟨.inr (ih h).1, (ih h).2⟩
            | false =>
              rw [hc, cond_false] at h
              rw [Bool.or_eq_false_iff] at hc
              rcases List.mem_cons.mp h with h | h
              · injection h with h1 h2; subst h1; exact ⟨.inl (by rw [hid]; simp), e, he, hc.1, h2⟩
              · exact ⟨.inr (ih h).1, (ih h).2⟩
          · exact ⟨.inr (ih h).1, (ih h).2⟩
        cases v with
        | imm τ x => simp only [toFrz] at h; exact ⟨.inr (ih h).1, (ih h).2⟩
        | ref l0 p w => exact key l0 rfl rfl
        | adr l0 p w => exact key l0 rfl rfl

theorem toFrz_has : ∀ {ps : List Prm} {vs : List AV} {l : Nat} {e : Entry}, l ∈ immIds ps vs → b.h l = some e → e.fz = false → ∃ x, (l, x) ∈ toFrz b.h ps vs := by
  intro ps
  induction ps with
  | nil => intro vs l e h; simp [immIds] at h
  | cons p ps ih =>
    intro vs l e h he hz
    cases vs with
    | nil => cases p <;> simp [immIds] at h
    | cons v vs =>
      cases p with
      | take τ m => simp only [toFrz]; simp only [immIds] at h; exact ih h he hz
      | io τ m mem => simp only [toFrz]; simp only [immIds] at h; exact ih h he hz
      | imm τ =>
        simp only [immIds, List.mem_append] at h
        have key : ∀ l0, (match b.h l0 with | some e => cond (e.fz || (toFrz b.h ps vs).any fun q => Nat.beq q.1 l0) (toFrz b.h ps vs) ((l0, some { e with fz := true }) :: toFrz b.h ps vs) | none => toFrz b.h ps vs) = toFrz b.h (.imm τ :: ps) (v :: vs) → AV.ids [v] = [l0] →
            ∃ x, (l, x) ∈ toFrz b.h (.imm τ :: ps) (v :: vs) := by
          intro l0 hk hid
          rw [← hk]
          rw [hid, List.mem_singleton] at h
          by_cases hl : l = l0
          · subst hl
            rw [he]
            simp only [hz, Bool.false_or]
            cases hc : ((toFrz b.h ps vs).any fun q => Nat.beq q.1 l) with
            | false => exact ⟨_, by rw [cond_false]; exact List.mem_cons_self⟩
            | true =>
              rw [cond_true]
              rw [List.any_eq_true] at hc
              obtain ⟨q, hq, hql⟩ := hc
              exact ⟨q.2, by rw [← Nat.eq_of_beq_eq_true hql]; exact hq⟩
          · obtain ⟨x, hx⟩ := ih (h.resolve_left hl) he hz
            refine ⟨x, ?_⟩
            split
            · rename_i e0 _
              cases (e0.fz || (toFrz b.h ps vs).any fun q => Nat.beq q.1 l0) with
              | true => exact hx
              | false => exact List.mem_cons_of_mem _ hx
            · exact hx
        cases v with
        | imm τ x => simp only [AV.ids, List.not_mem_nil, false_or] at h; simp only [toFrz]; exact ih h he hz
        | ref l0 p w => exact key l0 rfl rfl
        | adr l0 p w => exact key l0 rfl rfl

theorem io_take : ∀ {ps : List Prm} {vs : List AV}, (outIds ps vs).Nodup → ∀ l, l ∈ ioIds ps vs → l ∉ takeIds ps vs := by
  intro ps
  induction ps with
  | nil => intro vs _ l h; simp [ioIds] at h
  | cons p ps ih =>
    intro vs hn l h
    cases vs with
    | nil => cases p <;> simp [ioIds] at h
    | cons v vs =>
      rw [outIds_cons, List.nodup_append] at hn
      cases p with
      | imm τ => simp only [ioIds, takeIds] at h ⊢; exact ih hn.2.1 l h
      | io τ m mem =>
        simp only [ioIds, takeIds, List.mem_append] at h ⊢
        intro ht
        rcases h with h | h
        · exact hn.2.2 l (by simpa [outIds] using h) l (takeIds_sub ht) rfl
        · exact ih hn.2.1 l h ht
      | take τ m =>
        simp only [ioIds, takeIds, List.mem_append] at h ⊢
        intro ht
        rcases ht with ht | ht
        · exact hn.2.2 l (by simpa [outIds] using ht) l (ioIds_sub h) rfl
        · exact ih hn.2.1 l h ht

theorem call_core {bf : Bd} {ps : List Prm} {rs : List (Ty × Mask)} {vs : List AV} {Vs Rs : List Value} {rr : (chain (rs.map (·.1))).den} {o : (chainU (outsOf ps)).den} {w' : World} {Sf F1 F2 : Nat → Prop} {id : Nat} {fz : Ups}
    (hr : b.rl O) (hid : ∀ l, id ≤ l → l < id + rs.length → ¬ b.U l) (hf : fits b.h ps vs = true) (hv : Avs b vs Vs) (hnd : (outIds ps vs).Nodup)
    (p1 : Mv O b bf) (p1w : bf.w = b.w) (p1U : bf.U = b.U) (p1G : bf.G = b.G) (p1P : bf.Pl = b.Pl) (p1h : updF fz b.h = bf.h)
    (p2 : ∀ l, l ∈ outIds ps vs → bf.h l = b.h l) (p3 : ∀ l e, bf.h l = some e → ∃ e0, b.h l = some e0) (p4 : ∀ l k, bf.ft l k → b.ft l k)
    (p5 : Kp O bf.S Sf b.w w') (p5' : ∀ k, w'.heap.size ≤ k → ¬ Sf k) (p6 : RessAt (wcf w' nil0) Sf rs rr Rs F1) (p6' : OutsAt (wcf w' nil0) Sf ps o Vs F2)
    (pb : ∀ k, k < b.w.heap.size → ¬ (∃ l, l ∈ outIds ps vs ∧ b.ft l k) → w'.heap[k]? = b.w.heap[k]?)
    (p7 : ∀ k, F1 k ∨ F2 k → Mine b.w (fun k => ∃ l, l ∈ outIds ps vs ∧ b.ft l k) k ∧ ¬ Sf k) (p7' : ∀ k, F1 k → ¬ F2 k)
    (p8 : ∀ l e k, bf.h l = some e → l ∉ outIds ps vs → bf.ft l k → ¬ Sf k) :
    ∃ b', Mv O b b' ∧ updF (fz ++ (outs b.h ps vs o ++ (ress id rs rr).2)) b.h = b'.h ∧ b'.w = w' ∧ (∀ l, b'.U l → b.U l ∨ (id ≤ l ∧ l < id + rs.length)) ∧ Avs b' (ress id rs rr).1 Rs := by
  have hMO : ∀ k, Mine b.w (fun k => ∃ l, l ∈ outIds ps vs ∧ b.ft l k) k → O k := fun k hk => by
    rcases hk with hk | ⟨l, hl, hk⟩
    · exact (hr.new k hk).1
    · obtain ⟨e, he, _⟩ := outIds_some hf l hl
      exact (hr.own l k (by simp [he]) hk).1
  have hnot : ∀ l e k, bf.h l = some e → l ∉ outIds ps vs → bf.ft l k → ¬ Mine b.w (fun k => ∃ l, l ∈ outIds ps vs ∧ b.ft l k) k := fun l e k he hl hk hM => by
    obtain ⟨e0, he0⟩ := p3 l e he
    have hk := p4 l k hk
    rcases hM with hM | ⟨l2, hl2, hk2⟩
    · have := (hr.ent l e0 he0).lt hk; omega
    · obtain ⟨e2, he2, _⟩ := outIds_some hf l2 hl2
      exact hl (hr.dis l l2 k (by simp [he0]) (by simp [he2]) hk hk2 ▸ hl2)
  obtain ⟨nw, n1, n2, n3, n4, n5⟩ := outs_nw hr hf hv hnd p6'
  have hdl := del_list (takeIds ps vs) p1.rl
  have hnwn : ∀ l, l ∈ takeIds ps vs → nw l = none := fun l hl => by
    cases hn : nw l with
    | none => rfl
    | some q => exact (io_take hnd l (n1 l q hn) hl).elim
  have hout : ∀ l e, (if l ∈ takeIds ps vs then none else bf.h l) = some e → nw l = none → bf.h l = some e ∧ l ∉ outIds ps vs := fun l e he hn => by
    by_cases ht : l ∈ takeIds ps vs
    · rw [if_pos ht] at he; cases he
    · rw [if_neg ht] at he
      refine ⟨he, fun h => ?_⟩
      rcases mem_outIds.mp h with h | h
      · obtain ⟨q, hq⟩ := n2 l h; rw [hn] at hq; cases hq
      · exact ht h
  have hturn := Mv.turn hdl.rl (w' := w') (S' := Sf) nw (by simpa only [p1w] using p5) p5'
    (fun l e F' hn => by
      obtain ⟨e0, a1, a2, a3, a4, a5, a6, a7, a8⟩ := n4 l e F' hn
      have hio := n1 l _ hn
      refine ⟨e0, ?_, a2, a3, a4, a5, a6, ?_, fun k hk => ⟨hMO k (p7 k (.inr (a8 k hk))).1, (p7 k (.inr (a8 k hk))).2⟩⟩
      · simp only [if_neg (io_take hnd l hio)]
        rw [p2 l (ioIds_sub hio)]; exact a1
      · simp only [p1G, p1P]; exact a7)
    n5
    (fun l e F' l' e' k hn hn' he' hk hk' => by
      obtain ⟨_, _, _, _, _, _, _, _, a8⟩ := n4 l e F' hn
      obtain ⟨q1, q2⟩ := hout l' e' he' hn'
      exact hnot l' e' k q1 q2 hk' (p7 k (.inr (a8 k hk))).1)
    (fun l e k he hn hk => by
      obtain ⟨q1, q2⟩ := hout l e he hn
      obtain ⟨e0, he0⟩ := p3 l e q1
      have hlt := (hr.ent l e0 he0).lt (p4 l k hk)
      refine ⟨?_, p8 l e k q1 q2 hk⟩
      simp only [p1w]
      exact pb k hlt fun h => hnot l e k q1 q2 hk (.inr h))
  obtain ⟨b', r1, r2, r3, r4, r5⟩ := ress_ok (id := id) (x := rr) hturn.rl (fun l hl hl2 => by simp only [p1U]; exact hid l hl hl2) p6 (fun k hk => ⟨hMO k (p7 k (.inl hk)).1, (p7 k (.inl hk)).2, fun l e he hfk => by
    cases hn : nw l with
    | some q =>
      simp only [hn] at hfk
      obtain ⟨_, _, _, _, _, _, _, _, a8⟩ := n4 l q.1 q.2 hn
      exact p7' k hk (a8 k hfk)
    | none =>
      simp only [hn] at he hfk
      obtain ⟨q1, q2⟩ := hout l e he hn
      exact hnot l e k q1 q2 hfk (p7 k (.inl hk)).1⟩)
  refine ⟨b', ((p1.trans hdl).trans hturn).trans r1, ?_, r3, fun l hl => by simpa only [p1U] using r4 l hl, r5⟩
  rw [updF_append, updF_append, p1h, n3, ← r2]
  congr 1
  funext l
  by_cases ht : l ∈ takeIds ps vs
  · simp [ht, hnwn l ht]
  · simp only [if_neg ht]
    all_goals (cases nw l <;> rfl)
end
end Ev
end

section
namespace Ev
open Go

section
variable {P : Program} {E : Env} {O : Nat → Prop} {b : Bd} {R : Type} {out : R}

theorem findFM_some {look : Nat → Option Entry} {g : Nat} {vs : List AV} {m : FM} : ∀ {Φ : List FM}, findFM look g vs Φ = some m → m ∈ Φ ∧ m.g = g ∧ fits look m.ps vs = true := by
  intro Φ
  induction Φ with
  | nil => intro h; simp [findFM] at h
  | cons q r ih =>
    intro h
    simp only [findFM] at h
    cases hc : (Nat.beq q.g g && fits look q.ps vs) with
    | true =>
      rw [hc, cond_true] at h
      injection h with h; subst h
      rw [Bool.and_eq_true] at hc
      exact ⟨by simp, Nat.eq_of_beq_eq_true hc.1, hc.2⟩
    | false =>
      rw [hc, cond_false] at h
      exact ⟨List.mem_cons_of_mem _ (ih h).1, (ih h).2⟩

theorem caps_avs : ∀ {u : Ty} {x : u.den} {cs : List Value}, capsOk u = true → ImmV b.c b.S u cs x → Avs b (unch u x) cs := by
  intro u
  have one : ∀ {t : Ty} {x : (Ty.ip t).den} {V : Value} {k : Nat} {cs : List Value}, cs[k]? = some V → ImmAt (gh b.c cs) b.S (.ip t) (.inr 0) k x → b.av (.imm (.ip t) x) V := by
    intro t x V k cs hV hI
    refine .inr ⟨[V], by simp [valOf, Ty.agg], rfl, hI.move (fun i hi => ?_) fun k hk => ⟨hk, fun _ => rfl⟩⟩
    simp only [Ty.size, Nat.lt_one_iff] at hi
    subst hi
    simp [hV]
  have main : ∀ (u : Ty) (x : u.den) (cs r : List Value) (k : Nat), capsOk u = true → r.length = u.size → (∀ i, r[i]? = cs[k + i]?) → ImmAt (gh b.c cs) b.S u (.inr 0) k x → Avs b (unch u x) r := by
    intro u
    induction u with
    | unit => intro x cs r k _ hn hr hI; have : r = [] := List.length_eq_zero_iff.mp hn; subst this; exact .nil
    | ip t _ =>
      intro x cs r k _ hn hr hI
      match r, hn with
      | [V], _ => exact .cons (one (by have := hr 0; simpa using this.symm) hI) .nil
    | pair p q ihp ihq =>
      intro x cs r k hc hn hr hI
      cases p with
      | ip t =>
        simp only [capsOk] at hc
        simp only [Ty.size] at hn
        match r, hn with
        | [], hn => simp at hn; omega
        | V :: r, hn =>
          refine .cons (one (by have := hr 0; simpa using this.symm) hI.1) (ihq x.2 cs r (k + 1) hc (by simp at hn; omega) (fun i => ?_) hI.2)
          have := hr (i + 1)
          simp only [List.getElem?_cons_succ] at this
          rw [this]; congr 1; omega
      | _ => simp [capsOk] at hc
    | _ => intro x cs r k hc; simp [capsOk] at hc
  intro x cs hc h
  exact main u x cs cs 0 hc h.1 (fun i => by simp) h.2

theorem callG_ok {o : Oper} {a : Act} {g id : Nat} {vs : List AV} {Vs : List Value} {K : Kt R} (hΦ : ∀ m, m ∈ E.Φ → Sound P m) (hr : b.rl O) (hid16 : ∀ l, id ≤ l → l < id + 16 → ¬ b.U l) (hv : Avs b vs Vs)
    (hrun : ∀ fn, P.funcs[g]? = some fn → fn.name ≠ "runtime.NumGoroutine" → fn.body.isNone = false → (execOp a.eval o).run P b.w = .ok (.enter g Vs.toArray) b.w) (e : callG b.h id E.Φ g vs K = some out) :
    ∃ avs ups, K avs ups = some out ∧ OpOk P o a b.U id b.h O b.S b.w b.G b.Pl avs ups := by
  unfold callG at e
  split at e
  · cases e
  · rename_i m hm
    obtain ⟨hmem, hg, hf⟩ := findFM_some hm
    subst hg
    have hs := hΦ m hmem
    -- the arguments
    let F : Nat → Prop := fun k => ∃ l, l ∈ outIds m.ps vs ∧ b.ft l k
    let S1 : Nat → Prop := fun k => b.S k ∨ ∃ l, l ∈ immIds m.ps vs ∧ (b.h l).isSome = true ∧ b.ft l k
    have key : ∃ x r, m.f x = some r ∧ (∀ (q : (outIds m.ps vs).Nodup), ArgsAt (wcf b.w nil0) S1 m.ps x Vs F) ∧
        (match ress id m.rs (split (m.rs.map (·.1)) (outsOf m.ps) r).1, toFrz b.h m.ps vs, outs b.h m.ps vs (split (m.rs.map (·.1)) (outsOf m.ps) r).2 with
          | (avs, new), fz, ups => cond (distinct (fz ++ ups) && Nat.ble m.rs.length 16) (K avs (cond (hasShR m.rs || hasShP m.ps) fz [] ++ (ups ++ new))) none) = some out := by
      by_cases hnd : (outIds m.ps vs).Nodup
      · obtain ⟨x, e, hx⟩ := args_ok (S1 := S1) hr (fun k h => .inl h) hf hv e (fun l k hl hs hk => .inr ⟨l, hl, hs, hk⟩) hnd
        rw [Option.bind_eq_some_iff] at e
        obtain ⟨r, hr1, e⟩ := e
        exact ⟨x, r, hr1, fun _ => hx, e⟩
      · have : ∀ {ps : List Prm} {vs : List AV} {K : (chain (ps.map Prm.ty)).den → Option R}, args b.h ps vs K = some out → ∃ x, K x = some out := by
          intro ps
          have one : ∀ {p : Prm} {v : AV} {K : p.ty.den → Option R}, arg1 b.h p v K = some out → ∃ x, K x = some out := by
            intro p v K e
            unfold arg1 at e
            split at e <;> (try cases e; done) <;> (split at e <;> (try cases e; done) <;> (split at e <;> first | (cases e; done) | exact ⟨_, e⟩))
          induction ps with
          | nil => intro vs K e; cases vs with
            | nil => exact ⟨_, e⟩
            | cons _ _ => simp [args] at e
          | cons p ps ih =>
            intro vs K e
            cases vs with
            | nil => cases ps <;> simp [args] at e
            | cons v vs =>
              cases ps with
              | nil => cases vs with
                | nil => exact one e
                | cons _ _ => simp [args] at e
              | cons q ps =>
                simp only [args] at e
                obtain ⟨x, e⟩ := one e
                obtain ⟨y, e⟩ := ih e
                exact ⟨(x, y), e⟩
        obtain ⟨x, e⟩ := this e
        rw [Option.bind_eq_some_iff] at e
        obtain ⟨r, hr1, e⟩ := e
        exact ⟨x, r, hr1, fun h => (hnd h).elim, e⟩
    obtain ⟨x, r, hfx, hargs, e⟩ := key
    obtain ⟨hd, e⟩ := cond_some e
    rw [Bool.and_eq_true] at hd
    obtain ⟨hd, hlen⟩ := hd
    have hid : ∀ l, id ≤ l → l < id + m.rs.length → ¬ b.U l := fun l h1 h2 => hid16 l h1 (by have := Nat.le_of_ble_eq_true hlen; omega)
    obtain ⟨hd1, hd2, hd3⟩ := distinct_append hd
    have hnd : (outIds m.ps vs).Nodup := by rw [← outs_keys (o := (split (m.rs.map (·.1)) (outsOf m.ps) r).2) hf]; exact distinct_nodup hd2
    have hargs := hargs hnd
    have hdi : ∀ l, l ∈ immIds m.ps vs → l ∉ outIds m.ps vs := fun l hl ho => by
      obtain ⟨e0, he0, hz0⟩ := outIds_some hf l ho
      obtain ⟨y, hy⟩ := toFrz_has hl he0 hz0
      rw [← outs_keys (o := (split (m.rs.map (·.1)) (outsOf m.ps) r).2) hf, List.mem_map] at ho
      obtain ⟨q, hq, hql⟩ := ho
      exact hd3 (l, y) q hy hq hql
    have hFO : ∀ k, F k → O k ∧ ¬ b.S k := fun k ⟨l, hl, hk⟩ => by
      obtain ⟨e0, he0, _⟩ := outIds_some hf l hl
      exact hr.own l k (by simp [he0]) hk
    have hFS : ∀ k, F k → ¬ S1 k := fun k hk => by
      rintro (h | ⟨l, hl, hs, hk'⟩)
      · exact (hFO k hk).2 h
      · obtain ⟨l2, hl2, hk2⟩ := hk
        obtain ⟨e0, he0, _⟩ := outIds_some hf l2 hl2
        exact hdi l hl (hr.dis l l2 k hs (by simp [he0]) hk' hk2 ▸ hl2)
    have hS1 : ∀ k, b.w.heap.size ≤ k → ¬ S1 k := fun k hk => by
      rintro (h | ⟨l, hl, hs, hk'⟩)
      · exact (hr.new k hk).2 h
      · obtain ⟨e0, he0⟩ := Option.isSome_iff_exists.mp hs
        have := (hr.ent l e0 he0).lt hk'; omega
    have hMO : ∀ k, Mine b.w F k → O k := fun k hk => hk.elim (fun h => (hr.new k h).1) fun h => (hFO k h).1
    have hcall := hs.calls b.w S1 F Vs x r hargs hS1 hFS hfx
    obtain ⟨fn, c1, c2, c3⟩ := hs.code
    refine ⟨_, _, e, fun next Q hn => ?_⟩
    unfold Oper.wp
    rw [hrun fn c1 c2 c3, Oper.upon_enter]
    refine hcall.mono fun ex w' hpost => ?_
    cases ex with
    | panicked _ => exact hpost.elim
    | outgrown => exact hpost.elim
    | returned v =>
      obtain ⟨S', F1, F2, Rs, hp⟩ := hpost
      have fin : ∃ b', Mv O b b' ∧ updF (cond (hasShR m.rs || hasShP m.ps) (toFrz b.h m.ps vs) [] ++ (outs b.h m.ps vs (split (m.rs.map (·.1)) (outsOf m.ps) r).2 ++ (ress id m.rs (split (m.rs.map (·.1)) (outsOf m.ps) r).1).2)) b.h = b'.h ∧ b'.w = w' ∧
          (∀ l, b'.U l → b.U l ∨ (id ≤ l ∧ l < id + m.rs.length)) ∧ Avs b' (ress id m.rs (split (m.rs.map (·.1)) (outsOf m.ps) r).1).1 Rs := by
        have hpb : ∀ k, k < b.w.heap.size → ¬ F k → w'.heap[k]? = b.w.heap[k]? := fun k hk hF => hp.kp.block k hk fun h => h.elim (fun h => by omega) hF
        cases hsh : (hasShR m.rs || hasShP m.ps) with
        | true =>
          rw [cond_true]
          obtain ⟨bf, f1, f2, f3, f4, f5, f6, f7, f8, f9⟩ := frz_list (fz := toFrz b.h m.ps vs) hr (fun l y hl => by
            obtain ⟨_, e0, he0, _, hy⟩ := toFrz_mem hl; exact ⟨e0, he0, hy⟩) hd1
          have hfS : ∀ k, bf.S k ↔ S1 k := fun k => by
            rw [f7]
            constructor
            · rintro (h | ⟨l, y, hl, hk⟩)
              · exact .inl h
              · obtain ⟨h1, e0, he0, _⟩ := toFrz_mem hl
                exact .inr ⟨l, h1, by simp [he0], hk⟩
            · rintro (h | ⟨l, hl, hs, hk⟩)
              · exact .inl h
              · obtain ⟨e0, he0⟩ := Option.isSome_iff_exists.mp hs
                cases hz : e0.fz with
                | true =>
                  have hE := hr.ent l e0 he0
                  unfold EntOk at hE
                  rw [if_pos hz] at hE
                  exact (hE.1 k hk).elim
                | false =>
                  obtain ⟨y, hy⟩ := toFrz_has hl he0 hz
                  exact .inr ⟨l, y, hy, hk⟩
          have hnfz : ∀ l, l ∈ outIds m.ps vs → ∀ y, (l, y) ∉ toFrz b.h m.ps vs := fun l hl y hy => hdi l (toFrz_mem hy).1 hl
          have hft : ∀ l k, bf.ft l k → b.ft l k := fun l k hk => by
            by_cases hin : ∃ y, (l, y) ∈ toFrz b.h m.ps vs
            · obtain ⟨y, hy⟩ := hin; exact (f9 l y hy k hk).elim
            · rw [f8 l fun y hy => hin ⟨y, hy⟩] at hk; exact hk
          have hbh : ∀ l, (∀ y, (l, y) ∉ toFrz b.h m.ps vs) → bf.h l = b.h l := fun l hl => by
            rw [← f2]; exact updF_other fun q hq hql => hl q.2 (by rw [← hql]; exact hq)
          refine call_core hr hid hf hv hnd f1 f3 f4 f5 f6 f2 (fun l hl => hbh l (hnfz l hl)) (fun l e0 he0 => ?_) hft ?_ hp.new hp.res hp.outs hpb hp.own hp.dis (fun l e0 k he0 hl hk hS => ?_)
          · by_cases hin : ∃ y, (l, y) ∈ toFrz b.h m.ps vs
            · obtain ⟨y, hy⟩ := hin
              obtain ⟨_, e1, he1, _⟩ := toFrz_mem hy
              exact ⟨e1, he1⟩
            · rw [hbh l fun y hy => hin ⟨y, hy⟩] at he0; exact ⟨e0, he0⟩
          · exact ⟨hp.kp.os, hp.kp.tape, hp.kp.output, hp.kp.size, fun k hk hO => hp.kp.block k hk fun h => hO (hMO k h), fun k hk => hp.kp.sh k ((hfS k).mp hk), fun k hk => (hp.kp.up k hk).elim (fun h => .inl ((hfS k).mpr h)) fun h => .inr (hMO k h)⟩
          · have hkb := hft l k hk
            have hown := f1.rl.own l k (by simp [he0]) hk
            rcases hp.kp.up k hS with h | h
            · exact hown.2 ((hfS k).mpr h)
            · have hsome : ∃ e1, b.h l = some e1 := by
                by_cases hin : ∃ y, (l, y) ∈ toFrz b.h m.ps vs
                · obtain ⟨y, hy⟩ := hin
                  obtain ⟨_, e1, he1, _⟩ := toFrz_mem hy
                  exact ⟨e1, he1⟩
                · rw [hbh l fun y hy => hin ⟨y, hy⟩] at he0; exact ⟨e0, he0⟩
              obtain ⟨e1, he1⟩ := hsome
              rcases h with h | ⟨l2, hl2, hk2⟩
              · have := (hr.ent l e1 he1).lt hkb; omega
              · obtain ⟨e2, he2, _⟩ := outIds_some hf l2 hl2
                exact hl (hr.dis l l2 k (by simp [he1]) (by simp [he2]) hkb hk2 ▸ hl2)
        | false =>
          rw [cond_false]
          rw [Bool.or_eq_false_iff] at hsh
          refine call_core (bf := b) (Sf := b.S) hr hid hf hv hnd (Mv.refl hr) rfl rfl rfl rfl rfl (fun _ _ => rfl) (fun l e0 he0 => ⟨e0, he0⟩) (fun _ _ h => h) ?_ (fun k hk h => ?_) (hp.res.noSh hsh.1) (hp.outs.noSh hsh.2) hpb
            (fun k hk => ⟨(hp.own k hk).1, fun hS => ?_⟩) hp.dis (fun l e0 k he0 hl hk => (hr.own l k (by simp [he0]) hk).2)
          · exact ⟨hp.kp.os, hp.kp.tape, hp.kp.output, hp.kp.size, fun k hk hO => hp.kp.block k hk fun h => hO (hMO k h), fun k hk => ⟨hk, (hp.kp.sh k (.inl hk)).2⟩, fun k hk => .inl hk⟩
          · exact (hr.new k (Nat.le_trans hp.kp.size hk)).2 h
          · rcases (hp.own k hk).1 with h | h
            · exact (hr.new k h).2 hS
            · exact (hFO k h).2 hS
      obtain ⟨b', g1, g2, g3, g4, g5⟩ := fin
      have hU : ∀ l, b'.U l → Us b.U id l := fun l hl => (g4 l hl).imp (fun h => h) fun h => ⟨h.1, by have := Nat.le_of_ble_eq_true hlen; omega⟩
      subst g3
      refine hn v b'.w b'.S b'.G b'.Pl b'.ft ⟨by rw [g2]; exact g1.rl.mono hU, fun av V h => by rw [g2]; exact (g1.av av V h).mono hU, ?_, g1.kp⟩
      rw [hp.ret, g2]
      refine SlOk.map (U := b'.U) (h := b'.h) (c := b'.c) (S := b'.S) (Pl := b'.Pl) (fun _ _ h => h.mono hU) ?_
      generalize (ress id m.rs (split (m.rs.map (·.1)) (outsOf m.ps) r).1).1 = avs at g5
      obtain ⟨hl, hget⟩ := g5.get
      match avs, Rs, hl with
      | [], _, _ => trivial
      | [av], [V], _ => exact hget 0 av V rfl rfl
      | a1 :: a2 :: avs, V1 :: V2 :: Vs', hl => exact ⟨_, rfl, hl, fun i x X h1 h2 => hget i x X h1 h2⟩
end
end Ev
end

section
namespace Ev
open Go

section
variable {P : Program} {E : Env} {O : Nat → Prop} {b : Bd} {R : Type} {out : R}

theorem Avs.append {vs vs' : List AV} {Vs Vs' : List Value} (h : Avs b vs Vs) (h' : Avs b vs' Vs') : Avs b (vs ++ vs') (Vs ++ Vs') := by
  induction h with
  | nil => exact h'
  | cons h1 _ ih => exact .cons h1 ih

theorem move_ok {o : Oper} {a : Act} {t : List (Nat × List AV)} {reg i id : Nat} {K : Kt R} {x : Operand} (h : At P E O b a t id) (ho : o.op = .move x ∨ o.op = .assign x)
    (e : moveV E reg i id t o.type x K = some out) : ∃ avs ups, K avs ups = some out ∧ OpOk P o a b.U id b.h O b.S b.w b.G b.Pl avs ups := by
  unfold moveV at e
  split at e
  · split at e
    · exact ⟨_, _, e, nil_ok (c := 0) ho rfl h.rl (h.id id (Nat.le_refl _) (by omega))⟩
    · cases e
  · refine ⟨_, _, e, OpOk.value (v := a.eval x) h.rl ?_ (opd_ok h.sl x)⟩
    rcases ho with ho | ho <;> simp [execOp, ho]

theorem evOp_ok {o : Oper} {a : Act} {t : List (Nat × List AV)} {reg i id : Nat} {K : Kt R} (hΦ : ∀ m, m ∈ E.Φ → Sound P m) (h : At P E O b a t id) (e : evOp E reg i id t b.h o K = some out) :
    ∃ avs ups, K avs ups = some out ∧ OpOk P o a b.U id b.h O b.S b.w b.G b.Pl avs ups := by
  have hid := h.id id (Nat.le_refl _) (by omega)
  unfold evOp at e
  split at e
  · rename_i x ho; exact move_ok h (.inl ho) e
  · rename_i x ho; exact move_ok h (.inr ho) e
  · rename_i c x y ho
    split at e
    · rename_i cb hc
      have hcv := av_bool.mp (h.op1 hc)
      cases cb with
      | true =>
        rw [cond_true] at e
        exact ⟨_, _, e, OpOk.value (v := a.eval x) h.rl (by simp [execOp, ho, hcv, asBool]) (opd_ok h.sl x)⟩
      | false =>
        rw [cond_false] at e
        exact ⟨_, _, e, OpOk.value (v := a.eval y) h.rl (by simp [execOp, ho, hcv, asBool]) (opd_ok h.sl y)⟩
    · cases e
  · rename_i op T x y q ho
    split at e
    · rename_i av bv hs
      obtain ⟨hx, hy⟩ := sing_two hs
      obtain ⟨r, v, e, hrun, hv⟩ := bin_ok (P := P) (p := x) (q := y) h.T (h.op1 hx) (h.op1 hy) e
      refine ⟨_, _, e, OpOk.value (v := v) h.rl ?_ hv⟩
      simp only [execOp, ho, Sem.run_bind] at hrun ⊢
      rw [hrun]; rfl
    · cases e
  · rename_i op T x ho
    split at e
    · rename_i av hx
      obtain ⟨r, v, e, hrun, hv⟩ := una_ok (P := P) (h.op1 hx) e
      refine ⟨_, _, e, OpOk.value (v := v) h.rl ?_ hv⟩
      simp only [execOp, ho, Sem.run_bind, hrun]; rfl
    · cases e
  · rename_i s d x ho
    rcases cond_or e with ⟨hc, e⟩ | ⟨_, e⟩
    · obtain ⟨hc1, hc2⟩ := Bool.and_eq_true_iff.mp hc
      split at e
      · rename_i av hx
        obtain ⟨avs, V, e, hrun, hv⟩ := bytesV_ok h.T h.rl (h.op1 hx) hc1 hc2 e
        exact ⟨_, _, e, OpOk.value (v := V) h.rl (by simp only [execOp, ho, Sem.run_bind, hrun]; rfl) hv⟩
      · cases e
    split at e
    · rename_i k n ti k' bs sz ag τ hx hs hd
      have hX := av_int.mp (h.op1 hx)
      obtain ⟨d1, h1, _⟩ := (h.T _ _ hs).under
      obtain ⟨d2, h2, hk, _⟩ := (h.T _ _ hd).under
      cases hk
      refine ⟨_, _, e, OpOk.value (v := .int k' (k'.wrap n)) h.rl ?_ ((av_int (U := b.U) (h := b.h) (Pl := b.Pl)).mpr rfl)⟩
      cases d1 <;> simp [execOp, ho, hX, convert, run_underlying' h1, run_underlying' h2, Conv.intToInt]
    · rename_i n ti bs sz ag τ hx hs hd
      have hX := av_str.mp (h.op1 hx)
      obtain ⟨d1, h1, _⟩ := (h.T _ _ hs).under
      obtain ⟨d2, h2, hk, _⟩ := (h.T _ _ hd).under
      cases hk
      refine ⟨_, _, e, OpOk.value (v := .string n) h.rl ?_ ((av_str (U := b.U) (h := b.h) (Pl := b.Pl)).mpr rfl)⟩
      cases d1 <;> simp [execOp, ho, hX, convert, run_underlying' h1, run_underlying' h2]
    · cases e
  · rename_i x ho
    split at e
    · rename_i u xx hx
      have hv := h.op1 hx
      obtain ⟨bb, q, hX, _⟩ := av_ip.mp hv
      refine ⟨_, _, e, OpOk.value (v := a.eval x) h.rl ?_ hv⟩
      simp [execOp, ho, hX]
    · rename_i g u xx hx
      have hv := h.op1 hx
      obtain ⟨cs, hX, _⟩ := av_fn.mp hv
      refine ⟨_, _, e, OpOk.value (v := a.eval x) h.rl ?_ hv⟩
      simp [execOp, ho, hX]
    · rename_i l p v hx
      have hv := h.op1 hx
      split at e
      · rename_i u hu
        have hX : ∃ A, a.eval x = .pointer (some A) := by
          obtain ⟨_, hv⟩ := hv
          unfold atA at hu
          split at hu
          · rename_i en hen
            obtain ⟨_, hv⟩ := hv en hen
            obtain ⟨hal, _⟩ := cond_some hu
            obtain ⟨_, _, u', bb, q, _, hV⟩ := hv hal
            exact ⟨_, hV⟩
          · cases hu
        obtain ⟨A, hX⟩ := hX
        refine ⟨_, _, e, OpOk.value (v := a.eval x) h.rl ?_ hv⟩
        simp [execOp, ho, hX]
      · cases e
    · cases e
  · rename_i T x n ho
    split at e
    · rename_i av k m hs
      obtain ⟨hx, hn⟩ := sing_two hs
      obtain ⟨avs, V, e, hrun, hv⟩ := idxAddr_ok (P := P) (k := k) h.T h.rl (h.opT hx) e
      refine ⟨_, _, e, OpOk.value (v := V) h.rl ?_ hv⟩
      have hN := av_int.mp (h.op1 hn)
      simp only [execOp, ho, Sem.run_bind, hN, hrun]; rfl
    · cases e
  · rename_i T x n ho
    split at e
    · rename_i s k m hs
      obtain ⟨hx, hn⟩ := sing_two hs
      obtain ⟨h1, e⟩ := cond_some e
      obtain ⟨h2, h3, e⟩ := inRange_some e
      have hX := av_str.mp (h.op1 hx)
      have hN := av_int.mp (h.op1 hn)
      refine ⟨_, _, e, OpOk.value h.rl ?_ ((av_int (U := b.U) (h := b.h) (Pl := b.Pl)).mpr rfl)⟩
      simp only [execOp, ho, Sem.run_bind, hN, hX, index_str_ok (P := P) (isStr_u h.T h1) h2 h3]; rfl
    · rename_i len u xs k m hs
      obtain ⟨hx, hn⟩ := sing_two hs
      obtain ⟨h1, e⟩ := cond_some e
      obtain ⟨h2, h3, e⟩ := inRange_some e
      have hN := av_int.mp (h.op1 hn)
      obtain ⟨V, hrun, hv⟩ := index_arr_ok (P := P) (k := k) h.T h1 h2 h3 (h.op1 hx)
      refine ⟨_, _, e, OpOk.value (v := V) h.rl ?_ hv⟩
      simp only [execOp, ho, Sem.run_bind, hN, hrun]; rfl
    · cases e
  · rename_i T x k ho
    split at e
    · rename_i av hx
      obtain ⟨avs, V, e, hrun, hv⟩ := fAddr_ok (P := P) h.T h.rl (h.op1 hx) e
      refine ⟨_, _, e, OpOk.value (v := V) h.rl ?_ hv⟩
      simp only [execOp, ho, Sem.run_bind, hrun]; rfl
    · cases e
  · rename_i T x k ho
    split at e
    · rename_i av hx
      obtain ⟨avs, V, e, hrun, hv⟩ := fVal_ok (P := P) h.T h.rl (h.op1 hx) e
      refine ⟨_, _, e, OpOk.value (v := V) h.rl ?_ hv⟩
      simp only [execOp, ho, Sem.run_bind, hrun]; rfl
    · cases e
  · rename_i T x ho
    split at e
    · rename_i av hx
      obtain ⟨avs, V, e, hrun, hv⟩ := loadA_ok (P := P) h.T h.rl (h.op1 hx) e
      refine ⟨_, _, e, OpOk.value (v := V) h.rl ?_ hv⟩
      simp only [execOp, ho, Sem.run_bind, hrun]; rfl
    · cases e
  · rename_i T x y ho
    split at e
    · rename_i av bv hs
      obtain ⟨hx, hy⟩ := sing_two hs
      exact store_ok ho h.T h.rl (h.op1 hx) (h.opT hy) e
    · cases e
  · rename_i T ho
    split at e
    · rename_i u hu
      obtain ⟨hV, e⟩ := cond_some e
      exact alloc_ok ho h.T h.rl hid (by simp only [hu, hV, cond_true]; exact e)
    · cases e
  · rename_i T x ho
    split at e
    · rename_i v hx
      exact box_ok ho h.rl hid (h.opT hx) e
    · cases e
  · rename_i T qs ho
    exact build_ok ho h.T h.rl hid (h.parts qs.toList) e
  · rename_i T n qs ho
    exact buildSl_ok ho h.T h.rl hid (h.parts qs.toList) e
  · rename_i T l c ho
    split at e
    · rename_i lv cv hs
      obtain ⟨hx, hy⟩ := sing_two hs
      exact makeSl_ok ho h.T h.rl hid (h.op1 hx) (h.op1 hy) e
    · cases e
  · rename_i T x lo hi mx ho
    unfold sliceOp at e
    split at e
    · split at e
      · rename_i av lv hv hx hl hh
        exact sliceV_ok ho h.T h.rl hid (h.op1 hx) (h.opO hl) (h.opO hh) e
      · cases e
    · split at e
      · split at e
        · rename_i av k hn k' mn hx hh hm
          obtain ⟨c1, e⟩ := cond_some e
          obtain ⟨c2, e⟩ := cond_some e
          have c1 := of_decide_eq_true c1
          have c2 := of_decide_eq_true c2
          subst c1
          subst c2
          exact slice0_ok ho h.T h.rl hid (h.op1 hx) (av_int.mp (h.op1 hh)) (av_int.mp (h.op1 hm)) e
        · cases e
      · cases e
  · rename_i x k ho
    split at e
    · rename_i d
      split at e
      · rename_i v1 v2 vs hsl
        split at e
        · rename_i v hv
          have hs := h.sl d
          rw [hsl] at hs hv
          obtain ⟨Vs, h1, h2, h3⟩ := hs
          have hk : k < Vs.length := by
            rw [h2]
            rcases Nat.lt_or_ge k (v1 :: v2 :: vs).length with hk | hk
            · exact hk
            · rw [List.getElem?_eq_none hk] at hv; cases hv
          refine ⟨_, _, e, OpOk.value (v := Vs[k]) h.rl ?_ (h3 k v _ hv (List.getElem?_eq_getElem hk))⟩
          have : a.eval (.tmp d) = .tuple Vs.toArray := h1
          simp [execOp, ho, this, Instr.extract, List.getElem?_eq_getElem hk]
        · cases e
      · cases e
    · cases e
  · rename_i g first caps ho
    split at e
    · rename_i vs hf hs
      exact makeFunc_ok ho hf h.rl (h.avs hs) e
    · cases e
  · rename_i az Ts ho
    split at e
    · rename_i x T has hTs
      split at e
      · rename_i v hx
        obtain ⟨avs, V', e, hrun, hv⟩ := len_ok (P := P) (ty := o.type) h.T h.rl (h.op1 hx) e
        refine ⟨_, _, e, OpOk.value (v := V') h.rl ?_ hv⟩
        obtain ⟨cs, hcs⟩ := builtin_run (P := P) (a := a) ho
        have h1 : az = #[x] := Array.ext' (by simpa using has)
        have h2 : Ts = #[T] := Array.ext' (by simpa using hTs)
        rw [hcs, h1, h2]
        have : (#[x] : Array Operand).map a.eval = #[a.eval x] := by simp
        simp only [Go.builtin, this, Sem.run_bind, hrun, Result.andThen_ok, Sem.run_pure]
      · cases e
    · cases e
  · rename_i az Ts ho
    split at e
    · rename_i x y T T' has hTs
      split at e
      · rename_i av bv hs
        obtain ⟨hx, hy⟩ := sing_two hs
        exact append_ok ho has hTs h.T h.rl hid (h.op1 hx) (h.opT hy) e
      · cases e
    · cases e
  · rename_i az Ts ho
    split at e
    · rename_i vs hs
      have hav := (h.avs hs).get
      obtain ⟨avs, V', e, hrun, hv⟩ := minmax_ok (P := P) (T := Ts) (ty := o.type) hav.1 hav.2 e
      refine ⟨_, _, e, OpOk.value (v := V') h.rl ?_ hv⟩
      obtain ⟨cs, hcs⟩ := builtin_run (P := P) (a := a) ho
      have : (az.toList.map a.eval).toArray = az.map a.eval := by apply Array.ext'; simp
      rw [hcs, ← this]
      rw [if_neg (by simp)] at hrun
      simp only [Go.builtin, Sem.run_bind, hrun, Result.andThen_ok, Sem.run_pure]
    · cases e
  · rename_i az Ts ho
    split at e
    · rename_i vs hs
      have hav := (h.avs hs).get
      obtain ⟨avs, V', e, hrun, hv⟩ := minmax_ok (P := P) (T := Ts) (ty := o.type) hav.1 hav.2 e
      refine ⟨_, _, e, OpOk.value (v := V') h.rl ?_ hv⟩
      obtain ⟨cs, hcs⟩ := builtin_run (P := P) (a := a) ho
      have : (az.toList.map a.eval).toArray = az.map a.eval := by apply Array.ext'; simp
      rw [hcs, ← this]
      rw [if_pos rfl] at hrun
      simp only [Go.builtin, Sem.run_bind, hrun, Result.andThen_ok, Sem.run_pure]
    · cases e
  · rename_i f az Ts ho
    split at e
    · rename_i g u c vs hfv hs
      obtain ⟨hc, e⟩ := cond_some e
      rw [Bool.and_eq_true] at hc
      obtain ⟨cs, hF, hcs⟩ := av_fn.mp (h.op1 hfv)
      have hav := (h.avsT (by simpa using Nat.eq_of_beq_eq_true hc.2) hs).append (caps_avs hc.1 hcs)
      refine callG_ok hΦ h.rl h.id hav (fun fn c1 c2 c3 => ?_) e
      have hb : (fn.name == "runtime.NumGoroutine") = false := by simpa using c2
      simp only [execOp, ho, resolve, hF, Deferred.ofValue, Sem.run_bind, Sem.run_pure, Result.andThen_ok, invoke, callFunc, run_program, c1, hb, c3, Bool.false_eq_true, if_false]
      congr 2
      apply Array.ext'; simp
    · cases e
  · cases e
end
end Ev
end

section
namespace Ev
open Go

variable {R : Type}
def pk : Kt (List AV × Ups) := fun v u => some (v, u)
def thn (x : Option (List AV × Ups)) (K : Kt R) : Option R := x.bind fun q => K q.1 q.2

@[simp] theorem thn_none (K : Kt R) : thn none K = none := rfl
@[simp] theorem thn_pk (v : List AV) (u : Ups) (K : Kt R) : thn (pk v u) K = K v u := rfl
@[simp] theorem thn_cond (c : Bool) (x y : Option (List AV × Ups)) (K : Kt R) : thn (cond c x y) K = cond c (thn x K) (thn y K) := by cases c <;> rfl

variable {E : Env} {look : Nat → Option Entry}

theorem idxAddr_nat (T : TypeId) (a : AV) (n : Int) (K : Kt R) : idxAddr E look T a n K = thn (idxAddr E look T a n pk) K := by
  unfold idxAddr inRange
  repeat' (first | rfl | (simp only [thn_cond, thn_pk, thn_none]; done) | split)
theorem fAddr_nat (T : TypeId) (a : AV) (n : Nat) (K : Kt R) : fAddr E look T a n K = thn (fAddr E look T a n pk) K := by
  unfold fAddr
  repeat' (first | rfl | (simp only [thn_cond, thn_pk, thn_none]; done) | split)
theorem fVal_nat (T : TypeId) (a : AV) (n : Nat) (K : Kt R) : fVal E look T a n K = thn (fVal E look T a n pk) K := by
  unfold fVal
  repeat' (first | rfl | (simp only [thn_cond, thn_pk, thn_none]; done) | split)
theorem loadA_nat (T : TypeId) (a : AV) (K : Kt R) : loadA E look T a K = thn (loadA E look T a pk) K := by
  unfold loadA
  repeat' (first | rfl | (simp only [thn_cond, thn_pk, thn_none]; done) | split)
theorem lenV_nat (T : TypeId) (a : AV) (K : Kt R) : lenV E look T a K = thn (lenV E look T a pk) K := by
  unfold lenV
  repeat' (first | rfl | (simp only [thn_cond, thn_pk, thn_none]; done) | split)
theorem bytesV_nat (a : AV) (K : Kt R) : bytesV look a K = thn (bytesV look a pk) K := by
  unfold bytesV
  repeat' (first | rfl | (simp only [thn_cond, thn_pk, thn_none]; done) | split)
theorem sliceV_nat (id : Nat) (T : TypeId) (a : AV) (lo hi : Option AV) (K : Kt R) : sliceV E look id T a lo hi K = thn (sliceV E look id T a lo hi pk) K := by
  unfold sliceV
  repeat' (first | rfl | (simp only [thn_cond, thn_pk, thn_none]; done) | split)
theorem slice0_nat (reg i id : Nat) (T : TypeId) (a : AV) (K : Kt R) : slice0 E look reg i id T a K = thn (slice0 E look reg i id T a pk) K := by
  unfold slice0
  repeat' (first | rfl | (simp only [thn_cond, thn_pk, thn_none]; done) | split)
theorem makeSl_nat (reg i id : Nat) (T : TypeId) (l c : AV) (K : Kt R) : makeSl E reg i id T l c K = thn (makeSl E reg i id T l c pk) K := by
  unfold makeSl
  repeat' (first | rfl | (simp only [thn_cond, thn_pk, thn_none]; done) | split)
theorem minmax_nat (m : Bool) (vs : List AV) (K : Kt R) : minmax m K vs = thn (minmax m pk vs) K := by
  unfold minmax
  repeat' (first | rfl | (simp only [thn_cond, thn_pk, thn_none]; done) | split)
theorem moveV_nat (reg i id : Nat) (t : List (Nat × List AV)) (T : TypeId) (x : Operand) (K : Kt R) : moveV E reg i id t T x K = thn (moveV E reg i id t T x pk) K := by
  unfold moveV
  repeat' (first | rfl | (simp only [thn_cond, thn_pk, thn_none]; done) | split)
theorem bin_nat (T : TypeId) (op : BinOp) (a b : AV) (K : Kt R) : bin E T op a b (fun v => K [v] []) = thn (bin E T op a b (fun v => pk [v] [])) K := by
  unfold bin shOp intOp strOp
  repeat' (first | rfl | (simp only [thn_cond, thn_pk, thn_none]; done) | split)
theorem una_nat (op : UnOp) (a : AV) (K : Kt R) : una op a (fun v => K [v] []) = thn (una op a (fun v => pk [v] [])) K := by
  unfold una
  repeat' (first | rfl | (simp only [thn_cond, thn_pk, thn_none]; done) | split)

theorem laid_nat {A : Type} {v : AV} {own : Sub → Option A} {K1 : A → Ups → Option R} {K2 : A → Ups → Option (List AV × Ups)} {K : Kt R} (h : ∀ u ups, K1 u ups = thn (K2 u ups) K) : laid look v own K1 = thn (laid look v own K2) K := by
  unfold laid
  repeat' (first | rfl | (simp only [thn_cond, thn_pk, thn_none, h]; done) | split)
theorem partsIn_nat {mk : Nat → Stp} {chk : Nat → Ty → Bool} {K : Kt R} : ∀ {ps : List (Nat × List AV)} {u : Sub} {ups : Ups} {K1 : Sub → Ups → Option R} {K2 : Sub → Ups → Option (List AV × Ups)}, (∀ u ups, K1 u ups = thn (K2 u ups) K) →
    partsIn look mk chk ps u ups K1 = thn (partsIn look mk chk ps u ups K2) K := by
  intro ps
  induction ps with
  | nil => intro u ups K1 K2 h; exact h _ _
  | cons q r ih =>
    intro u ups K1 K2 h
    obtain ⟨i, v⟩ := q
    match v with
    | [] => rfl
    | [v] => exact laid_nat fun _ _ => ih h
    | _ :: _ :: _ => rfl
theorem mkRes_nat (id : Nat) (u : Sub) (ups : Ups) (K : Kt R) : mkRes id u K ups = thn (mkRes id u pk ups) K := by
  unfold mkRes; simp only [thn_cond, thn_pk]
theorem storeA_nat (T : TypeId) (a v : AV) (K : Kt R) : storeA E look T a v K = thn (storeA E look T a v pk) K := by
  unfold storeA
  split
  · split
    · split
      · simp only [thn_cond, thn_none]; congr 2
        exact laid_nat fun _ _ => by simp only [thn_cond, thn_pk, thn_none]
      · simp only [thn_cond, thn_none]
    · rfl
  · rfl
theorem build_nat (id : Nat) (T : TypeId) (ps : List (Nat × List AV)) (K : Kt R) : build E look id T ps K = thn (build E look id T ps pk) K := by
  unfold build
  split
  · simp only [thn_cond, thn_none]; congr 1
    exact partsIn_nat fun _ _ => by simp only [thn_cond, thn_none]; rw [mkRes_nat]
  · simp only [thn_cond, thn_none]; congr 1
    exact partsIn_nat fun _ _ => by simp only [thn_cond, thn_none]; rw [mkRes_nat]
  · rfl
theorem buildSl_nat (reg i id : Nat) (T : TypeId) (n : Nat) (ps : List (Nat × List AV)) (K : Kt R) : buildSl E look reg i id T n ps K = thn (buildSl E look reg i id T n ps pk) K := by
  unfold buildSl
  split
  · simp only [thn_cond, thn_none]; congr 1
    exact partsIn_nat fun _ _ => by simp only [thn_cond, thn_none]; congr 1; split <;> rfl
  · rfl
theorem srcV_nat {k : Nat} {bv : AV} {t : Ty} {m : Mask} {K : Kt R} {K1 : List t.den → Ups → Option R} {K2 : List t.den → Ups → Option (List AV × Ups)} (h : ∀ u ups, K1 u ups = thn (K2 u ups) K) : srcV look k bv t m K1 = thn (srcV look k bv t m K2) K := by
  unfold srcV
  repeat' (first | rfl | (simp only [thn_cond, thn_pk, thn_none, h]; done) | split)
theorem appendV_nat (id : Nat) (T T' : TypeId) (a bv : AV) (K : Kt R) : appendV E look id T T' a bv K = thn (appendV E look id T T' a bv pk) K := by
  unfold appendV
  split
  · split
    · simp only [thn_cond, thn_none]; congr 1
      exact srcV_nat fun _ _ => by simp only [thn_cond, thn_pk, thn_none]
    · rfl
  · rfl
theorem arg1_nat {p : Prm} {v : AV} {K : Kt R} {K1 : p.ty.den → Option R} {K2 : p.ty.den → Option (List AV × Ups)} (h : ∀ x, K1 x = thn (K2 x) K) : arg1 look p v K1 = thn (arg1 look p v K2) K := by
  cases p <;> cases v <;> simp only [arg1] <;> (repeat' (first | rfl | exact h _ | split))
theorem args_nat {K : Kt R} : ∀ {ps : List Prm} {vs : List AV} {K1 : (chain (ps.map Prm.ty)).den → Option R} {K2 : (chain (ps.map Prm.ty)).den → Option (List AV × Ups)}, (∀ x, K1 x = thn (K2 x) K) → args look ps vs K1 = thn (args look ps vs K2) K := by
  intro ps
  induction ps with
  | nil => intro vs K1 K2 h; cases vs with
    | nil => exact h _
    | cons _ _ => rfl
  | cons p ps ih =>
    intro vs K1 K2 h
    cases ps with
    | nil =>
      match vs with
      | [] => rfl
      | [v] => exact arg1_nat h
      | _ :: _ :: _ => rfl
    | cons q ps =>
      cases vs with
      | nil => rfl
      | cons v vs => exact arg1_nat fun x => ih fun y => h (x, y)
theorem callG_nat (id : Nat) (Φ : List FM) (g : Nat) (vs : List AV) (K : Kt R) : callG look id Φ g vs K = thn (callG look id Φ g vs pk) K := by
  unfold callG
  split
  · rfl
  · rename_i m _
    refine args_nat fun x => ?_
    cases m.f x with
    | none => rfl
    | some r => simp only [Option.bind_some, thn_cond, thn_pk, thn_none]
theorem cap1_nat {v : AV} {K : Kt R} {K1 : Sub → Ups → Option R} {K2 : Sub → Ups → Option (List AV × Ups)} (h : ∀ u ups, K1 u ups = thn (K2 u ups) K) : evOp.cap1 look v K1 = thn (evOp.cap1 look v K2) K := by
  unfold evOp.cap1
  repeat' (first | rfl | exact h _ _ | (simp only [thn_cond, thn_pk, thn_none, h]; done) | split)
theorem capsIn_nat {K : Kt R} : ∀ {vs : List AV} {K1 : Sub → Ups → Option R} {K2 : Sub → Ups → Option (List AV × Ups)}, (∀ u ups, K1 u ups = thn (K2 u ups) K) → evOp.capsIn look vs K1 = thn (evOp.capsIn look vs K2) K := by
  intro vs
  induction vs with
  | nil => intro K1 K2 h; exact h _ _
  | cons v vs ih =>
    intro K1 K2 h
    cases vs with
    | nil => exact cap1_nat h
    | cons w r => exact cap1_nat fun a ups => ih fun b ups' => h _ _

def ev1 (E : Env) (reg i id : Nat) (t : List (Nat × List AV)) (look : Nat → Option Entry) (o : Oper) : Option (List AV × Ups) := evOp E reg i id t look o pk

theorem sliceOp_nat (reg i id : Nat) (t : List (Nat × List AV)) (T : TypeId) (x : Operand) (lo hi mx : Option Operand) (K : Kt R) : sliceOp E reg i id t look T x lo hi mx K = thn (sliceOp E reg i id t look T x lo hi mx pk) K := by
  unfold sliceOp
  split
  · split
    · exact sliceV_nat _ _ _ _ _ _
    · rfl
  · split
    · split
      · simp only [thn_cond, thn_none]
        rw [← slice0_nat]
      · rfl
    · rfl

theorem evOp_nat (reg i id : Nat) (t : List (Nat × List AV)) (o : Oper) (K : Kt R) : evOp E reg i id t look o K = thn (ev1 E reg i id t look o) K := by
  unfold ev1 evOp
  split <;> (repeat' (first
    | rfl
    | exact moveV_nat _ _ _ _ _ _ _
    | exact bin_nat _ _ _ _ _
    | exact una_nat _ _ _
    | exact idxAddr_nat _ _ _ _
    | exact fAddr_nat _ _ _ _
    | exact fVal_nat _ _ _ _
    | exact loadA_nat _ _ _
    | exact storeA_nat _ _ _ _
    | exact build_nat _ _ _ _
    | exact buildSl_nat _ _ _ _ _ _ _
    | exact makeSl_nat _ _ _ _ _ _ _
    | exact sliceOp_nat _ _ _ _ _ _ _ _ _ _
    | exact lenV_nat _ _ _
    | (simp only [thn_cond]; congr 1 <;> (repeat' (first | rfl | exact bytesV_nat _ _ | (simp only [thn_cond, thn_pk, thn_none]; done) | split)); done)
    | exact appendV_nat _ _ _ _ _ _
    | exact minmax_nat _ _ _
    | exact capsIn_nat (fun _ _ => by simp only [thn_cond, thn_pk, thn_none])
    | exact laid_nat (fun _ _ => by simp only [thn_cond, thn_pk, thn_none])
    | (simp only [thn_cond, thn_pk, thn_none]; done)
    | (simp only [thn_cond, thn_pk, thn_none, inRange]; done)
    | (simp only [thn_cond, thn_none]; congr 1; exact callG_nat _ _ _ _ _)
    | split))

theorem evOp_inv {reg i id : Nat} {t : List (Nat × List AV)} {o : Oper} {K : Kt R} {out : R} (e : evOp E reg i id t look o K = some out) : ∃ v ups, ev1 E reg i id t look o = some (v, ups) ∧ K v ups = some out := by
  rw [evOp_nat] at e
  unfold thn at e
  rw [Option.bind_eq_some_iff] at e
  obtain ⟨q, h1, h2⟩ := e
  exact ⟨q.1, q.2, h1, h2⟩
end Ev
end

section
namespace Ev
open Go

variable {R : Type} {E : Env} {look look' : Nat → Option Entry}

theorem res_congr {a : AV} (h : ∀ l, l ∈ AV.ids [a] → look l = look' l) : res look a = res look' a := by
  cases a with
  | imm τ x => cases τ <;> rfl
  | ref l p v => simp only [res, atR, isFz, h l (by simp [AV.ids])]
  | adr l p v => simp only [res, atA, isFz, h l (by simp [AV.ids])]
theorem cont_congr {a : AV} (h : ∀ l, l ∈ AV.ids [a] → look l = look' l) : cont look a = cont look' a := by
  cases a with
  | imm τ x => cases τ <;> rfl
  | ref l p v => simp only [cont, atR, isFz, h l (by simp [AV.ids])]
  | adr l p v => simp only [cont, atA, isFz, h l (by simp [AV.ids])]

theorem res_mem {a : AV} {l w : Nat} {p : List Stp} (h : res look a = some (.ref l p w)) : l ∈ AV.ids [a] := by
  cases a with
  | imm τ x => cases τ <;> simp [res] at h
  | ref l' p' k' =>
    simp only [res] at h
    split at h
    · rename_i s' hs
      injection h with h
      by_cases hc : (isFz look l' || s'.m.isSh) = true
      · simp only [hc, cond_true] at h; cases h
      · simp only [Bool.not_eq_true] at hc
        simp only [hc, cond_false, AV.ref.injEq] at h
        obtain ⟨rfl, _, _⟩ := h; simp [AV.ids]
    · cases h
  | adr l' p' k' =>
    simp only [res] at h
    split at h
    · injection h with h
      by_cases hc : isFz look l' = true
      · simp only [hc, cond_true] at h; cases h
      · simp only [Bool.not_eq_true] at hc
        simp only [hc, cond_false] at h; cases h
    · cases h
theorem res_mem' {a : AV} {l w : Nat} {p : List Stp} (h : res look a = some (.adr l p w)) : l ∈ AV.ids [a] := by
  cases a with
  | imm τ x => cases τ <;> simp [res] at h
  | ref l' p' k' =>
    simp only [res] at h
    split at h
    · rename_i s' hs
      injection h with h
      by_cases hc : (isFz look l' || s'.m.isSh) = true
      · simp only [hc, cond_true] at h; cases h
      · simp only [Bool.not_eq_true] at hc
        simp only [hc, cond_false] at h; cases h
    · cases h
  | adr l' p' k' =>
    simp only [res] at h
    split at h
    · injection h with h
      by_cases hc : isFz look l' = true
      · simp only [hc, cond_true] at h; cases h
      · simp only [Bool.not_eq_true] at hc
        simp only [hc, cond_false, AV.adr.injEq] at h
        obtain ⟨rfl, _, _⟩ := h; simp [AV.ids]
    · cases h

theorem idxAddr_loc {a : AV} (h : ∀ l, l ∈ AV.ids [a] → look l = look' l) (T : TypeId) (n : Int) (K : Kt R) : idxAddr E look T a n K = idxAddr E look' T a n K := by
  unfold idxAddr
  rw [← res_congr h]
  split
  · rfl
  · rfl
  · rename_i hres; simp only [atR, verOf, h _ (res_mem hres)]
  · rename_i hres; simp only [atA, verOf, h _ (res_mem' hres)]
  · rfl
theorem fAddr_loc {a : AV} (h : ∀ l, l ∈ AV.ids [a] → look l = look' l) (T : TypeId) (n : Nat) (K : Kt R) : fAddr E look T a n K = fAddr E look' T a n K := by
  unfold fAddr
  rw [← res_congr h]
  split
  · rfl
  · rename_i hres; simp only [atA, verOf, h _ (res_mem' hres)]
  · rfl
theorem fVal_loc {a : AV} (h : ∀ l, l ∈ AV.ids [a] → look l = look' l) (T : TypeId) (n : Nat) (K : Kt R) : fVal E look T a n K = fVal E look' T a n K := by
  unfold fVal
  rw [← res_congr h]
  split
  · rfl
  · rename_i hres; simp only [atR, verOf, mkRef, h _ (res_mem hres)]
  · rfl
theorem loadA_loc {a : AV} (h : ∀ l, l ∈ AV.ids [a] → look l = look' l) (T : TypeId) (K : Kt R) : loadA E look T a K = loadA E look' T a K := by
  unfold loadA
  rw [← res_congr h]
  split
  · rfl
  · rename_i hres; simp only [atA, verOf, mkRef, h _ (res_mem' hres)]
  · rfl
theorem lenV_loc {a : AV} (h : ∀ l, l ∈ AV.ids [a] → look l = look' l) (T : TypeId) (K : Kt R) : lenV E look T a K = lenV E look' T a K := by
  unfold lenV
  rw [← cont_congr h]
theorem bytesV_loc {a : AV} (h : ∀ l, l ∈ AV.ids [a] → look l = look' l) (K : Kt R) : bytesV look a K = bytesV look' a K := by
  unfold bytesV
  rw [← cont_congr h]
theorem laid_loc {A : Type} {v : AV} (h : ∀ l, l ∈ AV.ids [v] → look l = look' l) (own : Sub → Option A) (K : A → Ups → Option R) : laid look v own K = laid look' v own K := by
  unfold laid
  rw [← res_congr h]
  split
  · rfl
  · rename_i hres; simp only [h _ (res_mem hres)]
  · rfl
theorem storeA_loc {a v : AV} (h1 : ∀ l, l ∈ AV.ids [a] → look l = look' l) (h2 : ∀ l, l ∈ AV.ids [v] → look l = look' l) (T : TypeId) (K : Kt R) : storeA E look T a v K = storeA E look' T a v K := by
  unfold storeA
  split
  · rename_i l p w
    rw [h1 l (by simp [AV.ids])]
    split
    · split
      · rw [laid_loc h2]
      · rfl
    · rfl
  · rfl
theorem sliceV_loc {a : AV} (h : ∀ l, l ∈ AV.ids [a] → look l = look' l) (id : Nat) (T : TypeId) (lo hi : Option AV) (K : Kt R) : sliceV E look id T a lo hi K = sliceV E look' id T a lo hi K := by
  unfold sliceV
  rw [← res_congr h]
  split
  · rfl
  · rfl
  · rename_i hres; rw [h _ (res_mem hres)]
  · rfl
theorem slice0_loc {a : AV} (h : ∀ l, l ∈ AV.ids [a] → look l = look' l) (reg i id : Nat) (T : TypeId) (K : Kt R) : slice0 E look reg i id T a K = slice0 E look' reg i id T a K := by
  unfold slice0
  rw [← cont_congr h]
theorem srcV_loc {k : Nat} {a : AV} (h : ∀ l, l ∈ AV.ids [a] → look l = look' l) (t : Ty) (m : Mask) (K : List t.den → Ups → Option R) : srcV look k a t m K = srcV look' k a t m K := by
  unfold srcV
  rw [← res_congr h]
  split
  · rfl
  · rfl
  · rename_i hres; rw [h _ (res_mem hres)]
  · rfl
theorem appendV_loc {a v : AV} (h1 : ∀ l, l ∈ AV.ids [a] → look l = look' l) (h2 : ∀ l, l ∈ AV.ids [v] → look l = look' l) (id : Nat) (T T' : TypeId) (K : Kt R) : appendV E look id T T' a v K = appendV E look' id T T' a v K := by
  unfold appendV
  split
  · rename_i k w t ti _
    rw [h1 k (by simp [AV.ids])]
    split
    · rw [srcV_loc h2]
    · rfl
  · rfl
theorem partsIn_loc {mk : Nat → Stp} {chk : Nat → Ty → Bool} : ∀ {ps : List (Nat × List AV)}, (∀ q, q ∈ ps → ∀ l, l ∈ AV.ids q.2 → look l = look' l) → ∀ (u : Sub) (ups : Ups) (K : Sub → Ups → Option R), partsIn look mk chk ps u ups K = partsIn look' mk chk ps u ups K := by
  intro ps
  induction ps with
  | nil => intro _ u ups K; rfl
  | cons q r ih =>
    intro h u ups K
    obtain ⟨i, v⟩ := q
    match v with
    | [] => rfl
    | _ :: _ :: _ => rfl
    | [v] =>
      simp only [partsIn]
      rw [laid_loc (h (i, [v]) (by simp))]
      congr 1
      funext y ups'
      exact ih (fun q hq => h q (by simp [hq])) _ _ _
theorem build_loc {ps : List (Nat × List AV)} (h : ∀ q, q ∈ ps → ∀ l, l ∈ AV.ids q.2 → look l = look' l) (id : Nat) (T : TypeId) (K : Kt R) : build E look id T ps K = build E look' id T ps K := by
  unfold build
  simp only [partsIn_loc h]
theorem buildSl_loc {ps : List (Nat × List AV)} (h : ∀ q, q ∈ ps → ∀ l, l ∈ AV.ids q.2 → look l = look' l) (reg i id : Nat) (T : TypeId) (n : Nat) (K : Kt R) : buildSl E look reg i id T n ps K = buildSl E look' reg i id T n ps K := by
  unfold buildSl
  simp only [partsIn_loc h]

theorem fit1_loc {p : Prm} {v : AV} (h : ∀ l, l ∈ AV.ids [v] → look l = look' l) : fit1 look p v = fit1 look' p v := by
  unfold fit1
  split
  · rw [cont_congr h]
  · rw [h _ (by simp [AV.ids])]
  · rw [h _ (by simp [AV.ids])]
  · rw [h _ (by simp [AV.ids])]
  · rfl
theorem ids_cons {v : AV} {vs : List AV} {l : Nat} : l ∈ AV.ids (v :: vs) ↔ l ∈ AV.ids [v] ∨ l ∈ AV.ids vs := by cases v <;> simp [AV.ids]
theorem ids_append {vs ws : List AV} {l : Nat} : l ∈ AV.ids (vs ++ ws) ↔ l ∈ AV.ids vs ∨ l ∈ AV.ids ws := by
  induction vs with
  | nil => simp [AV.ids]
  | cons v vs ih => rw [List.cons_append, @ids_cons v (vs ++ ws), @ids_cons v vs, ih, or_assoc]
theorem fits_loc : ∀ {ps : List Prm} {vs : List AV}, (∀ l, l ∈ AV.ids vs → look l = look' l) → fits look ps vs = fits look' ps vs := by
  intro ps
  induction ps with
  | nil => intro vs _; cases vs <;> rfl
  | cons p ps ih =>
    intro vs h
    cases vs with
    | nil => rfl
    | cons v vs => simp only [fits]; rw [fit1_loc fun l hl => h l (ids_cons.mpr (.inl hl)), ih fun l hl => h l (ids_cons.mpr (.inr hl))]
theorem findFM_loc {g : Nat} {vs : List AV} (h : ∀ l, l ∈ AV.ids vs → look l = look' l) : ∀ Φ : List FM, findFM look g vs Φ = findFM look' g vs Φ := by
  intro Φ
  induction Φ with
  | nil => rfl
  | cons m r ih => simp only [findFM, fits_loc h, ih]
theorem arg1_loc {p : Prm} {v : AV} (h : ∀ l, l ∈ AV.ids [v] → look l = look' l) (K : p.ty.den → Option R) : arg1 look p v K = arg1 look' p v K := by
  cases p with
  | imm τ => simp only [arg1, cont_congr h]
  | io τ m mem => cases v <;> simp only [arg1] <;> rw [h _ (by simp [AV.ids])]
  | take τ m => cases v <;> simp only [arg1] <;> rw [h _ (by simp [AV.ids])]
theorem args_loc : ∀ {ps : List Prm} {vs : List AV}, (∀ l, l ∈ AV.ids vs → look l = look' l) → ∀ (K : (chain (ps.map Prm.ty)).den → Option R), args look ps vs K = args look' ps vs K := by
  intro ps
  induction ps with
  | nil => intro vs _ K; cases vs <;> rfl
  | cons p ps ih =>
    intro vs h K
    cases ps with
    | nil =>
      match vs with
      | [] => rfl
      | [v] => exact arg1_loc h K
      | _ :: _ :: _ => rfl
    | cons q ps =>
      cases vs with
      | nil => rfl
      | cons v vs =>
        simp only [args]
        rw [arg1_loc fun l hl => h l (ids_cons.mpr (.inl hl))]
        congr 1
        funext x
        exact ih (fun l hl => h l (ids_cons.mpr (.inr hl))) _
theorem toFrz_loc : ∀ {ps : List Prm} {vs : List AV}, (∀ l, l ∈ AV.ids vs → look l = look' l) → toFrz look ps vs = toFrz look' ps vs := by
  intro ps
  induction ps with
  | nil => intro vs _; cases vs <;> rfl
  | cons p ps ih =>
    intro vs h
    cases vs with
    | nil => cases p <;> rfl
    | cons v vs =>
      have h2 := ih (vs := vs) fun l hl => h l (ids_cons.mpr (.inr hl))
      cases p with
      | imm τ => cases v <;> simp only [toFrz, h2] <;> rw [h _ (by simp [AV.ids])]
      | io τ m mem => simp only [toFrz, h2]
      | take τ m => simp only [toFrz, h2]
theorem outs_loc : ∀ {ps : List Prm} {vs : List AV}, (∀ l, l ∈ AV.ids vs → look l = look' l) → ∀ o : (chainU (outsOf ps)).den, outs look ps vs o = outs look' ps vs o := by
  intro ps
  induction ps with
  | nil => intro vs _ o; cases vs <;> rfl
  | cons p ps ih =>
    intro vs h o
    cases vs with
    | nil => cases p <;> rfl
    | cons v vs =>
      have h2 := ih (vs := vs) fun l hl => h l (ids_cons.mpr (.inr hl))
      cases p with
      | imm τ => simp only [outs]; exact h2 o
      | io τ m mem => cases v <;> simp only [outs, verOf] <;> rw [h _ (by simp [AV.ids]), h2]
      | take τ m => cases v <;> simp only [outs] <;> first | exact congrArg (_ :: ·) (h2 o) | rfl
theorem callG_loc {vs : List AV} (h : ∀ l, l ∈ AV.ids vs → look l = look' l) (id : Nat) (Φ : List FM) (g : Nat) (K : Kt R) : callG look id Φ g vs K = callG look' id Φ g vs K := by
  unfold callG
  rw [findFM_loc h]
  split
  · rfl
  · rw [args_loc h]
    simp only [toFrz_loc h, outs_loc h]
theorem cap1_loc {v : AV} (h : ∀ l, l ∈ AV.ids [v] → look l = look' l) (K : Sub → Ups → Option R) : evOp.cap1 look v K = evOp.cap1 look' v K := by
  unfold evOp.cap1
  split
  · rfl
  · rw [h _ (by simp [AV.ids])]
  · rfl
theorem capsIn_loc : ∀ {vs : List AV}, (∀ l, l ∈ AV.ids vs → look l = look' l) → ∀ (K : Sub → Ups → Option R), evOp.capsIn look vs K = evOp.capsIn look' vs K := by
  intro vs
  induction vs with
  | nil => intro _ K; rfl
  | cons v vs ih =>
    intro h K
    cases vs with
    | nil => exact cap1_loc h K
    | cons w r =>
      simp only [evOp.capsIn]
      rw [cap1_loc fun l hl => h l (ids_cons.mpr (.inl hl))]
      congr 1
      funext a ups
      exact ih (fun l hl => h l (ids_cons.mpr (.inr hl))) _

variable {t t' : List (Nat × List AV)}

theorem opdT_loc {T : TypeId} {x : Operand} (h : opd t x = opd t' x) : opdT E t T x = opdT E t' T x := by
  unfold opdT
  split
  · rfl
  · exact h
theorem opdsT_loc : ∀ {xs : List Operand} {Ts : List TypeId}, (∀ x, x ∈ xs → opd t x = opd t' x) → opdsT E t xs Ts = opdsT E t' xs Ts := by
  intro xs
  induction xs with
  | nil => intro Ts _; rfl
  | cons x xs ih =>
    intro Ts h
    cases Ts with
    | nil => rfl
    | cons T Ts => simp only [opdsT]; rw [opdT_loc (h x (by simp)), ih fun x hx => h x (by simp [hx])]
theorem optV_loc {x : Option Operand} (h : ∀ y, x = some y → opd t y = opd t' y) : optV t x = optV t' x := by
  cases x with
  | none => rfl
  | some y => simp only [optV]; rw [h y rfl]
theorem opdT_ids {T : TypeId} {x : Operand} {l : Nat} (h : l ∈ AV.ids (opdT E t T x)) : l ∈ AV.ids (opd t x) := by
  unfold opdT at h
  split at h
  · split at h
    · simp [AV.ids] at h
    · simp [AV.ids] at h
  · exact h
theorem opdsT_ids : ∀ {xs : List Operand} {Ts : List TypeId} {vs : List AV} {l : Nat}, sing (opdsT E t xs Ts) = some vs → l ∈ AV.ids vs → ∃ x, x ∈ xs ∧ l ∈ AV.ids (opd t x) := by
  intro xs
  induction xs with
  | nil => intro Ts vs l h hl; cases Ts <;> simp [opdsT, sing] at h <;> subst h <;> simp [AV.ids] at hl
  | cons x xs ih =>
    intro Ts vs l h hl
    cases Ts with
    | nil => simp [opdsT, sing] at h; subst h; simp [AV.ids] at hl
    | cons T Ts =>
      simp only [opdsT] at h
      match hx : opdT E t T x, h with
      | [v], h =>
        simp only [sing, Option.map_eq_some_iff] at h
        obtain ⟨r, hr, rfl⟩ := h
        rcases ids_cons.mp hl with hl | hl
        · exact ⟨x, by simp, opdT_ids (T := T) (by rw [hx]; exact hl)⟩
        · obtain ⟨y, hy, hl⟩ := ih hr hl
          exact ⟨y, by simp [hy], hl⟩
      | [], h => simp [sing] at h
      | _ :: _ :: _, h => simp [sing] at h
theorem sing_ids : ∀ {xs : List Operand} {vs : List AV} {l : Nat}, sing (xs.map (opd t)) = some vs → l ∈ AV.ids vs → ∃ x, x ∈ xs ∧ l ∈ AV.ids (opd t x) := by
  intro xs
  induction xs with
  | nil => intro vs l h hl; simp [sing] at h; subst h; simp [AV.ids] at hl
  | cons x xs ih =>
    intro vs l h hl
    simp only [List.map_cons] at h
    match hx : opd t x, h with
    | [v], h =>
      simp only [sing, Option.map_eq_some_iff] at h
      obtain ⟨r, hr, rfl⟩ := h
      rcases ids_cons.mp hl with hl | hl
      · exact ⟨x, by simp, by rw [hx]; exact hl⟩
      · obtain ⟨y, hy, hl⟩ := ih hr hl
        exact ⟨y, by simp [hy], hl⟩
    | [], h => simp [sing] at h
    | _ :: _ :: _, h => simp [sing] at h

theorem unch_ids : ∀ {u : Ty} {x : u.den} {l : Nat}, l ∉ AV.ids (unch u x) := by
  intro u
  induction u with
  | pair a b _ ihb => intro x l h; simp only [unch, AV.ids] at h; exact ihb h
  | _ => intro x l h; simp [unch, AV.ids] at h

theorem pair_ids {t : List (Nat × List AV)} {x y : Operand} {p q : List AV} {a b : AV} (h : sing [p, q] = some [a, b]) : p = [a] ∧ q = [b] := by
  match p, q, h with
  | [x], [y], h => simp [sing] at h; obtain ⟨rfl, rfl⟩ := h; exact ⟨rfl, rfl⟩
  | [], _, h => simp [sing] at h
  | _ :: _ :: _, _, h => simp [sing] at h
  | [_], [], h => simp [sing] at h
  | [_], _ :: _ :: _, h => simp [sing] at h

/-- An operation that does not look at entries through its operands. -/
def dull : Op → Bool
  | .move _ | .assign _ | .pick .. | .extract .. => true
  | _ => false

theorem opIds_mem {o : Oper} (hd : dull o.op = false) {x : Operand} {l : Nat} (hx : x ∈ o.op.operands.toList) (hl : l ∈ AV.ids (opd t x)) : l ∈ opIds t o := by
  have : opIds t o = (o.op.operands.toList.map fun x => AV.ids (opd t x)).flatten := by
    unfold opIds
    cases h : o.op <;> simp [h, dull] at hd ⊢
  rw [this, List.mem_flatten]
  exact ⟨_, List.mem_map.mpr ⟨x, hx, rfl⟩, hl⟩

theorem evOp_locT {reg i id : Nat} {o : Oper} {K : Kt R} (ht : ∀ x, x ∈ o.op.operands.toList → opd t x = opd t' x) : evOp E reg i id t look o K = evOp E reg i id t' look o K := by
  obtain ⟨dst, op, type, pos, after, guard⟩ := o
  cases op <;> simp only [Op.operands] at ht <;> simp only [evOp]
  case move x => unfold moveV; split <;> first | rfl | rw [ht x (by simp)]
  case assign x => unfold moveV; split <;> first | rfl | rw [ht x (by simp)]
  case pick c x y => rw [ht c (by simp), ht x (by simp), ht y (by simp)]
  case box T x => rw [opdT_loc (ht x (by simp))]
  case build T ps =>
    congr 1
    exact List.map_congr_left fun q hq => by rw [ht q.2 (by simp; exact ⟨q.1, by simpa using hq⟩)]
  case buildSlice T n ps =>
    congr 1
    exact List.map_congr_left fun q hq => by rw [ht q.2 (by simp; exact ⟨q.1, by simpa using hq⟩)]
  case load T x => rw [ht x (by simp)]
  case store T x y => rw [ht x (by simp), opdT_loc (ht y (by simp))]
  case nilCheck x => rw [ht x (by simp)]
  case binOp op T x y f => rw [ht x (by simp), ht y (by simp)]
  case unOp op T x => rw [ht x (by simp)]
  case convert s d x => rw [ht x (by simp)]
  case makeFunc fn first caps =>
    cases fn <;> simp only
    have : caps.toList.map (opd t) = caps.toList.map (opd t') := List.map_congr_left fun x hx => ht x (by simp; exact .inr (by simpa using hx))
    rw [this]
  case makeSlice T x y => rw [ht x (by simp), ht y (by simp)]
  case slice T x lo hi mx =>
    unfold sliceOp
    cases mx with
    | some m =>
      cases lo with
      | some _ => rfl
      | none =>
        cases hi with
        | none => rfl
        | some h =>
          simp only
          rw [ht x (by simp), ht h (by simp), ht m (by simp)]
    | none =>
      simp only
      rw [ht x (by simp), optV_loc (x := lo) fun y hy => ht y (by subst hy; simp), optV_loc (x := hi) fun y hy => ht y (by subst hy; simp)]
  case fieldAddr T x k => rw [ht x (by simp)]
  case field T x k => rw [ht x (by simp)]
  case indexAddr T x y => rw [opdT_loc (ht x (by simp)), ht y (by simp)]
  case index T x y => rw [ht x (by simp), ht y (by simp)]
  case extract x k =>
    cases x with
    | tmp d =>
      simp only
      have : slot t d = slot t' d := ht (.tmp d) (by simp)
      rw [this]
    | _ => rfl
  case call c =>
    obtain ⟨callee, az, Ts⟩ := c
    cases callee with
    | builtin b =>
      simp only [Call.operands] at ht
      have hm : az.toList.map (opd t) = az.toList.map (opd t') := List.map_congr_left fun x hx => ht x (by simpa using hx)
      cases b <;> simp only
      case len =>
        split
        · rename_i x T has _
          rw [ht x (by simp [has])]
        · rfl
      case append =>
        split
        · rename_i x y T T' has _
          rw [ht x (by simp [has]), opdT_loc (ht y (by simp [has]))]
        · rfl
      case min => rw [hm]
      case max => rw [hm]
    | invoke r m => rfl
    | value f =>
      simp only [Call.operands] at ht
      simp only
      rw [ht f (by simp), opdsT_loc fun x hx => ht x (by simp; exact .inr (by simpa using hx))]

theorem evOp_locL {reg i id : Nat} {o : Oper} {K : Kt R} (hl : ∀ l, l ∈ opIds t o → look l = look' l) : evOp E reg i id t look o K = evOp E reg i id t look' o K := by
  have h1 : dull o.op = false → ∀ {x : Operand} {v : AV}, x ∈ o.op.operands.toList → opd t x = [v] → ∀ l, l ∈ AV.ids [v] → look l = look' l :=
    fun hd x v hx hv l hlv => hl l (opIds_mem hd hx (by rw [hv]; exact hlv))
  have h2 : dull o.op = false → ∀ {T : TypeId} {x : Operand} {v : AV}, x ∈ o.op.operands.toList → opdT E t T x = [v] → ∀ l, l ∈ AV.ids [v] → look l = look' l :=
    fun hd T x v hx hv l hlv => hl l (opIds_mem hd hx (opdT_ids (T := T) (by rw [hv]; exact hlv)))
  have h3 : dull o.op = false → ∀ {ps : List (Nat × Operand)}, (∀ q, q ∈ ps → q.2 ∈ o.op.operands.toList) → ∀ q, q ∈ ps.map (fun q => (q.1, opd t q.2)) → ∀ l, l ∈ AV.ids q.2 → look l = look' l :=
    fun hd ps hps q hq l hlv => by
      obtain ⟨p, hp, rfl⟩ := List.mem_map.mp hq
      exact hl l (opIds_mem hd (hps p hp) hlv)
  clear hl
  obtain ⟨dst, op, type, pos, after, guard⟩ := o
  cases op <;> simp only [evOp] <;> simp only [dull, Op.operands, forall_const] at h1 h2 h3
  case nilCheck x =>
    split
    · rfl
    · rfl
    · rename_i l p v hx
      simp only [atA, h1 (by simp) hx l (by simp [AV.ids])]
    · rfl
  case convert s d x =>
    congr 1
    split
    · rename_i a hx; exact bytesV_loc (h1 (by simp) hx) _
    · rfl
  case indexAddr T x y =>
    split
    · rename_i a k n hs
      obtain ⟨q1, q2⟩ := pair_ids (t := t) (x := x) (y := y) hs
      exact idxAddr_loc (h2 (by simp) q1) _ _ _
    · rfl
  case fieldAddr T x k =>
    split
    · rename_i a hx; exact fAddr_loc (h1 (by simp) hx) _ _ _
    · rfl
  case field T x k =>
    split
    · rename_i a hx; exact fVal_loc (h1 (by simp) hx) _ _ _
    · rfl
  case load T x =>
    split
    · rename_i a hx; exact loadA_loc (h1 (by simp) hx) _ _
    · rfl
  case store T x y =>
    split
    · rename_i a v hs
      obtain ⟨q1, q2⟩ := pair_ids (t := t) (x := x) (y := y) hs
      exact storeA_loc (h1 (by simp) q1) (h2 (by simp) q2) _ _
    · rfl
  case box T x =>
    split
    · rename_i v hx; exact laid_loc (h2 (by simp) hx) _ _
    · rfl
  case build T ps => exact build_loc (h3 (fun q hq => by simp; exact ⟨q.1, by simpa using hq⟩)) _ _ _
  case buildSlice T n ps => exact buildSl_loc (h3 (fun q hq => by simp; exact ⟨q.1, by simpa using hq⟩)) _ _ _ _ _ _
  case slice T x lo hi mx =>
    unfold sliceOp
    cases mx with
    | some m =>
      cases lo with
      | some _ => rfl
      | none =>
        cases hi with
        | none => rfl
        | some h =>
          simp only
          split
          · rename_i a _ _ _ _ hx _ _; rw [slice0_loc (h1 (by simp) hx)]
          · rfl
    | none =>
      simp only
      split
      · rename_i a lo' hi' hx _ _; exact sliceV_loc (h1 (by simp) hx) _ _ _ _ _
      · rfl
  case makeFunc fn first caps =>
    cases fn <;> simp only
    split
    · rename_i vs _ hs
      refine capsIn_loc (fun l hlv => ?_) _
      obtain ⟨x, hx, hlx⟩ := sing_ids hs hlv
      have : ∀ l, l ∈ AV.ids (opd t x) → look l = look' l := fun l hl => h3 (ps := [(0, x)]) (fun q hq => by simp at hq; subst hq; simp; exact .inr (by simpa using hx)) (0, opd t x) (by simp) l hl
      exact this l hlx
    · rfl
  case call c =>
    obtain ⟨callee, az, Ts⟩ := c
    cases callee with
    | builtin b =>
      simp only [Call.operands] at h1 h2 h3
      cases b <;> simp only
      case len =>
        split
        · rename_i x T has _
          split
          · rename_i v hx; exact lenV_loc (h1 (by simp [has]) hx) _ _
          · rfl
        · rfl
      case append =>
        split
        · rename_i x y T T' has _
          split
          · rename_i a v hs
            obtain ⟨q1, q2⟩ := pair_ids (t := t) (x := x) (y := y) hs
            exact appendV_loc (h1 (by simp [has]) q1) (h2 (by simp [has]) q2) _ _ _ _
          · rfl
        · rfl
    | invoke r m => rfl
    | value f =>
      simp only [Call.operands] at h1 h2 h3
      simp only
      split
      · rename_i g u c vs hf hs
        congr 1
        refine callG_loc (fun l hlv => ?_) _ _ _ _
        rcases ids_append.mp hlv with hlv | hlv
        · obtain ⟨x, hx, hlx⟩ := opdsT_ids hs hlv
          have : ∀ l, l ∈ AV.ids (opd t x) → look l = look' l := fun l hl => h3 (ps := [(0, x)]) (fun q hq => by simp at hq; subst hq; simp; exact .inr (by simpa using hx)) (0, opd t x) (by simp) l hl
          exact this l hlx
        · exact (unch_ids hlv).elim
      · rfl

theorem ev1_loc {reg i id : Nat} {o : Oper} (ht : ∀ x, x ∈ o.op.operands.toList → opd t x = opd t' x) (hl : ∀ l, l ∈ opIds t o → look l = look' l) : ev1 E reg i id t look o = ev1 E reg i id t' look' o :=
  (evOp_locL hl).trans (evOp_locT ht)
end Ev
end

section
namespace Ev
open Go

def updS (τ : Nat → List AV) (dst : Option Nat) (v : List AV) : Nat → List AV :=
  match dst with
  | some d => fun k => if k = d then v else τ k
  | none => τ

theorem slot_putT (t : List (Nat × List AV)) (dst : Option Nat) (v : List AV) : slot (putT t dst v) = updS (slot t) dst v := by
  cases dst with
  | none => rfl
  | some d =>
    funext k
    simp only [putT, slot, updS]
    by_cases h : k = d
    · subst h; simp [Nat.beq_refl]
    · have : Nat.beq d k = false := by
        cases hb : Nat.beq d k
        · rfl
        · exact (h (Nat.eq_of_beq_eq_true hb).symm).elim
      simp [this, h]

theorem slot_same {t : List (Nat × List AV)} {d : Nat} {v : List AV} (h : slot t d = v) : slot ((d, v) :: t) = slot t := by
  funext k
  simp only [slot]
  by_cases hk : d = k
  · subst hk; simp [Nat.beq_refl, h]
  · have : Nat.beq d k = false := by
      cases hb : Nat.beq d k
      · rfl
      · exact (hk (Nat.eq_of_beq_eq_true hb)).elim
    simp [this]

theorem opd_slot {t t' : List (Nat × List AV)} (h : slot t = slot t') (x : Operand) : opd t x = opd t' x := by
  cases x with
  | tmp d => exact congrFun h d
  | const v => cases v <;> rfl
  | global g => rfl
  | func f => rfl

/-- Is an operation wanted? -/
def wants (all : List Oper) (o : Oper) (τ : Nat → List AV) : Option Bool :=
  match o.guard with
  | none => some true
  | some (j, want) => match (all[j]?).bind (·.dst) with
    | some d => match τ d with
      | [.imm .bool b] => some (b == want)
      | [.imm .unit _] => some false
      | _ => none
    | none => none

structure AS where
  τ : Nat → List AV
  h : Nat → Option Entry

def updH : Ups → (Nat → Option Entry) → Nat → Option Entry
  | [], h => h
  | (k, e) :: r, h => updH r fun l => if l = k then e else h l

theorem updH_other : ∀ {ups : Ups} {h : Nat → Option Entry} {l : Nat}, l ∉ ups.map (·.1) → updH ups h l = h l := by
  intro ups
  induction ups with
  | nil => intro h l _; rfl
  | cons q r ih =>
    intro h l hq
    obtain ⟨k, e⟩ := q
    simp only [List.map_cons, List.mem_cons, not_or] at hq
    simp only [updH]
    rw [ih hq.2, if_neg hq.1]
theorem updH_congr : ∀ {ups : Ups} {h h' : Nat → Option Entry} {l : Nat}, h l = h' l → updH ups h l = updH ups h' l := by
  intro ups
  induction ups with
  | nil => intro h h' l e; exact e
  | cons q r ih =>
    intro h h' l e
    obtain ⟨k, x⟩ := q
    simp only [updH]
    exact ih (by simp only [e])
theorem updH_mem : ∀ {ups : Ups} {h h' : Nat → Option Entry} {l : Nat}, l ∈ ups.map (·.1) → updH ups h l = updH ups h' l := by
  intro ups
  induction ups with
  | nil => intro h h' l e; simp at e
  | cons q r ih =>
    intro h h' l e
    obtain ⟨k, x⟩ := q
    simp only [updH]
    by_cases hr : l ∈ r.map (·.1)
    · exact ih hr
    · simp only [List.map_cons, List.mem_cons] at e
      have e := e.resolve_right hr
      exact updH_congr (by simp [e])
theorem updH_comm {u v : Ups} (h : ∀ l, l ∈ u.map (·.1) → l ∉ v.map (·.1)) (f : Nat → Option Entry) : updH u (updH v f) = updH v (updH u f) := by
  funext l
  by_cases hu : l ∈ u.map (·.1)
  · rw [updH_other (ups := v) (h l hu)]
    exact updH_mem hu
  · rw [updH_other hu]
    by_cases hv : l ∈ v.map (·.1)
    · exact updH_mem hv
    · rw [updH_other hv, updH_other hv, updH_other hu]

inductive AStep (E : Env) (reg n : Nat) (all : List Oper) (i : Nat) (o : Oper) : AS → AS → Rec → Prop
  | run (t h v ups) : wants all o (slot t) = some true → ev1 E reg i (n + 16 * i) t h o = some (v, ups) → AStep E reg n all i o ⟨slot t, h⟩ ⟨updS (slot t) o.dst v, updH ups h⟩ ⟨i, opIds t o, ups.map (·.1)⟩
  | skip (t h) : wants all o (slot t) = some false → AStep E reg n all i o ⟨slot t, h⟩ ⟨updS (slot t) o.dst [.imm .unit ()], h⟩ ⟨i, [], []⟩

inductive ARun (E : Env) (reg n : Nat) (all : List Oper) : List (Nat × Oper) → AS → AS → List Rec → Prop
  | nil (s) : ARun E reg n all [] s s []
  | cons {i o l s s1 s2 r rs} : AStep E reg n all i o s s1 r → ARun E reg n all l s1 s2 rs → ARun E reg n all ((i, o) :: l) s s2 (r :: rs)

def numb : Nat → List Oper → List (Nat × Oper)
  | _, [] => []
  | i, o :: os => (i, o) :: numb (i + 1) os

theorem updH_hget (ups : Ups) (h : List (Nat × Entry)) : hget (app ups h) = updH ups (hget h) := by
  have del : ∀ (h : List (Nat × Entry)) (k l : Nat), hget (hdel h k) l = if l = k then none else hget h l := by
    intro h k l
    induction h with
    | nil => simp [hdel, hget]
    | cons q r ih =>
      obtain ⟨j, e⟩ := q
      have bne : ∀ {a b : Nat}, a ≠ b → Nat.beq a b = false := fun {a b} h => by
        cases e : Nat.beq a b
        · rfl
        · exact (h (Nat.eq_of_beq_eq_true e)).elim
      by_cases hj : j = k
      · subst hj
        simp only [hdel, Nat.beq_refl, cond_true, ih, hget]
        by_cases hl : l = j
        · simp [hl]
        · simp [hl, bne fun h => hl h.symm]
      · simp only [hdel, bne hj, cond_false, hget, ih]
        by_cases hl : j = l
        · subst hl; simp [hj, Nat.beq_refl]
        · simp [bne hl]
  induction ups generalizing h with
  | nil => rfl
  | cons q r ih =>
    obtain ⟨k, e⟩ := q
    cases e with
    | none => simp only [app, updH, ih]; congr 1; funext l; exact del h k l
    | some e =>
      simp only [app, updH, ih]; congr 1; funext l
      by_cases hl : l = k
      · subst hl; simp [hget, Nat.beq_refl]
      · have : Nat.beq k l = false := by
          cases hb : Nat.beq k l
          · rfl
          · exact (hl (Nat.eq_of_beq_eq_true hb).symm).elim
        simp [hget, this, hl]

theorem opIds_slot {t t' : List (Nat × List AV)} (h : slot t = slot t') (o : Oper) : opIds t o = opIds t' o := by
  have hx : ∀ x, AV.ids (opd t x) = AV.ids (opd t' x) := fun x => by rw [opd_slot h x]
  unfold opIds
  split <;> first | rfl | (congr 1; exact List.map_congr_left fun x _ => hx x)

theorem evOps_run {R : Type} {E : Env} {reg n : Nat} {all : List Oper} {out : R} : ∀ {os : List Oper} {i : Nat} {t : List (Nat × List AV)} {h : List (Nat × Entry)} {r : List Rec} {K : List (Nat × List AV) → List (Nat × Entry) → List Rec → Option R},
    evOps E reg all n i os t h r K = some out → ∃ t' h' rs, ARun E reg n all (numb i os) ⟨slot t, hget h⟩ ⟨slot t', hget h'⟩ rs ∧ K t' h' (rs.reverse ++ r) = some out := by
  intro os
  induction os with
  | nil => intro i t h r K e; exact ⟨t, h, [], .nil _, e⟩
  | cons o os ih =>
    intro i t h r K e
    have go : ∀ (t1 : List (Nat × List AV)), slot t1 = slot t → wants all o (slot t) = some true →
        evOp E reg i (n + 16 * i) t1 (hget h) o (fun v ups => evOps E reg all n (i + 1) os (putT t1 o.dst v) (app ups h) (⟨i, opIds t o, ups.map (·.1)⟩ :: r) K) = some out →
        ∃ t' h' rs, ARun E reg n all (numb i (o :: os)) ⟨slot t, hget h⟩ ⟨slot t', hget h'⟩ rs ∧ K t' h' (rs.reverse ++ r) = some out := by
      intro t1 ht hw e
      obtain ⟨v, ups, h1, e⟩ := evOp_inv e
      obtain ⟨t', h', rs, hr, e⟩ := ih e
      rw [slot_putT, updH_hget, ht] at hr
      have h1' : ev1 E reg i (n + 16 * i) t (hget h) o = some (v, ups) := by
        rw [← h1]; exact ev1_loc (fun x _ => (opd_slot ht x).symm) fun _ _ => rfl
      exact ⟨t', h', _, .cons (.run t (hget h) v ups hw h1') hr, by simpa using e⟩
    have skip : ∀ (t1 : List (Nat × List AV)), slot t1 = slot t → wants all o (slot t) = some false →
        evOps E reg all n (i + 1) os (putT t1 o.dst [.imm .unit ()]) h (⟨i, [], []⟩ :: r) K = some out →
        ∃ t' h' rs, ARun E reg n all (numb i (o :: os)) ⟨slot t, hget h⟩ ⟨slot t', hget h'⟩ rs ∧ K t' h' (rs.reverse ++ r) = some out := by
      intro t1 ht hw e
      obtain ⟨t', h', rs, hr, e⟩ := ih e
      rw [slot_putT, ht] at hr
      exact ⟨t', h', _, .cons (.skip t (hget h) hw) hr, by simpa using e⟩
    simp only [evOps] at e
    split at e
    · rename_i hg
      exact go t rfl (by simp [wants, hg]) e
    · rename_i j want hg
      split at e
      · rename_i d hd
        split at e
        · rename_i b hs
          have hw : wants all o (slot t) = some (b == want) := by simp only [wants, hg, hd, hs]
          cases b with
          | true =>
            rw [cond_true] at e
            cases want with
            | true => rw [cond_true] at e; exact go _ (slot_same hs) hw e
            | false => rw [cond_false] at e; exact skip _ (slot_same hs) hw e
          | false =>
            rw [cond_false] at e
            cases want with
            | true => rw [cond_true] at e; exact skip _ (slot_same hs) hw e
            | false => rw [cond_false] at e; exact go _ (slot_same hs) hw e
        · rename_i x hs
          exact skip t rfl (by simp only [wants, hg, hd, hs]) e
        · cases e
      · cases e

/-! ## Free of each other -/
theorem meets_false {a b : List Nat} (h : meets a b = false) : ∀ l, l ∈ a → l ∉ b := by
  intro l ha hb
  unfold meets at h
  rw [List.any_eq_false] at h
  have := h l ha
  simp only [List.any_eq_true, not_exists, not_and] at this
  exact this l hb (Nat.beq_refl l)

theorem looks_opd {all : List Oper} {o : Oper} {d : Nat} (h : Operand.tmp d ∈ o.op.operands.toList) : d ∈ looks all o := by
  unfold looks
  refine List.mem_append_right _ (List.mem_flatten.mpr ⟨[d], List.mem_map.mpr ⟨.tmp d, h, rfl⟩, by simp⟩)

theorem opd_upd {t t1 : List (Nat × List AV)} {dst : Option Nat} {v : List AV} {all : List Oper} {o : Oper} (ht : slot t1 = updS (slot t) dst v) (h : ∀ d, dst = some d → d ∉ looks all o) : ∀ x, x ∈ o.op.operands.toList → opd t1 x = opd t x := by
  intro x hx
  cases x with
  | tmp d =>
    have : slot t1 d = slot t d := by
      rw [ht]
      cases dst with
      | none => rfl
      | some d' =>
        simp only [updS]
        rw [if_neg]
        intro e; subst e
        exact h d rfl (looks_opd hx)
    exact this
  | const v => cases v <;> rfl
  | global g => rfl
  | func f => rfl

theorem wants_upd {τ : Nat → List AV} {dst : Option Nat} {v : List AV} {all : List Oper} {o : Oper} (h : ∀ d, dst = some d → d ∉ looks all o) : wants all o (updS τ dst v) = wants all o τ := by
  unfold wants
  split
  · rfl
  · rename_i j want hg
    split
    · rename_i d hd
      have : updS τ dst v d = τ d := by
        cases dst with
        | none => rfl
        | some d' =>
          simp only [updS]
          rw [if_neg]
          intro e; subst e
          exact h d rfl (by unfold looks; rw [hg]; simp [hd])
      rw [this]
    · rfl

theorem opIds_congr {t t' : List (Nat × List AV)} {o : Oper} (h : ∀ x, x ∈ o.op.operands.toList → opd t x = opd t' x) : opIds t o = opIds t' o := by
  unfold opIds
  split <;> first | rfl | (congr 1; exact List.map_congr_left fun x hx => by rw [h x hx])

theorem updS_comm {τ : Nat → List AV} {x y : Option Nat} {v w : List AV} (h : ∀ d, x = some d → y ≠ some d) : updS (updS τ x v) y w = updS (updS τ y w) x v := by
  cases x with
  | none => rfl
  | some d =>
    cases y with
    | none => rfl
    | some d' =>
      have hne : d ≠ d' := fun e => h d rfl (by rw [e])
      funext k
      simp only [updS]
      by_cases h1 : k = d <;> by_cases h2 : k = d' <;> simp_all

structure Apart (all : List Oper) (x y : Oper) (rx ry : Rec) : Prop where
  l1 : ∀ d, x.dst = some d → d ∉ looks all y
  l2 : ∀ d, y.dst = some d → d ∉ looks all x
  d : ∀ d, x.dst = some d → y.dst ≠ some d
  a1 : ∀ l, l ∈ rx.u → l ∉ ry.a
  a2 : ∀ l, l ∈ ry.u → l ∉ rx.a
  u : ∀ l, l ∈ rx.u → l ∉ ry.u

/-- A slot list for a slot function that is a list's, turned. -/
theorem slot_upd (t : List (Nat × List AV)) (dst : Option Nat) (v : List AV) : ∃ t1, slot t1 = updS (slot t) dst v := ⟨putT t dst v, slot_putT t dst v⟩

theorem AStep.swap {E : Env} {reg n i j : Nat} {all : List Oper} {x y : Oper} {s s1 s2 : AS} {rx ry : Rec} (hx : AStep E reg n all i x s s1 rx) (hy : AStep E reg n all j y s1 s2 ry) (h : Apart all x y rx ry) :
    ∃ s1', AStep E reg n all j y s s1' ry ∧ AStep E reg n all i x s1' s2 rx := by
  have key : ∀ (t : List (Nat × List AV)) (hh hh2 : Nat → Option Entry) (v : List AV) (o : Oper) (k : Nat) (q : AS) (r : Rec) (dst : Option Nat), (∀ d, dst = some d → d ∉ looks all o) → (∀ l, l ∈ r.a → hh l = hh2 l) →
      AStep E reg n all k o ⟨updS (slot t) dst v, hh2⟩ q r → ∃ w ups, q = ⟨updS (updS (slot t) dst v) o.dst w, updH ups hh2⟩ ∧ r.u = ups.map (·.1) ∧ AStep E reg n all k o ⟨slot t, hh⟩ ⟨updS (slot t) o.dst w, updH ups hh⟩ r := by
    intro t hh hh2 v o k q r dst hd ha hst
    generalize hs : (⟨updS (slot t) dst v, hh2⟩ : AS) = s0 at hst
    cases hst with
    | run t1 h1 w ups hw he =>
      simp only [AS.mk.injEq] at hs
      obtain ⟨ht1, rfl⟩ := hs
      refine ⟨w, ups, by rw [ht1], rfl, ?_⟩
      have hop := opd_upd (all := all) (o := o) ht1.symm hd
      have hw' : wants all o (slot t) = some true := by rw [← ht1, wants_upd hd] at hw; exact hw
      have he' : ev1 E reg k (n + 16 * k) t hh o = some (w, ups) := by
        rw [← he]
        exact ev1_loc (fun x hx => (hop x hx).symm) fun l hl => ha l (by rw [opIds_congr hop]; exact hl)
      have hid : opIds t1 o = opIds t o := opIds_congr hop
      rw [hid]
      exact .run t hh w ups hw' he'
    | skip t1 h1 hw =>
      simp only [AS.mk.injEq] at hs
      obtain ⟨ht1, rfl⟩ := hs
      exact ⟨[.imm .unit ()], [], by rw [ht1]; rfl, rfl, .skip t hh (by rw [← ht1, wants_upd hd] at hw; exact hw)⟩
  cases hx with
  | run t hh v ups hw he =>
    obtain ⟨w, ups2, rfl, hu2, hy'⟩ := key t hh (updH ups hh) v y j s2 ry x.dst h.l1 (fun l hl => (updH_other fun hm => h.a1 l hm hl).symm) hy
    refine ⟨_, hy', ?_⟩
    rw [updS_comm h.d, updH_comm (fun l hl hl2 => h.u l (show l ∈ ups.map (·.1) from hl2) (by rw [hu2]; exact hl))]
    obtain ⟨t2, ht2⟩ := slot_upd t y.dst w
    rw [← ht2]
    have hop := opd_upd (all := all) (o := x) ht2 h.l2
    have hid : opIds t x = opIds t2 x := (opIds_congr hop).symm
    rw [hid]
    refine .run t2 (updH ups2 hh) v ups (by rw [ht2, wants_upd h.l2]; exact hw) ?_
    rw [← he]
    refine ev1_loc hop fun l hl => updH_other fun hm => h.a2 l (by rw [hu2]; exact hm) ?_
    rw [← hid] at hl; exact hl
  | skip t hh hw =>
    obtain ⟨w, ups2, rfl, hu2, hy'⟩ := key t hh hh [.imm .unit ()] y j s2 ry x.dst h.l1 (fun l hl => rfl) hy
    refine ⟨_, hy', ?_⟩
    rw [updS_comm h.d]
    obtain ⟨t2, ht2⟩ := slot_upd t y.dst w
    rw [← ht2]
    exact .skip t2 _ (by rw [ht2, wants_upd h.l2]; exact hw)

/-- An operation that nothing before it bars comes first. -/
theorem ARun.front {E : Env} {reg n j : Nat} {all : List Oper} {y : Oper} {post : List (Nat × Oper)} : ∀ {pre : List (Nat × Oper)} {s sN : AS} {rs : List Rec}, ARun E reg n all (pre ++ (j, y) :: post) s sN rs →
    (∀ (k : Nat) (p : Nat × Oper) (rp rj : Rec), pre[k]? = some p → rs[k]? = some rp → rs[pre.length]? = some rj → Apart all p.2 y rp rj) →
    ∃ s1 ry, rs[pre.length]? = some ry ∧ AStep E reg n all j y s s1 ry ∧ ARun E reg n all (pre ++ post) s1 sN (rs.eraseIdx pre.length) := by
  intro pre
  induction pre with
  | nil =>
    intro s sN rs h _
    cases h with
    | cons h1 h2 => exact ⟨_, _, rfl, h1, h2⟩
  | cons p pre ih =>
    intro s sN rs h hap
    obtain ⟨i, x⟩ := p
    cases h with
    | @cons _ _ _ _ s1 _ rx rs h1 h2 =>
      obtain ⟨s2, ry, hry, h3, h4⟩ := ih h2 fun k p rp rj hk hrk hrj => hap (k + 1) p rp rj (by simpa using hk) (by simpa using hrk) (by simpa using hrj)
      obtain ⟨s1', h5, h6⟩ := h1.swap h3 (hap 0 (i, x) rx ry rfl rfl (by simpa using hry))
      exact ⟨s1', ry, by simpa using hry, h5, by simpa using ARun.cons h6 h4⟩
end Ev
end

section
namespace Ev
open Go

theorem updF_updH (u : Ups) : ∀ h : Nat → Option Entry, updF u h = updH u h := by
  induction u with
  | nil => intro h; rfl
  | cons q r ih => intro h; obtain ⟨k, e⟩ := q; simp only [updF, updH, ih]

/-! ## Edges -/
inductive Reach (ops : Array Oper) : Nat → Nat → Prop
  | one {j o e} : ops[j]? = some o → e ∈ o.after → Region.binds .any e = true → Reach ops j e.on
  | more {j o e x} : ops[j]? = some o → e ∈ o.after → Region.binds .any e = true → Reach ops e.on x → Reach ops j x

theorem Reach.listed {ops : Array Oper} {L : Nat → Prop} (hdown : ∀ i o, ops[i]? = some o → L i → ∀ e ∈ o.after, Region.binds .any e = true → L e.on) {j x : Nat} (h : Reach ops j x) :
    (∀ o, ops[j]? = some o → ∀ e ∈ o.after, Region.binds .any e = true → L e.on) → L x := by
  induction h with
  | one h1 h2 h3 => intro h; exact h _ h1 _ h2 h3
  | more h1 h2 h3 _ ih => intro h; exact ih fun o ho e he hb => hdown _ o ho (h _ h1 _ h2 h3) e he hb

theorem testBit_or {a b : Nat} {x : Nat} (h : (a ||| b).testBit x = true) : a.testBit x = true ∨ b.testBit x = true := by
  rw [Nat.testBit_or] at h; simpa using h

theorem before_fold (acc : Array Nat) (es : List Edge) : ∀ (s x : Nat), (es.foldl (fun s e => if Region.binds .any e then s ||| 2 ^ e.on ||| acc.getD e.on 0 else s) s).testBit x = true →
    s.testBit x = true ∨ ∃ e, e ∈ es ∧ Region.binds .any e = true ∧ (x = e.on ∨ (acc.getD e.on 0).testBit x = true) := by
  induction es with
  | nil => intro s x h; exact .inl h
  | cons e es ih =>
    intro s x h
    simp only [List.foldl_cons] at h
    rcases ih _ _ h with h | ⟨e', h1, h2, h3⟩
    · by_cases hb : Region.binds .any e = true
      · rw [if_pos hb] at h
        rcases testBit_or h with h | h
        · rcases testBit_or h with h | h
          · exact .inl h
          · refine .inr ⟨e, by simp, hb, .inl ?_⟩
            rw [Nat.testBit_two_pow] at h
            exact (of_decide_eq_true h).symm
        · exact .inr ⟨e, by simp, hb, .inr h⟩
      · rw [if_neg hb] at h; exact .inl h
    · exact .inr ⟨e', by simp [h1], h2, h3⟩

theorem before_spec {ops : Array Oper} : ∀ j x, ((Region.before ops).getD j 0).testBit x = true → Reach ops j x := by
  have key : ∀ (l pre : List Oper) (acc : Array Nat), ops.toList = pre ++ l → acc.size = pre.length → (∀ j x, (acc.getD j 0).testBit x = true → Reach ops j x) →
      ∀ j x, ((l.foldl (fun acc o => acc.push (o.after.foldl (fun s e => if Region.binds .any e then s ||| 2 ^ e.on ||| acc.getD e.on 0 else s) 0)) acc).getD j 0).testBit x = true → Reach ops j x := by
    intro l
    induction l with
    | nil => intro pre acc _ _ h; exact h
    | cons o l ih =>
      intro pre acc hops hsz h
      refine ih (pre ++ [o]) _ (by simp [hops]) (by simp [hsz]) fun j x hj => ?_
      rw [Array.getD_eq_getD_getElem?, Array.getElem?_push] at hj
      by_cases hjs : j = acc.size
      · rw [if_pos hjs] at hj
        simp only [Option.getD_some] at hj
        rw [← Array.foldl_toList] at hj
        have ho : ops[j]? = some o := by
          rw [← Array.getElem?_toList, hops, hjs, hsz]; simp
        rcases before_fold acc o.after.toList 0 x hj with h0 | ⟨e, he, hb, h1⟩
        · simp at h0
        · have he : e ∈ o.after := by simpa using he
          rcases h1 with rfl | h1
          · exact .one ho he hb
          · exact .more ho he hb (h _ _ h1)
      · rw [if_neg hjs] at hj
        exact h j x (by rw [Array.getD_eq_getD_getElem?]; exact hj)
  intro j x h
  unfold Region.before at h
  rw [← Array.foldl_toList] at h
  exact key ops.toList [] #[] rfl rfl (fun j x h => by simp at h) j x h

/-! ## Records -/
theorem recsOk_pairwise {all : List Oper} {bs : List Nat} : ∀ {L : List Rec}, recsOk all bs L = true → L.Pairwise fun x y => pairOk all bs x y = true := by
  intro L
  induction L with
  | nil => intro _; exact .nil
  | cons x r ih =>
    intro h
    simp only [recsOk, Bool.and_eq_true, List.all_eq_true] at h
    exact .cons (fun y hy => h.1 y hy) (ih h.2)

theorem apart_of {all : List Oper} {bs : List Nat} {x y : Oper} {rx ry : Rec} (h : pairOk all bs ry rx = true) (hx : all[rx.i]? = some x) (hy : all[ry.i]? = some y) (hn : Nat.testBit (bs.getD ry.i 0) rx.i = false) : Apart all x y rx ry := by
  unfold pairOk at h
  rw [hn, Bool.false_or, hx, hy] at h
  simp only [Bool.and_eq_true, Bool.not_eq_true'] at h
  obtain ⟨h1, h2, h3, h4⟩ := h
  unfold apart at h1
  simp only [Bool.and_eq_true, Bool.not_eq_true'] at h1
  obtain ⟨g1, g2, g3⟩ := h1
  refine ⟨fun d hd hl => ?_, fun d hd hl => ?_, fun d hd hd' => ?_, fun l hl hl' => meets_false h3 l hl hl', fun l hl hl' => meets_false h2 l hl hl', fun l hl hl' => meets_false h4 l hl' hl⟩
  · exact meets_false g2 d (by simp [hd]) hl
  · exact meets_false g1 d (by simp [hd]) hl
  · exact meets_false g3 d (by simp [hd']) (by simp [hd])

theorem AStep.i {E : Env} {reg n i : Nat} {all : List Oper} {o : Oper} {s s1 : AS} {r : Rec} (h : AStep E reg n all i o s s1 r) : r.i = i := by cases h <;> rfl
theorem ARun.recs {E : Env} {reg n : Nat} {all : List Oper} : ∀ {l : List (Nat × Oper)} {s s1 : AS} {rs : List Rec}, ARun E reg n all l s s1 rs → rs.map (·.i) = l.map (·.1) := by
  intro l s s1 rs h
  induction h with
  | nil => rfl
  | cons h1 _ ih => simp [h1.i, ih]

/-! ## One step of the machine -/
def Vl (a : Act) (X : Nat → Value) (d : Nat) : Value := if d < a.tmps.size then a.tmps.getD d undef else X d
def tmpOk (N : Nat) : Operand → Bool
  | .tmp d => Nat.blt d N
  | _ => true
def operOk (N : Nat) (o : Oper) : Bool := (match o.dst with | some d => Nat.blt d N | none => true) && o.op.operands.toList.all (tmpOk N)

structure Sl (b : Bd) (a : Act) (X : Nat → Value) (τ : Nat → List AV) : Prop where
  sl : ∀ d, SlOk b.U b.h b.c b.S b.Pl (τ d) (Vl a X d)

theorem blt_lt {a b : Nat} (h : Nat.blt a b = true) : a < b := Nat.le_of_ble_eq_true h

section
variable {P : Program} {E : Env} {O : Nat → Prop} {b : Bd} {X : Nat → Value}

theorem put_size (a : Act) (dst : Option Nat) (v : Value) : (a.put dst v).tmps.size = a.tmps.size := by cases dst <;> simp [Act.put]
theorem put_defers' (a : Act) (dst : Option Nat) (v : Value) : (a.put dst v).defers = a.defers := by cases dst <;> rfl
theorem Vl_put {a : Act} {dst : Option Nat} {v : Value} {d : Nat} (h : ∀ k, dst = some k → k < a.tmps.size) : Vl (a.put dst v) X d = if dst = some d then v else Vl a X d := by
  unfold Vl
  rw [put_size]
  cases dst with
  | none => simp [Act.put]
  | some k =>
    have hk := h k rfl
    by_cases hd : k = d
    · subst hd
      simp [Act.put, hk]
    · have : (some k = some d) = False := by simp [hd]
      simp only [this, if_false, Act.put]
      rw [Array.getD_eq_getD_getElem?, Array.getD_eq_getD_getElem?, Array.getElem?_setIfInBounds_ne hd]

theorem slot_filter {N : Nat} {t : List (Nat × List AV)} (d : Nat) : slot (t.filter fun q => decide (q.1 < N)) d = if d < N then slot t d else [] := by
  induction t with
  | nil => simp [slot]
  | cons q t ih =>
    obtain ⟨k, w⟩ := q
    by_cases hk : k < N
    · simp only [List.filter_cons, hk, decide_true, if_true, slot]
      by_cases hkd : k = d
      · subst hkd; simp [Nat.beq_refl, hk]
      · have : Nat.beq k d = false := beq_ne hkd
        rw [this, cond_false, cond_false]; exact ih
    · simp only [List.filter_cons, hk, decide_false, Bool.false_eq_true, if_false, slot]
      rw [ih]
      by_cases hkd : k = d
      · subst hkd; simp [hk]
      · have : Nat.beq k d = false := beq_ne hkd
        rw [this, cond_false]

/-- What holds behind a step. -/
structure After (O : Nat → Prop) (b : Bd) (a : Act) (X : Nat → Value) (lo hi : Nat) (s : AS) (b' : Bd) (a' : Act) : Prop where
  rl : b'.rl O
  h : b'.h = s.h
  sl : Sl b' a' X s.τ
  size : a'.tmps.size = a.tmps.size
  defers : a'.defers = a.defers
  kp : Kp O b.S b'.S b.w b'.w
  us : ∀ l, b'.U l → b.U l ∨ (lo ≤ l ∧ l < hi)

theorem step_ok {Q : Exit → Act → World → Prop} {ops : Array Oper} {i reg n : Nat} {o : Oper} {a : Act} {τ : Nat → List AV} {s1 : AS} {r : Rec} {K : Act → World → Prop} (hT : TOk P E.TT) (hΦ : ∀ m, m ∈ E.Φ → Sound P m)
    (hall : ∀ o, o ∈ ops.toList → operOk a.tmps.size o = true) (ho : ops[i]? = some o) (hr : b.rl O) (hsl : Sl b a X τ) (hid : ∀ l, n + 16 * i ≤ l → l < n + 16 * i + 16 → ¬ b.U l)
    (hst : AStep E reg n ops.toList i o ⟨τ, b.h⟩ s1 r) (hK : ∀ b' a', After O b a X (n + 16 * i) (n + 16 * i + 16) s1 b' a' → K a' b'.w) : wpOp P ops Q i K a b.w := by
  have hom : o ∈ ops.toList := by
    rw [← Array.getElem?_toList] at ho
    exact List.mem_of_getElem? ho
  have hok := hall o hom
  unfold operOk at hok
  rw [Bool.and_eq_true, List.all_eq_true] at hok
  have hdst : ∀ k, o.dst = some k → k < a.tmps.size := fun k hk => by
    have := hok.1; rw [hk] at this; exact blt_lt this
  have hwant : ∀ b0, wants ops.toList o τ = some b0 → Region.wanted o (yielded ops a.tmps) = b0 := by
    intro b0 h
    unfold wants at h
    unfold Region.wanted
    split at h
    · rename_i hg; rw [hg]; injection h
    · rename_i j want hg
      rw [hg]
      split at h
      · rename_i d hd
        split at h
        · rename_i bb hτ
          injection h with h
          have hv := hsl.sl d
          rw [hτ] at hv
          have hv := (av_bool (U := b.U) (h := b.h) (Pl := b.Pl)).mp hv
          have hdl : d < a.tmps.size := by
            rw [Array.getElem?_toList] at hd
            rw [Option.bind_eq_some_iff] at hd
            obtain ⟨oj, hoj, hdj⟩ := hd
            have := hall oj (by rw [← Array.getElem?_toList] at hoj; exact List.mem_of_getElem? hoj)
            unfold operOk at this
            rw [Bool.and_eq_true, hdj] at this
            exact blt_lt this.1
          unfold Vl at hv
          rw [if_pos hdl] at hv
          have hy : yielded ops a.tmps j = some bb := by
            unfold yielded
            rw [Array.getElem?_toList] at hd
            rw [hd]
            simp only [Option.bind_some]
            rw [Array.getD_eq_getD_getElem?, Array.getElem?_eq_getElem hdl] at hv
            rw [Array.getElem?_eq_getElem hdl]
            simp only [Option.getD_some] at hv
            rw [hv]
          simp only [hy]
          rw [← h]
          cases bb <;> cases want <;> rfl
        · rename_i x hτ
          injection h with h
          have hv := hsl.sl d
          rw [hτ] at hv
          have hdl : d < a.tmps.size := by
            rw [Array.getElem?_toList] at hd
            rw [Option.bind_eq_some_iff] at hd
            obtain ⟨oj, hoj, hdj⟩ := hd
            have := hall oj (by rw [← Array.getElem?_toList] at hoj; exact List.mem_of_getElem? hoj)
            unfold operOk at this
            rw [Bool.and_eq_true, hdj] at this
            exact blt_lt this.1
          have hv2 : Vl a X d = undef := by
            rcases hv with ⟨_, hv⟩ | ⟨vs, k1, k2, _⟩
            · exact hv
            · simp only [valOf, Ty.agg, Bool.false_eq_true, if_false] at k1
              subst k1
              simp [Ty.size] at k2
          unfold Vl at hv2
          rw [if_pos hdl] at hv2
          have hy : yielded ops a.tmps j = none := by
            unfold yielded
            rw [Array.getElem?_toList] at hd
            rw [hd]
            simp only [Option.bind_some]
            rw [Array.getD_eq_getD_getElem?, Array.getElem?_eq_getElem hdl] at hv2
            rw [Array.getElem?_eq_getElem hdl]
            simp only [Option.getD_some] at hv2
            rw [hv2]; rfl
          simp only [hy]
          rw [← h]; rfl
        · cases h
      · cases h
  unfold wpOp
  simp only [ho]
  generalize hs0 : (⟨τ, b.h⟩ : AS) = s0 at hst
  cases hst with
  | skip t h hw =>
    simp only [AS.mk.injEq] at hs0
    obtain ⟨rfl, rfl⟩ := hs0
    rw [hwant false hw]
    simp only [Bool.false_eq_true, if_false]
    refine hK b _ ⟨hr, rfl, ⟨fun d => ?_⟩, put_size .., put_defers' .., Kp.refl _ _ _, fun l h => .inl h⟩
    rw [Vl_put hdst]
    simp only [updS]
    cases hd : o.dst with
    | none => simpa using hsl.sl d
    | some k =>
      by_cases hk : d = k
      · subst hk; simp only [if_true]; exact .inl ⟨rfl, rfl⟩
      · simp only [if_neg hk]
        rw [if_neg (by simp; exact fun e => hk e.symm)]
        exact hsl.sl d
  | run t h v ups hw he =>
    simp only [AS.mk.injEq] at hs0
    obtain ⟨rfl, rfl⟩ := hs0
    rw [hwant true hw]
    simp only [if_true]
    left
    -- the slots that the code knows
    generalize htt : (t.filter fun q => decide (q.1 < a.tmps.size)) = tN
    have htN : ∀ d, slot tN d = if d < a.tmps.size then slot t d else [] := fun d => by rw [← htt]; exact slot_filter d
    have he' : ev1 E reg i (n + 16 * i) tN b.h o = some (v, ups) := by
      rw [← he]
      refine (ev1_loc (fun x hx => ?_) fun _ _ => rfl).symm
      cases x with
      | tmp d =>
        have hd := hok.2 _ hx
        simp only [tmpOk] at hd
        show slot t d = slot tN d
        rw [htN, if_pos (blt_lt hd)]
      | const v => cases v <;> rfl
      | global g => rfl
      | func f => rfl
    have hat : At P E O b a tN (n + 16 * i) := ⟨hT, hr, hid, fun d => by
      rw [htN]
      by_cases hd : d < a.tmps.size
      · rw [if_pos hd]
        have := hsl.sl d
        unfold Vl at this
        rwa [if_pos hd] at this
      · rw [if_neg hd]; trivial⟩
    obtain ⟨avs, ups', hpk, hop⟩ := evOp_ok hΦ hat he'
    simp only [pk, Option.some.injEq, Prod.mk.injEq] at hpk
    obtain ⟨rfl, rfl⟩ := hpk
    refine hop K Q fun V w' S' G' Pl' ft' haf => ?_
    refine hK ⟨Us b.U (n + 16 * i), updF ups' b.h, S', w', G', Pl', ft'⟩ _ ⟨haf.rl, updF_updH ups' b.h, ⟨fun d => ?_⟩, put_size .., put_defers' .., haf.kp, fun l h => h⟩
    rw [Vl_put hdst]
    simp only [updS]
    cases hd : o.dst with
    | none => simp only [reduceCtorEq, if_false]; exact (hsl.sl d).map haf.av
    | some k =>
      by_cases hk : d = k
      · subst hk; simp only [if_true]; exact haf.val
      · simp only [if_neg hk]
        rw [if_neg (by simp; exact fun e => hk e.symm)]
        exact (hsl.sl d).map haf.av

theorem After.trans {a a1 a2 : Act} {b b1 b2 : Bd} {lo hi lo1 hi1 lo2 hi2 : Nat} {s1 s2 : AS} (h1 : After O b a X lo1 hi1 s1 b1 a1) (h2 : After O b1 a1 X lo2 hi2 s2 b2 a2) (g1 : lo ≤ lo1) (g2 : lo ≤ lo2) (g3 : hi1 ≤ hi) (g4 : hi2 ≤ hi) : After O b a X lo hi s2 b2 a2 :=
  ⟨h2.rl, h2.h, h2.sl, h2.size.trans h1.size, h2.defers.trans h1.defers, h1.kp.trans h2.kp, fun l h => by
    rcases h2.us l h with h | h
    · rcases h1.us l h with h | h
      · exact .inl h
      · exact .inr ⟨by omega, by omega⟩
    · exact .inr ⟨by omega, by omega⟩⟩
end
end Ev
end

