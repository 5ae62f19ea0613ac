/- Words of our own: what is known of a world while a function runs: a list of resources (blocks that the run owns, told whole; data in memory of its own), each with its blocks, apart from each other; all else as it was. -/
import Derived.WalkKit
import Derived.KernelRfl
import Derived.Outline
import Derived.Handy
import Derived.Laws.CopyRow
import Derived.Laws.Rows
import Derived.Deep.Draws
import Derived.Deep.LoopGhost
import Derived.Deep.QuietTactic
import Derived.BigQuiet
import Derived.RegionTactic
import Derived.Deep.DeepCutAuto
set_option linter.unusedSimpArgs false
set_option linter.unusedVariables false
namespace Go.Sx
open Go.RowKit

/-! ### 1. Worlds -/
/-- What was there stands, but for the blocks of M. -/
structure Chg (M : List Nat) (w w' : World) : Prop where
  os : w'.os = w.os
  tape : w'.tape = w.tape
  output : w'.output = w.output
  size : w.heap.size ≤ w'.heap.size
  block : ∀ k, k < w.heap.size → k ∉ M → w'.heap[k]? = w.heap[k]?

theorem Chg.refl (M : List Nat) (w : World) : Chg M w w := ⟨rfl, rfl, rfl, Nat.le_refl _, fun _ _ _ => rfl⟩
theorem Chg.trans' {M M' : List Nat} {a b c : World} (h : Chg M a b) (k : Chg M' b c) (hm : ∀ i ∈ M', i ∈ M ∨ a.heap.size ≤ i) : Chg M a c :=
  ⟨k.os.trans h.os, k.tape.trans h.tape, k.output.trans h.output, Nat.le_trans h.size k.size, fun i hi hM =>
    (k.block i (Nat.lt_of_lt_of_le hi h.size) (fun e => (hm i e).elim hM (fun h1 => absurd hi (Nat.not_lt.2 h1)))).trans (h.block i hi hM)⟩
theorem Chg.trans {M : List Nat} {a b c : World} (h : Chg M a b) (k : Chg [] b c) : Chg M a c := h.trans' k (fun _ hi => by cases hi)
theorem Chg.drewN {M : List Nat} {a b : World} (h : Chg M a b) (n : Nat) : Chg M a (b.drewN n) := ⟨h.os, h.tape, h.output, h.size, h.block⟩
theorem Chg.drew {M : List Nat} {a b : World} (h : Chg M a b) : Chg M a b.drew := ⟨h.os, h.tape, h.output, h.size, h.block⟩
theorem Chg.alloc {M : List Nat} {a b : World} (h : Chg M a b) (o : Obj) : Chg M a (b.alloc o) :=
  h.trans ⟨rfl, rfl, rfl, by simp, fun k hk _ => Below.heap_alloc _ _ _ hk⟩
theorem Chg.of_below {w w' : World} (h : Below w.heap.size w w') : Chg [] w w' := ⟨h.os, h.tape, h.output, h.size, fun k hk _ => h.block k hk⟩
theorem Chg.below {w w' : World} (h : Chg [] w w') : Below w.heap.size w w' := ⟨h.os, h.tape, h.output, h.size, fun k hk => h.block k hk (by simp)⟩
theorem Chg.setRow {w : World} {g : Nat} {cs : Array Value} : Chg [g] w (w.setRow g cs) :=
  ⟨rfl, rfl, rfl, by simp, fun k _ hk => setRow_other w g k cs (by simpa using hk)⟩
theorem Chg.cell {w w' : World} (h : Chg [] w w') {a : Addr} {v : Value} (hc : w.cell? a = some v) : w'.cell? a = some v :=
  (World.cell?_of_block (h.block _ (World.block_lt_of_cell? w a hc) (by simp))).trans hc

/-! ### 2. Resources -/
theorem hid {p : Prop} (h : p) : Hid p := h
structure Res where
  foot : List Nat
  holds : World → Prop
  keep : ∀ {w w' : World}, (∀ k, k ∈ foot → w'.heap[k]? = w.heap[k]?) → holds w → holds w'

/-- Block b is the row of cells cs (elements of type t), none of them frozen. -/
def cel (b : Nat) (cs : List Value) (t : TypeId) : Res where
  foot := [b]
  holds := fun w => w.heap[b]? = some (.cells cs.toArray t (0, 0))
  keep := fun hk h => (hk b (by simp)).trans h

def feet (H : List Res) : List Nat := H.flatMap Res.foot
@[simp] theorem feet_nil : feet [] = [] := rfl
@[simp] theorem feet_cons (r : Res) (H : List Res) : feet (r :: H) = r.foot ++ feet H := rfl
@[simp] theorem feet_append (G H : List Res) : feet (G ++ H) = feet G ++ feet H := by simp [feet]

/-- The run began in world w0 and may write the blocks of M; it stands in world w and owns H. -/
structure St (M : List Nat) (w0 w : World) (H : List Res) : Prop where
  chg : Chg M w0 w
  all : ∀ r ∈ H, r.holds w
  nod : (feet H).Nodup
  lo : ∀ k ∈ feet H, k ∈ M ∨ w0.heap.size ≤ k
  hi : ∀ k ∈ feet H, k < w.heap.size

theorem St.start (w : World) : St [] w w [] := ⟨Chg.refl _ _, by simp, by simp, by simp, by simp⟩
theorem St.drewN {M : List Nat} {w0 w : World} {H : List Res} (S : St M w0 w H) (n : Nat) : St M w0 (w.drewN n) H :=
  ⟨S.chg.drewN n, fun r hr => r.keep (w := w) (fun _ _ => rfl) (S.all r hr), S.nod, S.lo, S.hi⟩
theorem St.drew {M : List Nat} {w0 w : World} {H : List Res} (S : St M w0 w H) : St M w0 w.drew H :=
  ⟨S.chg.drew, fun r hr => r.keep (w := w) (fun _ _ => rfl) (S.all r hr), S.nod, S.lo, S.hi⟩

/-- Hr are taken out of H (in the order of the list), Hk are left. -/
inductive Split : List Res → List Res → List Res → Prop
  | nil : Split [] [] []
  | take {r : Res} {H Hr Hk : List Res} : Split H Hr Hk → Split (r :: H) (r :: Hr) Hk
  | keep {r : Res} {H Hr Hk : List Res} : Split H Hr Hk → Split (r :: H) Hr (r :: Hk)
theorem Split.none : ∀ (H : List Res), Split H [] H
  | [] => .nil
  | _ :: H => .keep (Split.none H)
theorem Split.mem {H Hr Hk : List Res} (h : Split H Hr Hk) : ∀ r, r ∈ H ↔ r ∈ Hr ∨ r ∈ Hk := by
  induction h with
  | nil => simp
  | take _ ih => intro r; simp [ih r, or_assoc]
  | keep _ ih => intro r; simp [ih r]; constructor <;> rintro (h | h | h) <;> simp [h]
theorem Split.perm {H Hr Hk : List Res} (h : Split H Hr Hk) : (feet H).Perm (feet Hr ++ feet Hk) := by
  induction h with
  | nil => simp
  | take _ ih => simpa [List.append_assoc] using List.Perm.append_left _ ih
  | keep _ ih =>
    simp only [feet_cons]
    refine (List.Perm.append_left _ ih).trans ?_
    rw [← List.append_assoc, ← List.append_assoc]
    exact List.Perm.append_right _ List.perm_append_comm

/-- A piece of what is owned, by itself. -/
theorem St.piece {M : List Nat} {w0 w : World} {H Hr Hk : List Res} (S : St M w0 w H) (h : Split H Hr Hk) : St (feet Hr) w w Hr := by
  have hp := (List.Perm.nodup_iff h.perm).1 S.nod
  refine ⟨Chg.refl _ _, fun r hr => S.all r ((h.mem r).2 (.inl hr)), (List.nodup_append.1 hp).1, fun k hk => .inl hk, fun k hk => S.hi k ?_⟩
  exact (h.perm.mem_iff).2 (by simp [hk])

/-- A step that writes what the piece Hr owns alone, and leaves Hn in its place. -/
theorem St.call {M : List Nat} {w0 w w' : World} {H Hr Hk Hn : List Res} (S : St M w0 w H) (h : Split H Hr Hk) (T : St (feet Hr) w w' Hn) : St M w0 w' (Hn ++ Hk) := by
  have hp := (List.Perm.nodup_iff h.perm).1 S.nod
  obtain ⟨n1, n2, n3⟩ := List.nodup_append.1 hp
  have hin : ∀ k, k ∈ feet Hr ∨ k ∈ feet Hk → k ∈ feet H := fun k hk => (h.perm.mem_iff).2 (by simpa using hk)
  have hk' : ∀ k ∈ feet Hk, w'.heap[k]? = w.heap[k]? := fun k hk => T.chg.block k (S.hi k (hin k (.inr hk))) (fun hr => n3 k hr k hk rfl)
  refine ⟨S.chg.trans' T.chg (fun i hi => S.lo i (hin i (.inl hi))), ?_, ?_, ?_, ?_⟩
  · intro r hr
    rcases List.mem_append.1 hr with hr | hr
    · exact T.all r hr
    · exact r.keep (fun k hk => hk' k (List.mem_flatMap.2 ⟨r, hr, hk⟩)) (S.all r ((h.mem r).2 (.inr hr)))
  · rw [feet_append]
    refine List.nodup_append.2 ⟨T.nod, n2, fun a ha b hb e => ?_⟩
    subst e
    rcases T.lo a ha with h1 | h1
    · exact n3 a h1 a hb rfl
    · have := S.hi a (hin a (.inr hb)); omega
  · intro k hk
    rw [feet_append, List.mem_append] at hk
    rcases hk with hk | hk
    · rcases T.lo k hk with h1 | h1
      · exact S.lo k (hin k (.inl h1))
      · exact .inr (Nat.le_trans S.chg.size h1)
    · exact S.lo k (hin k (.inr hk))
  · intro k hk
    rw [feet_append, List.mem_append] at hk
    rcases hk with hk | hk
    · exact T.hi k hk
    · exact Nat.lt_of_lt_of_le (S.hi k (hin k (.inr hk))) T.chg.size
theorem St.grow {M : List Nat} {w0 w w' : World} {H Hn : List Res} (S : St M w0 w H) (T : St [] w w' Hn) : St M w0 w' (Hn ++ H) := S.call (Split.none H) T
theorem St.step {M : List Nat} {w0 w w' : World} {H : List Res} (S : St M w0 w H) (T : Chg [] w w') : St M w0 w' H :=
  S.call (Hn := []) (Split.none H) ⟨T, by simp, by simp, by simp, by simp⟩
theorem St.drop {M : List Nat} {w0 w : World} {H Hr Hk : List Res} (S : St M w0 w H) (h : Split H Hr Hk) : St M w0 w Hk :=
  S.call (Hn := []) h ⟨Chg.refl _ _, by simp, by simp, by simp, by simp⟩
theorem St.pick {M : List Nat} {w0 w : World} {H Hr Hk : List Res} (S : St M w0 w H) (h : Split H Hr Hk) : St M w0 w Hr :=
  ⟨S.chg, fun r hr => S.all r ((h.mem r).2 (.inl hr)), (List.nodup_append.1 ((List.Perm.nodup_iff h.perm).1 S.nod)).1,
    fun k hk => S.lo k ((h.perm.mem_iff).2 (by simp [hk])), fun k hk => S.hi k ((h.perm.mem_iff).2 (by simp [hk]))⟩
/-- The run's own end: what began with nothing of its own to write. -/
theorem St.done {w0 w : World} {H : List Res} (S : St [] w0 w H) : Chg [] w0 w := S.chg
theorem St.fresh {w : World} (cs : List Value) (t : TypeId) : St [] w (w.alloc (.cells cs.toArray t (0, 0))) [cel w.heap.size cs t] := by
  refine ⟨(Chg.refl _ _).alloc _, ?_, by simp [cel], by simp [cel], by simp [cel]⟩
  intro r hr
  rw [List.mem_singleton.1 hr]
  exact heap_alloc_new w _

/-- Resource r of H, and H with r' in its place. -/
inductive Upd : List Res → Res → Res → List Res → Prop
  | here {r r' : Res} {H : List Res} : Upd (r :: H) r r' (r' :: H)
  | there {x r r' : Res} {H H' : List Res} : Upd H r r' H' → Upd (x :: H) r r' (x :: H')
theorem Upd.mem {H H' : List Res} {r r' : Res} (h : Upd H r r' H') : r ∈ H := by
  induction h with
  | here => simp
  | there _ ih => simp [ih]
theorem Upd.feet {H H' : List Res} {r r' : Res} (h : Upd H r r' H') (hf : r'.foot = r.foot) : feet H' = feet H := by
  induction h with
  | here => simp [hf]
  | there _ ih => simp [ih hf]
theorem Upd.others {H H' : List Res} {r r' : Res} (h : Upd H r r' H') (hn : (Sx.feet H).Nodup) : ∀ s ∈ H', s = r' ∨ (s ∈ H ∧ ∀ k ∈ s.foot, k ∉ r.foot) := by
  induction h with
  | @here r r' H =>
    intro s hs
    rcases List.mem_cons.1 hs with rfl | hs
    · exact .inl rfl
    · refine .inr ⟨by simp [hs], fun k hk hr => ?_⟩
      exact (List.nodup_append.1 hn).2.2 k hr k (List.mem_flatMap.2 ⟨s, hs, hk⟩) rfl
  | @there x r r' H H' hu ih =>
    intro s hs
    rcases List.mem_cons.1 hs with rfl | hs
    · refine .inr ⟨by simp, fun k hk hr => ?_⟩
      exact (List.nodup_append.1 hn).2.2 k hk k (List.mem_flatMap.2 ⟨r, hu.mem, hr⟩) rfl
    · rcases ih (List.nodup_append.1 hn).2.1 s hs with h1 | ⟨h1, h2⟩
      · exact .inl h1
      · exact .inr ⟨by simp [h1], h2⟩
/-- One resource's blocks have been written, in place. -/
theorem St.put {M : List Nat} {w0 w w' : World} {H H' : List Res} {r r' : Res} (S : St M w0 w H) (hu : Upd H r r' H') (hf : r'.foot = r.foot) (hc : Chg r.foot w w') (hr : r'.holds w') : St M w0 w' H' := by
  have hfe := hu.feet hf
  have hr0 : ∀ k ∈ r.foot, k ∈ feet H := fun k hk => List.mem_flatMap.2 ⟨r, hu.mem, hk⟩
  refine ⟨S.chg.trans' hc (fun k hk => S.lo k (hr0 k hk)), fun s hs => ?_, hfe ▸ S.nod, hfe ▸ S.lo, fun k hk => Nat.lt_of_lt_of_le (S.hi k (hfe ▸ hk)) hc.size⟩
  rcases hu.others S.nod s hs with rfl | ⟨h1, h2⟩
  · exact hr
  · exact s.keep (fun k hk => hc.block k (S.hi k (List.mem_flatMap.2 ⟨s, h1, hk⟩)) (h2 k hk)) (S.all s h1)
theorem St.setRow {M : List Nat} {w0 w : World} {H H' : List Res} {b : Nat} {cs cs' : List Value} {t : TypeId} (S : St M w0 w H) (hu : Upd H (cel b cs t) (cel b cs' t) H') : St M w0 (w.setRow b cs'.toArray) H' :=
  S.put hu rfl Chg.setRow (setRow_heap w b cs.toArray cs'.toArray t (0, 0) (S.all _ hu.mem))

/-! ### 3. The facts of the blocks that are told whole, for the walk -/
def Fc (w : World) (b : Nat) : Nat → List Value → Prop
  | _, [] => True
  | i, x :: cs => w.cell? ⟨b, i, none⟩ = some x ∧ w.frozen? ⟨b, i, none⟩ = false ∧ Fc w b (i + 1) cs
theorem Fc.mk {w : World} {b : Nat} {t : TypeId} {all : Array Value} (h : w.heap[b]? = some (.cells all t (0, 0))) : ∀ (cs : List Value) (i : Nat), (∀ j, cs[j]? = all[i + j]? ∨ cs.length ≤ j) → Fc w b i cs
  | [], _, _ => trivial
  | x :: cs, i, hi => by
    refine ⟨?_, frozen_of_row w b i all t h, Fc.mk h cs (i + 1) (fun j => ?_)⟩
    · rw [cell_of_row w b i all t (0, 0) h]
      rcases hi 0 with h1 | h1
      · simpa using h1.symm
      · simp at h1
    · rcases hi (j + 1) with h1 | h1
      · left; simpa [Nat.add_assoc, Nat.add_comm 1 j] using h1
      · right; simpa using h1
theorem St.facts {M : List Nat} {w0 w : World} {H : List Res} {b : Nat} {cs : List Value} {t : TypeId} (S : St M w0 w H) (hm : cel b cs t ∈ H) : Fc w b 0 cs :=
  Fc.mk (S.all _ hm) cs 0 (fun j => by left; simp)

/-! ### 4. Rules for operations -/
/-- A type's zero value, its number of cells, its bytes. -/
class TI (P : Program) (t : TypeId) (z : outParam Value) (n bytes : outParam Nat) : Prop where
  eq : (P.info? t).map (fun i => (i.zero, i.size, i.bytes)) = some (some z, n, bytes)
  sz : z.cells.size = n := by rfl
theorem TI.get {P : Program} {t : TypeId} {z : Value} {n bytes : Nat} (h : TI P t z n bytes) : ∃ i, P.info? t = some i ∧ i.zero = some z ∧ i.size = n ∧ i.bytes = bytes := by
  obtain ⟨i, h1, h2⟩ := Option.map_eq_some_iff.1 h.eq
  simp only [Prod.mk.injEq] at h2
  exact ⟨i, h1, h2.1, h2.2.1, h2.2.2⟩
def aggB : TypeDesc → Bool | .struct _ | .array _ _ => true | _ => false
/-- A type of one cell; one of several (a struct). -/
class Flat (P : Program) (t : TypeId) : Prop where eq : (P.underlying t).map aggB = some false
class Agg (P : Program) (t : TypeId) : Prop where eq : (P.underlying t).map aggB = some true
theorem isAgg_of {P : Program} {t : TypeId} {b : Bool} (h : (P.underlying t).map aggB = some b) (w : World) : (isAgg t).run P w = .ok b w := by
  obtain ⟨d, h1, h2⟩ := Option.map_eq_some_iff.1 h
  unfold isAgg
  rw [Sem.run_bind, run_underlying h1 w]
  subst h2
  cases d <;> rfl
section
variable {P : Program} {ops : Array Oper} {rest : List Oper} {a : Act} {Q : Exit → Act → World → Prop} {M : List Nat} {w0 w : World} {H H' : List Res} {gg : Option (Nat × Bool)}
/-- A struct's parameter, or a variable with a value, in a block of its own. -/
theorem s_box {d t ty : Nat} {x : Operand} {pos : String} {aft : Array Edge} {cs : List Value} (S : St M w0 w H) (hx : (a.eval x).cells = cs.toArray := by with_unfolding_all rfl)
    (h : ∀ b w', St M w0 w' (cel b cs t :: H) → Chg [] w w' → wpList P ops Q rest (a.put (some d) (.pointer (some ⟨b, 0, none⟩))) w') (hg : Region.wanted ⟨some d, .box t x, ty, pos, aft, gg⟩ (yielded ops a.tmps) = true := by with_unfolding_all rfl) : wpList P ops Q (⟨some d, .box t x, ty, pos, aft, gg⟩ :: rest) a w := by
  refine BigFrame.wpList_want hg fun K hK => ?_
  have hrun : (execOp a.eval ⟨some d, .box t x, ty, pos, aft, gg⟩).run P w = .ok (.value (.pointer (some ⟨w.heap.size, 0, none⟩))) (w.alloc (.cells cs.toArray t (0, 0))) := by
    simp only [execOp, Instr.box, newVar, newRow, newObj, hx]
    simp [go_sem]
    rfl
  unfold Oper.wp
  rw [hrun, Oper.upon_value]
  exact hK _ _ (h _ _ (S.grow (St.fresh cs t)) ((Chg.refl _ _).alloc _))
/-- A variable with its type's zero value. -/
theorem s_alloc {d t ty : Nat} {pos : String} {aft : Array Edge} {cs : List Value} (S : St M w0 w H) {z : Value} {n bytes : Nat} [hi : TI P t z n bytes] (hx : z.cells = cs.toArray := by with_unfolding_all rfl)
    (h : ∀ b w', St M w0 w' (cel b cs t :: H) → Chg [] w w' → wpList P ops Q rest (a.put (some d) (.pointer (some ⟨b, 0, none⟩))) w') (hg : Region.wanted ⟨some d, .alloc t, ty, pos, aft, gg⟩ (yielded ops a.tmps) = true := by with_unfolding_all rfl) : wpList P ops Q (⟨some d, .alloc t, ty, pos, aft, gg⟩ :: rest) a w := by
  refine BigFrame.wpList_want hg fun K hK => ?_
  have hrun : (execOp a.eval ⟨some d, .alloc t, ty, pos, aft, gg⟩).run P w = .ok (.value (.pointer (some ⟨w.heap.size, 0, none⟩))) (w.alloc (.cells cs.toArray t (0, 0))) := by
    obtain ⟨i, hi, hz, _, _⟩ := hi.get
    have hz' : (zeroValue t).run P w = .ok z w := by simp [zeroValue, typeInfo, go_sem, hi, hz]
    simp only [execOp, Instr.alloc, Sem.run_bind, hz', Result.andThen_ok, newVar, newRow, newObj, hx]
    rfl
  unfold Oper.wp
  rw [hrun, Oper.upon_value]
  exact hK _ _ (h _ _ (S.grow (St.fresh cs t)) ((Chg.refl _ _).alloc _))

/-- cs with vs laid over it from place off on. -/
inductive Spl : List Value → Nat → List Value → List Value → Prop
  | done {cs : List Value} : Spl cs 0 [] cs
  | here {c v : Value} {cs vs cs' : List Value} : Spl cs 0 vs cs' → Spl (c :: cs) 0 (v :: vs) (v :: cs')
  | there {c : Value} {cs vs cs' : List Value} {off : Nat} : Spl cs off vs cs' → Spl (c :: cs) (off + 1) vs (c :: cs')
theorem Spl.eq {cs vs cs' : List Value} {off : Nat} (h : Spl cs off vs cs') : off + vs.length ≤ cs.length ∧ cs' = cs.take off ++ vs ++ cs.drop (off + vs.length) := by
  induction h with
  | done => simp
  | here _ ih =>
    obtain ⟨h1, h2⟩ := ih
    refine ⟨by simp at h1 ⊢; omega, ?_⟩
    simp only [List.take_zero, List.nil_append, Nat.zero_add] at h2
    simp [h2]
  | @there c cs vs cs' off _ ih =>
    obtain ⟨h1, h2⟩ := ih
    refine ⟨by simp at h1 ⊢; omega, ?_⟩
    rw [h2, show off + 1 + vs.length = off + vs.length + 1 from by omega]
    simp

/-- A store into a block that is told whole. -/
theorem s_store {t ty b off : Nat} {p x : Operand} {pos : String} {aft : Array Edge} {cs vs cs' : List Value} {t' : TypeId} (S : St M w0 w H) {z : Value} {n bytes : Nat} [hi : TI P t z n bytes] (hp : a.eval p = .pointer (some ⟨b, off, none⟩) := by with_unfolding_all rfl) (hx : (a.eval x).cells = vs.toArray := by with_unfolding_all rfl)
    (hu : Upd H (cel b cs t') (cel b cs' t') H' := by repeat (with_reducible first | exact Upd.here | apply Upd.there)) (hs : Spl cs off vs cs' := by repeat (with_reducible first | exact Spl.done | apply Spl.here | apply Spl.there)) (h1 : vs.all (fun v => v.oneCell') = true := by with_unfolding_all rfl) (hn : vs.length = n := by with_unfolding_all rfl)
    (h : ∀ w', St M w0 w' H' → wpList P ops Q rest a w') (hg : Region.wanted ⟨none, .store t p x, ty, pos, aft, gg⟩ (yielded ops a.tmps) = true := by with_unfolding_all rfl) : wpList P ops Q (⟨none, .store t p x, ty, pos, aft, gg⟩ :: rest) a w := by
  refine BigFrame.wpList_want hg fun K hK => ?_
  subst hn
  obtain ⟨h2, h3⟩ := hs.eq
  have hb : w.heap[b]? = some (.cells cs.toArray t' (0, 0)) := S.all _ hu.mem
  have hst := run_storeCells_at P b off t' vs 0 cs.toArray w hb (by simpa using h2) (List.all_eq_true.1 h1)
  simp only [Nat.add_zero] at hst
  rw [← h3] at hst
  obtain ⟨i, hi1, _, hi2, _⟩ := hi.get
  have hrun : (execOp a.eval ⟨none, .store t p x, ty, pos, aft, gg⟩).run P w = .ok .skip (w.setRow b cs'.toArray) := by
    have hz' : (sizeOf t).run P w = .ok vs.length w := by simp [sizeOf, typeInfo, go_sem, hi1, hi2]
    simp only [execOp, Instr.storeAt, hp, Instr.sureAddr, storeVar, Sem.run_bind, Sem.run_pure, hz', Result.andThen_ok, hx, List.size_toArray, ne_eq, not_true_eq_false, if_false]
    simp only [Sem.run_bind, Sem.run_pure, Result.andThen_ok, hst]
  unfold Oper.wp
  rw [hrun, Oper.upon_skip]
  exact hK _ _ (h _ (S.setRow hu))

/-- A load of one cell out of a block that is told whole. -/
theorem s_load {d t ty b off : Nat} {p : Operand} {pos : String} {aft : Array Edge} {cs : List Value} {v : Value} {t' : TypeId} (S : St M w0 w H) [hf : Flat P t] (hp : a.eval p = .pointer (some ⟨b, off, none⟩) := by with_unfolding_all rfl)
    (hm : cel b cs t' ∈ H := by repeat (with_reducible first | exact List.mem_cons_self | apply List.mem_cons_of_mem)) (hv : cs[off]? = some v := by with_unfolding_all rfl)
    (h : wpList P ops Q rest (a.put (some d) v) w) (hg : Region.wanted ⟨some d, .load t p, ty, pos, aft, gg⟩ (yielded ops a.tmps) = true := by with_unfolding_all rfl) : wpList P ops Q (⟨some d, .load t p, ty, pos, aft, gg⟩ :: rest) a w := by
  refine BigFrame.wpList_want hg fun K hK => ?_
  have ht := isAgg_of hf.eq w
  have hb : w.heap[b]? = some (.cells cs.toArray t' (0, 0)) := S.all _ hm
  have hc : w.cell? ⟨b, off, none⟩ = some v := by rw [cell_of_row w b off _ t' _ hb]; simpa using hv
  have hl : (load (⟨b, off, none⟩ : Addr)).run P w = .ok v w := by simp [run_load, hc]
  have hrun : (execOp a.eval ⟨some d, .load t p, ty, pos, aft, gg⟩).run P w = .ok (.value v) w := by
    simp only [execOp, Instr.loadAt, hp, Instr.sureAddr, loadVar, Sem.run_bind, Sem.run_pure, ht, Result.andThen_ok, if_false, Bool.false_eq_true, hl]
  unfold Oper.wp
  rw [hrun, Oper.upon_value]
  exact hK _ _ h
inductive Sub : List Value → Nat → Nat → List Value → Prop
  | done {cs : List Value} : Sub cs 0 0 []
  | here {c : Value} {cs vs : List Value} {n : Nat} : Sub cs 0 n vs → Sub (c :: cs) 0 (n + 1) (c :: vs)
  | there {c : Value} {cs vs : List Value} {off n : Nat} : Sub cs off n vs → Sub (c :: cs) (off + 1) n vs
theorem Sub.eq {cs vs : List Value} {off n : Nat} (h : Sub cs off n vs) : vs.length = n ∧ ∀ j, j < n → cs[off + j]? = vs[j]? := by
  induction h with
  | done => simp
  | here _ ih =>
    refine ⟨by simp [ih.1], fun j hj => ?_⟩
    cases j with
    | zero => simp
    | succ j => have := ih.2 j (by omega); simp only [Nat.zero_add] at this; simpa using this
  | @there c cs vs off n _ ih =>
    refine ⟨ih.1, fun j hj => ?_⟩
    rw [← ih.2 j hj, show off + 1 + j = off + j + 1 from by omega]
    simp
/-- A load of a struct out of a block that is told whole. -/
theorem s_loadA {d t ty b off n : Nat} {p : Operand} {pos : String} {aft : Array Edge} {cs vs : List Value} {t' : TypeId} (S : St M w0 w H) [hf : Agg P t] {z : Value} {bytes : Nat} [hi : TI P t z n bytes] (hp : a.eval p = .pointer (some ⟨b, off, none⟩) := by with_unfolding_all rfl)
    (hm : cel b cs t' ∈ H := by repeat (with_reducible first | exact List.mem_cons_self | apply List.mem_cons_of_mem)) (hv : Sub cs off n vs := by repeat (with_reducible first | exact Sub.done | apply Sub.here | apply Sub.there))
    (h : wpList P ops Q rest (a.put (some d) (.agg vs.toArray)) w) (hg : Region.wanted ⟨some d, .load t p, ty, pos, aft, gg⟩ (yielded ops a.tmps) = true := by with_unfolding_all rfl) : wpList P ops Q (⟨some d, .load t p, ty, pos, aft, gg⟩ :: rest) a w := by
  refine BigFrame.wpList_want hg fun K hK => ?_
  have ht := isAgg_of hf.eq w
  have hb : w.heap[b]? = some (.cells cs.toArray t' (0, 0)) := S.all _ hm
  obtain ⟨h1, h2⟩ := hv.eq
  have hl : (loadCells (⟨b, off, none⟩ : Addr) n).run P w = .ok vs.toArray w := by
    have := run_loadCells_list (P := P) w ⟨b, off, none⟩ vs (fun j v hjv => by
      have hadd : (⟨b, off, none⟩ : Addr).add j = ⟨b, off + j, none⟩ := by unfold Addr.add; split <;> simp_all
      have hj : j < n := by rw [← h1]; exact (List.getElem?_eq_some_iff.1 hjv).1
      rw [hadd, cell_of_row w b (off + j) _ t' _ hb]
      simpa [h2 j hj] using hjv)
    rwa [h1] at this
  obtain ⟨i, hi1, _, hi2, _⟩ := hi.get
  have hz' : (sizeOf t).run P w = .ok n w := by simp [sizeOf, typeInfo, go_sem, hi1, hi2]
  have hrun : (execOp a.eval ⟨some d, .load t p, ty, pos, aft, gg⟩).run P w = .ok (.value (.agg vs.toArray)) w := by
    simp only [execOp, Instr.loadAt, hp, Instr.sureAddr, loadVar, Sem.run_bind, Sem.run_pure, ht, hz', Result.andThen_ok, if_true, hl]
  unfold Oper.wp
  rw [hrun, Oper.upon_value]
  exact hK _ _ h

/-! ### 5. Results -/
/-- What a result variable holds at the end. -/
inductive RV (P : Program) (tmps : Array Value) (w : World) (H : List Res) : ResultVar → Value → Prop
  | tmp {t : Tmp} {v : Value} (h : tmps.getD t undef = v) : RV P tmps w H (.tmp t) v
  | cell {t ty b : Nat} {cs : List Value} {v : Value} {t' : TypeId} (h : tmps.getD t undef = .pointer (some ⟨b, 0, none⟩)) (hm : cel b cs t' ∈ H) (hf : Flat P ty) (hv : cs[0]? = some v) : RV P tmps w H (.cell t ty) v
  | agg {t ty b n bytes : Nat} {cs vs : List Value} {t' : TypeId} {z : Value} (h : tmps.getD t undef = .pointer (some ⟨b, 0, none⟩)) (hm : cel b cs t' ∈ H) (hf : Agg P ty) (hi : TI P ty z n bytes) (hv : Sub cs 0 n vs) : RV P tmps w H (.cell t ty) (.agg vs.toArray)
end
def rvSem (tmps : Array Value) : ResultVar → Sem Value
  | .tmp t => pure (tmps.getD t undef)
  | .cell a t => do loadVar t (← asAddr (tmps.getD a undef))
theorem results_eq (fn : Func) (tmps : Array Value) : results fn tmps = (do
    let vs ← fn.results.mapM (rvSem tmps)
    pure (if h : vs.size = 1 then vs[0] else .tuple vs)) := by
  unfold results
  congr 2
theorem RV.run {P : Program} {tmps : Array Value} {w : World} {M : List Nat} {w0 : World} {H : List Res} {r : ResultVar} {v : Value} (S : St M w0 w H) (h : RV P tmps w H r v) :
    (rvSem tmps r).run P w = .ok v w := by
  unfold rvSem
  cases h with
  | tmp h => simp only [h]; rfl
  | @cell t ty b cs v t' h hm hf hv =>
    have hb : w.heap[b]? = some (.cells cs.toArray t' (0, 0)) := S.all _ hm
    have hc : w.cell? ⟨b, 0, none⟩ = some v := by rw [cell_of_row w b 0 _ t' _ hb]; simpa using hv
    have hl : (load (⟨b, 0, none⟩ : Addr)).run P w = .ok v w := by simp [run_load, hc]
    simp only [h, asAddr, loadVar, Sem.run_bind, Sem.run_pure, isAgg_of hf.eq w, Result.andThen_ok, if_false, Bool.false_eq_true, hl]
  | @agg t ty b n bytes cs vs t' z h hm hf hi hv =>
    have hb : w.heap[b]? = some (.cells cs.toArray t' (0, 0)) := S.all _ hm
    obtain ⟨h1, h2⟩ := hv.eq
    have hl : (loadCells (⟨b, 0, none⟩ : Addr) n).run P w = .ok vs.toArray w := by
      have := run_loadCells_list (P := P) w ⟨b, 0, none⟩ vs (fun j v hjv => by
        have hadd : (⟨b, 0, none⟩ : Addr).add j = ⟨b, 0 + j, none⟩ := by unfold Addr.add; split <;> simp_all
        have hj : j < n := by rw [← h1]; exact (List.getElem?_eq_some_iff.1 hjv).1
        rw [hadd, cell_of_row w b (0 + j) _ t' _ hb]
        have h3 := h2 j hj
        simp only [Nat.zero_add] at h3
        simpa [h3] using hjv)
      rwa [h1] at this
    obtain ⟨i, hi1, _, hi2, _⟩ := hi.get
    have hz' : (sizeOf ty).run P w = .ok n w := by simp [sizeOf, typeInfo, go_sem, hi1, hi2]
    simp only [h, asAddr, loadVar, Sem.run_bind, Sem.run_pure, isAgg_of hf.eq w, hz', Result.andThen_ok, if_true, hl]
section
variable {P : Program} {fn : Func} {R : Ending → World → Prop} {a : Act} {w w0 : World} {M : List Nat} {H : List Res} {r1 r2 r3 : ResultVar} {v v1 v2 v3 : Value}
theorem s_ret1 (S : St M w0 w H) (hr : fn.results = #[r1] := by rfl) (hd : a.defers = [] := by rfl) (h1 : RV P a.tmps w H r1 v1 := by first | exact RV.tmp rfl | exact RV.agg rfl (by repeat (with_reducible first | exact List.mem_cons_self | apply List.mem_cons_of_mem)) inferInstance inferInstance (by repeat (with_reducible first | exact Sub.done | apply Sub.here | apply Sub.there)) | exact RV.cell rfl (by repeat (with_reducible first | exact List.mem_cons_self | apply List.mem_cons_of_mem)) inferInstance rfl) (h : R (.returned v1) w) : bodyPost P fn R .ret a w := by
  refine bodyPost_ret ?_ hd h
  have e1 := h1.run S
  rw [results_eq, hr]
  simp [Sem.run_bind, e1]
theorem s_ret2 (S : St M w0 w H) (hr : fn.results = #[r1, r2] := by rfl) (hd : a.defers = [] := by rfl) (h1 : RV P a.tmps w H r1 v1 := by first | exact RV.tmp rfl | exact RV.agg rfl (by repeat (with_reducible first | exact List.mem_cons_self | apply List.mem_cons_of_mem)) inferInstance inferInstance (by repeat (with_reducible first | exact Sub.done | apply Sub.here | apply Sub.there)) | exact RV.cell rfl (by repeat (with_reducible first | exact List.mem_cons_self | apply List.mem_cons_of_mem)) inferInstance rfl) (h2 : RV P a.tmps w H r2 v2 := by first | exact RV.tmp rfl | exact RV.agg rfl (by repeat (with_reducible first | exact List.mem_cons_self | apply List.mem_cons_of_mem)) inferInstance inferInstance (by repeat (with_reducible first | exact Sub.done | apply Sub.here | apply Sub.there)) | exact RV.cell rfl (by repeat (with_reducible first | exact List.mem_cons_self | apply List.mem_cons_of_mem)) inferInstance rfl) (h : R (.returned (.tuple #[v1, v2])) w) : bodyPost P fn R .ret a w := by
  refine bodyPost_ret ?_ hd h
  have e1 := h1.run S
  have e2 := h2.run S
  rw [results_eq, hr]
  simp [Sem.run_bind, e1, e2]
theorem s_ret3 (S : St M w0 w H) (hr : fn.results = #[r1, r2, r3] := by rfl) (hd : a.defers = [] := by rfl) (h1 : RV P a.tmps w H r1 v1 := by first | exact RV.tmp rfl | exact RV.agg rfl (by repeat (with_reducible first | exact List.mem_cons_self | apply List.mem_cons_of_mem)) inferInstance inferInstance (by repeat (with_reducible first | exact Sub.done | apply Sub.here | apply Sub.there)) | exact RV.cell rfl (by repeat (with_reducible first | exact List.mem_cons_self | apply List.mem_cons_of_mem)) inferInstance rfl) (h2 : RV P a.tmps w H r2 v2 := by first | exact RV.tmp rfl | exact RV.agg rfl (by repeat (with_reducible first | exact List.mem_cons_self | apply List.mem_cons_of_mem)) inferInstance inferInstance (by repeat (with_reducible first | exact Sub.done | apply Sub.here | apply Sub.there)) | exact RV.cell rfl (by repeat (with_reducible first | exact List.mem_cons_self | apply List.mem_cons_of_mem)) inferInstance rfl) (h3 : RV P a.tmps w H r3 v3 := by first | exact RV.tmp rfl | exact RV.agg rfl (by repeat (with_reducible first | exact List.mem_cons_self | apply List.mem_cons_of_mem)) inferInstance inferInstance (by repeat (with_reducible first | exact Sub.done | apply Sub.here | apply Sub.there)) | exact RV.cell rfl (by repeat (with_reducible first | exact List.mem_cons_self | apply List.mem_cons_of_mem)) inferInstance rfl) (h : R (.returned (.tuple #[v1, v2, v3])) w) : bodyPost P fn R .ret a w := by
  refine bodyPost_ret ?_ hd h
  have e1 := h1.run S
  have e2 := h2.run S
  have e3 := h3.run S
  rw [results_eq, hr]
  simp [Sem.run_bind, e1, e2, e3]
end
end Go.Sx
