/- Words of our own, seventh part: a region whose order is open: what only reads is taken first; what makes memory comes in the one order that the edges leave; writers come last. -/
import Derived.Test.YtcfialfgkkjlfaaA6
import Derived.OrdersHeld
set_option linter.unusedSimpArgs false
set_option linter.unusedVariables false
namespace Go.Sx
open Go.RowKit

section
variable {P : Program} {ops : Array Oper} {Q : Exit → Act → World → Prop}

/-- Whatever order is picked from here on; all but the operations of W let what was there stand. -/
def wpM (P : Program) (ops : Array Oper) (Q : Exit → Act → World → Prop) (W : List Nat) : Nat → Array Bool → Act → World → Prop
  | 0, l, a, w => Region.ready .any ops l = [] ∧ Q .normal a w
  | f + 1, l, a, w => (Region.ready .any ops l = [] → Q .normal a w) ∧
    ∀ i ∈ Region.ready .any ops l, wpOp P ops Q i (fun a' w' => (W.contains i = true ∨ Chg [] w w') ∧ wpM P ops Q W f (l.setIfInBounds i true) a' w') a w
theorem wpAny_of_M {W : List Nat} : ∀ (f : Nat) (l : Array Bool) (a : Act) (w : World), wpM P ops Q W f l a w → wpAny P .any ops Q f l a w
  | 0, _, _, _, h => h
  | f + 1, _, _, _, h => ⟨h.1, fun i hi => wpOp_mono (fun a' w' h' => wpAny_of_M f _ a' w' h'.2) (h.2 i hi)⟩

/-- Operation j waits, at last, for operation i. -/
inductive Blk (ops : Array Oper) (l : Array Bool) (i : Nat) : Nat → Prop
  | here {j : Nat} {oj : Oper} {e : Edge} : ops[j]? = some oj → e ∈ oj.after → Region.binds .any e = true → l.getD e.on true = false → e.on = i → Blk ops l i j
  | there {j : Nat} {oj : Oper} {e : Edge} : ops[j]? = some oj → e ∈ oj.after → Region.binds .any e = true → l.getD e.on true = false → Blk ops l i e.on → Blk ops l i j
def blk (ops : Array Oper) (l : Array Bool) (i : Nat) : Nat → Nat → Bool
  | 0, _ => false
  | f + 1, j => match ops[j]? with
    | some oj => oj.after.any fun e => Region.binds .any e && l.getD e.on true == false && (e.on == i || blk ops l i f e.on)
    | none => false
theorem Blk.of {ops : Array Oper} {l : Array Bool} {i : Nat} : ∀ (f j : Nat), blk ops l i f j = true → Blk ops l i j
  | 0, _, h => by simp [blk] at h
  | f + 1, j, h => by
    unfold blk at h
    split at h
    · rename_i oj hj
      obtain ⟨e, he, hb⟩ := Array.any_eq_true'.1 h
      simp only [Bool.and_eq_true, beq_iff_eq, Bool.or_eq_true] at hb
      rcases hb.2 with h | h
      · exact .here hj he hb.1.1 hb.1.2 h
      · exact .there hj he hb.1.1 hb.1.2 (Blk.of f _ h)
    · cases h
theorem Blk.edge {ops : Array Oper} {l : Array Bool} {i j : Nat} (h : Blk ops l i j) : ∃ oj, ops[j]? = some oj ∧ ∃ e ∈ oj.after, Region.binds .any e = true ∧ l.getD e.on true = false := by
  cases h with
  | here a b c d _ => exact ⟨_, a, _, b, c, d⟩
  | there a b c d _ => exact ⟨_, a, _, b, c, d⟩
theorem Blk.notReady {ops : Array Oper} {l : Array Bool} {i j : Nat} (h : Blk ops l i j) (hr : j ∈ Region.ready .any ops l) : False := by
  obtain ⟨o, hj, e, he, hb, hu⟩ := h.edge
  obtain ⟨_, oj, hoj, hall⟩ := mem_ready.1 hr
  rw [hj] at hoj
  cases hoj
  have h1 := hall _ he hb
  rcases Nat.lt_or_ge e.on l.size with h' | h'
  · simp [h'] at hu h1; rw [hu] at h1; cases h1
  · simp [Array.getElem?_eq_none h'] at h1
theorem Blk.keep {ops : Array Oper} {l : Array Bool} {i j k : Nat} (h : Blk ops l i j) (hki : k ≠ i) (hr : k ∈ Region.ready .any ops l) : Blk ops (l.setIfInBounds k true) i j := by
  induction h with
  | here hj he hb hu ho => exact .here hj he hb (by rwa [getD_set_ne true (by rw [ho]; exact hki)]) ho
  | there hj he hb hu ho ih => exact .there hj he hb (by rw [getD_set_ne true (by rintro rfl; exact ho.notReady hr)]; exact hu) ih
theorem wpM_first {W : List Nat} {i : Nat} {oi : Oper} {v : Value} (hi : ops[i]? = some oi) (hsel : ∀ (j : Nat) (o : Oper) cs b, ops[j]? = some o → o.op ≠ .select cs b)
    (hQ : ∀ c a w, Q (.panic c) (a.put oi.dst v) w → Q (.panic c) a w) :
    ∀ (fuel : Nat) (l : Array Bool) (a : Act) (w : World),
      (∀ j oj, ops[j]? = some oj → j ≠ i → l.getD j true = false → (∀ e ∈ oj.after, Region.binds .any e = true → e.on ≠ i) → oi.apart ops oj = true) →
      (∀ j oj, ops[j]? = some oj → j ≠ i → l.getD j true = false → W.contains j = true → Blk ops l i j) →
      i ∈ Region.ready .any ops l → YieldsIf P ops (fun w' => Chg [] w w') oi v a →
      wpM P ops Q W fuel (l.setIfInBounds i true) (a.put oi.dst v) w → wpM P ops Q W (fuel + 1) l a w := by
  intro fuel
  induction fuel with
  | zero =>
    intro l a w _ _ hr hy H
    refine ⟨fun h => (by rw [h] at hr; cases hr), fun j hj => ?_⟩
    by_cases hji : j = i
    · subst hji; exact hy.wpOp hi (Chg.refl _ _) ⟨.inr (Chg.refl _ _), H⟩
    · have := ready_mono hj hji
      rw [H.1] at this
      cases this
  | succ fuel ih =>
    intro l a w hfree hW hr hy H
    refine ⟨fun h => (by rw [h] at hr; cases hr), fun j hj => ?_⟩
    by_cases hji : j = i
    · subst hji; exact hy.wpOp hi (Chg.refl _ _) ⟨.inr (Chg.refl _ _), H⟩
    · have h1 := H.2 j (ready_mono hj hji)
      obtain ⟨hjun, oj, hoj, hall⟩ := mem_ready.1 hj
      have hnot : ∀ e ∈ oj.after, Region.binds .any e = true → e.on ≠ i := fun e he hb heq => by
        have h1 := hall e he hb
        have h0 := (mem_ready.1 hr).1
        rw [heq] at h1
        rcases Nat.lt_or_ge i l.size with h' | h'
        · simp [h'] at h0 h1; rw [h0] at h1; cases h1
        · simp [Array.getElem?_eq_none h'] at h1
      have hjW : W.contains j = true → False := fun h => (hW j oj hoj hji hjun h).notReady hj
      have h2 := wpOp_putIf hoj (hfree j oj hoj hji hjun hnot) (fun cs b => hsel i oi cs b hi) (fun cs b => hsel j oj cs b hoj) hQ hy h1
      have hset : ∀ k, (l.setIfInBounds j true).getD k true = false → l.getD k true = false := fun k hun => by
        by_cases hjk : j = k
        · subst hjk; exact hjun
        · rwa [getD_set_ne true hjk] at hun
      refine wpOp_mono (fun a' w' h3 => ?_) h2
      have hch : Chg [] w w' := h3.2.1.elim (fun h => (hjW h).elim) id
      refine ⟨.inr hch, ih (l.setIfInBounds j true) a' w' (fun k ok hk hki hun hno => hfree k ok hk hki (hset k hun) hno) (fun k ok hk hki hun hWk => (hW k ok hk hki (hset k hun) hWk).keep hji hj) (ready_mono hr (Ne.symm hji)) ?_ ?_⟩
      · exact h3.1.imp (fun ⟨hw, hv⟩ => ⟨hw, fun w2 h2 => hv w2 (hch.trans h2)⟩) id
      · rw [Array.setIfInBounds_comm _ _ hji]
        exact h3.2.2

theorem wpM_firstP {W : List Nat} {i : Nat} {oi : Oper} {v : Value} (hi : ops[i]? = some oi) (hsel : ∀ (j : Nat) (o : Oper) cs b, ops[j]? = some o → o.op ≠ .select cs b)
    (hQ : ∀ c a w, Q (.panic c) (a.put oi.dst v) w → Q (.panic c) a w) :
    ∀ (fuel : Nat) (l : Array Bool) (a : Act) (w : World),
      (∀ j oj, ops[j]? = some oj → j ≠ i → l.getD j true = false → (∀ e ∈ oj.after, Region.binds .any e = true → e.on ≠ i) → oi.apart ops oj = true) →
      i ∈ Region.ready .any ops l → YieldsIf P ops (fun _ => True) oi v a →
      wpM P ops Q W fuel (l.setIfInBounds i true) (a.put oi.dst v) w → wpM P ops Q W (fuel + 1) l a w := by
  intro fuel
  induction fuel with
  | zero =>
    intro l a w _ hr hy H
    refine ⟨fun h => (by rw [h] at hr; cases hr), fun j hj => ?_⟩
    by_cases hji : j = i
    · subst hji; exact hy.wpOp hi trivial ⟨.inr (Chg.refl _ _), H⟩
    · have := ready_mono hj hji
      rw [H.1] at this
      cases this
  | succ fuel ih =>
    intro l a w hfree hr hy H
    refine ⟨fun h => (by rw [h] at hr; cases hr), fun j hj => ?_⟩
    by_cases hji : j = i
    · subst hji; exact hy.wpOp hi trivial ⟨.inr (Chg.refl _ _), H⟩
    · have h1 := H.2 j (ready_mono hj hji)
      obtain ⟨hjun, oj, hoj, hall⟩ := mem_ready.1 hj
      have hnot : ∀ e ∈ oj.after, Region.binds .any e = true → e.on ≠ i := fun e he hb heq => by
        have h1 := hall e he hb
        have h0 := (mem_ready.1 hr).1
        rw [heq] at h1
        rcases Nat.lt_or_ge i l.size with h' | h'
        · simp [h'] at h0 h1; rw [h0] at h1; cases h1
        · simp [Array.getElem?_eq_none h'] at h1
      have h2 := wpOp_putIf hoj (hfree j oj hoj hji hjun hnot) (fun cs b => hsel i oi cs b hi) (fun cs b => hsel j oj cs b hoj) hQ hy h1
      have hset : ∀ k, (l.setIfInBounds j true).getD k true = false → l.getD k true = false := fun k hun => by
        by_cases hjk : j = k
        · subst hjk; exact hjun
        · rwa [getD_set_ne true hjk] at hun
      refine wpOp_mono (fun a' w' h3 => ?_) h2
      refine ⟨h3.2.1, ih (l.setIfInBounds j true) a' w' (fun k ok hk hki hun hno => hfree k ok hk hki (hset k hun) hno) (ready_mono hr (Ne.symm hji)) h3.1 ?_⟩
      rw [Array.setIfInBounds_comm _ _ hji]
      exact h3.2.2
/-- (The same, of an operation that looks at no memory.) -/
def takeP (ops : Array Oper) (l : Array Bool) (i : Nat) : Bool := Region.noSelect ops && Region.free .any ops l i && (Region.ready .any ops l).contains i

/-- Number i may be taken now: it may come up, nobody who could come before it touches its slots, and every writer waits for it. -/
def takeM (ops : Array Oper) (W : List Nat) (l : Array Bool) (i : Nat) : Bool :=
  Region.noSelect ops && Region.free .any ops l i && (Region.ready .any ops l).contains i &&
    W.all fun j => j == i || l.getD j true || blk ops l i ops.size j

/-- (With a list of the numbers that are to be taken next: a remark alone.) -/
def wpML (P : Program) (ops : Array Oper) (Q : Exit → Act → World → Prop) (W : List Nat) (_ : List Nat) (f : Nat) (l : Array Bool) (a : Act) (w : World) : Prop := wpM P ops Q W f l a w

/-- Number i of a list. -/
inductive Nth {α : Type} : List α → Nat → α → Prop
  | zero {x : α} {l : List α} : Nth (x :: l) 0 x
  | succ {x y : α} {l : List α} {i : Nat} : Nth l i x → Nth (y :: l) (i + 1) x
theorem Nth.get {α : Type} {l : List α} {i : Nat} {x : α} (h : Nth l i x) : l.toArray[i]? = some x := by
  induction h with
  | zero => simp
  | succ _ ih => simpa using ih
/-- What is asked at a panic looks at no slot. -/
structure PanicOk (Q : Exit → Act → World → Prop) : Prop where at_ : ∀ dst v c a w, Q (.panic c) (a.put dst v) w → Q (.panic c) a w
theorem m_R {W is : List Nat} {i fuel : Nat} {l : Array Bool} {a : Act} {w : World} {ol : List Oper} {oi : Oper} {v : Value} (hQ : PanicOk Q) (hn : Nth ol i oi) (hc : takeM ol.toArray W l i = true)
    (hy : YieldsIf P ol.toArray (fun w' => Chg [] w w') oi v a) (h : wpML P ol.toArray Q W is fuel (l.setIfInBounds i true) (a.put oi.dst v) w) : wpML P ol.toArray Q W (i :: is) (fuel + 1) l a w := by
  have hi := hn.get
  simp only [takeM, Bool.and_eq_true] at hc
  obtain ⟨⟨⟨h1, h2⟩, h3⟩, h4⟩ := hc
  refine wpM_first hi (Region.noSelect_spec h1) (hQ.at_ _ _) fuel l a w (Region.free_spec hi h2) ?_ (by simpa using h3) hy h
  intro j oj hj hji hun hWj
  have h5 := List.all_eq_true.1 h4 j (by simpa using hWj)
  simp only [Bool.or_eq_true, beq_iff_eq, hji, false_or, hun, Bool.false_eq_true] at h5
  exact .of _ _ h5

theorem m_P {W is : List Nat} {i fuel : Nat} {l : Array Bool} {a : Act} {w : World} {ol : List Oper} {oi : Oper} {v : Value} (hQ : PanicOk Q) (hn : Nth ol i oi) (hc : takeP ol.toArray l i = true)
    (hy : YieldsIf P ol.toArray (fun _ => True) oi v a) (h : wpML P ol.toArray Q W is fuel (l.setIfInBounds i true) (a.put oi.dst v) w) : wpML P ol.toArray Q W (i :: is) (fuel + 1) l a w := by
  have hi := hn.get
  simp only [takeP, Bool.and_eq_true] at hc
  obtain ⟨⟨h1, h2⟩, h3⟩ := hc
  exact wpM_firstP hi (Region.noSelect_spec h1) (hQ.at_ _ _) fuel l a w (Region.free_spec hi h2) (by simpa using h3) hy h

/-- What is asked behind an operation that is carried out by itself. -/
def Qm (Q : Exit → Act → World → Prop) (w : World) (tail : Bool) (K : Act → World → Prop) : Exit → Act → World → Prop
  | .normal, a', w' => (tail = true ∨ Chg [] w w') ∧ K a' w'
  | e, a', w' => Q e a' w'

theorem wpOp_one {i : Nat} {a : Act} {w : World} {ol : List Oper} {oi : Oper} {tail : Bool} {K : Act → World → Prop} (hn : Nth ol i oi)
    (h : wpList P ol.toArray (Qm Q w tail K) [oi] a w) : wpOp P ol.toArray Q i (fun a' w' => (tail = true ∨ Chg [] w w') ∧ K a' w') a w := by
  have hi := hn.get
  unfold wpOp
  simp only [hi]
  unfold wpList at h
  split
  · rename_i hw
    rw [if_pos hw] at h
    rcases h with h | ⟨h1, h2⟩
    · refine .inl ?_
      unfold Oper.wp at *
      generalize (execOp a.eval oi).run P w = r at *
      cases r with
      | ok n w' =>
        cases n <;> simp only [Oper.upon] at h ⊢
        case value u => exact h
        case skip => exact h
        case defer d => exact h
        case enter f args =>
          refine Calls.mono h fun e w'' he => ?_
          cases e with
          | returned u => exact he
          | panicked c => exact he
          | outgrown => exact he
        case row row args => exact Rows.mono h fun u w'' he => he
      | halt x w' =>
        cases x <;> simp only [Oper.upon] at h ⊢
        case panic u => exact h
    · exact .inr ⟨h1, h2⟩
  · rename_i hw
    rw [if_neg hw] at h
    exact h
theorem m_G (i : Nat) (is : List Nat) {W : List Nat} {fuel : Nat} {l : Array Bool} {a : Act} {w : World} {ol : List Oper} {oi : Oper} (hr : Region.ready .any ol.toArray l = [i]) (hn : Nth ol i oi)
    (h : wpList P ol.toArray (Qm Q w (W.contains i) (fun a' w' => wpML P ol.toArray Q W is fuel (l.setIfInBounds i true) a' w')) [oi] a w) : wpML P ol.toArray Q W [] (fuel + 1) l a w := by
  refine ⟨fun h0 => (by rw [hr] at h0; cases h0), fun j hj => ?_⟩
  rw [hr, List.mem_singleton] at hj
  subst hj
  exact wpOp_one hn h
/-- Two operations may come next: both orders. -/
theorem m_G2 (i j : Nat) (is js : List Nat) {W : List Nat} {fuel : Nat} {l : Array Bool} {a : Act} {w : World} {ol : List Oper} {oi oj : Oper} (hr : Region.ready .any ol.toArray l = [i, j]) (hn : Nth ol i oi) (hn2 : Nth ol j oj)
    (h : wpList P ol.toArray (Qm Q w (W.contains i) (fun a' w' => wpML P ol.toArray Q W is fuel (l.setIfInBounds i true) a' w')) [oi] a w)
    (h2 : wpList P ol.toArray (Qm Q w (W.contains j) (fun a' w' => wpML P ol.toArray Q W js fuel (l.setIfInBounds j true) a' w')) [oj] a w) : wpML P ol.toArray Q W [] (fuel + 1) l a w := by
  refine ⟨fun h0 => (by rw [hr] at h0; cases h0), fun k hk => ?_⟩
  rw [hr] at hk
  rcases List.mem_cons.1 hk with rfl | hk
  · exact wpOp_one hn h
  · rw [List.mem_singleton] at hk
    subst hk
    exact wpOp_one hn2 h2
/-- What comes behind a region, said once for all its orders. -/
theorem m_join {F : Nat → Act} {R : Nat → World → Prop} {W is : List Nat} {fuel : Nat} {l : Array Bool} {a : Act} {w : World} (br : (∀ b w, R b w → Q .normal (F b) w) → wpML P ops Q W is fuel l a w) (cont : ∀ b w, R b w → Q .normal (F b) w) : wpML P ops Q W is fuel l a w := br cont
theorem m_end {W is : List Nat} {fuel : Nat} {l : Array Bool} {a : Act} {w : World} (hr : Region.ready .any ops l = []) (h : Q .normal a w) : wpML P ops Q W is fuel l a w := by
  cases fuel with
  | zero => exact ⟨hr, h⟩
  | succ f => exact ⟨fun _ => h, by rw [hr]; simp⟩
theorem m_start (W is : List Nat) {n id : Nat} {a : Act} {w : World} (hm : P.follows .mixedOrders = true) (hn : ops.size = n)
    (h : ∀ w', w' = w.drew → wpML P ops Q W is n (Array.replicate n false) a w') : (Code.region id ops true).wp P Q a w := by
  subst hn
  exact wp_region_any hm (wpAny_of_M _ _ _ _ (h _ rfl))

/-- Operations that look at no memory. -/
theorem y_pure {V : World → Prop} {o : Oper} {v : Value} {a : Act} (hv : ∀ w', (execOp a.eval o).run P w' = .ok (.value v) w') (hg : Region.wanted o (yielded ops a.tmps) = true) : YieldsIf P ops V o v a := .inl ⟨hg, fun w' _ => hv w'⟩
theorem y_quo {V : World → Prop} {d : Nat} {x y : Operand} {t2 ty : Nat} {pos : String} {aft : Array Edge} {gg : Option (Nat × Bool)} {p q r : Int} {a : Act} (hx : a.eval x = .int .i64 p) (hy : a.eval y = .int .i64 q) (hr : p.tdiv q = r) (hq : q ≠ 0) (h1 : -9223372036854775808 ≤ r) (h2 : r ≤ 9223372036854775807)
    (hg : Region.wanted ⟨some d, .binOp .quo t2 x y t2, ty, pos, aft, gg⟩ (yielded ops a.tmps) = true) : YieldsIf P ops V ⟨some d, .binOp .quo t2 x y t2, ty, pos, aft, gg⟩ (.int .i64 r) a := by
  refine y_pure (fun w' => ?_) hg
  subst hr
  have hw : IntKind.i64.wrap (p.tdiv q) = p.tdiv q := by rw [IntKind.wrap_i64]; omega
  have h : ∀ e : Operand → Value, e x = .int .i64 p → e y = .int .i64 q → (execOp e ⟨some d, .binOp .quo t2 x y t2, ty, pos, aft, gg⟩).run P w' = .ok (.value (.int .i64 (p.tdiv q))) w' := by
    intro e hx hy
    simp only [execOp, hx, hy, go_sem, hq, hw, if_false]
    rfl
  exact h _ hx hy
theorem s_quo {rest : List Oper} {d : Nat} {x y : Operand} {t2 ty : Nat} {pos : String} {aft : Array Edge} {gg : Option (Nat × Bool)} {p q r : Int} {a : Act} {w : World}
    (h : wpList P ops Q rest (a.put (some d) (.int .i64 r)) w) (hx : a.eval x = .int .i64 p := by with_unfolding_all rfl) (hy : a.eval y = .int .i64 q := by with_unfolding_all rfl) (hr : p.tdiv q = r := by assumption) (hq : q ≠ 0 := by omega) (h1 : -9223372036854775808 ≤ r := by omega) (h2 : r ≤ 9223372036854775807 := by omega)
    (hg : Region.wanted ⟨some d, .binOp .quo t2 x y t2, ty, pos, aft, gg⟩ (yielded ops a.tmps) = true := by with_unfolding_all rfl) : wpList P ops Q (⟨some d, .binOp .quo t2 x y t2, ty, pos, aft, gg⟩ :: rest) a w := by
  refine s_val hg ?_ h
  subst hr
  have hw : IntKind.i64.wrap (p.tdiv q) = p.tdiv q := by rw [IntKind.wrap_i64]; omega
  have h : ∀ e : Operand → Value, e x = .int .i64 p → e y = .int .i64 q → (execOp e ⟨some d, .binOp .quo t2 x y t2, ty, pos, aft, gg⟩).run P w = .ok (.value (.int .i64 (p.tdiv q))) w := by
    intro e hx hy
    simp only [execOp, hx, hy, go_sem, hq, hw, if_false]
    rfl
  exact h _ hx hy
theorem y_skip {V : World → Prop} {o : Oper} {a : Act} (hg : Region.wanted o (yielded ops a.tmps) = false) : YieldsIf P ops V o undef a := .inr ⟨hg, rfl⟩
theorem m_startS (n : Nat) (W is : List Nat) {M : List Nat} {w0 w : World} {H : List Res} {id : Nat} {a : Act} (S : St M w0 w H)
    (h : ∀ w', PanicOk Q → St M w0 w' H → Chg [] w w' → wpML P ops Q W is n (Array.replicate n false) a w') (hQ : PanicOk Q := by exact ⟨fun dst v c a w h => by cases dst <;> exact h⟩) (hm : P.follows .mixedOrders = true := by rfl) (hn : ops.size = n := by rfl) : (Code.region id ops true).wp P Q a w :=
  m_start W is hm hn (fun w' e => by subst e; exact h _ hQ S.drew (Chg.refl _ _).drew)
end
section
variable {P : Program} {ops : Array Oper} {a : Act} {M : List Nat} {w0 w : World} {H : List Res} {d t ty b off n bytes : Nat} {p : Operand} {pos : String} {aft : Array Edge} {gg : Option (Nat × Bool)} {cs vs : List Value} {v z : Value} {t' : TypeId} {ad : Addr}
theorem y_load [hf : Flat P t] (S : St M w0 w H) (hp : a.eval p = .pointer (some ⟨b, off, none⟩) := by with_unfolding_all rfl) (hm : cel b cs t' ∈ H := by repeat (with_reducible first | exact List.mem_cons_self | apply List.mem_cons_of_mem)) (hv : cs[off]? = some v := by with_unfolding_all rfl)
    (hg : Region.wanted ⟨some d, .load t p, ty, pos, aft, gg⟩ (yielded ops a.tmps) = true := by with_unfolding_all rfl) : YieldsIf P ops (fun w' => Chg [] w w') ⟨some d, .load t p, ty, pos, aft, gg⟩ v a := by
  refine .inl ⟨hg, fun w' hc => ?_⟩
  have ht := isAgg_of hf.eq w'
  have hb : w.heap[b]? = some (.cells cs.toArray t' (0, 0)) := S.all _ hm
  have hcl : w'.cell? ⟨b, off, none⟩ = some v := hc.cell (by rw [cell_of_row w b off _ t' _ hb]; simpa using hv)
  have hl : (load (⟨b, off, none⟩ : Addr)).run P w' = .ok v w' := by simp [run_load, hcl]
  simp only [execOp, Instr.loadAt, hp, Instr.sureAddr, loadVar, Sem.run_bind, Sem.run_pure, ht, Result.andThen_ok, if_false, Bool.false_eq_true, hl]
theorem y_ldE [hf : Flat P t] (hE : El w ad cs) (hp : a.eval p = .pointer (some ad) := by with_unfolding_all rfl) (hv : cs[0]? = some v := by with_unfolding_all rfl)
    (hg : Region.wanted ⟨some d, .load t p, ty, pos, aft, gg⟩ (yielded ops a.tmps) = true := by with_unfolding_all rfl) : YieldsIf P ops (fun w' => Chg [] w w') ⟨some d, .load t p, ty, pos, aft, gg⟩ v a := by
  refine .inl ⟨hg, fun w' hc => ?_⟩
  have hcl : w'.cell? ad = some v := hc.cell (by
    have h0 := hE.at_ 0 v hv
    have hadd : ad.add 0 = ad := by simp [Addr.add]
    rwa [hadd] at h0)
  have hl : (load ad).run P w' = .ok v w' := by simp [run_load, hcl]
  simp only [execOp, Instr.loadAt, hp, Instr.sureAddr, loadVar, Sem.run_bind, Sem.run_pure, isAgg_of hf.eq w', Result.andThen_ok, if_false, Bool.false_eq_true, hl]
theorem y_ldEA [hf : Agg P t] [hi : TI P t z n bytes] (hE : El w ad cs) (hp : a.eval p = .pointer (some ad) := by with_unfolding_all rfl) (hv : Sub cs 0 n vs := by repeat (with_reducible first | exact Sub.done | apply Sub.here | apply Sub.there))
    (hg : Region.wanted ⟨some d, .load t p, ty, pos, aft, gg⟩ (yielded ops a.tmps) = true := by with_unfolding_all rfl) : YieldsIf P ops (fun w' => Chg [] w w') ⟨some d, .load t p, ty, pos, aft, gg⟩ (.agg vs.toArray) a := by
  refine .inl ⟨hg, fun w' hc => ?_⟩
  obtain ⟨h1, h2⟩ := hv.eq
  have hl : (loadCells ad n).run P w' = .ok vs.toArray w' := by
    have := run_loadCells_list (P := P) w' ad vs (fun j v hjv => by
      have hj : j < n := by rw [← h1]; exact (List.getElem?_eq_some_iff.1 hjv).1
      have h3 := h2 j hj
      rw [Nat.zero_add] at h3
      exact hc.cell (hE.at_ j v (h3.trans hjv)))
    rwa [h1] at this
  obtain ⟨i, hi1, _, hi2, _⟩ := hi.get
  have hz' : (sizeOf t).run P w' = .ok n w' := by simp [sizeOf, typeInfo, go_sem, hi1, hi2]
  simp only [execOp, Instr.loadAt, hp, Instr.sureAddr, loadVar, Sem.run_bind, Sem.run_pure, isAgg_of hf.eq w', hz', Result.andThen_ok, if_true, hl]
theorem El.cel_at {M : List Nat} {w0 w : World} {H : List Res} {b off : Nat} {cs : List Value} {t : TypeId} (S : St M w0 w H) (hm : cel b cs t ∈ H) : El w ⟨b, off, none⟩ (cs.drop off) :=
  ⟨fun j u hj => by
    have hb : w.heap[b]? = some (.cells cs.toArray t (0, 0)) := S.all _ hm
    have hadd : (⟨b, off, none⟩ : Addr).add j = ⟨b, off + j, none⟩ := by unfold Addr.add; split <;> simp_all
    rw [hadd, cell_of_row w b _ _ t _ hb]
    simpa using hj⟩
theorem y_loadA [hf : Agg P t] [hi : TI P t z n bytes] (S : St M w0 w H) (hp : a.eval p = .pointer (some ⟨b, off, none⟩) := by with_unfolding_all rfl) (hm : cel b cs t' ∈ H := by repeat (with_reducible first | exact List.mem_cons_self | apply List.mem_cons_of_mem))
    (hv : Sub (cs.drop off) 0 n vs := by simp only [List.drop]; repeat (with_reducible first | exact Sub.done | apply Sub.here | apply Sub.there))
    (hg : Region.wanted ⟨some d, .load t p, ty, pos, aft, gg⟩ (yielded ops a.tmps) = true := by with_unfolding_all rfl) : YieldsIf P ops (fun w' => Chg [] w w') ⟨some d, .load t p, ty, pos, aft, gg⟩ (.agg vs.toArray) a :=
  y_ldEA (El.cel_at S hm) hp hv hg
end
end Go.Sx
