/- Words of our own, twelfth part: choosing among what is owned; more orders of a region. -/
import Derived.Test.YtcfialfgkkjlfaaA11
set_option linter.unusedSimpArgs false
set_option linter.unusedVariables false
namespace Go.Sx
open Go.RowKit
/-- r is taken out of H. -/
inductive Rem : List Res → Res → List Res → Prop
  | here {r : Res} {H : List Res} : Rem (r :: H) r H
  | there {x r : Res} {H H' : List Res} : Rem H r H' → Rem (x :: H) r (x :: H')
theorem Rem.perm {H H' : List Res} {r : Res} (h : Rem H r H') : H.Perm (r :: H') := by
  induction h with
  | here => exact List.Perm.refl _
  | there _ ih => exact (List.Perm.cons _ ih).trans (List.Perm.swap _ _ _)
/-- H' is chosen out of H, in any order. -/
inductive Sel : List Res → List Res → Prop
  | nil {H : List Res} : Sel H []
  | cons {H H1 H' : List Res} {r : Res} : Rem H r H1 → Sel H1 H' → Sel H (r :: H')
theorem Sel.perm {H H' : List Res} (h : Sel H H') : ∃ H'', H.Perm (H' ++ H'') := by
  induction h with
  | nil => exact ⟨_, List.Perm.refl _⟩
  | cons hr _ ih =>
    obtain ⟨H'', hp⟩ := ih
    exact ⟨H'', hr.perm.trans (List.Perm.cons _ hp)⟩
theorem Split.left : ∀ (H K : List Res), Split (H ++ K) H K
  | [], K => Split.none K
  | r :: H, K => .take (Split.left H K)
theorem St.sel {M : List Nat} {w0 w : World} {H H' : List Res} (S : St M w0 w H) (h : Sel H H') : St M w0 w H' := by
  obtain ⟨H'', hp⟩ := h.perm
  exact (S.perm hp).pick (Split.left H' H'')
section
variable {P : Program} {ops : Array Oper} {Q : Exit → Act → World → Prop}
theorem m_G3 (i j k : Nat) (is js ks : List Nat) {W : List Nat} {fuel : Nat} {l : Array Bool} {a : Act} {w : World} {ol : List Oper} {oi oj ok : Oper} (hr : Region.ready .any ol.toArray l = [i, j, k]) (hn : Nth ol i oi) (hn2 : Nth ol j oj) (hn3 : Nth ol k ok)
    (h : wpList P ol.toArray (Qm Q w (W.contains i) (fun a' w' => wpML P ol.toArray Q W is fuel (l.setIfInBounds i true) a' w')) [oi] a w)
    (h2 : wpList P ol.toArray (Qm Q w (W.contains j) (fun a' w' => wpML P ol.toArray Q W js fuel (l.setIfInBounds j true) a' w')) [oj] a w)
    (h3 : wpList P ol.toArray (Qm Q w (W.contains k) (fun a' w' => wpML P ol.toArray Q W ks fuel (l.setIfInBounds k true) a' w')) [ok] a w) : wpML P ol.toArray Q W [] (fuel + 1) l a w := by
  refine ⟨fun h0 => (by rw [hr] at h0; cases h0), fun q hq => ?_⟩
  rw [hr] at hq
  simp only [List.mem_cons, List.not_mem_nil, or_false] at hq
  rcases hq with rfl | rfl | rfl
  · exact wpOp_one hn h
  · exact wpOp_one hn2 h2
  · exact wpOp_one hn3 h3
theorem m_G4 (i j k m : Nat) (is js ks ms : List Nat) {W : List Nat} {fuel : Nat} {l : Array Bool} {a : Act} {w : World} {ol : List Oper} {oi oj ok om : Oper} (hr : Region.ready .any ol.toArray l = [i, j, k, m]) (hn : Nth ol i oi) (hn2 : Nth ol j oj) (hn3 : Nth ol k ok) (hn4 : Nth ol m om)
    (h : wpList P ol.toArray (Qm Q w (W.contains i) (fun a' w' => wpML P ol.toArray Q W is fuel (l.setIfInBounds i true) a' w')) [oi] a w)
    (h2 : wpList P ol.toArray (Qm Q w (W.contains j) (fun a' w' => wpML P ol.toArray Q W js fuel (l.setIfInBounds j true) a' w')) [oj] a w)
    (h3 : wpList P ol.toArray (Qm Q w (W.contains k) (fun a' w' => wpML P ol.toArray Q W ks fuel (l.setIfInBounds k true) a' w')) [ok] a w)
    (h4 : wpList P ol.toArray (Qm Q w (W.contains m) (fun a' w' => wpML P ol.toArray Q W ms fuel (l.setIfInBounds m true) a' w')) [om] a w) : wpML P ol.toArray Q W [] (fuel + 1) l a w := by
  refine ⟨fun h0 => (by rw [hr] at h0; cases h0), fun q hq => ?_⟩
  rw [hr] at hq
  simp only [List.mem_cons, List.not_mem_nil, or_false] at hq
  rcases hq with rfl | rfl | rfl | rfl
  · exact wpOp_one hn h
  · exact wpOp_one hn2 h2
  · exact wpOp_one hn3 h3
  · exact wpOp_one hn4 h4
/-- What comes behind a region, said once for all its orders; with the names of what was made. -/
theorem m_join0 {F : Act} {R : World → Prop} {W is : List Nat} {fuel : Nat} {l : Array Bool} {a : Act} {w : World} (br : (∀ w, R w → Q .normal F w) → wpML P ops Q W is fuel l a w) (cont : ∀ w, R w → Q .normal F w) : wpML P ops Q W is fuel l a w := br cont
theorem m_join1 {β : Type} {F : β → Act} {R : β → World → Prop} {W is : List Nat} {fuel : Nat} {l : Array Bool} {a : Act} {w : World} (br : (∀ b w, R b w → Q .normal (F b) w) → wpML P ops Q W is fuel l a w) (cont : ∀ b w, R b w → Q .normal (F b) w) : wpML P ops Q W is fuel l a w := br cont
theorem m_join2 {β γ : Type} {F : β → γ → Act} {R : β → γ → World → Prop} {W is : List Nat} {fuel : Nat} {l : Array Bool} {a : Act} {w : World} (br : (∀ b c w, R b c w → Q .normal (F b c) w) → wpML P ops Q W is fuel l a w) (cont : ∀ b c w, R b c w → Q .normal (F b c) w) : wpML P ops Q W is fuel l a w := br cont
theorem m_join3 {β γ δ : Type} {F : β → γ → δ → Act} {R : β → γ → δ → World → Prop} {W is : List Nat} {fuel : Nat} {l : Array Bool} {a : Act} {w : World} (br : (∀ b c d w, R b c d w → Q .normal (F b c d) w) → wpML P ops Q W is fuel l a w) (cont : ∀ b c d w, R b c d w → Q .normal (F b c d) w) : wpML P ops Q W is fuel l a w := br cont
theorem m_join4 {β γ δ ε : Type} {F : β → γ → δ → ε → Act} {R : β → γ → δ → ε → World → Prop} {W is : List Nat} {fuel : Nat} {l : Array Bool} {a : Act} {w : World} (br : (∀ b c d e w, R b c d e w → Q .normal (F b c d e) w) → wpML P ops Q W is fuel l a w) (cont : ∀ b c d e w, R b c d e w → Q .normal (F b c d e) w) : wpML P ops Q W is fuel l a w := br cont
theorem y_addI {V : World → Prop} {d : Nat} {x y : Operand} {t2 ty : Nat} {pos : String} {aft : Array Edge} {gg : Option (Nat × Bool)} {p q : Int} {a : Act} (hx : a.eval x = .int .i64 p) (hy : a.eval y = .int .i64 q) (h1 : -9223372036854775808 ≤ p + q) (h2 : p + q ≤ 9223372036854775807)
    (hg : Region.wanted ⟨some d, .binOp .add t2 x y t2, ty, pos, aft, gg⟩ (yielded ops a.tmps) = true := by with_unfolding_all rfl) : YieldsIf P ops V ⟨some d, .binOp .add t2 x y t2, ty, pos, aft, gg⟩ (.int .i64 (p + q)) a := by
  refine y_pure (fun w' => ?_) hg
  have hw : IntKind.i64.wrap (p + q) = p + q := by rw [IntKind.wrap_i64]; omega
  have h : ∀ e : Operand → Value, e x = .int .i64 p → e y = .int .i64 q → (execOp e ⟨some d, .binOp .add t2 x y t2, ty, pos, aft, gg⟩).run P w' = .ok (.value (.int .i64 (p + q))) w' := by
    intro e hx hy
    simp only [execOp, hx, hy, go_sem, hw]
    try rfl
  exact h _ hx hy
theorem y_subI {V : World → Prop} {d : Nat} {x y : Operand} {t2 ty : Nat} {pos : String} {aft : Array Edge} {gg : Option (Nat × Bool)} {p q : Int} {a : Act} (hx : a.eval x = .int .i64 p) (hy : a.eval y = .int .i64 q) (h1 : -9223372036854775808 ≤ p - q) (h2 : p - q ≤ 9223372036854775807)
    (hg : Region.wanted ⟨some d, .binOp .sub t2 x y t2, ty, pos, aft, gg⟩ (yielded ops a.tmps) = true := by with_unfolding_all rfl) : YieldsIf P ops V ⟨some d, .binOp .sub t2 x y t2, ty, pos, aft, gg⟩ (.int .i64 (p - q)) a := by
  refine y_pure (fun w' => ?_) hg
  have hw : IntKind.i64.wrap (p - q) = p - q := by rw [IntKind.wrap_i64]; omega
  have h : ∀ e : Operand → Value, e x = .int .i64 p → e y = .int .i64 q → (execOp e ⟨some d, .binOp .sub t2 x y t2, ty, pos, aft, gg⟩).run P w' = .ok (.value (.int .i64 (p - q))) w' := by
    intro e hx hy
    simp only [execOp, hx, hy, go_sem, hw]
    try rfl
  exact h _ hx hy
theorem y_mulI {V : World → Prop} {d : Nat} {x y : Operand} {t2 ty : Nat} {pos : String} {aft : Array Edge} {gg : Option (Nat × Bool)} {p q : Int} {a : Act} (hx : a.eval x = .int .i64 p) (hy : a.eval y = .int .i64 q) (h1 : -9223372036854775808 ≤ p * q) (h2 : p * q ≤ 9223372036854775807)
    (hg : Region.wanted ⟨some d, .binOp .mul t2 x y t2, ty, pos, aft, gg⟩ (yielded ops a.tmps) = true := by with_unfolding_all rfl) : YieldsIf P ops V ⟨some d, .binOp .mul t2 x y t2, ty, pos, aft, gg⟩ (.int .i64 (p * q)) a := by
  refine y_pure (fun w' => ?_) hg
  have hw : IntKind.i64.wrap (p * q) = p * q := by rw [IntKind.wrap_i64]; omega
  have h : ∀ e : Operand → Value, e x = .int .i64 p → e y = .int .i64 q → (execOp e ⟨some d, .binOp .mul t2 x y t2, ty, pos, aft, gg⟩).run P w' = .ok (.value (.int .i64 (p * q))) w' := by
    intro e hx hy
    simp only [execOp, hx, hy, go_sem, hw]
    try rfl
  exact h _ hx hy
end
/-- The end of a function without results. -/
theorem s_end0 {P : Program} {fn : Func} {R : Ending → World → Prop} {a : Act} {w : World} (hr : fn.results = #[] := by rfl) (hd : a.defers = [] := by rfl) (h : R (.returned (.tuple #[])) w) : bodyPost P fn R .normal a w := by
  refine bodyPost_end ?_ hd h
  rw [results_eq, hr]
  simp [Sem.run_bind]
end Go.Sx
