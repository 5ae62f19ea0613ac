/- Words of our own, fourteenth part: max; conversions in regions. -/
import Derived.Test.YtcfialfgkkjlfaaA13
set_option linter.unusedSimpArgs false
set_option linter.unusedVariables false
namespace Go.Sx
open Go.RowKit
section
variable {P : Program} {ops : Array Oper} {a : Act}
theorem y_maxI {V : World → Prop} {d : Nat} {x y : Operand} {ty : Nat} {ats : Array TypeId} {pos : String} {aft : Array Edge} {gg : Option (Nat × Bool)} {p q r : Int} (hx : a.eval x = .int .i64 p) (hy : a.eval y = .int .i64 q) (hr : (if p < q then q else p) = r)
    (hg : Region.wanted ⟨some d, .call { callee := .builtin .max, args := #[x, y], argTypes := ats }, ty, pos, aft, gg⟩ (yielded ops a.tmps) = true := by with_unfolding_all rfl) : YieldsIf P ops V ⟨some d, .call { callee := .builtin .max, args := #[x, y], argTypes := ats }, ty, pos, aft, gg⟩ (.int .i64 r) a := by
  refine y_pure (fun w' => ?_) hg
  subst hr
  show (execOp a.eval _).run P w' = _
  rw [BigFrame.execOp_builtin]
  simp [hx, hy, builtin, Builtin.max_, Builtin.max2, Sem.run_bind]
theorem y_negI {V : World → Prop} {d : Nat} {x : Operand} {t2 ty : Nat} {pos : String} {aft : Array Edge} {gg : Option (Nat × Bool)} {p : Int} (hx : a.eval x = .int .i64 p) (h1 : -9223372036854775807 ≤ p) (h2 : p ≤ 9223372036854775807)
    (hg : Region.wanted ⟨some d, .unOp .neg t2 x, ty, pos, aft, gg⟩ (yielded ops a.tmps) = true := by with_unfolding_all rfl) : YieldsIf P ops V ⟨some d, .unOp .neg t2 x, ty, pos, aft, gg⟩ (.int .i64 (-p)) a := by
  refine y_pure (fun w' => ?_) hg
  have hw : IntKind.i64.wrap (0 - p) = -p := by rw [IntKind.wrap_i64]; omega
  have h : ∀ e : Operand → Value, e x = .int .i64 p → (execOp e ⟨some d, .unOp .neg t2 x, ty, pos, aft, gg⟩).run P w' = .ok (.value (.int .i64 (-p))) w' := by
    intro e hx
    simp only [execOp, hx, go_sem, hw]
    try rfl
  exact h _ hx
theorem y_convU {V : World → Prop} {d src dst : Nat} {x : Operand} {ty : Nat} {pos : String} {aft : Array Edge} {gg : Option (Nat × Bool)} {p : Int} (hs : P.underlying src = some (.int .i64)) (hd : P.underlying dst = some (.int .u8)) (hx : a.eval x = .int .i64 p) (h1 : 0 ≤ p) (h2 : p ≤ 255)
    (hg : Region.wanted ⟨some d, .convert src dst x, ty, pos, aft, gg⟩ (yielded ops a.tmps) = true := by with_unfolding_all rfl) : YieldsIf P ops V ⟨some d, .convert src dst x, ty, pos, aft, gg⟩ (.int .u8 p) a := by
  refine y_pure (fun w' => ?_) hg
  have hw : IntKind.u8.wrap p = p := by simp only [IntKind.wrap, IntKind.bits, IntKind.signed]; simp; omega
  simp only [execOp, hx]
  simp [convert, run_underlying hs, run_underlying hd, Sem.run_bind, Conv.intToInt, hw]
theorem s_b2sE {rest : List Oper} {Q : Exit → Act → World → Prop} {M : List Nat} {w0 w : World} {H : List Res} {dd ty src dst e b t' : Nat} {x : Operand} {pos : String} {aft : Array Edge} {gg : Option (Nat × Bool)} {n : Int} {str : ByteArray} [ht : SlT P src e] (S : St M w0 w H) (he : P.underlying e = some (.int .u8)) (hd : P.underlying dst = some .string) (hx : a.eval x = .slice (some ⟨b, 0, none⟩) 1 1) (hm : cel b [.int .u8 n] t' ∈ H) (hstr : (⟨#[UInt8.ofNat n.toNat]⟩ : ByteArray) = str)
    (h : wpList P ops Q rest (a.put (some dd) (.string str)) w) (hg : Region.wanted ⟨some dd, .convert src dst x, ty, pos, aft, gg⟩ (yielded ops a.tmps) = true := by with_unfolding_all rfl) : wpList P ops Q (⟨some dd, .convert src dst x, ty, pos, aft, gg⟩ :: rest) a w := by
  subst hstr
  exact s_b2s S he hd hx hm h hg
end
end Go.Sx
