/- Words of our own, sixth part: loads through the address of an element; fields' addresses; a call's result. -/
import Derived.Test.YtcfialfgkkjlfaaA5
set_option linter.unusedSimpArgs false
set_option linter.unusedVariables false
namespace Go.Sx
open Go.RowKit
def fldB (P : Program) (st f : Nat) : Option Nat :=
  match P.underlying st with
  | some (.struct fs) => match fs[f]? with
    | some fl => match P.info? fl.type with
      | some i => if i.size = 0 then none else some fl.offset
      | none => none
    | none => none
  | _ => none
/-- Field f of the struct type st lies off cells behind its begin. -/
class Fld (P : Program) (st f : Nat) (off : outParam Nat) : Prop where eq : fldB P st f = some off
section
variable {P : Program} {ops : Array Oper} {rest : List Oper} {a : Act} {Q : Exit → Act → World → Prop} {w : World} {dd t ty : Nat} {pos : String} {aft : Array Edge} {gg : Option (Nat × Bool)} {p : Operand} {cs vs : List Value} {ad : Addr} {v z : Value} {n bytes f off : Nat}
theorem s_ldE [hf : Flat P t] (hp : a.eval p = .pointer (some ad)) (hE : El w ad cs) (hv : cs[0]? = some v)
    (h : wpList P ops Q rest (a.put (some dd) v) w) (hg : Region.wanted ⟨some dd, .load t p, ty, pos, aft, gg⟩ (yielded ops a.tmps) = true := by with_unfolding_all rfl) : wpList P ops Q (⟨some dd, .load t p, ty, pos, aft, gg⟩ :: rest) a w := by
  have hc : w.cell? ad = some v := by
    have h0 := hE.at_ 0 v hv
    have hadd : ad.add 0 = ad := by simp [Addr.add]
    rwa [hadd] at h0
  have hl : (load ad).run P w = .ok v w := by simp [run_load, hc]
  refine s_val hg ?_ h
  simp only [execOp, Instr.loadAt, hp, Instr.sureAddr, loadVar, Sem.run_bind, Sem.run_pure, isAgg_of hf.eq w, Result.andThen_ok, if_false, Bool.false_eq_true, hl]
theorem s_ldEA [hf : Agg P t] [hi : TI P t z n bytes] (hp : a.eval p = .pointer (some ad)) (hE : El w ad cs) (hv : Sub cs 0 n vs)
    (h : wpList P ops Q rest (a.put (some dd) (.agg vs.toArray)) w) (hg : Region.wanted ⟨some dd, .load t p, ty, pos, aft, gg⟩ (yielded ops a.tmps) = true := by with_unfolding_all rfl) : wpList P ops Q (⟨some dd, .load t p, ty, pos, aft, gg⟩ :: rest) a w := by
  obtain ⟨h1, h2⟩ := hv.eq
  have hl : (loadCells ad n).run P w = .ok vs.toArray w := by
    have := run_loadCells_list (P := P) w ad vs (fun j v hjv => by
      have hj : j < n := by rw [← h1]; exact (List.getElem?_eq_some_iff.1 hjv).1
      have h3 := h2 j hj
      rw [Nat.zero_add] at h3
      exact hE.at_ j v (h3.trans hjv))
    rwa [h1] at this
  obtain ⟨i, hi1, _, hi2, _⟩ := hi.get
  have hz' : (sizeOf t).run P w = .ok n w := by simp [sizeOf, typeInfo, go_sem, hi1, hi2]
  refine s_val hg ?_ h
  simp only [execOp, Instr.loadAt, hp, Instr.sureAddr, loadVar, Sem.run_bind, Sem.run_pure, isAgg_of hf.eq w, hz', Result.andThen_ok, if_true, hl]
theorem s_fld {st : Nat} [hf : Fld P st f off] (hp : a.eval p = .pointer (some ad))
    (h : wpList P ops Q rest (a.put (some dd) (.pointer (some (ad.add off)))) w) (hg : Region.wanted ⟨some dd, .fieldAddr st p f, ty, pos, aft, gg⟩ (yielded ops a.tmps) = true := by with_unfolding_all rfl) : wpList P ops Q (⟨some dd, .fieldAddr st p f, ty, pos, aft, gg⟩ :: rest) a w := by
  have he := hf.eq
  unfold fldB at he
  split at he
  · rename_i fs hu
    split at he
    · rename_i fl hfl
      split at he
      · rename_i i hi
        split at he
        · cases he
        · rename_i hz
          injection he with he
          subst he
          refine s_val hg ?_ h
          simp [execOp, Instr.fieldAt, hp, Instr.sureAddr, Sem.run_bind, run_underlying hu, hfl, fieldPlace, sizeOf, typeInfo, hi, hz]
      · cases he
    · cases he
  · cases he
end
end Go.Sx
