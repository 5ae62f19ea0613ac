/- Words of our own, tenth part: a text of one byte. -/
import Derived.Test.YtcfialfgkkjlfaaA9
import Derived.Laws.BytesString
set_option linter.unusedSimpArgs false
set_option linter.unusedVariables false
namespace Go.Sx
open Go.RowKit
section
variable {P : Program} {ops : Array Oper} {rest : List Oper} {a : Act} {Q : Exit → Act → World → Prop} {M : List Nat} {w0 w : World} {H : List Res}
variable {dd ty : Nat} {pos : String} {aft : Array Edge} {gg : Option (Nat × Bool)} {x : Operand}
/-- string([]byte{n}). -/
theorem s_b2s {src dst e b t' : Nat} {n : Int} [ht : SlT P src e] (S : St M w0 w H) (he : P.underlying e = some (.int .u8)) (hd : P.underlying dst = some .string) (hx : a.eval x = .slice (some ⟨b, 0, none⟩) 1 1) (hm : cel b [.int .u8 n] t' ∈ H)
    (h : wpList P ops Q rest (a.put (some dd) (.string ⟨#[UInt8.ofNat n.toNat]⟩)) w) (hg : Region.wanted ⟨some dd, .convert src dst x, ty, pos, aft, gg⟩ (yielded ops a.tmps) = true := by with_unfolding_all rfl) : wpList P ops Q (⟨some dd, .convert src dst x, ty, pos, aft, gg⟩ :: rest) a w := by
  refine s_val hg ?_ h
  have hE := El.of_cel S hm
  have hl := run_loadCells_list (P := P) w ⟨b, 0, none⟩ ([n].map (Value.int .u8)) hE.at_
  have h2 := run_bytesToString (P := P) w ⟨b, 0, none⟩ 1 1 [n] hl
  have h1 := run_convert_bytes_string (P := P) w src dst e (some ⟨b, 0, none⟩) 1 1 ht.eq he hd
  rw [h2] at h1
  unfold execOp
  simp only [hx, Sem.run_bind, h1, Result.andThen_ok]
  rfl
theorem run_fld {st f off : Nat} {p : Operand} {ad : Addr} [hf : Fld P st f off] (g : Operand → Value) (hp : g p = .pointer (some ad)) (w : World) : (execOp g ⟨some dd, .fieldAddr st p f, ty, pos, aft, gg⟩).run P w = .ok (.value (.pointer (some (ad.add off)))) w := by
  have he := hf.eq
  unfold fldB at he
  split at he
  · rename_i fs hu
    split at he
    · rename_i fl hfl
      split at he
      · rename_i i hi
        split at he
        · cases he
        · rename_i hz
          injection he with he
          subst he
          simp [execOp, Instr.fieldAt, hp, Instr.sureAddr, Sem.run_bind, run_underlying hu, hfl, fieldPlace, sizeOf, typeInfo, hi, hz]
      · cases he
    · cases he
  · cases he
theorem y_fld {V : World → Prop} {st f off : Nat} {p : Operand} {ad : Addr} [hf : Fld P st f off] (hp : a.eval p = .pointer (some ad) := by with_unfolding_all rfl) (hg : Region.wanted ⟨some dd, .fieldAddr st p f, ty, pos, aft, gg⟩ (yielded ops a.tmps) = true := by with_unfolding_all rfl) :
    YieldsIf P ops V ⟨some dd, .fieldAddr st p f, ty, pos, aft, gg⟩ (.pointer (some (ad.add off))) a := y_pure (fun w' => run_fld _ hp w') hg
end
end Go.Sx
