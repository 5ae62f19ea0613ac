/- Contracts: the laws' marks of texts. -/
import Derived.Test.YtcfialfgkkjlfaaE2
import Derived.Test.YtcfialfgkkjlfaaA10
set_option linter.unusedSimpArgs false
set_option linter.unusedVariables false
namespace Go.Sg
def digB (n : Int) : ByteArray := ⟨#[UInt8.ofNat (48 + n % 10).toNat]⟩
def mtLoop : Nat → Int → ByteArray → ByteArray
  | 0, _, o => o
  | f + 1, k, o => if k ≤ 0 then o else mtLoop f (k / 10) (digB k ++ o)
def markT (k : Int) : ByteArray := if k ≤ 0 then ⟨#[109, 48]⟩ else ⟨#[109]⟩ ++ mtLoop k.toNat k ⟨#[]⟩
theorem mtLoop_done : ∀ (f : Nat) (k : Int) (o : ByteArray), k ≤ 0 → mtLoop f k o = o
  | 0, _, _, _ => rfl
  | f + 1, k, o, h => by unfold mtLoop; rw [if_pos h]
end Go.Sg
namespace Go.Proofs.Ytcfialfgkkjlfaa
open Go.RowKit Go.Sx Go.Sg
set_option maxRecDepth 100000 in
theorem markText_ok (k0 : Int) (w0 : World) (h0 : 0 < k0) (h1 : k0 ≤ 4611686018427387904) : Calls Try.prog 134 #[.int .i64 k0] w0 fun e w' => e = .returned (.string (markT k0)) ∧ Chg [] w0 w' := by
  have S := St.start w0
  have hmk := hid (show markT k0 = ⟨#[109]⟩ ++ mtLoop k0.toNat k0 ⟨#[]⟩ by unfold markT; rw [if_neg (by omega)])
  go_enter Try.func134, Try.ntmps134
  go_wp2
  go_loopw [0, 3] (fun u v wr => ∃ (k : Int) (o : ByteArray) (f : Nat), 0 ≤ k ∧ k ≤ 4611686018427387904 ∧ u = .int .i64 k ∧ v = .string o ∧ k.toNat ≤ f ∧ (o.size : Int) + k ≤ k0 ∧ Hid (mtLoop k0.toNat k0 ⟨#[]⟩ = mtLoop f k o) ∧ St [] w0 wr []) (fun u _ _ => (intOf u).toNat)
  case atStart => exact ⟨k0, ⟨#[]⟩, k0.toNat, by omega, h1, rfl, rfl, Nat.le_refl _, by simp [ByteArray.size], hid rfl, S⟩
  case round =>
    clear S
    obtain ⟨k, o, f, hk0, hk1, rfl, rfl, hf, ho, hm, S⟩ := hrel
    clear h0
    repeat (rename 0 < k0 => hx; clear hx)
    by_cases hk : 0 < k
    · have hd := Int.emod_nonneg k (show (10 : Int) ≠ 0 by omega)
      have hd2 := Int.emod_lt_of_pos k (show (0 : Int) < 10 by omega)
      go_wp2_with (first
        | ((with_reducible refine gd 12 ?_); refine s_bs (cs := [.int .u8 (48 + k % 10)]) S ?_; clear S; intro b w1 S hcN; clear hcN)
        | ((with_reducible refine gd 13 ?_); refine s_b2s S (by kernel_rfl) (by kernel_rfl) rfl (.head _) ?_))
      go_roundw
      case rel =>
        have S := S.drop (.take .nil)
        match f, hf, hm with
        | 0, hf, _ => omega
        | f + 1, hf, hm =>
          refine ⟨k / 10, digB k ++ o, f, by omega, by omega, rfl, rfl, by omega, ?_, hid ?_, S⟩
          · have e : (digB k ++ o).size = 1 + o.size := by simp [digB, ByteArray.size_append]; rfl
            rw [e]; omega
          rw [hm.out]
          show (if _ then _ else _) = _
          rw [if_neg (by omega)]
      case measure => simp [intOf]; omega
    · go_wp2
      refine s_ret1 S (h := ?_)
      refine ⟨?_, S.chg⟩
      rw [hmk.out, hm.out, mtLoop_done _ _ _ (by omega)]
      rfl
end Go.Proofs.Ytcfialfgkkjlfaa
