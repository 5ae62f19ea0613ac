/- Plain laws: sizes and marks of matrices of fractions. -/
import Derived.Test.YtcfialfgkkjlfaaB3
set_option linter.unusedSimpArgs false
set_option linter.unusedVariables false
namespace Go.Sg
open Go.Sx Go.RowKit

def tot {α : Type} : List (List α) → Nat
  | [] => 0
  | x :: xs => x.length + tot xs
theorem szFold_tot {α : Type} : ∀ (xs : List (List α)) (l : Int), 0 ≤ szFold szRow xs l → szFold szRow xs l = l - tot xs
  | [], l, _ => by simp [szFold, tot]
  | x :: xs, l, h => by
    unfold szFold at h ⊢
    split at h
    · omega
    · rename_i hx
      rw [if_neg hx]
      have e : szRow x l = l - x.length := by
        unfold szRow szL at hx ⊢
        split at hx
        · omega
        · rename_i h0; rw [if_neg h0]
      rw [szFold_tot xs _ h, e]
      simp only [tot]
      omega
theorem szSS_tot {α : Type} {xs : List (List α)} {l : Int} (h : 0 ≤ szSS szRow xs l) : szSS szRow xs l = l - xs.length - tot xs := by
  unfold szSS at h ⊢
  split at h
  · omega
  · rename_i hx
    rw [if_neg hx, szFold_tot xs _ h]
theorem tot_mem {α : Type} : ∀ {xs : List (List α)} {x : List α}, x ∈ xs → x.length ≤ tot xs
  | y :: xs, x, h => by
    simp only [tot]
    rcases List.mem_cons.1 h with rfl | h
    · omega
    · have := tot_mem h; omega
theorem nextsSS_frac : ∀ (xs : List (List Frac)) (k : Int), (mkL mkFrac).nexts xs k = k + 2 * tot xs
  | [], k => by simp [Mk.nexts, tot]
  | x :: xs, k => by
    show (mkL mkFrac).nexts xs (mkFrac.nexts x k) = _
    rw [nextsSS_frac xs, nexts_frac]
    simp only [tot]
    omega
section
variable {a b : List (List Frac)} {i j n : Nat}
theorem rowU_len : ∀ {j : Nat} {r : List Frac}, rowU a b i n j = some r → r.length = j
  | 0, r, h => by injection h with h; subst h; rfl
  | j + 1, r, h => by
    unfold rowU at h
    obtain ⟨r0, h0, h⟩ := Option.bind_eq_some_iff.1 h
    obtain ⟨x, _, rfl⟩ := Option.map_eq_some_iff.1 h
    simp [rowU_len h0]
theorem tabU_tot : ∀ {i : Nat} {t : List (List Frac)}, tabU a b n i = some t → tot t ≤ i * n
  | 0, t, h => by injection h with h; subst h; simp [tot]
  | i + 1, t, h => by
    unfold tabU at h
    obtain ⟨t0, h0, h⟩ := Option.bind_eq_some_iff.1 h
    obtain ⟨r, hr, rfl⟩ := Option.map_eq_some_iff.1 h
    have h1 := tabU_tot h0
    have h2 := rowU_len hr
    have h3 : ∀ (l : List (List Frac)), tot (l ++ [r]) = tot l + r.length := by
      intro l
      induction l with
      | nil => simp [tot]
      | cons x l ih => simp only [List.cons_append, tot, ih]; omega
    rw [h3, h2, Nat.add_mul]
    omega
end
end Go.Sg
namespace Go.Sx
theorem St.grow1 {M : List Nat} {w0 w w' : World} {H : List Res} {r : Res} (S : St M w0 w H) (T : St [] w w' [r]) : St M w0 w' (r :: H) := S.grow T
theorem St.call1 {M : List Nat} {w0 w w' : World} {H Hr Hk : List Res} {r : Res} (S : St M w0 w H) (h : Split H Hr Hk) (T : St (feet Hr) w w' [r]) : St M w0 w' (r :: Hk) := S.call h T
section
variable {α : Type} {d : Dat α} {M : List Nat} {w0 w : World} {H : List Res} {cs : List Value} {x : α} {bs : List Nat} {r0 r1 r2 r3 r4 r5 r6 r7 r8 r9 r10 r11 : Res}
theorem St.rd0 (S : St M w0 w (dat d cs x bs :: H)) : Rd d w x cs := S.own_rd (.head _)
theorem St.rd1 (S : St M w0 w (r0 :: dat d cs x bs :: H)) : Rd d w x cs := S.own_rd (.tail _ (.head _))
theorem St.rd2 (S : St M w0 w (r0 :: r1 :: dat d cs x bs :: H)) : Rd d w x cs := S.own_rd (.tail _ (.tail _ (.head _)))
theorem St.rd3 (S : St M w0 w (r0 :: r1 :: r2 :: dat d cs x bs :: H)) : Rd d w x cs := S.own_rd (.tail _ (.tail _ (.tail _ (.head _))))
theorem St.rd4 (S : St M w0 w (r0 :: r1 :: r2 :: r3 :: dat d cs x bs :: H)) : Rd d w x cs := S.own_rd (.tail _ (.tail _ (.tail _ (.tail _ (.head _)))))
theorem St.rd5 (S : St M w0 w (r0 :: r1 :: r2 :: r3 :: r4 :: dat d cs x bs :: H)) : Rd d w x cs := S.own_rd (.tail _ (.tail _ (.tail _ (.tail _ (.tail _ (.head _))))))
theorem St.rd6 (S : St M w0 w (r0 :: r1 :: r2 :: r3 :: r4 :: r5 :: dat d cs x bs :: H)) : Rd d w x cs := S.own_rd (.tail _ (.tail _ (.tail _ (.tail _ (.tail _ (.tail _ (.head _)))))))
theorem St.rd7 (S : St M w0 w (r0 :: r1 :: r2 :: r3 :: r4 :: r5 :: r6 :: dat d cs x bs :: H)) : Rd d w x cs := S.own_rd (.tail _ (.tail _ (.tail _ (.tail _ (.tail _ (.tail _ (.tail _ (.head _))))))))
theorem St.rd8 (S : St M w0 w (r0 :: r1 :: r2 :: r3 :: r4 :: r5 :: r6 :: r7 :: dat d cs x bs :: H)) : Rd d w x cs := S.own_rd (.tail _ (.tail _ (.tail _ (.tail _ (.tail _ (.tail _ (.tail _ (.tail _ (.head _)))))))))
theorem St.rd9 (S : St M w0 w (r0 :: r1 :: r2 :: r3 :: r4 :: r5 :: r6 :: r7 :: r8 :: dat d cs x bs :: H)) : Rd d w x cs := S.own_rd (.tail _ (.tail _ (.tail _ (.tail _ (.tail _ (.tail _ (.tail _ (.tail _ (.tail _ (.head _))))))))))
theorem St.rd10 (S : St M w0 w (r0 :: r1 :: r2 :: r3 :: r4 :: r5 :: r6 :: r7 :: r8 :: r9 :: dat d cs x bs :: H)) : Rd d w x cs := S.own_rd (.tail _ (.tail _ (.tail _ (.tail _ (.tail _ (.tail _ (.tail _ (.tail _ (.tail _ (.tail _ (.head _)))))))))))
theorem St.rd11 (S : St M w0 w (r0 :: r1 :: r2 :: r3 :: r4 :: r5 :: r6 :: r7 :: r8 :: r9 :: r10 :: dat d cs x bs :: H)) : Rd d w x cs := S.own_rd (.tail _ (.tail _ (.tail _ (.tail _ (.tail _ (.tail _ (.tail _ (.tail _ (.tail _ (.tail _ (.tail _ (.head _))))))))))))
theorem St.rd12 (S : St M w0 w (r0 :: r1 :: r2 :: r3 :: r4 :: r5 :: r6 :: r7 :: r8 :: r9 :: r10 :: r11 :: dat d cs x bs :: H)) : Rd d w x cs := S.own_rd (.tail _ (.tail _ (.tail _ (.tail _ (.tail _ (.tail _ (.tail _ (.tail _ (.tail _ (.tail _ (.tail _ (.tail _ (.head _)))))))))))))
end
end Go.Sx
