/- Plain law: the product of a table with the exponential of a one-letter step. Plain law: what the reference's step makes of a list of terms. Plain law: signatures of group words always fit, and the reference's steps make their terms. The walk through the law FnExactDepthOfWord: it returns true. -/
import Derived.Test.YtcfialfgkkjlfaaP2
import Derived.Test.YtcfialfgkkjlfaaP3
import Derived.Test.YtcfialfgkkjlfaaH6
import Derived.Test.YtcfialfgkkjlfaaE1
import Derived.Test.YtcfialfgkkjlfaaB4
set_option linter.unusedSimpArgs false
set_option linter.unusedVariables false
namespace Go.Sg
open Go.Sx
theorem wOk_b {d n : Nat} (h : wOk d n = true) :
    sortB (allW d n) = true ∧ (∀ w ∈ allW d n, befW w w = false ∧ w.size ≤ n) ∧ (∀ (i : Nat) (w : ByteArray), (allW d n)[i]? = some w → num d w = i) ∧
    ∀ w ∈ allW d n, ∀ j, j ≤ w.size → (w.extract 0 j).size + (w.extract j w.size).size = w.size ∧ (allW d n)[num d (w.extract 0 j)]? = some (w.extract 0 j) ∧ (allW d n)[num d (w.extract j w.size)]? = some (w.extract j w.size) := by
  unfold wOk at h
  simp only [Bool.and_eq_true, List.all_eq_true, isW, decide_eq_true_eq, beq_iff_eq, Bool.not_eq_true', List.mem_range] at h
  obtain ⟨h1, h2, h3, h4⟩ := h
  refine ⟨h1, h2, fun i w hw => ?_, fun w hw j hj => h4 w hw j (by omega)⟩
  obtain ⟨hi, _⟩ := List.getElem?_eq_some_iff.1 hw
  have := h3 i hi
  rw [hw] at this
  simpa using this
theorem mem_getQ {α : Type} {l : List α} {i : Nat} {a : α} (h : l[i]? = some a) : a ∈ l := List.mem_of_getElem? h
def tb (d n : Nat) (f : ByteArray → Frac) : Tb := ⟨(allW d n).map f, false⟩
theorem atT_tb {d n : Nat} {f : ByteArray → Frac} {u : ByteArray} (h : (allW d n)[num d u]? = some u) : atT d (tb d n f) u = f u := by
  simp [atT, tb, List.getD_eq_getElem?_getD, h]
theorem bn_ok : ∀ i, i < 9 → ∀ j, j < 9 → bn i j * (facN i * facN j) = facN (i + j) := by decide
def sumC (p : ByteArray → Int) (cs : List (ByteArray × Int)) : Int := (cs.map fun o => o.2 * p o.1).sum
def absC (m : Nat) (cs : List (ByteArray × Int)) : Nat := (cs.map fun o => o.2.natAbs * m ^ o.1.size).sum
theorem sumC_app (p : ByteArray → Int) (a b : List (ByteArray × Int)) : sumC p (a ++ b) = sumC p a + sumC p b := by simp [sumC]
theorem absC_app (m : Nat) (a b : List (ByteArray × Int)) : absC m (a ++ b) = absC m a + absC m b := by simp [absC]
theorem sumC_le {p : ByteArray → Int} {m : Nat} : ∀ {cs : List (ByteArray × Int)}, (∀ o ∈ cs, (p o.1).natAbs ≤ m ^ o.1.size) → (sumC p cs).natAbs ≤ absC m cs
  | [], _ => by simp [sumC, absC]
  | o :: cs, h => by
    have ih := sumC_le (p := p) (m := m) (cs := cs) (fun o ho => h o (List.mem_cons_of_mem _ ho))
    have h1 := Nat.mul_le_mul_left o.2.natAbs (h o List.mem_cons_self)
    rw [← Int.natAbs_mul] at h1
    have e1 : sumC p (o :: cs) = o.2 * p o.1 + sumC p cs := by simp [sumC]
    have e2 : absC m (o :: cs) = o.2.natAbs * m ^ o.1.size + absC m cs := by simp [absC]
    rw [e1, e2]
    omega
def cut1 (l : Nat) (sg : Int) (w : ByteArray) (j : Nat) : Option (ByteArray × Int) :=
  if w.extract j w.size = repB l (w.extract j w.size).size then some (w.extract 0 j, (bn (w.extract 0 j).size (w.extract j w.size).size : Int) * sg ^ (w.extract j w.size).size) else none
def cutJ (l : Nat) (sg : Int) (w : ByteArray) (j : Nat) : List (ByteArray × Int) := (List.range j).filterMap (cut1 l sg w)
theorem cutJ_all (l : Nat) (sg : Int) (w : ByteArray) : cutJ l sg w (w.size + 1) = cutC l sg w := rfl
theorem cutJ_succ (l : Nat) (sg : Int) (w : ByteArray) (j : Nat) : cutJ l sg w (j + 1) = cutJ l sg w j ++ (cut1 l sg w j).toList := by
  unfold cutJ
  rw [List.range_succ, List.filterMap_append]
  congr 1
theorem cutJ_mono {l : Nat} {sg : Int} {w : ByteArray} {m j : Nat} : ∀ k, absC m (cutJ l sg w j) ≤ absC m (cutJ l sg w (j + k))
  | 0 => Nat.le_refl _
  | k + 1 => by
    rw [← Nat.add_assoc, cutJ_succ, absC_app]
    exact Nat.le_trans (cutJ_mono k) (Nat.le_add_right _ _)
theorem cut1_src {l : Nat} {sg : Int} {w : ByteArray} {j : Nat} {o : ByteArray × Int} (h : cut1 l sg w j = some o) : o.1 = w.extract 0 j := by
  unfold cut1 at h
  split at h
  · injection h with h; rw [← h]
  · cases h
theorem cutJ_src {l : Nat} {sg : Int} {w : ByteArray} {j : Nat} {o : ByteArray × Int} (h : o ∈ cutJ l sg w j) : ∃ i, i < j ∧ o.1 = w.extract 0 i := by
  obtain ⟨i, hi, h⟩ := List.mem_filterMap.1 h
  exact ⟨i, List.mem_range.1 hi, cut1_src h⟩
theorem sg_ne {sg : Int} (h : sg = 1 ∨ sg = -1) (k : Nat) : sg ^ k ≠ 0 := by
  rcases h with rfl | rfl
  · rw [Int.one_pow]; omega
  · exact Int.pow_ne_zero (by omega)
/-- One word's cuts. -/
theorem cuts_tb {d n l m : Nat} {sg : Int} {p : ByteArray → Int} (hw : wOk d n = true) (hn : n ≤ 8) (hsg : sg = 1 ∨ sg = -1) (hp : ∀ u ∈ allW d n, (p u).natAbs ≤ m ^ u.size) {w : ByteArray} {i : Nat} (hi : (allW d n)[i]? = some w) (hb : absC m (cutC l sg w) ≤ 1000000) {out : Tb} (ho : out.vals[i]? = some f01) :
    ∀ j, j ≤ w.size + 1 → cutsS d (tb d n fun u => qf (p u) u.size) (tb d n (eV l sg)) w out j = ⟨out.vals.set i (qf (sumC p (cutJ l sg w j)) w.size), out.bad⟩
  | 0, _ => by
    have e : qf (sumC p (cutJ l sg w 0)) w.size = f01 := qf_zero _
    rw [e]
    obtain ⟨hi2, h2⟩ := List.getElem?_eq_some_iff.1 ho
    rw [← h2, List.set_getElem_self]
    rfl
  | j + 1, hj => by
    obtain ⟨_, h2, h3, h4⟩ := wOk_b hw
    have hwm := mem_getQ hi
    obtain ⟨hs1, hs2, hs3⟩ := h4 w hwm j (by omega)
    have hsz := (h2 w hwm).2
    have hnum := h3 i w hi
    obtain ⟨hi2, _⟩ := List.getElem?_eq_some_iff.1 ho
    rw [cutsS_succ, cuts_tb hw hn hsg hp hi hb ho j (by omega), cutJ_succ, sumC_app]
    have hmo : absC m (cutJ l sg w (j + 1)) ≤ 1000000 := by
      obtain ⟨k, hk⟩ : ∃ k, w.size + 1 = (j + 1) + k := ⟨w.size - j, by omega⟩
      have := cutJ_mono (l := l) (sg := sg) (w := w) (m := m) (j := j + 1) k
      rw [← hk, cutJ_all] at this
      omega
    rw [cutJ_succ, absC_app] at hmo
    have hb1 : (sumC p (cutJ l sg w j)).natAbs ≤ absC m (cutJ l sg w j) := sumC_le (fun o ho => by
      obtain ⟨i', hi', e⟩ := cutJ_src ho
      rw [e]
      exact hp _ (mem_getQ (h4 w hwm i' (by omega)).2.1))
    have hb2 : (sumC p (cut1 l sg w j).toList).natAbs ≤ absC m (cut1 l sg w j).toList := sumC_le (fun o ho => by
      rw [cut1_src (Option.mem_toList.1 ho)]
      exact hp _ (mem_getQ hs2))
    unfold cutS
    rw [atT_tb hs2, atT_tb hs3]
    generalize sumC p (cutJ l sg w j) = A at *
    by_cases he : w.extract j w.size = repB l (w.extract j w.size).size
    · have e1 : cut1 l sg w j = some (w.extract 0 j, (bn (w.extract 0 j).size (w.extract j w.size).size : Int) * sg ^ (w.extract j w.size).size) := if_pos he
      have e2 : eV l sg (w.extract j w.size) = ⟨sg ^ (w.extract j w.size).size, facN (w.extract j w.size).size⟩ := if_pos he
      have e3 : sumC p (cut1 l sg w j).toList = (bn (w.extract 0 j).size (w.extract j w.size).size : Int) * sg ^ (w.extract j w.size).size * p (w.extract 0 j) := by rw [e1]; simp [sumC]
      have e4 := qf_mulR (p (w.extract 0 j)) (sg ^ (w.extract j w.size).size) (bn_ok (w.extract 0 j).size (by omega) (w.extract j w.size).size (by omega))
      rw [hs1, ← e3] at e4
      rw [e2]
      by_cases hz : p (w.extract 0 j) = 0
      · rw [if_pos (.inl (qf_num.2 hz)), e3, hz, Int.mul_zero, Int.add_zero]
      · rw [if_neg (by
          rintro (h | h)
          · exact hz (qf_num.1 h)
          · exact sg_ne hsg _ h)]
        generalize sumC p (cut1 l sg w j).toList = B at *
        unfold addTimesT addT
        rw [e4, hnum]
        have f1 : isF (qf B w.size) = true := qf_isF (by omega) (by omega) (by omega)
        have f2 : isF (qf (A + B) w.size) = true := qf_isF (by omega) (by omega) (by omega)
        have f3 : (out.vals.set i (qf A w.size)).getD i f01 = qf A w.size := by rw [List.getD_eq_getElem?_getD, List.getElem?_set_self hi2]; rfl
        simp only [fitV_of f1, f3, qf_addR, fitV_of f2, f1, f2, List.set_set, Bool.not_true, Bool.or_false]
    · have e1 : cut1 l sg w j = none := if_neg he
      have e2 : eV l sg (w.extract j w.size) = f01 := if_neg he
      rw [e1, e2, if_pos (.inr rfl)]
      simp [sumC]
theorem times_tb {d n l m : Nat} {sg : Int} {p : ByteArray → Int} (hw : wOk d n = true) (hn : n ≤ 8) (hsg : sg = 1 ∨ sg = -1) (hp : ∀ u ∈ allW d n, (p u).natAbs ≤ m ^ u.size) (hb : ∀ w ∈ allW d n, absC m (cutC l sg w) ≤ 1000000) :
    timesT d n (tb d n fun u => qf (p u) u.size) (eT d n l sg) = tb d n fun w => qf (sumC p (cutC l sg w)) w.size := by
  have key : ∀ k, k ≤ (allW d n).length → wordsS d (tb d n fun u => qf (p u) u.size) (tb d n (eV l sg)) ((allW d n).take k) ⟨(newT d n).vals, false⟩ = ⟨fill ((allW d n).map fun w => qf (sumC p (cutC l sg w)) w.size) k f01, false⟩ := by
    intro k
    induction k with
    | zero =>
      intro _
      rw [fill_zero, List.length_map]
      rfl
    | succ k ih =>
      intro hk
      rw [wordsS_next (show k < (allW d n).length by omega), ih (by omega)]
      have hg : (allW d n)[k]? = some (allW d n)[k] := List.getElem?_eq_getElem _
      have hk2 : k < ((allW d n).map fun w => qf (sumC p (cutC l sg w)) w.size).length := by rw [List.length_map]; omega
      rw [cuts_tb hw hn hsg hp hg (hb _ (mem_getQ hg)) (fill_at hk2) _ (Nat.le_refl _), cutJ_all, ← fill_set hk2]
      congr 2
      simp
  have h := key _ (Nat.le_refl _)
  rw [List.take_length] at h
  unfold timesT
  have e : eT d n l sg = tb d n (eV l sg) := rfl
  rw [e]
  refine h.trans ?_
  unfold tb
  congr 1
  have := fill_all (xs := (allW d n).map fun w => qf (sumC p (cutC l sg w)) w.size) (z := f01)
  rwa [List.length_map] at this
def p0 (w : ByteArray) : Int := if w.size = 0 then 1 else 0
set_option maxRecDepth 100000 in
theorem unit_all : (levs.all fun q => decide (unitT q.1 q.2 = tb q.1 q.2 fun w => qf (p0 w) w.size) && decide (serT q.1 q.2 (tb q.1 q.2 fun w => qf (p0 w) w.size) = [⟨⟨#[]⟩, ⟨1, 1⟩⟩])) = true := by decide +kernel
end Go.Sg
set_option linter.unusedSimpArgs false
set_option linter.unusedVariables false
namespace Go.Sg
open Go.Sx
def serG (r : ByteArray → Int) (l : List ByteArray) : List Term := l.filterMap fun u => termOf (u, qf (r u) u.size)
theorem serT_tb (d n : Nat) (r : ByteArray → Int) : serT d n (tb d n fun u => qf (r u) u.size) = serG r (allW d n) := by
  unfold serT serL tb serG
  simp only
  generalize allW d n = l
  induction l with
  | nil => rfl
  | cons x l ih => simp only [List.map_cons, List.zip_cons_cons, List.filterMap_cons, ih]
theorem serG_app (r : ByteArray → Int) (a b : List ByteArray) : serG r (a ++ b) = serG r a ++ serG r b := List.filterMap_append
theorem serG_one (r : ByteArray → Int) (w : ByteArray) : serG r [w] = putMid w (qf (r w) w.size) := by
  unfold serG putMid termOf
  simp only [List.filterMap_cons, List.filterMap_nil]
  by_cases h : (qf (r w) w.size).num = 0 <;> simp [h]
theorem serG_congr {r q : ByteArray → Int} {l : List ByteArray} (h : ∀ u ∈ l, r u = q u) : serG r l = serG q l := by
  unfold serG
  induction l with
  | nil => rfl
  | cons x l ih =>
    rw [List.filterMap_cons, List.filterMap_cons, h x List.mem_cons_self, ih (fun u hu => h u (List.mem_cons_of_mem _ hu))]
theorem serG_mem {r : ByteArray → Int} {l : List ByteArray} {t : Term} (h : t ∈ serG r l) : t.word ∈ l ∧ t.val = qf (r t.word) t.word.size := by
  obtain ⟨u, hu, h⟩ := List.mem_filterMap.1 h
  unfold termOf at h
  split at h
  · cases h
  · injection h with h; subst h; exact ⟨hu, rfl⟩
theorem serG_nil {r : ByteArray → Int} {l : List ByteArray} (h : ∀ u ∈ l, r u = 0) : serG r l = [] := by
  unfold serG
  rw [List.filterMap_eq_nil_iff]
  intro u hu
  unfold termOf
  rw [if_pos (by rw [h u hu]; exact qf_num.2 rfl)]
theorem sort_split : ∀ {l : List ByteArray} {w : ByteArray}, sortB l = true → w ∈ l → ∃ a b, l = a ++ w :: b ∧ (∀ u ∈ a, befW u w = true ∧ u ≠ w) ∧ ∀ u ∈ b, befW u w = false ∧ u ≠ w
  | [], w, _, h => by cases h
  | x :: l, w, hs, h => by
    unfold sortB at hs
    simp only [Bool.and_eq_true, List.all_eq_true, decide_eq_true_eq, Bool.not_eq_true'] at hs
    obtain ⟨h1, h2⟩ := hs
    by_cases hx : w = x
    · subst hx
      exact ⟨[], l, rfl, by simp, fun u hu => ⟨(h1 u hu).2.1, (h1 u hu).2.2⟩⟩
    · have hm : w ∈ l := by
        rcases List.mem_cons.1 h with h | h
        · exact absurd h hx
        · exact h
      obtain ⟨a, b, rfl, ha, hb⟩ := sort_split h2 hm
      refine ⟨x :: a, b, rfl, fun u hu => ?_, hb⟩
      rcases List.mem_cons.1 hu with rfl | hu
      · exact ⟨(h1 w hm).1, fun e => hx e.symm⟩
      · exact ha u hu
def upd (r : ByteArray → Int) (w : ByteArray) (v : Int) (u : ByteArray) : Int := if u = w then v else r u
theorem put_ser {l : List ByteArray} {w : ByteArray} {r : ByteArray → Int} {y : Int} (hs : sortB l = true) (hw : w ∈ l) (hi : befW w w = false) (hk : w.size ≤ 12) (h1 : -1000000000 ≤ r w + y) (h2 : r w + y ≤ 1000000000) :
    putL (serG r l) w (qf y w.size) = some (serG (upd r w (r w + y)) l) := by
  obtain ⟨a, b, rfl, ha, hb⟩ := sort_split hs hw
  have ea : serG (upd r w (r w + y)) a = serG r a := serG_congr (fun u hu => by unfold upd; rw [if_neg (ha u hu).2])
  have eb : serG (upd r w (r w + y)) b = serG r b := serG_congr (fun u hu => by unfold upd; rw [if_neg (hb u hu).2])
  have ew : serG (upd r w (r w + y)) [w] = putMid w (qf (r w + y) w.size) := by rw [serG_one]; unfold upd; rw [if_pos rfl]
  have split (q : ByteArray → Int) : serG q (a ++ w :: b) = serG q a ++ (serG q [w] ++ serG q b) := by
    rw [← serG_app, ← serG_app]; rfl
  rw [split, split, ea, eb, ew, serG_one]
  have hpa : ∀ t ∈ serG r a, befW t.word w = true := fun t ht => (ha _ (serG_mem ht).1).1
  have hpos : ∀ z : List Term, (∀ t, z[0]? = some t → befW t.word w = false) → posW (serG r a ++ z) w = (serG r a).length := by
    intro z hz
    unfold posW
    rw [List.takeWhile_append_of_pos hpa]
    cases z with
    | nil => simp
    | cons t z => rw [List.takeWhile_cons_of_neg (by have := hz t rfl; simp [this])]; simp
  have hpb : ∀ t, (serG r b)[0]? = some t → befW t.word w = false ∧ t.word ≠ w := fun t ht => hb _ (serG_mem (mem_getQ ht)).1
  generalize serG r a = A at *
  generalize serG r b = B at *
  unfold putL
  by_cases hz : r w = 0
  · have e0 : putMid w (qf (r w) w.size) = [] := if_pos (qf_num.2 hz)
    rw [e0, List.nil_append, hpos B (fun t ht => (hpb t ht).1), hz, Int.zero_add]
    have hd : (A ++ B).drop A.length = B := by simp
    have ht : (A ++ B).take A.length = A := by simp
    have hg : (A ++ B)[A.length]? = B[0]? := by rw [List.getElem?_append_right (Nat.le_refl _), Nat.sub_self]
    rw [hg, hd, ht]
    cases hB : B[0]? with
    | none => simp [List.append_assoc]
    | some t =>
      simp only
      rw [if_neg (hpb t hB).2, List.append_assoc]
  · have e0 : putMid w (qf (r w) w.size) = [⟨w, qf (r w) w.size⟩] := if_neg (fun h => hz (qf_num.1 h))
    rw [e0, List.singleton_append, hpos _ (fun t ht => by injection ht with ht; rw [← ht]; exact hi)]
    have hd : (A ++ (⟨w, qf (r w) w.size⟩ : Term) :: B).drop (A.length + 1) = B := by simp
    have ht : (A ++ (⟨w, qf (r w) w.size⟩ : Term) :: B).take A.length = A := by simp
    have hg : (A ++ (⟨w, qf (r w) w.size⟩ : Term) :: B)[A.length]? = some ⟨w, qf (r w) w.size⟩ := by simp
    rw [hg, hd, ht]
    simp only [if_true]
    rw [qf_addF hk h1 h2]
    simp [List.append_assoc]
/-- What a list of contributions gives a word. -/
def rD (p : ByteArray → Int) (D : List (ByteArray × ByteArray × Int)) (t : ByteArray) : Int := sumC p ((D.filter fun o => o.1 = t).map (·.2))
theorem rD_snoc (p : ByteArray → Int) (D : List (ByteArray × ByteArray × Int)) (o : (ByteArray × ByteArray × Int)) : rD p (D ++ [o]) = upd (rD p D) o.1 (rD p D o.1 + o.2.2 * p o.2.1) := by
  funext t
  unfold upd rD
  rw [List.filter_append, List.map_append, sumC_app]
  by_cases h : t = o.1
  · subst h
    simp [sumC]
  · rw [if_neg h]
    have : ¬ o.1 = t := fun e => h e.symm
    simp [this, sumC]
theorem rD_zero {p : ByteArray → Int} {D X : List (ByteArray × ByteArray × Int)} (h : ∀ o ∈ X, p o.2.1 = 0) : rD p (D ++ X) = rD p D := by
  induction X generalizing D with
  | nil => simp
  | cons o X ih =>
    have e : D ++ o :: X = (D ++ [o]) ++ X := by simp
    rw [e, ih (fun o ho => h o (List.mem_cons_of_mem _ ho)), rD_snoc, h o List.mem_cons_self]
    funext t
    unfold upd
    split
    · rename_i e; rw [e]; simp
    · rfl
def absD (m : Nat) (D : List (ByteArray × ByteArray × Int)) (t : ByteArray) : Nat := absC m ((D.filter fun o => o.1 = t).map (·.2))
theorem absD_mono (m : Nat) (D E : List (ByteArray × ByteArray × Int)) (t : ByteArray) : absD m D t ≤ absD m (D ++ E) t := by
  unfold absD
  rw [List.filter_append, List.map_append, absC_app]
  omega
theorem rD_le {p : ByteArray → Int} {m : Nat} {D : List (ByteArray × ByteArray × Int)} {t : ByteArray} (h : ∀ o ∈ D, (p o.2.1).natAbs ≤ m ^ o.2.1.size) : (rD p D t).natAbs ≤ absD m D t :=
  sumC_le (fun o ho => by
    obtain ⟨x, hx, rfl⟩ := List.mem_map.1 ho
    exact h x (List.mem_filter.1 hx).1)
theorem appB_size (s : ByteArray) (l : Nat) : ∀ i, (appB s l i).size = s.size + i
  | 0 => rfl
  | i + 1 => by unfold appB; rw [ByteArray.size_append, appB_size s l i, letB_size]; omega
/-- All that the step of one letter needs. -/
structure StepOk (d n l m : Nat) (sg : Int) (p : ByteArray → Int) : Prop where
  w : wOk d n = true
  n8 : n ≤ 8
  s : sg = 1 ∨ sg = -1
  pm : ∀ u ∈ allW d n, (p u).natAbs ≤ m ^ u.size
  p9 : ∀ u ∈ allW d n, (p u).natAbs ≤ 1000000
  t : ∀ o ∈ opsS d n l sg, o.1 ∈ allW d n
  a : ∀ t ∈ allW d n, absD m (opsS d n l sg) t ≤ 1000000
theorem opsS_src {d n l : Nat} {sg : Int} {o : (ByteArray × ByteArray × Int)} (h : o ∈ opsS d n l sg) : o.2.1 ∈ allW d n := by
  obtain ⟨s, hs, h⟩ := List.mem_flatMap.1 h
  obtain ⟨i, _, rfl⟩ := List.mem_map.1 h
  exact hs
theorem put_op {d n l m : Nat} {sg : Int} {p : ByteArray → Int} (H : StepOk d n l m sg p) {D E : List (ByteArray × ByteArray × Int)} {o : (ByteArray × ByteArray × Int)} (hD : opsS d n l sg = D ++ o :: E) :
    putL (serG (rD p D) (allW d n)) o.1 (qf (o.2.2 * p o.2.1) o.1.size) = some (serG (rD p (D ++ [o])) (allW d n)) := by
  obtain ⟨h1, h2, _⟩ := wOk_b H.w
  have hm : o ∈ opsS d n l sg := by rw [hD]; simp
  have ht := H.t o hm
  have h3 : (rD p (D ++ [o]) o.1).natAbs ≤ 1000000 := by
    refine Nat.le_trans (rD_le (m := m) (fun x hx => H.pm _ (opsS_src (l := l) (sg := sg) (by rw [hD]; rcases List.mem_append.1 hx with hx | hx; exact List.mem_append_left _ hx; rw [List.mem_singleton.1 hx]; simp)))) (Nat.le_trans ?_ (H.a _ ht))
    have e : D ++ o :: E = (D ++ [o]) ++ E := by simp
    rw [hD, e]
    exact absD_mono _ _ _ _
  rw [rD_snoc] at h3 ⊢
  have h4 : (rD p D o.1 + o.2.2 * p o.2.1).natAbs ≤ 1000000 := by
    unfold upd at h3
    rwa [if_pos rfl] at h3
  have h5 := (h2 _ ht).2
  have h6 := H.n8
  exact put_ser h1 ht (h2 _ ht).1 (by omega) (by omega) (by omega)
theorem fac2 : ∀ a, a < 10 → ∀ b, b < 10 → a + b ≤ 9 → facN a * facN b ≤ 1000000000 := by decide
theorem ino_ser {d n l m : Nat} {sg : Int} {p : ByteArray → Int} (H : StepOk d n l m sg p) {s : ByteArray} (hsm : s ∈ allW d n) {E : List (ByteArray × ByteArray × Int)} :
    ∀ (f i : Nat) (D : List (ByteArray × ByteArray × Int)), i + f = n + 1 - s.size → opsS d n l sg = D ++ ((opsC n l sg s).drop i ++ E) →
      inO (letB (l : Nat)) sg f (serG (rD p D) (allW d n)) (appB s l i) (red (p s * sg ^ i) (facN s.size * facN i : Nat)) (i + 1) = some (serG (rD p (D ++ (opsC n l sg s).drop i)) (allW d n))
  | 0, i, D, hi, hD => by
    have e : (opsC n l sg s).drop i = [] := List.drop_eq_nil_of_le (by simp [opsC]; omega)
    rw [e, List.append_nil]
    rfl
  | f + 1, i, D, hi, hD => by
    obtain ⟨h1, h2, _⟩ := wOk_b H.w
    have hsz := (h2 s hsm).2
    have hn8 := H.n8
    have hl : i < (opsC n l sg s).length := by simp [opsC]; omega
    have e : (opsC n l sg s).drop i = (appB s l i, s, (bn s.size i : Int) * sg ^ i) :: (opsC n l sg s).drop (i + 1) := by
      rw [List.drop_eq_getElem_cons hl]
      congr 1
      simp [opsC]
    rw [e] at hD ⊢
    have hp := put_op H hD
    have hbn := bn_ok s.size (by omega) i (by omega)
    have hf2 := fac2 s.size (by omega) (i + 1) (by omega) (by omega)
    have hp9 := H.p9 s hsm
    have hpos : 0 < facN s.size * facN i := Nat.mul_pos (facN_pos _) (facN_pos _)
    have hpos2 : 0 < facN s.size * facN (i + 1) := Nat.mul_pos (facN_pos _) (facN_pos _)
    have hv : red (p s * sg ^ i) (facN s.size * facN i : Nat) = qf ((bn s.size i : Int) * sg ^ i * p s) (appB s l i).size := by
      rw [appB_size]
      refine red_cross (by omega) (facI _) ?_
      rw [← hbn]
      generalize facN s.size * facN i = q
      simp only [Int.natCast_mul]
      ac_rfl
    have hsg : (sg ^ (i + 1)).natAbs = 1 := by
      rw [Int.natAbs_pow]
      rcases H.s with h | h <;> rw [h] <;> simp
    have hnb : (p s * sg ^ (i + 1)).natAbs ≤ 1000000 := by rw [Int.natAbs_mul, hsg]; omega
    obtain ⟨v1, v2, v3⟩ := red_val (p s * sg ^ i) (b := ((facN s.size * facN i : Nat) : Int)) (by omega)
    have hfr : fr ((red (p s * sg ^ i) (facN s.size * facN i : Nat)).num * sg) ((red (p s * sg ^ i) (facN s.size * facN i : Nat)).den * ((i + 1 : Nat) : Int)) = some (red (p s * sg ^ (i + 1)) (facN s.size * facN (i + 1) : Nat)) := by
      refine fr_cross (Int.mul_pos v2 (by omega)) (by omega) ?_ (by omega) (by omega) (by omega)
      generalize red (p s * sg ^ i) (facN s.size * facN i : Nat) = z at *
      have e1 : ((facN s.size * facN (i + 1) : Nat) : Int) = ((facN s.size * facN i : Nat) : Int) * ((i + 1 : Nat) : Int) := by
        rw [← Int.natCast_mul]
        congr 1
        simp only [facN]
        ac_rfl
      rw [e1, Int.pow_succ]
      generalize ((facN s.size * facN i : Nat) : Int) = q at *
      calc z.num * sg * (q * ((i + 1 : Nat) : Int)) = z.num * q * (sg * ((i + 1 : Nat) : Int)) := by ac_rfl
        _ = p s * sg ^ i * z.den * (sg * ((i + 1 : Nat) : Int)) := by rw [v1]
        _ = _ := by ac_rfl
    have ih := ino_ser H hsm (E := E) f (i + 1) (D ++ [(appB s l i, s, (bn s.size i : Int) * sg ^ i)]) (by omega) (by rw [hD]; simp)
    unfold inO
    rw [hv]
    simp only at hp
    rw [hp, ← hv]
    simp only [Option.bind_some]
    rw [hfr]
    simp only [Option.bind_some]
    have e2 : D ++ (appB s l i, s, (bn s.size i : Int) * sg ^ i) :: (opsC n l sg s).drop (i + 1) = D ++ [(appB s l i, s, (bn s.size i : Int) * sg ^ i)] ++ (opsC n l sg s).drop (i + 1) := by simp
    rw [e2]
    exact ih
theorem stepO_ser {d n l m : Nat} {sg : Int} {p : ByteArray → Int} (H : StepOk d n l m sg p) :
    ∀ (W D : List _), (∀ s ∈ W, s ∈ allW d n) → opsS d n l sg = D ++ W.flatMap (opsC n l sg) →
      stepO n (letB (l : Nat)) sg (serG p W) (serG (rD p D) (allW d n)) = some (serG (rD p (D ++ W.flatMap (opsC n l sg))) (allW d n))
  | [], D, _, _ => by rw [List.flatMap_nil, List.append_nil]; rfl
  | s :: W, D, hW, hD => by
    rw [List.flatMap_cons] at hD ⊢
    have hsm := hW s List.mem_cons_self
    have ih := stepO_ser H W (D ++ opsC n l sg s) (fun u hu => hW u (List.mem_cons_of_mem _ hu)) (by rw [hD, List.append_assoc])
    rw [List.append_assoc] at ih
    by_cases hz : p s = 0
    · have e1 : serG p (s :: W) = serG p W := by
        unfold serG termOf
        rw [List.filterMap_cons]
        simp only
        rw [if_pos (qf_num.2 hz)]
      have e2 : rD p (D ++ opsC n l sg s) = rD p D := rD_zero (fun o ho => by
        obtain ⟨i, _, rfl⟩ := List.mem_map.1 ho
        exact hz)
      rw [e1, ← e2]
      exact ih
    · have e1 : serG p (s :: W) = ⟨s, qf (p s) s.size⟩ :: serG p W := by
        unfold serG termOf
        rw [List.filterMap_cons]
        simp only
        rw [if_neg (fun h => hz (qf_num.1 h))]
      have h1 := ino_ser H hsm (E := W.flatMap (opsC n l sg)) (n + 1 - s.size) 0 D (by omega) (by rw [List.drop_zero, hD])
      have e3 : red (p s * sg ^ 0) (facN s.size * facN 0 : Nat) = qf (p s) s.size := by
        unfold qf
        rw [Int.pow_zero, Int.mul_one]
        simp [facN]
      rw [e3, List.drop_zero] at h1
      rw [e1]
      unfold stepO
      simp only
      have e4 : appB s l 0 = s := rfl
      rw [e4, Nat.zero_add] at h1
      rw [h1]
      simp only [Option.bind_some]
      exact ih
end Go.Sg
set_option linter.unusedSimpArgs false
set_option linter.unusedVariables false
namespace Go.Sg
open Go.Sx
theorem cOk_b {d n l : Nat} {sg : Int} (h : cOk d n l sg = true) : (∀ o ∈ opsS d n l sg, o.1 ∈ allW d n) ∧ ∀ w ∈ allW d n, ((opsS d n l sg).filter fun o => o.1 = w).map (·.2) = cutC l sg w ∧ ∀ m, m < 12 → absC m (cutC l sg w) ≤ (m + 1) ^ w.size := by
  unfold cOk at h
  simp only [Bool.and_eq_true, List.all_eq_true, isW, decide_eq_true_eq, List.mem_range] at h
  exact ⟨fun o ho => mem_getQ (h.1 o ho), fun w hw => ⟨(h.2 w hw).1, fun m hm => (h.2 w hw).2 m hm⟩⟩
theorem wOk_of {d n : Nat} (h : (d, n) ∈ levs) : wOk d n = true := List.all_eq_true.1 wOk_all _ h
theorem cOk_of {d n l : Nat} {sg : Int} (h : (d, n) ∈ levs) (hl : l < d) (hs : sg = 1 ∨ sg = -1) : cOk d n l sg = true := by
  have h1 := List.all_eq_true.1 (List.all_eq_true.1 cOk_all _ h) l (List.mem_range.2 hl)
  rw [Bool.and_eq_true] at h1
  rcases hs with rfl | rfl
  · exact h1.1
  · exact h1.2
theorem exp_of {d n : Nat} {x : Int} (h : (d, n) ∈ levs) (h0 : x ≠ 0) (h1 : -(d : Int) ≤ x) (h2 : x ≤ d) : expT d n (stpT d n (stepOf d x)) = eT d n (x.natAbs - 1) (sgn x) := by
  have hm : x ∈ lets12 d := by
    refine List.mem_flatMap.2 ⟨x.natAbs - 1, List.mem_range.2 (by omega), ?_⟩
    by_cases hx : 0 < x
    · have : x = ((x.natAbs - 1 : Nat) : Int) + 1 := by omega
      rw [← this]
      exact List.mem_cons_self
    · have : x = -(((x.natAbs - 1 : Nat) : Int) + 1) := by omega
      rw [← this]
      simp
  exact of_decide_eq_true (List.all_eq_true.1 (List.all_eq_true.1 eOk_all _ h) x hm)
theorem unit_of {d n : Nat} (h : (d, n) ∈ levs) : unitT d n = (tb d n fun w => qf (p0 w) w.size) ∧ serT d n (tb d n fun w => qf (p0 w) w.size) = [⟨⟨#[]⟩, ⟨1, 1⟩⟩] := by
  have h1 := List.all_eq_true.1 unit_all _ h
  rw [Bool.and_eq_true] at h1
  exact ⟨of_decide_eq_true h1.1, of_decide_eq_true h1.2⟩
theorem levs_b {d n : Nat} (h : (d, n) ∈ levs) : n ≤ 5 ∧ d ≤ 3 ∧ (allW d n).length ≤ 1000 := by
  have h1 : (levs.all fun p => decide (p.2 ≤ 5 ∧ p.1 ≤ 3 ∧ (allW p.1 p.2).length ≤ 1000)) = true := by decide +kernel
  exact of_decide_eq_true (List.all_eq_true.1 h1 _ h)
theorem pow_b {m k : Nat} (hm : m ≤ 12) (hk : k ≤ 5) : m ^ k ≤ 1000000 := by
  have h1 : m ^ k ≤ 12 ^ k := Nat.pow_le_pow_left hm k
  have h2 : 12 ^ k ≤ 12 ^ 5 := Nat.pow_le_pow_right (by omega) hk
  omega
/-- The values of a group word's signature, times the factorials. -/
def pW (xs : List Int) : ByteArray → Int := xs.foldl (fun p x w => sumC p (cutC (x.natAbs - 1) (sgn x) w)) p0
theorem pW_next {xs : List Int} {k : Nat} (h : k < xs.length) : pW (xs.take (k + 1)) = fun w => sumC (pW (xs.take k)) (cutC (xs[k].natAbs - 1) (sgn xs[k]) w) := by
  unfold pW
  rw [take_next h, List.foldl_append]
  rfl
def letsOk (d : Nat) (xs : List Int) : Prop := xs.length ≤ 12 ∧ ∀ x ∈ xs, x ≠ 0 ∧ -(d : Int) ≤ x ∧ x ≤ d
theorem pW_le {d n : Nat} {xs : List Int} (hL : (d, n) ∈ levs) (hx : letsOk d xs) : ∀ k, k ≤ xs.length → ∀ u ∈ allW d n, (pW (xs.take k) u).natAbs ≤ k ^ u.size
  | 0, _, u, hu => by
    show (p0 u).natAbs ≤ 0 ^ u.size
    unfold p0
    split
    · rename_i h; rw [h]; decide
    · simp
  | k + 1, hk, u, hu => by
    have hk1 : k < xs.length := by omega
    have hX := hx
    obtain ⟨h1, h2⟩ := hX
    obtain ⟨hx0, hx1, hx2⟩ := h2 _ (List.getElem_mem hk1)
    have ih := pW_le hL hx k (by omega)
    obtain ⟨_, _, _, h4⟩ := wOk_b (wOk_of hL)
    rw [pW_next hk1]
    refine Nat.le_trans (sumC_le (m := k) (fun o ho => ?_)) ((((cOk_b (cOk_of hL (show xs[k].natAbs - 1 < d by omega) (sgn_or xs[k]))).2 u hu).2 k (by omega)))
    rw [← cutJ_all] at ho
    obtain ⟨i, hi, e⟩ := cutJ_src ho
    rw [e]
    exact ih _ (mem_getQ (h4 u hu i (by omega)).2.1)
theorem stepOk_of {d n : Nat} {xs : List Int} (hL : (d, n) ∈ levs) (hx : letsOk d xs) {k : Nat} (hk : k < xs.length) : StepOk d n (xs[k].natAbs - 1) k (sgn xs[k]) (pW (xs.take k)) := by
  have hX := hx
  obtain ⟨h1, h2⟩ := hX
  obtain ⟨hx0, hx1, hx2⟩ := h2 _ (List.getElem_mem hk)
  obtain ⟨hn, hd, _⟩ := levs_b hL
  have hc := cOk_b (cOk_of hL (show xs[k].natAbs - 1 < d by omega) (sgn_or xs[k]))
  have hw := wOk_b (wOk_of hL)
  have hp := pW_le hL hx k (by omega)
  refine ⟨wOk_of hL, by omega, sgn_or _, hp, fun u hu => Nat.le_trans (hp u hu) (pow_b (by omega) (Nat.le_trans (hw.2.1 u hu).2 hn)), hc.1, fun t ht => ?_⟩
  unfold absD
  rw [(hc.2 t ht).1]
  exact Nat.le_trans ((hc.2 t ht).2 k (by omega)) (pow_b (by omega) (Nat.le_trans (hw.2.1 t ht).2 hn))
theorem gwT_tb {d n : Nat} {xs : List Int} (hL : (d, n) ∈ levs) (hx : letsOk d xs) : ∀ k, k ≤ xs.length → gwT d n (xs.take k) = tb d n fun w => qf (pW (xs.take k) w) w.size
  | 0, _ => (unit_of hL).1
  | k + 1, hk => by
    have hk1 : k < xs.length := by omega
    have ih := gwT_tb hL hx k (by omega)
    have H := stepOk_of hL hx hk1
    obtain ⟨hx0, hx1, hx2⟩ := hx.2 _ (List.getElem_mem hk1)
    unfold gwT at ih ⊢
    rw [List.map_take] at ih ⊢
    have hlen : k < (xs.map (stepOf d)).length := by simpa using hk1
    rw [sigT_next hlen, ih, List.getElem_map, exp_of hL hx0 hx1 hx2, times_tb H.w H.n8 H.s H.pm (fun w hw => ?_), pW_next hk1]
    have hc := cOk_b (cOk_of hL (show xs[k].natAbs - 1 < d by omega) (sgn_or xs[k]))
    have := H.a w hw
    unfold absD at this
    rwa [(hc.2 w hw).1] at this
theorem serS_of {d n : Nat} {xs : List Int} (hL : (d, n) ∈ levs) (hx : letsOk d xs) {k : Nat} (hk : k ≤ xs.length) : serT d n (gwT d n (xs.take k)) = serG (pW (xs.take k)) (allW d n) := by
  rw [gwT_tb hL hx k hk, serT_tb]
theorem stepS_of {d n : Nat} {xs : List Int} (hL : (d, n) ∈ levs) (hx : letsOk d xs) {k : Nat} (hk : k < xs.length) :
    stepO n (letB ((xs[k].natAbs : Int) - 1)) (sgn xs[k]) (serT d n (gwT d n (xs.take k))) [] = some (serT d n (gwT d n (xs.take (k + 1)))) := by
  have H := stepOk_of hL hx hk
  obtain ⟨hx0, hx1, hx2⟩ := hx.2 _ (List.getElem_mem hk)
  have hc := cOk_b (cOk_of hL (show xs[k].natAbs - 1 < d by omega) (sgn_or xs[k]))
  have h1 := stepO_ser H (allW d n) [] (fun s hs => hs) rfl
  have e1 : serG (rD (pW (xs.take k)) []) (allW d n) = [] := serG_nil (fun u hu => by simp [rD, sumC])
  have e2 : serG (rD (pW (xs.take k)) ([] ++ (allW d n).flatMap (opsC n (xs[k].natAbs - 1) (sgn xs[k])))) (allW d n) = serG (pW (xs.take (k + 1))) (allW d n) := serG_congr (fun u hu => by
    rw [pW_next hk]
    show sumC _ _ = sumC _ _
    rw [← (hc.2 u hu).1]
    rfl)
  rw [e1, e2] at h1
  rw [serS_of hL hx (by omega), serS_of hL hx (by omega)]
  have e3 : ((xs[k].natAbs : Int) - 1) = ((xs[k].natAbs - 1 : Nat) : Int) := by omega
  rw [e3]
  exact h1
end Go.Sg
namespace Go.Proofs.Ytcfialfgkkjlfaa
open Go.RowKit Go.Sx Go.Sg
theorem gw_plain {d n : Int} {xs : List Int} (hg : isGW d xs = true) (hl : lvl d n = true) : (gwT d.toNat n.toNat xs).bad = false ∧ Steps n.toNat xs (fun k => gwS d n (xs.take k)) := by
  obtain ⟨hd1, hd2, hlen, hx⟩ := isGW_iff.1 hg
  have hL := levs_of hl
  have hX : letsOk d.toNat xs := ⟨hlen, fun x hxx => by have := hx x hxx; omega⟩
  obtain ⟨hn, hd, hW⟩ := levs_b hL
  have hw := wOk_b (wOk_of hL)
  have hz := gwT_tb hL hX xs.length (Nat.le_refl _)
  rw [List.take_length] at hz
  refine ⟨by rw [hz]; rfl, ?_, fun k => ?_, fun k => ?_, fun k hk => stepS_of hL hX hk⟩
  · show serT d.toNat n.toNat (gwT d.toNat n.toNat (xs.take 0)) = _
    rw [gwT_tb hL hX 0 (by omega)]
    exact (unit_of hL).2
  · exact Nat.le_trans serL_len hW
  · have key : ∀ j, j ≤ xs.length → ∀ t ∈ gwS d n (xs.take j), isF t.val = true ∧ t.word.size ≤ n.toNat := by
      intro j hj t ht
      unfold gwS at ht
      rw [serS_of hL hX hj] at ht
      obtain ⟨h1, h2⟩ := serG_mem ht
      have h3 := pW_le hL hX j hj _ h1
      have h4 := (hw.2.1 _ h1).2
      have h5 := pow_b (m := j) (k := t.word.size) (by omega) (by omega)
      exact ⟨by rw [h2]; exact qf_isF (by omega) (by omega) (by omega), h4⟩
    by_cases hk : k ≤ xs.length
    · exact key k hk
    · have := key xs.length (Nat.le_refl _)
      rw [List.take_length] at this
      show ∀ t ∈ gwS d n (xs.take k), isF t.val = true ∧ t.word.size ≤ n.toNat
      rw [List.take_of_length_le (by omega)]
      exact this
end Go.Proofs.Ytcfialfgkkjlfaa
set_option linter.unusedSimpArgs false
set_option linter.unusedVariables false
namespace Go.Proofs.Ytcfialfgkkjlfaa
open Go.RowKit Go.Sx Go.Sg
theorem DepthOfWord_both (d n : Int) (xs : List Int) : ∃ dep cd : Int,
    (∀ v w0, Rd (sl 2 dInt) w0 xs [v] → Calls Try.prog 16 #[.int .i64 d, .int .i64 n, v] w0 fun e w' => e = .returned (.tuple #[.int .i64 dep, .int .i64 cd]) ∧ Chg [] w0 w') ∧
    (∀ v w0, Rd (sl 2 dInt) w0 xs [v] → Calls Try.prog 18 #[.int .i64 d, .int .i64 n, v] w0 fun e w' => e = .returned (.tuple #[.int .i64 dep, .int .i64 cd]) ∧ Chg [] w0 w') := by
  cases h : (isGW d xs && lvl d n)
  · exact ⟨0, 2, fun v w0 hR => DepthOfWordS_no d n xs v w0 hR h, fun v w0 hR => DepthOfWord_no d n xs v w0 hR h⟩
  · rw [Bool.and_eq_true] at h
    obtain ⟨hb, hs⟩ := gw_plain h.1 h.2
    have hn : n.toNat ≤ 8 := by have := lvl_iff.1 h.2; omega
    have e : gwS d n (xs.take xs.length) = gwS d n xs := by rw [List.take_length]
    have h1 := hs.2.1 xs.length
    have h2 := hs.2.2.1 xs.length
    try simp only at h1 h2
    rw [e] at h1 h2
    refine ⟨depL (gwS d n xs), 0, fun v w0 hR => ?_, fun v w0 hR => DepthOfWord_yes d n xs v w0 hR h.1 h.2 hb _ rfl h1 (fun t ht => Nat.le_trans (h2 t ht).2 hn)⟩
    have hc := DepthOfWordS_yes d n xs v w0 hR h.1 h.2 _ hs
    try simp only at hc
    rw [e] at hc
    exact hc
set_option maxRecDepth 100000 in
theorem FnExactDepthOfWord_ok (d n : Int) (xs : List Int) (v : Value) (w0 : World) (hR : Rd (sl 2 dInt) w0 xs [v]) :
    Calls Try.prog 4 #[.int .i64 d, .int .i64 n, v] w0 fun e w' => e = .returned (.bool true) ∧ Chg [] w0 w' := by
  have S := St.start w0
  obtain ⟨dep, cd, cS, cI⟩ := DepthOfWord_both d n xs
  obtain ⟨A, c, rfl, hc1, hc2⟩ := hR.slice
  unfold maxLen at hc2
  by_cases hs : 1048576 < xs.length
  · go_enter Try.func4, Try.ntmps4
    go_wp2
    refine s_ret1 S (h := ?_)
    exact ⟨rfl, S.chg⟩
  go_enter Try.func4, Try.ntmps4
  go_wp2_with (first
    | (go_at_call 17; refine (toInt64S_ok xs _ _ (S.rd hR) (by omega)).mono ?_; rintro e w1 ⟨v1, bs1, rfl, T⟩; have S := S.grow1 T; clear T)
    | (go_at_call 16; refine (cS _ _ S.rd0).mono ?_; rintro e w1 ⟨rfl, hc⟩; have S := S.step hc; clear hc)
    | (go_at_call 18; refine (cI _ _ S.rd0).mono ?_; rintro e w1 ⟨rfl, hc⟩; have S := S.step hc; clear hc)
    | (go_at_call 19; refine (eqInt64S_ok xs _ _ _ S.rd1 S.rd0).mono ?_; rintro e w1 ⟨rfl, hc⟩; have S := S.step hc; clear hc))
  refine s_ret1 S (h := ?_)
  exact ⟨rfl, S.chg⟩
end Go.Proofs.Ytcfialfgkkjlfaa
