/- Plain definitions: the laws' sizes and marks. -/
import Derived.Test.YtcfialfgkkjlfaaB1
set_option linter.unusedSimpArgs false
set_option linter.unusedVariables false
namespace Go.Sg
open Go.Sx Go.RowKit

/-- What the laws' size functions give. -/
def szL (n : Nat) (left : Int) : Int := if left - n < 0 then -1 else left - n
def szRow {α : Type} (x : List α) (l : Int) : Int := szL x.length l
theorem szL_le (n : Nat) (l : Int) (h : 0 ≤ l) : szL n l ≤ l := by unfold szL; split <;> omega
theorem szRow_le {α : Type} (x : List α) (l : Int) (h : 0 ≤ l) : szRow x l ≤ l := szL_le _ _ h
def szFold {α : Type} (f : α → Int → Int) : List α → Int → Int
  | [], l => l
  | x :: xs, l => if f x l < 0 then -1 else szFold f xs (f x l)
def szSS {α : Type} (f : α → Int → Int) (xs : List α) (left : Int) : Int := if left - xs.length < 0 then -1 else szFold f xs (left - xs.length)
/-- Marks: what stands where x stood, and the next number. -/
structure Mk (α : Type) where
  mark : α → Int → α
  next : α → Int → Int
def mkFrac : Mk Frac := ⟨fun _ k => ⟨k, k + 1⟩, fun _ k => k + 2⟩
def mkInt : Mk Int := ⟨fun _ k => k, fun _ k => k + 1⟩
def Mk.marks {α : Type} (m : Mk α) : List α → Int → List α
  | [], _ => []
  | x :: xs, k => m.mark x k :: m.marks xs (m.next x k)
def Mk.nexts {α : Type} (m : Mk α) : List α → Int → Int
  | [], k => k
  | x :: xs, k => m.nexts xs (m.next x k)
def mkL {α : Type} (m : Mk α) : Mk (List α) := ⟨m.marks, m.nexts⟩
theorem nexts_frac : ∀ (xs : List Frac) (k : Int), mkFrac.nexts xs k = k + 2 * xs.length
  | [], k => by simp [Mk.nexts]
  | x :: xs, k => by
    show mkFrac.nexts xs (k + 2) = _
    rw [nexts_frac xs (k + 2)]
    simp
    omega
theorem nexts_int : ∀ (xs : List Int) (k : Int), mkInt.nexts xs k = k + xs.length
  | [], k => by simp [Mk.nexts]
  | x :: xs, k => by
    show mkInt.nexts xs (k + 1) = _
    rw [nexts_int xs (k + 1)]
    simp
    omega
theorem marks_len {α : Type} (m : Mk α) : ∀ (xs : List α) (k : Int), (m.marks xs k).length = xs.length
  | [], _ => rfl
  | x :: xs, k => by show (m.marks xs _).length + 1 = _; rw [marks_len m xs]; rfl
theorem marks_frac_at : ∀ (xs : List Frac) (k : Int) (j : Nat), j < xs.length → (mkFrac.marks xs k)[j]? = some ⟨k + 2 * j, k + 2 * j + 1⟩
  | [], _, _, h => by simp at h
  | x :: xs, k, 0, _ => by show some _ = some _; simp [mkFrac]
  | x :: xs, k, j + 1, h => by
    show (mkFrac.marks xs (k + 2))[j]? = _
    rw [marks_frac_at xs (k + 2) j (by simpa using h)]
    congr 2 <;> omega
/-- The numbers do not fall. -/
def Mk.Up {α : Type} (m : Mk α) : Prop := ∀ x k, k ≤ m.next x k
theorem Mk.Up.nexts {α : Type} {m : Mk α} (h : m.Up) : ∀ (xs : List α) (k : Int), k ≤ m.nexts xs k
  | [], _ => Int.le_refl _
  | x :: xs, k => Int.le_trans (h x k) (h.nexts xs _)
theorem Mk.Up.list {α : Type} {m : Mk α} (h : m.Up) : (mkL m).Up := fun x k => h.nexts x k
theorem up_frac : mkFrac.Up := fun _ k => by show k ≤ k + 2; omega
theorem up_int : mkInt.Up := fun _ k => by show k ≤ k + 1; omega
theorem slO_nil {α : Type} {e : Nat} {d : Dat α} {w : World} : (sl e d).O w [] [] [.slice none 0 0] := ⟨_, [], [], rfl, rfl, ⟨by simp, .inl ⟨rfl, rfl⟩⟩, trivial⟩
theorem spl_num {a : Frac} {n : Int} : Spl (encF a) 0 [.int .i64 n] (encF ⟨n, a.den⟩) := .here .done
theorem spl_den {n d m : Int} : Spl (encF ⟨n, d⟩) 1 [.int .i64 m] (encF ⟨n, m⟩) := .there (.here .done)
theorem drop_cons {α : Type} {xs : List α} {k : Nat} (h : k < xs.length) : xs.drop k = xs[k] :: xs.drop (k + 1) := List.drop_eq_getElem_cons h
theorem set_mid {α : Type} : ∀ (l bs : List α) (x y : α) (k : Nat), l.length = k → (l ++ x :: bs).set k y = l ++ y :: bs
  | [], bs, x, y, k, h => by subst h; rfl
  | a :: l, bs, x, y, k, h => by subst h; simp
theorem get_mid {α : Type} (l bs : List α) (x : α) (k : Nat) (h : l.length = k) : (l ++ x :: bs)[k]? = some x := by subst h; simp
theorem any_at {α : Type} {xs : List α} {p : α → Bool} {k : Nat} (hk : k < xs.length) (h : p xs[k] = true) : xs.any p = true := List.any_eq_true.2 ⟨_, List.getElem_mem hk, h⟩
theorem take_next {α : Type} {xs : List α} {k : Nat} (h : k < xs.length) : xs.take (k + 1) = xs.take k ++ [xs[k]] := by rw [List.take_add_one, List.getElem?_eq_getElem h]; rfl
theorem any_next {α : Type} {xs : List α} {p : α → Bool} {k : Nat} (hk : k < xs.length) (h0 : (xs.take k).any p = false) (h : p xs[k] = false) : (xs.take (k + 1)).any p = false := by
  rw [take_next hk, List.any_append, h0]
  simpa using h
/-- make's list, filled as far as k. -/
def fill {α : Type} (xs : List α) (k : Nat) (z : α) : List α := xs.take k ++ List.replicate (xs.length - k) z
theorem fill_len {α : Type} {xs : List α} {k : Nat} {z : α} (h : k ≤ xs.length) : (fill xs k z).length = xs.length := by simp [fill]; omega
theorem fill_zero {α : Type} {xs : List α} {z : α} : fill xs 0 z = List.replicate xs.length z := by simp [fill]
theorem fill_all {α : Type} {xs : List α} {z : α} : fill xs xs.length z = xs := by simp [fill]
theorem fill_at {α : Type} {xs : List α} {k : Nat} {z : α} (h : k < xs.length) : (fill xs k z)[k]? = some z := by
  unfold fill
  have e : xs.length - k = (xs.length - (k + 1)) + 1 := by omega
  rw [e, List.replicate_succ]
  exact get_mid _ _ _ _ (by simp; omega)
theorem fill_set {α : Type} {xs : List α} {k : Nat} {z : α} (h : k < xs.length) : (fill xs k z).set k xs[k] = fill xs (k + 1) z := by
  unfold fill
  have e : xs.length - k = (xs.length - (k + 1)) + 1 := by omega
  rw [e, List.replicate_succ, set_mid _ _ _ _ _ (by simp; omega)]
  have e2 : xs.take (k + 1) = xs.take k ++ [xs[k]] := by rw [List.take_add_one, List.getElem?_eq_getElem h]; rfl
  rw [e2, List.append_assoc]
  rfl
end Go.Sg
