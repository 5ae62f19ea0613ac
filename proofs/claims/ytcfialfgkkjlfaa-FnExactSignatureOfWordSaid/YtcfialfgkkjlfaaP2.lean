/- Plain law: closed facts about words, and about the exponential of a one-letter step. -/
import Derived.Test.YtcfialfgkkjlfaaP1
import Derived.Test.YtcfialfgkkjlfaaH3
set_option linter.unusedSimpArgs false
set_option linter.unusedVariables false
namespace Go.Sg
open Go.Sx
instance : DecidableEq Tb := fun a b =>
  if h : a.vals = b.vals ∧ a.bad = b.bad then isTrue (by cases a; cases b; obtain ⟨h1, h2⟩ := h; cases h1; cases h2; rfl) else isFalse (fun e => h (by rw [e]; exact ⟨rfl, rfl⟩))
instance : DecidableEq Term := fun a b =>
  if h : a.word = b.word ∧ a.val = b.val then isTrue (by cases a; cases b; obtain ⟨h1, h2⟩ := h; cases h1; cases h2; rfl) else isFalse (fun e => h (by rw [e]; exact ⟨rfl, rfl⟩))
/-- i times a letter, after a word. -/
def appB (s : ByteArray) (l : Nat) : Nat → ByteArray
  | 0 => s
  | i + 1 => appB s l i ++ letB (l : Nat)
def repB (l i : Nat) : ByteArray := appB ⟨#[]⟩ l i
def eV (l : Nat) (sg : Int) (w : ByteArray) : Frac := if w = repB l w.size then ⟨sg ^ w.size, facN w.size⟩ else f01
def eT (d n l : Nat) (sg : Int) : Tb := ⟨(allW d n).map (eV l sg), false⟩
def eOk (d n : Nat) (x : Int) : Bool := decide (expT d n (stpT d n (stepOf d x)) = eT d n (x.natAbs - 1) (sgn x))
def bn (i j : Nat) : Nat := facN (i + j) / (facN i * facN j)
def isW (d n : Nat) (w : ByteArray) : Bool := decide ((allW d n)[num d w]? = some w)
/-- What a word's value takes from its beginnings. -/
def cutC (l : Nat) (sg : Int) (w : ByteArray) : List (ByteArray × Int) :=
  (List.range (w.size + 1)).filterMap fun j => if w.extract j w.size = repB l (w.extract j w.size).size then some (w.extract 0 j, (bn (w.extract 0 j).size (w.extract j w.size).size : Int) * sg ^ (w.extract j w.size).size) else none
/-- What a word's value gives. -/
def opsC (n l : Nat) (sg : Int) (s : ByteArray) : List (ByteArray × ByteArray × Int) := (List.range (n + 1 - s.size)).map fun i => (appB s l i, s, (bn s.size i : Int) * sg ^ i)
def opsS (d n l : Nat) (sg : Int) : List (ByteArray × ByteArray × Int) := (allW d n).flatMap (opsC n l sg)
def sortB : List ByteArray → Bool
  | [] => true
  | w :: ws => (ws.all fun u => befW w u && (!befW u w && decide (u ≠ w))) && sortB ws
def wOk (d n : Nat) : Bool :=
  sortB (allW d n) && (((allW d n).all fun w => !befW w w && decide (w.size ≤ n)) && (((List.range (allW d n).length).all fun i => ((allW d n)[i]?.map (num d)) == some i) &&
    ((allW d n).all fun w => (List.range (w.size + 1)).all fun j => decide ((w.extract 0 j).size + (w.extract j w.size).size = w.size) && (isW d n (w.extract 0 j) && isW d n (w.extract j w.size)))))
def cOk (d n l : Nat) (sg : Int) : Bool :=
  ((opsS d n l sg).all fun o => isW d n o.1) && ((allW d n).all fun w => decide (((opsS d n l sg).filter fun o => o.1 = w).map (·.2) = cutC l sg w) && ((List.range 12).all fun m => decide (((cutC l sg w).map fun o => o.2.natAbs * m ^ o.1.size).sum ≤ (m + 1) ^ w.size)))
def levs : List (Nat × Nat) := [(1, 1), (1, 2), (1, 3), (1, 4), (1, 5), (2, 1), (2, 2), (2, 3), (2, 4), (2, 5), (3, 1), (3, 2), (3, 3), (3, 4)]
def lets12 (d : Nat) : List Int := (List.range d).flatMap fun (i : Nat) => [(i : Int) + 1, -((i : Int) + 1)]
theorem levs_of {d n : Int} (h : Go.Proofs.Ytcfialfgkkjlfaa.lvl d n = true) : (d.toNat, n.toNat) ∈ levs := by
  obtain ⟨h1, h2, h3, h4, h5⟩ := lvl_iff.1 h
  have e1 : d.toNat = 1 ∨ d.toNat = 2 ∨ d.toNat = 3 := by omega
  have e2 : n.toNat = 1 ∨ n.toNat = 2 ∨ n.toNat = 3 ∨ n.toNat = 4 ∨ n.toNat = 5 := by omega
  have e3 : d.toNat < 3 ∨ n.toNat < 5 := by omega
  generalize d.toNat = a at *
  generalize n.toNat = b at *
  rcases e1 with rfl | rfl | rfl <;> rcases e2 with rfl | rfl | rfl | rfl | rfl <;> first | decide | omega
end Go.Sg
