/- link.Dots. -/
import Derived.Test.YtabagfhnkdhjdaaGreatDoorParent
set_option linter.unusedVariables false
set_option maxRecDepth 100000
namespace Go.Proofs.YtabagfhnkdhjdaaGreatDoor
open Go.RowKit Go.Lib

def dotStep (i o : List UInt8) : List UInt8 × List UInt8 :=
  if Lib.hasPrefix i [46, 46, 47] = true then (i.drop 3, o)
  else if Lib.hasPrefix i [46, 47] = true then (i.drop 2, o)
  else if Lib.hasPrefix i [47, 46, 47] = true then (i.drop 2, o)
  else if (i == [47, 46]) = true then ([47], o)
  else if Lib.hasPrefix i [47, 46, 46, 47] = true then (i.drop 3, parentL o)
  else if (i == [47, 46, 46]) = true then ([47], parentL o)
  else if (i == [46] || i == [46, 46]) = true then ([], o)
  else (i.drop (upTo (i.drop 1) [47] + 1), o ++ i.take (upTo (i.drop 1) [47] + 1))

def dotsF : Nat → List UInt8 → List UInt8 → List UInt8
  | 0, _, o => o
  | n + 1, i, o => if i.isEmpty then o else dotsF n (dotStep i o).1 (dotStep i o).2

def dots (v : List UInt8) : List UInt8 := dotsF (mend v).length (mend v) []

theorem parentL_len (o : List UInt8) : (parentL o).length ≤ o.length := by
  unfold parentL
  split
  · simp; omega
  · simp

theorem dotStep_len (i o : List UInt8) (h : i ≠ []) : (dotStep i o).1.length < i.length ∧ (dotStep i o).1.length + (dotStep i o).2.length ≤ i.length + o.length := by
  have hi : 0 < i.length := List.length_pos_iff.2 h
  have hp := parentL_len o
  unfold dotStep
  split
  · simp; omega
  split
  · simp; omega
  split
  · simp; omega
  split
  · rename_i h; have := eq_of_beq h; subst this; simp
  split
  · simp; omega
  split
  · rename_i h; have := eq_of_beq h; subst this; simp; omega
  split
  · simp; omega
  · have := upTo_le (i.drop 1) [47]
    simp at this ⊢
    omega

theorem upTo_indexByte : ∀ (l : List UInt8) (c : UInt8), Lib.indexByte l c = if upTo l [c] < l.length then (upTo l [c] : Int) else -1
  | [], _ => rfl
  | b :: l, c => by
    have ih := upTo_indexByte l c
    unfold Lib.indexByte upTo
    by_cases h : b = c
    · subst h; simp
    · have h2 : (b == c) = false := beq_eq_false_iff_ne.2 h
      have h3 : List.contains [c] b = false := by simp [h]
      rw [ih, h3]
      by_cases h4 : upTo l [c] < l.length
      · rw [if_pos h4]
        simp [h2, h4]
      · rw [if_neg h4]
        simp [h2, h4]

theorem data_append (a b : ByteArray) : (a ++ b).data.toList = a.data.toList ++ b.data.toList := by simp

def strLen : Value → Nat
  | .string s => s.size
  | _ => 0

theorem dots_ok {n M : Nat} {s o s' o' : ByteArray} {R : List UInt8} (h0 : 0 < s.size) (hn : s.size ≤ n) (hsum : s.size + o.size ≤ M) (hR : dotsF n s.data.toList o.data.toList = R) (hst : dotStep s.data.toList o.data.toList = (s'.data.toList, o'.data.toList)) :
    ∃ m, s'.size ≤ m ∧ s'.size + o'.size ≤ M ∧ dotsF m s'.data.toList o'.data.toList = R ∧ s'.size < s.size := by
  have hl := dotStep_len s.data.toList o.data.toList (by intro e; rw [size_eq, e] at h0; simp at h0)
  rw [hst] at hl
  simp only [← size_eq] at hl
  cases n with
  | zero => omega
  | succ n =>
    refine ⟨n, by omega, by omega, ?_, by omega⟩
    rw [← hR, dotsF, hst]
    have he := empty_false s h0
    rw [Lib.toList_data] at he
    rw [he]; rfl
end Go.Proofs.YtabagfhnkdhjdaaGreatDoor
