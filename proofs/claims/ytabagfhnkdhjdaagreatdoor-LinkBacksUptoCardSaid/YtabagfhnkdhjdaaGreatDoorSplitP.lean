/- The parts of a stripped text, plain. -/
import Derived.Test.YtabagfhnkdhjdaaGreatDoorSplit
set_option linter.unusedVariables false
set_option maxRecDepth 100000
namespace Go.Proofs.YtabagfhnkdhjdaaGreatDoor
open Go.RowKit Go.Lib

def spSlash : List UInt8 := [47, 63, 35]
def spQuest : List UInt8 := [63, 35]
def spHash : List UInt8 := [35]
/-- The parts, of a stripped text, one behind the other. -/
def sp1 (s : List UInt8) : List UInt8 := if colB s then s.drop (colN s + 1) else s
def spScheme (s : List UInt8) : List UInt8 := if colB s then schemeS s else []
def spHH (s : List UInt8) : Bool := Lib.hasPrefix s [47, 47]
def spHost (s : List UInt8) : List UInt8 := if spHH s then untilA (s.drop 2) spSlash else []
def sp2 (s : List UInt8) : List UInt8 := if spHH s then untilB (s.drop 2) spSlash else s
def spPath (s : List UInt8) : List UInt8 := untilA s spQuest
def sp3 (s : List UInt8) : List UInt8 := untilB s spQuest
def spHQ (s : List UInt8) : Bool := Lib.hasPrefix s [63]
def spQuery (s : List UInt8) : List UInt8 := if spHQ s then untilA (s.drop 1) spHash else []
def sp4 (s : List UInt8) : List UInt8 := if spHQ s then untilB (s.drop 1) spHash else s
def spHF (s : List UInt8) : Bool := !s.isEmpty
def spFrag (s : List UInt8) : List UInt8 := s.drop 1
theorem sp1_len (s : List UInt8) : (sp1 s).length ≤ s.length := by unfold sp1; split <;> simp
theorem untilB_len (s c : List UInt8) : (untilB s c).length ≤ s.length := by unfold untilB; simp
theorem sp2_len (s : List UInt8) : (sp2 s).length ≤ s.length := by
  unfold sp2
  split
  · have := untilB_len (s.drop 2) spSlash
    simp at this ⊢; omega
  · exact Nat.le_refl _
theorem sp3_len (s : List UInt8) : (sp3 s).length ≤ s.length := untilB_len _ _
theorem sp4_len (s : List UInt8) : (sp4 s).length ≤ s.length := by
  unfold sp4
  split
  · have := untilB_len (s.drop 1) spHash
    simp at this ⊢; omega
  · exact Nat.le_refl _

theorem prefix_len {l p : List UInt8} (h : Lib.hasPrefix l p = true) : p.length ≤ l.length := by
  unfold Lib.hasPrefix at h
  exact (List.isPrefixOf_iff_prefix.1 h).length_le

theorem ascii3 : AsciiS ⟨#[47, 63, 35]⟩ := fun j b h => by
  match j, h with
  | 0, h => simp at h; subst h; decide
  | 1, h => simp at h; subst h; decide
  | 2, h => simp at h; subst h; decide
  | j + 3, h => simp at h
theorem ascii2 : AsciiS ⟨#[63, 35]⟩ := fun j b h => by
  match j, h with
  | 0, h => simp at h; subst h; decide
  | 1, h => simp at h; subst h; decide
  | j + 2, h => simp at h
theorem ascii1 : AsciiS ⟨#[35]⟩ := fun j b h => by
  match j, h with
  | 0, h => simp at h; subst h; decide
  | j + 1, h => simp at h

end Go.Proofs.YtabagfhnkdhjdaaGreatDoor
