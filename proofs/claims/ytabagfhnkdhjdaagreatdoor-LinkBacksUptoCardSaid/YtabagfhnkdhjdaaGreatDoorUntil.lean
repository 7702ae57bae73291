/- strings.IndexAny whatever the text; link.until: what stands ahead of the first of some bytes, and the rest. -/
import Derived.Test.YtabagfhnkdhjdaaGreatDoorIndex
set_option linter.unusedVariables false
set_option maxRecDepth 100000
namespace Go.Proofs.YtabagfhnkdhjdaaGreatDoor
open Go.RowKit Go.Lib

theorem zeroAscii (w : World) : (zeroValue 81).run Tryz.prog w = .ok (.agg (Array.replicate 256 (.bool false))) w := by kernel_rfl

theorem indexAny_any (s chars : ByteArray) (w : World) (h1 : 1 ≤ chars.size) (hc : chars.size ≤ 100) (hs : s.size < 4294967281) (ha : AsciiS chars) :
    Calls Tryz.prog 77 #[.string s, .string chars] w fun e w' => e = .returned (.int .i64 (Lib.indexAny s.data.toList chars.data.toList)) ∧ Below w.heap.size w w' := by
  by_cases e1 : chars.size = 1
  · exact (Tryz.strings_IndexAny_one s chars w e1 ha).mono fun e w' ⟨h1, h2⟩ => ⟨h1, by rw [h2]; exact Below.refl _ _⟩
  · by_cases e8 : s.size ≤ 8
    · exact indexAny_short s chars w (by omega) hc e8 ha
    · exact (Tryz.strings_IndexAny_long zeroAscii s chars w (by omega) (by omega) hs (by omega) ha).mono fun e w' ⟨h1, h2⟩ => ⟨h1, by rw [h2]; exact ((Below.refl _ _).alloc (Nat.le_refl _) _).alloc (by simp) _⟩

/-- Where the first one of some bytes stands, or the end. -/
def upTo : List UInt8 → List UInt8 → Nat
  | [], _ => 0
  | b :: l, c => if c.contains b then 0 else upTo l c + 1

theorem upTo_le : ∀ (l c : List UInt8), upTo l c ≤ l.length
  | [], _ => Nat.le_refl _
  | b :: l, c => by
    unfold upTo
    have := upTo_le l c
    split
    · simp
    · simp; omega

theorem upTo_index : ∀ (l c : List UInt8), Lib.indexAny l c = if upTo l c < l.length then (upTo l c : Int) else -1
  | [], _ => rfl
  | b :: l, c => by
    have ih := upTo_index l c
    unfold Lib.indexAny upTo
    by_cases h : c.contains b = true
    · rw [if_pos h, if_pos h]; simp
    · rw [if_neg h, if_neg h, ih]
      by_cases h2 : upTo l c < l.length
      · rw [if_pos h2, if_neg (by simp), if_pos (by simp; omega)]
        omega
      · rw [if_neg h2, if_pos (by simp), if_neg (by simp; omega)]

/-- What 'until' hands back. -/
def untilA (l c : List UInt8) : List UInt8 := l.take (upTo l c)
def untilB (l c : List UInt8) : List UInt8 := l.drop (upTo l c)
theorem until_join (l c : List UInt8) : untilA l c ++ untilB l c = l := List.take_append_drop _ _

theorem take_mk (s : ByteArray) (n : Nat) : s.extract 0 n = ⟨(s.data.toList.take n).toArray⟩ := by
  rw [extract_eq]; simp
theorem drop_mk (s : ByteArray) (n : Nat) : s.extract n s.size = ⟨(s.data.toList.drop n).toArray⟩ := by
  rw [extract_eq]
  congr 2
  exact List.take_of_length_le (by rw [List.length_drop, size_eq]; exact Nat.le_refl _)

theorem ret_strs {a b c d : ByteArray} (h : a = c) (h2 : b = d) : Ending.returned (.tuple #[.string a, .string b]) = Ending.returned (.tuple #[.string c, .string d]) := by rw [h, h2]

set_option maxHeartbeats 1000000 in
theorem until_any (s stops : ByteArray) (w : World) (h1 : 1 ≤ stops.size) (hc : stops.size ≤ 100) (hs : s.size < 4294967281) (ha : AsciiS stops) :
    Calls Tryz.prog 39 #[.string s, .string stops] w fun e w' =>
      e = .returned (.tuple #[.string ⟨(untilA s.data.toList stops.data.toList).toArray⟩, .string ⟨(untilB s.data.toList stops.data.toList).toArray⟩]) ∧ Below w.heap.size w w' := by
  have hix := indexAny_any s stops w h1 hc hs ha
  have hle := upTo_le s.data.toList stops.data.toList
  rw [← size_eq] at hle
  rw [upTo_index, ← size_eq] at hix
  obtain ⟨n, hn⟩ : ∃ n, upTo s.data.toList stops.data.toList = n := ⟨_, rfl⟩
  have HN := Lib.hid hn
  rw [hn] at hix hle
  clear hn ha
  by_cases hlt : n < s.size
  · rw [if_pos hlt] at hix
    go_enter Tryz.func39, Tryz.ntmps39
    go_wp2_with (go_at_call 77; refine hix.mono ?_; clear hix; rintro e w2 ⟨rfl, hb2⟩)
    have HB := Lib.hid hb2
    clear hb2
    have q4 : (n : Int) ≤ (s.size : Int) := by omega
    go_quiet (fail)
    go_wp2
    go_ret2
    refine ⟨ret_strs ?_ ?_, Below.drewN HB.out _⟩
    · rw [take_mk]; unfold untilA; rw [HN.out]
    · rw [drop_mk]; unfold untilB; rw [HN.out]
  · rw [if_neg hlt] at hix
    go_enter Tryz.func39, Tryz.ntmps39
    go_wp2_with (go_at_call 77; refine hix.mono ?_; clear hix; rintro e w2 ⟨rfl, hb2⟩)
    have HB := Lib.hid hb2
    clear hb2
    go_ret2
    refine ⟨ret_strs ?_ ?_, HB.out⟩
    · unfold untilA; rw [HN.out, List.take_of_length_le (by rw [← size_eq]; omega), mk_data]
    · unfold untilB; rw [HN.out, List.drop_of_length_le (by rw [← size_eq]; omega)]
end Go.Proofs.YtabagfhnkdhjdaaGreatDoor
