/- names.Lower: in lower case, byte by byte. -/
import Derived.Test.YtabagfhnkdhjdaaGreatDoorNames
import Derived.Test.YtabagfhnkdhjdaaGreatDoorMem
import Derived.Outline
set_option linter.unusedVariables false
set_option maxRecDepth 100000
namespace Go.Proofs.YtabagfhnkdhjdaaGreatDoor
open Go.RowKit Go.Lib

def lowB (c : UInt8) : UInt8 := if 65 ≤ c.toNat ∧ c.toNat ≤ 90 then UInt8.ofNat (c.toNat + 32) else c
def lower (l : List UInt8) : List UInt8 := l.map lowB

theorem lower_step (s : ByteArray) (k : Nat) (h : k < s.size) :
    byteCells (lower (s.data.toList.take (k + 1)) ++ s.data.toList.drop (k + 1)) = (byteCells (lower (s.data.toList.take k) ++ s.data.toList.drop k)).set k (.int .u8 (lowB s[k]).toNat) := by
  have h' : k < s.data.toList.length := by rw [← size_eq]; exact h
  have e : s.data.toList.take (k + 1) = s.data.toList.take k ++ [s[k]] := by
    rw [List.take_succ_eq_append_getElem h']; rfl
  rw [e, drop_at s k h]
  have hl : (byteCells (lower (s.data.toList.take k))).length = k := by
    rw [byteCells_len, lower, List.length_map, List.length_take]; omega
  have e2 : ∀ a b : List UInt8, byteCells (a ++ b) = byteCells a ++ byteCells b := by intro a b; simp [byteCells]
  rw [e2, e2, List.set_append_right _ _ (by omega), hl, Nat.sub_self]
  simp [byteCells, lower]

theorem lower_at (s : ByteArray) (k : Nat) (h : k < s.size) : (byteCells (lower (s.data.toList.take k) ++ s.data.toList.drop k))[k]? = some (.int .u8 (s[k].toNat : Int)) := by
  have h' : k < s.data.toList.length := by rw [← size_eq]; exact h
  have hl : (byteCells (lower (s.data.toList.take k))).length = k := by
    rw [byteCells_len, lower, List.length_map, List.length_take]; omega
  have e2 : ∀ a b : List UInt8, byteCells (a ++ b) = byteCells a ++ byteCells b := by intro a b; simp [byteCells]
  rw [e2, List.getElem?_append_right (by omega), hl, Nat.sub_self, drop_at s k h]
  simp [byteCells]

theorem lowB_in {c : UInt8} (h1 : 65 ≤ (c.toNat : Int)) (h2 : (c.toNat : Int) ≤ 90) : ((lowB c).toNat : Int) = c.toNat + 32 := by
  unfold lowB
  rw [if_pos ⟨by omega, by omega⟩]
  simp
  omega
theorem lowB_out {c : UInt8} (h : ¬ (65 ≤ (c.toNat : Int) ∧ (c.toNat : Int) ≤ 90)) : lowB c = c := by
  unfold lowB
  rw [if_neg (by omega)]

theorem lower_len (s : ByteArray) (k : Nat) (h : k ≤ s.size) : (byteCells (lower (s.data.toList.take k) ++ s.data.toList.drop k)).length = s.size := by
  rw [byteCells_len, lower, List.length_append, List.length_map, ← List.length_append, List.take_append_drop, size_eq]

theorem set_same {α : Type} {l : List α} {k : Nat} {v : α} (h : l[k]? = some v) : l.set k v = l := by
  apply List.ext_getElem?
  intro j
  by_cases e : k = j
  · subst e
    rw [List.getElem?_set_self (List.getElem?_eq_some_iff.1 h).1, h]
  · rw [List.getElem?_set_ne e]

theorem lower_keep (s : ByteArray) (k : Nat) (h : k < s.size) (hn : ¬ (65 ≤ (s[k].toNat : Int) ∧ (s[k].toNat : Int) ≤ 90)) :
    byteCells (lower (s.data.toList.take (k + 1)) ++ s.data.toList.drop (k + 1)) = byteCells (lower (s.data.toList.take k) ++ s.data.toList.drop k) := by
  rw [lower_step s k h, lowB_out hn]
  have := lower_at s k h
  exact set_same this

set_option maxHeartbeats 1000000 in
theorem lower_any (s : ByteArray) (w : World) (hs : s.size ≤ 140737488355328) :
    Calls Tryz.prog 37 #[.string s] w fun e w' => e = .returned (.string ⟨(lower s.data.toList).toArray⟩) ∧ Below w.heap.size w w' := by
  have hconv := run_bytes_of_string (P := Tryz.prog) w 9 29 5 s Tryz.underlying9 Tryz.underlying29 Tryz.underlying5
  have hr0 : Hid (RowAt (w.alloc (.cells (bytesRow s (grownCap w s.size 0 5)) 5 ((bytesRow s (grownCap w s.size 0 5)).size, (bytesRow s (grownCap w s.size 0 5)).size + 1))).drew w.heap.size (byteCells (lower (s.data.toList.take 0) ++ s.data.toList.drop 0))) := RowAt.bytes w s _ _
  have hb0 : Hid (Below w.heap.size w (w.alloc (.cells (bytesRow s (grownCap w s.size 0 5)) 5 ((bytesRow s (grownCap w s.size 0 5)).size, (bytesRow s (grownCap w s.size 0 5)).size + 1))).drew) := ((Below.refl _ w).alloc (Nat.le_refl _) _).drew
  have hcap := grownCap_ge w s.size 0 5
  have HC : ∃ c, grownCap w s.size 0 5 = c := ⟨_, rfl⟩
  obtain ⟨cap, hcc⟩ := HC
  rw [hcc] at hconv hcap hr0 hb0
  clear hcc
  obtain ⟨C, hC⟩ : ∃ C, bytesRow s cap = C := ⟨_, rfl⟩
  rw [hC] at hconv hr0 hb0
  clear hC
  go_enter Tryz.func37, Tryz.ntmps37
  go_wp2
  go_loopw [10, 11, 4, 5] (fun i _ _ _ wr => ∃ k : Nat, k ≤ s.size ∧ i = .int .i64 k ∧ RowAt wr w.heap.size (byteCells (lower (s.data.toList.take k) ++ s.data.toList.drop k)) ∧ Below w.heap.size w wr) (fun i _ _ _ _ => s.size - (intOf i).toNat)
  case atStart => exact ⟨0, Nat.zero_le _, rfl, hr0.out, hb0.out⟩
  case round =>
    obtain ⟨k, hk, rfl, hrow, hbel⟩ := hrel
    have HR := Lib.hid hrow
    have HB := Lib.hid hbel
    clear hrow hbel hr0 hb0
    by_cases hlt : k < s.size
    · have hcell := HR.out.cell (lower_at s k hlt)
      have hfr := HR.out.frozen (j := k) (by rw [lower_len s k hk]; exact hlt)
      obtain ⟨c, hc⟩ : ∃ c, s[k] = c := ⟨_, rfl⟩
      have HC := Lib.hid hc
      rw [hc] at hcell
      clear hc
      have hc256 := c.toNat_lt
      by_cases h1 : 65 ≤ (c.toNat : Int) <;> by_cases h2 : (c.toNat : Int) ≤ 90
      all_goals try (exfalso; omega)
      · go_wp2
        go_roundw
        case rel =>
          refine ⟨k + 1, by omega, by go_num, ?_, HB.out.setCell (p := ⟨w.heap.size, k, none⟩) (Nat.le_refl _) _⟩
          rw [lower_step s k hlt]
          have e : ((lowB s[k]).toNat : Int) = c.toNat + 97 - 65 := by rw [HC.out, lowB_in h1 h2]; omega
          rw [e]
          exact HR.out.set k _
        case measure => simp [intOf]; omega
      · go_wp2
        go_roundw
        case rel =>
          refine ⟨k + 1, by omega, by go_num, ?_, HB.out⟩
          rw [lower_keep s k hlt (by rw [HC.out]; omega)]
          exact HR.out
        case measure => simp [intOf]; omega
      · go_wp2
        go_roundw
        case rel =>
          refine ⟨k + 1, by omega, by go_num, ?_, HB.out⟩
          rw [lower_keep s k hlt (by rw [HC.out]; omega)]
          exact HR.out
        case measure => simp [intOf]; omega
    · obtain rfl : k = s.size := by omega
      have hback := HR.out.string (P := Tryz.prog) 29 9 5 s.size cap (by rw [← byteCells_len, lower_len s s.size (Nat.le_refl _)]) Tryz.underlying29 Tryz.underlying5 Tryz.underlying9
      go_wp2
      go_ret
      refine ⟨?_, HB.out⟩
      rw [drop_end s s.size (Nat.le_refl _), List.append_nil, List.take_of_length_le (by rw [← size_eq]; exact Nat.le_refl _)]
      rfl
end Go.Proofs.YtabagfhnkdhjdaaGreatDoor
