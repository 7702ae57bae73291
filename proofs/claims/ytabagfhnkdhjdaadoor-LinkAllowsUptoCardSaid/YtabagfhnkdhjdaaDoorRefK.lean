/- The reference's Value, Hex, hexes. -/
import Derived.Test.YtabagfhnkdhjdaaDoorRefA
import Derived.Test.YtabagfhnkdhjdaaDoorEncode
set_option linter.unusedVariables false
set_option maxRecDepth 100000
namespace Go.Proofs.YtabagfhnkdhjdaaDoor
open Go.RowKit Go.Lib

theorem rvalue_any (r : Int) (w : World) (h0 : 0 ≤ r) (h255 : r ≤ 255) :
    Calls Tryd.prog 84 #[.int .i32 r] w fun e w' => e = .returned (.int .i64 (valZ r)) ∧ w = w' := by
  cases hd : digZ r
  · have HD := Lib.hid hd
    have c := rdigit_any r w
    rw [hd] at c
    clear hd
    by_cases h1 : 97 ≤ r <;> by_cases h2 : r ≤ 102 <;> by_cases h3 : 65 ≤ r <;> by_cases h4 : r ≤ 70
    all_goals try (exfalso; omega)
    all_goals
      go_enter Tryd.func84, Tryd.ntmps84
      go_wp2_with (go_at_call 55; refine c.mono ?_; rintro e w' ⟨rfl, rfl⟩)
      go_ret
      refine ⟨?_, rfl⟩
      have e : valZ r = if 97 ≤ r ∧ r ≤ 102 then r - 87 else if 65 ≤ r ∧ r ≤ 70 then r - 55 else -1 := by unfold valZ; rw [if_neg (by rw [HD.out]; exact Bool.false_ne_true)]
      rw [e]
      simp [h1, h2, h3, h4]
      try omega
  · have h : 48 ≤ r ∧ r ≤ 57 := by simpa [digZ] using hd
    obtain ⟨h1, h2⟩ := h
    have HD := Lib.hid hd
    have c := rdigit_any r w
    rw [hd] at c
    clear hd
    go_enter Tryd.func84, Tryd.ntmps84
    go_wp2_with (go_at_call 55; refine c.mono ?_; rintro e w' ⟨rfl, rfl⟩)
    go_ret
    exact ⟨by unfold valZ; rw [if_pos HD.out]; rfl, rfl⟩

theorem rhex_any (r : Int) (w : World) (h0 : 0 ≤ r) (h255 : r ≤ 255) :
    Calls Tryd.prog 68 #[.int .i32 r] w fun e w' => e = .returned (.bool (hexZ r)) ∧ w = w' := by
  have hb := val_bd r
  go_enter Tryd.func68, Tryd.ntmps68
  go_wp2_with (go_at_call 84; refine (rvalue_any _ _ h0 h255).mono ?_; rintro e w' ⟨rfl, rfl⟩)
  go_ret
  exact ⟨by first | rfl | (unfold hexZ; simp), rfl⟩

set_option maxHeartbeats 1000000 in
theorem hexes_any (s : ByteArray) (k : Nat) (w : World) (hs : s.size ≤ 140737488355328) (hk : k < s.size) :
    Calls Tryd.prog 47 #[.string s, .int .i64 k] w fun e w' => e = .returned (.bool (coded2 (s.data.toList.drop (k + 1)))) ∧ w = w' := by
  by_cases h : k + 2 < s.size
  · have hI : (k : Int) + 2 < (s.size : Int) := by omega
    have hkI : (k : Int) + 1 < (s.size : Int) := by omega
    have hb1 := byte_le s[k + 1]
    have hb2 := byte_le s[k + 2]
    have c1 := rhex_any (s[k + 1].toNat : Int) w (by omega) hb1
    have c2 := rhex_any (s[k + 2].toNat : Int) w (by omega) hb2
    have e1 : coded2 (s.data.toList.drop (k + 1)) = (hexB s[k + 1] && hexB s[k + 2]) := by
      rw [drop_at s (k + 1) (by omega), drop_at s (k + 1 + 1) (by omega)]
      rfl
    have E1 := Lib.hid e1
    clear e1
    cases h1 : hexB s[k + 1]
    · have h1' : hexZ (s[k + 1].toNat : Int) = false := h1
      rw [h1'] at c1
      have H1 := Lib.hid h1
      clear h1 h1'
      go_enter Tryd.func47, Tryd.ntmps47
      go_wp2_with fail
      refine c1.mono ?_
      clear c1
      rintro e w' ⟨rfl, rfl⟩
      go_wp2_with fail
      go_ret
      exact ⟨by rw [E1.out, H1.out]; rfl, rfl⟩
    · have h1' : hexZ (s[k + 1].toNat : Int) = true := h1
      rw [h1'] at c1
      have H1 := Lib.hid h1
      clear h1 h1'
      go_enter Tryd.func47, Tryd.ntmps47
      go_wp2_with fail
      refine c1.mono ?_
      clear c1
      rintro e w' ⟨rfl, rfl⟩
      go_wp2_with fail
      refine c2.mono ?_
      clear c2
      rintro e w' ⟨rfl, rfl⟩
      go_wp2_with fail
      go_ret
      exact ⟨by rw [E1.out, H1.out]; rfl, rfl⟩
  · have hI : ¬ (k : Int) + 2 < (s.size : Int) := by omega
    have e1 : coded2 (s.data.toList.drop (k + 1)) = false := by
      by_cases h2 : k + 1 < s.size
      · rw [drop_at s (k + 1) h2, drop_end s (k + 1 + 1) (by omega)]; rfl
      · rw [drop_end s (k + 1) (by omega)]; rfl
    have E1 := Lib.hid e1
    clear e1
    go_enter Tryd.func47, Tryd.ntmps47
    go_wp2_with fail
    go_ret
    exact ⟨by rw [E1.out]; rfl, rfl⟩

end Go.Proofs.YtabagfhnkdhjdaaDoor
