/- Contracts of the small functions of package names, and of link.schemeByte. -/
import Derived.Test.YtabagfhnkdhjdaaGreatDoorChecked
import Derived.WalkKit
import Derived.WalkLawsBesides
import Derived.WalkSpells
import Derived.IntWalk
import Derived.Lib.Hide
namespace Go.Proofs.YtabagfhnkdhjdaaGreatDoor
open Go.RowKit

/-- Letters, capitals, digits of a rune. -/
def upZ (r : Int) : Bool := decide (65 ≤ r) && decide (r ≤ 90)
def loZ (r : Int) : Bool := decide (97 ≤ r) && decide (r ≤ 122)
def digZ (r : Int) : Bool := decide (48 ≤ r) && decide (r ≤ 57)
def letZ (r : Int) : Bool := upZ r || loZ r
def valZ (r : Int) : Int := if digZ r then r - 48 else if 97 ≤ r ∧ r ≤ 102 then r - 87 else if 65 ≤ r ∧ r ≤ 70 then r - 55 else -1
def hexZ (r : Int) : Bool := decide (0 ≤ valZ r)
def schZ (c : Int) : Bool := letZ c || digZ c || c == 43 || c == 45 || c == 46

theorem upper_any (r : Int) (w : World) :
    Calls Tryz.prog 97 #[.int .i32 r] w fun e w' => e = .returned (.bool (upZ r)) ∧ w = w' := by
  by_cases h1 : 65 ≤ r <;> by_cases h2 : r ≤ 90
  all_goals try (exfalso; omega)
  all_goals
    go_enter Tryz.func97, Tryz.ntmps97
    go_wp2
    go_ret
    exact ⟨by simp [upZ, h1, h2], rfl⟩

theorem digit_any (r : Int) (w : World) :
    Calls Tryz.prog 72 #[.int .i32 r] w fun e w' => e = .returned (.bool (digZ r)) ∧ w = w' := by
  by_cases h1 : 48 ≤ r <;> by_cases h2 : r ≤ 57
  all_goals try (exfalso; omega)
  all_goals
    go_enter Tryz.func72, Tryz.ntmps72
    go_wp2
    go_ret
    exact ⟨by simp [digZ, h1, h2], rfl⟩

theorem letter_any (r : Int) (w : World) :
    Calls Tryz.prog 71 #[.int .i32 r] w fun e w' => e = .returned (.bool (letZ r)) ∧ w = w' := by
  by_cases h1 : 97 ≤ r <;> by_cases h2 : r ≤ 122 <;> cases hu : upZ r
  all_goals try (exfalso; omega)
  all_goals
    have HU := Lib.hid hu
    have c := upper_any r w
    rw [hu] at c
    clear hu
    go_enter Tryz.func71, Tryz.ntmps71
    go_wp2_with (go_at_call 97; refine c.mono ?_; rintro e w' ⟨rfl, rfl⟩)
    go_ret
    exact ⟨by unfold letZ loZ; rw [HU.out]; simp [h1, h2], rfl⟩

theorem val_bd (r : Int) : -1 ≤ valZ r ∧ valZ r ≤ 15 := by
  unfold valZ digZ
  simp only [Bool.and_eq_true, decide_eq_true_eq]
  repeat' split
  all_goals omega

theorem value_any (r : Int) (w : World) :
    Calls Tryz.prog 67 #[.int .i32 r] w fun e w' => e = .returned (.int .i64 (valZ r)) ∧ w = w' := by
  cases hd : digZ r
  · have HD := Lib.hid hd
    have c := digit_any r w
    rw [hd] at c
    clear hd
    by_cases h1 : 97 ≤ r <;> by_cases h2 : r ≤ 102 <;> by_cases h3 : 65 ≤ r <;> by_cases h4 : r ≤ 70
    all_goals try (exfalso; omega)
    all_goals
      go_enter Tryz.func67, Tryz.ntmps67
      go_wp2_with (go_at_call 72; refine c.mono ?_; rintro e w' ⟨rfl, rfl⟩)
      go_ret
      refine ⟨?_, rfl⟩
      have e : valZ r = if 97 ≤ r ∧ r ≤ 102 then r - 87 else if 65 ≤ r ∧ r ≤ 70 then r - 55 else -1 := by unfold valZ; rw [if_neg (by rw [HD.out]; exact Bool.false_ne_true)]
      rw [e]
      simp [h1, h2, h3, h4]
      try omega
  · have h : 48 ≤ r ∧ r ≤ 57 := by simpa [digZ] using hd
    obtain ⟨h1, h2⟩ := h
    have HD := Lib.hid hd
    have c := digit_any r w
    rw [hd] at c
    clear hd
    go_enter Tryz.func67, Tryz.ntmps67
    go_wp2_with (go_at_call 72; refine c.mono ?_; rintro e w' ⟨rfl, rfl⟩)
    go_ret
    exact ⟨by unfold valZ; rw [if_pos HD.out]; rfl, rfl⟩

theorem hex_any (r : Int) (w : World) :
    Calls Tryz.prog 91 #[.int .i32 r] w fun e w' => e = .returned (.bool (hexZ r)) ∧ w = w' := by
  have hb := val_bd r
  go_enter Tryz.func91, Tryz.ntmps91
  go_wp2_with (go_at_call 67; refine (value_any _ _).mono ?_; rintro e w' ⟨rfl, rfl⟩)
  go_ret
  exact ⟨rfl, rfl⟩

theorem schemeByte_any (c : UInt8) (w : World) :
    Calls Tryz.prog 75 #[.int .u8 c.toNat] w fun e w' => e = .returned (.bool (schZ c.toNat)) ∧ w = w' := by
  have hc := c.toNat_lt
  generalize hn : (c.toNat : Int) = n
  have h0 : 0 ≤ n := by omega
  have h1 : n < 256 := by omega
  clear hn hc
  have c1 := letter_any n w
  cases hl : letZ n
  · rw [hl] at c1
    have HL := Lib.hid hl
    clear hl
    have c2 := digit_any n w
    cases hd : digZ n
    · rw [hd] at c2
      have HD := Lib.hid hd
      clear hd
      have hs : Hid (schZ n = (n == 43 || n == 45 || n == 46)) := by show _ = _; unfold schZ; rw [HL.out, HD.out]; simp
      cases ha : (n == 43) <;> cases hb : (n == 45) <;> cases he : (n == 46)
      all_goals try (exfalso; simp at ha hb; omega)
      all_goals try (exfalso; simp at ha he; omega)
      all_goals try (exfalso; simp at he hb; omega)
      all_goals
        go_enter Tryz.func75, Tryz.ntmps75
        go_wp2_with (first | (go_at_call 71; refine c1.mono ?_; rintro e w' ⟨rfl, rfl⟩) | (go_at_call 72; refine c2.mono ?_; rintro e w' ⟨rfl, rfl⟩))
        go_ret
        exact ⟨by rw [hs.out, ha, hb, he]; rfl, rfl⟩
    · rw [hd] at c2
      have hs : Hid (schZ n = true) := by show _ = _; unfold schZ; rw [HL.out, hd]; simp
      clear hd
      go_enter Tryz.func75, Tryz.ntmps75
      go_wp2_with (first | (go_at_call 71; refine c1.mono ?_; rintro e w' ⟨rfl, rfl⟩) | (go_at_call 72; refine c2.mono ?_; rintro e w' ⟨rfl, rfl⟩))
      go_ret
      exact ⟨by rw [hs.out]; rfl, rfl⟩
  · rw [hl] at c1
    have hs : Hid (schZ n = true) := by show _ = _; unfold schZ; rw [hl]; simp
    clear hl
    go_enter Tryz.func75, Tryz.ntmps75
    go_wp2_with (go_at_call 71; refine c1.mono ?_; rintro e w' ⟨rfl, rfl⟩)
    go_ret
    exact ⟨by rw [hs.out]; rfl, rfl⟩

end Go.Proofs.YtabagfhnkdhjdaaGreatDoor
