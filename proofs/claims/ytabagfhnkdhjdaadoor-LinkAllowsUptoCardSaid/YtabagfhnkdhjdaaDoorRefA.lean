/- The reference's small functions: letters, digits; the sizes of characters; 'good'. -/
import Derived.Test.YtabagfhnkdhjdaaDoorSplitP
set_option linter.unusedVariables false
set_option maxRecDepth 100000
namespace Go.Proofs.YtabagfhnkdhjdaaDoor
open Go.RowKit Go.Lib

theorem rupper_any (r : Int) (w : World) :
    Calls Tryd.prog 40 #[.int .i32 r] w fun e w' => e = .returned (.bool (upZ r)) ∧ w = w' := by
  by_cases h1 : 65 ≤ r <;> by_cases h2 : r ≤ 90
  all_goals try (exfalso; omega)
  all_goals
    go_enter Tryd.func40, Tryd.ntmps40
    go_wp2
    go_ret
    exact ⟨by simp [upZ, h1, h2], rfl⟩

theorem rdigit_any (r : Int) (w : World) :
    Calls Tryd.prog 55 #[.int .i32 r] w fun e w' => e = .returned (.bool (digZ r)) ∧ w = w' := by
  by_cases h1 : 48 ≤ r <;> by_cases h2 : r ≤ 57
  all_goals try (exfalso; omega)
  all_goals
    go_enter Tryd.func55, Tryd.ntmps55
    go_wp2
    go_ret
    exact ⟨by simp [digZ, h1, h2], rfl⟩

theorem rletter_any (r : Int) (w : World) :
    Calls Tryd.prog 46 #[.int .i32 r] w fun e w' => e = .returned (.bool (letZ r)) ∧ w = w' := by
  by_cases h1 : 97 ≤ r <;> by_cases h2 : r ≤ 122 <;> cases hu : upZ r
  all_goals try (exfalso; omega)
  all_goals
    have HU := Lib.hid hu
    have c := rupper_any r w
    rw [hu] at c
    clear hu
    go_enter Tryd.func46, Tryd.ntmps46
    go_wp2_with (go_at_call 40; refine c.mono ?_; rintro e w' ⟨rfl, rfl⟩)
    go_ret
    exact ⟨by unfold letZ loZ; rw [HU.out]; simp [h1, h2], rfl⟩

theorem rinner_any (c : UInt8) (w : World) :
    Calls Tryd.prog 39 #[.int .u8 c.toNat] w fun e w' => e = .returned (.bool (schZ c.toNat)) ∧ w = w' := by
  have hc := c.toNat_lt
  generalize hn : (c.toNat : Int) = n
  have h0 : 0 ≤ n := by omega
  have h1 : n < 256 := by omega
  clear hn hc
  have c1 := rletter_any n w
  cases hl : letZ n
  · rw [hl] at c1
    have HL := Lib.hid hl
    clear hl
    have c2 := rdigit_any n w
    cases hd : digZ n
    · rw [hd] at c2
      have HD := Lib.hid hd
      clear hd
      have hs : Hid (schZ n = (n == 43 || n == 45 || n == 46)) := by show _ = _; unfold schZ; rw [HL.out, HD.out]; simp
      cases ha : (n == 43) <;> cases hb : (n == 45) <;> cases he : (n == 46)
      all_goals try (exfalso; simp at ha hb; omega)
      all_goals try (exfalso; simp at ha he; omega)
      all_goals try (exfalso; simp at he hb; omega)
      all_goals
        go_enter Tryd.func39, Tryd.ntmps39
        go_wp2_with (first | (go_at_call 46; refine c1.mono ?_; rintro e w' ⟨rfl, rfl⟩) | (go_at_call 55; refine c2.mono ?_; rintro e w' ⟨rfl, rfl⟩))
        go_ret
        exact ⟨by rw [hs.out, ha, hb, he]; rfl, rfl⟩
    · rw [hd] at c2
      have hs : Hid (schZ n = true) := by show _ = _; unfold schZ; rw [HL.out, hd]; simp
      clear hd
      go_enter Tryd.func39, Tryd.ntmps39
      go_wp2_with (first | (go_at_call 46; refine c1.mono ?_; rintro e w' ⟨rfl, rfl⟩) | (go_at_call 55; refine c2.mono ?_; rintro e w' ⟨rfl, rfl⟩))
      go_ret
      exact ⟨by rw [hs.out]; rfl, rfl⟩
  · rw [hl] at c1
    have hs : Hid (schZ n = true) := by show _ = _; unfold schZ; rw [hl]; simp
    clear hl
    go_enter Tryd.func39, Tryd.ntmps39
    go_wp2_with (go_at_call 46; refine c1.mono ?_; rintro e w' ⟨rfl, rfl⟩)
    go_ret
    exact ⟨by rw [hs.out]; rfl, rfl⟩

def sizeN (c : Nat) : Nat := if moreN c = 9 then 0 else moreN c + 1
set_option maxRecDepth 100000 in
set_option maxHeartbeats 1000000 in
theorem rsize_any (c : UInt8) (w : World) :
    Calls Tryd.prog 94 #[.int .u8 c.toNat] w fun e w' => e = .returned (.int .i64 (sizeN c.toNat)) ∧ w = w' := by
  have hc := c.toNat_lt
  obtain ⟨z, hz⟩ : ∃ z, sizeN c.toNat = z := ⟨_, rfl⟩
  rw [hz]
  have hk : (c.toNat < 128 ∧ z = 1) ∨ (128 ≤ c.toNat ∧ c.toNat < 194 ∧ z = 0) ∨ (194 ≤ c.toNat ∧ c.toNat ≤ 223 ∧ z = 2) ∨ (224 ≤ c.toNat ∧ c.toNat ≤ 239 ∧ z = 3) ∨ (240 ≤ c.toNat ∧ c.toNat ≤ 244 ∧ z = 4) ∨ (245 ≤ c.toNat ∧ z = 0) := by
    unfold sizeN moreN at hz
    by_cases a : c.toNat < 128
    · simp [a] at hz; omega
    · by_cases b : 194 ≤ c.toNat ∧ c.toNat ≤ 223
      · simp [a, b] at hz; omega
      · by_cases d : 224 ≤ c.toNat ∧ c.toNat ≤ 239
        · simp [a, b, d] at hz; omega
        · by_cases f : 240 ≤ c.toNat ∧ c.toNat ≤ 244
          · simp [a, b, d, f] at hz; omega
          · simp [a, b, d, f] at hz; omega
  clear hz
  rcases hk with ⟨h1, rfl⟩ | ⟨h1, h2, rfl⟩ | ⟨h1, h2, rfl⟩ | ⟨h1, h2, rfl⟩ | ⟨h1, h2, rfl⟩ | ⟨h1, rfl⟩
  all_goals
    go_enter Tryd.func94, Tryd.ntmps94
    go_wp2
    go_ret
    exact ⟨rfl, rfl⟩

def secB (c d : Nat) : Bool := decide (loN c ≤ d) && decide (d ≤ hiN c)
theorem secB_true {c d : Nat} (h : ¬ (d < loN c ∨ hiN c < d)) : secB c d = true := by unfold secB; simp; omega
theorem secB_false {c d : Nat} (h : d < loN c ∨ hiN c < d) : secB c d = false := by
  unfold secB
  rw [Bool.and_eq_false_iff]
  simp; omega

set_option maxRecDepth 100000 in
set_option maxHeartbeats 2000000 in
theorem rsecond_any (c d : UInt8) (w : World) :
    Calls Tryd.prog 95 #[.int .u8 c.toNat, .int .u8 d.toNat] w fun e w' => e = .returned (.bool (secB c.toNat d.toNat)) ∧ w' = w := by
  have hc := c.toNat_lt
  have hd := d.toNat_lt
  obtain ⟨b, hb⟩ : ∃ b, secB c.toNat d.toNat = b := ⟨_, rfl⟩
  obtain ⟨lo, hi, hlo, hhi⟩ : ∃ lo hi, loN c.toNat = lo ∧ hiN c.toNat = hi := ⟨_, _, rfl, rfl⟩
  have hb2 : (decide (lo ≤ d.toNat) && decide (d.toNat ≤ hi)) = b := by rw [← hb]; unfold secB; rw [hlo, hhi]
  rw [hb]
  clear hb
  generalize hn : (c.toNat : Int) = n at *
  have hk : (n = 224 ∧ lo = 160 ∧ hi = 191) ∨ (n = 237 ∧ lo = 128 ∧ hi = 159) ∨ (n = 240 ∧ lo = 144 ∧ hi = 191) ∨ (n = 244 ∧ lo = 128 ∧ hi = 143) ∨ ((n ≠ 224 ∧ n ≠ 237 ∧ n ≠ 240 ∧ n ≠ 244) ∧ lo = 128 ∧ hi = 191) := by
    unfold loN at hlo
    unfold hiN at hhi
    by_cases a : c.toNat = 224
    · simp [a] at hlo hhi; omega
    · by_cases b : c.toNat = 237
      · simp [b] at hlo hhi; omega
      · by_cases d : c.toNat = 240
        · simp [d] at hlo hhi; omega
        · by_cases f : c.toNat = 244
          · simp [f] at hlo hhi; omega
          · simp [a, b, d, f] at hlo hhi; omega
  clear hlo hhi hn hc
  rcases hk with ⟨rfl, rfl, rfl⟩ | ⟨rfl, rfl, rfl⟩ | ⟨rfl, rfl, rfl⟩ | ⟨rfl, rfl, rfl⟩ | ⟨⟨a1, a2, a3, a4⟩, rfl, rfl⟩
  case inr.inr.inr.inr =>
    have e1 : (n == 224) = false := beq_eq_false_iff_ne.2 a1
    have e2 : (n == 237) = false := beq_eq_false_iff_ne.2 a2
    have e3 : (n == 240) = false := beq_eq_false_iff_ne.2 a3
    have e4 : (n == 244) = false := beq_eq_false_iff_ne.2 a4
    clear a1 a2 a3 a4
    by_cases h1 : (128 : Int) ≤ (d.toNat : Int) <;> by_cases h2 : (d.toNat : Int) ≤ 191
    all_goals try (exfalso; omega)
    all_goals
      have hbb : Hid (b = (decide ((128 : Int) ≤ (d.toNat : Int)) && decide ((d.toNat : Int) ≤ 191))) := by show b = (decide ((128 : Int) ≤ (d.toNat : Int)) && decide ((d.toNat : Int) ≤ 191)); rw [← hb2]; congr 1 <;> (apply decide_eq_decide.2; omega)
      clear hb2
      go_enter Tryd.func95, Tryd.ntmps95
      go_wp2
      go_ret
      exact ⟨by rw [hbb.out]; simp [h1, h2], rfl⟩

  case inl =>
    by_cases h1 : (160 : Int) ≤ (d.toNat : Int) <;> by_cases h2 : (d.toNat : Int) ≤ 191
    all_goals try (exfalso; omega)
    all_goals
      have hbb : Hid (b = (decide ((160 : Int) ≤ (d.toNat : Int)) && decide ((d.toNat : Int) ≤ 191))) := by show b = (decide ((160 : Int) ≤ (d.toNat : Int)) && decide ((d.toNat : Int) ≤ 191)); rw [← hb2]; congr 1 <;> (apply decide_eq_decide.2; omega)
      clear hb2
      go_enter Tryd.func95, Tryd.ntmps95
      go_wp2
      go_ret
      exact ⟨by rw [hbb.out]; simp [h1, h2], rfl⟩
  case inr.inl =>
    by_cases h1 : (128 : Int) ≤ (d.toNat : Int) <;> by_cases h2 : (d.toNat : Int) ≤ 159
    all_goals try (exfalso; omega)
    all_goals
      have hbb : Hid (b = (decide ((128 : Int) ≤ (d.toNat : Int)) && decide ((d.toNat : Int) ≤ 159))) := by show b = (decide ((128 : Int) ≤ (d.toNat : Int)) && decide ((d.toNat : Int) ≤ 159)); rw [← hb2]; congr 1 <;> (apply decide_eq_decide.2; omega)
      clear hb2
      go_enter Tryd.func95, Tryd.ntmps95
      go_wp2
      go_ret
      exact ⟨by rw [hbb.out]; simp [h1, h2], rfl⟩
  case inr.inr.inl =>
    by_cases h1 : (144 : Int) ≤ (d.toNat : Int) <;> by_cases h2 : (d.toNat : Int) ≤ 191
    all_goals try (exfalso; omega)
    all_goals
      have hbb : Hid (b = (decide ((144 : Int) ≤ (d.toNat : Int)) && decide ((d.toNat : Int) ≤ 191))) := by show b = (decide ((144 : Int) ≤ (d.toNat : Int)) && decide ((d.toNat : Int) ≤ 191)); rw [← hb2]; congr 1 <;> (apply decide_eq_decide.2; omega)
      clear hb2
      go_enter Tryd.func95, Tryd.ntmps95
      go_wp2
      go_ret
      exact ⟨by rw [hbb.out]; simp [h1, h2], rfl⟩
  case inr.inr.inr.inl =>
    by_cases h1 : (128 : Int) ≤ (d.toNat : Int) <;> by_cases h2 : (d.toNat : Int) ≤ 143
    all_goals try (exfalso; omega)
    all_goals
      have hbb : Hid (b = (decide ((128 : Int) ≤ (d.toNat : Int)) && decide ((d.toNat : Int) ≤ 143))) := by show b = (decide ((128 : Int) ≤ (d.toNat : Int)) && decide ((d.toNat : Int) ≤ 143)); rw [← hb2]; congr 1 <;> (apply decide_eq_decide.2; omega)
      clear hb2
      go_enter Tryd.func95, Tryd.ntmps95
      go_wp2
      go_ret
      exact ⟨by rw [hbb.out]; simp [h1, h2], rfl⟩

end Go.Proofs.YtabagfhnkdhjdaaDoor
