/- link.scheme: where the : of a scheme stands. -/
import Derived.Test.YtabagfhnkdhjdaaGreatDoorLower
import Derived.WalkMore
set_option linter.unusedVariables false
set_option maxRecDepth 100000
namespace Go.Proofs.YtabagfhnkdhjdaaGreatDoor
open Go.RowKit Go.Lib

def schB (c : UInt8) : Bool := schZ (c.toNat : Int)
def letB (c : UInt8) : Bool := letZ (c.toNat : Int)
def colonGo : List UInt8 → Nat → Option Nat
  | [], _ => none
  | c :: t, i => if c.toNat = 58 then some i else if schB c then colonGo t (i + 1) else none
def colon : List UInt8 → Option Nat
  | [] => none
  | c :: t => if letB c then colonGo t 1 else none
def colN (l : List UInt8) : Nat := (colon l).getD 0
def colB (l : List UInt8) : Bool := (colon l).isSome

theorem empty_false (s : ByteArray) (h : 0 < s.size) : s.toList.isEmpty = false := by
  rw [Lib.toList_data]
  cases h2 : s.data.toList with
  | nil => have := Lib.size_eq s; rw [h2, List.length_nil] at this; omega
  | cons _ _ => rfl
theorem empty_true (s : ByteArray) (h : s.size = 0) : s.toList.isEmpty = true := by
  rw [Lib.toList_data]
  have := Lib.size_eq s
  rw [h] at this
  rw [List.length_eq_zero_iff.1 this.symm]
  rfl
theorem nil_of_size (s : ByteArray) (h : s.size = 0) : s.data.toList = [] := List.length_eq_zero_iff.1 (by rw [← Lib.size_eq]; exact h)

theorem ret_pair {n m : Int} {b c : Bool} (h : n = m) (h2 : b = c) : Ending.returned (.tuple #[.int .i64 n, .bool b]) = Ending.returned (.tuple #[.int .i64 m, .bool c]) := by rw [h, h2]

theorem colon_some {l : List UInt8} {n : Nat} (h : colon l = some n) : colN l = n ∧ colB l = true := by unfold colN colB; rw [h]; exact ⟨rfl, rfl⟩
theorem colon_none {l : List UInt8} (h : colon l = none) : colN l = 0 ∧ colB l = false := by unfold colN colB; rw [h]; exact ⟨rfl, rfl⟩

theorem byte_le (c : UInt8) : (c.toNat : Int) ≤ 255 := by have := c.toNat_lt; omega

theorem colon_open (s : ByteArray) (h : 0 < s.size) : colon s.data.toList = if letB s[0] then colonGo (s.data.toList.drop 1) 1 else none := by
  have := drop_at s 0 h
  rw [List.drop_zero] at this
  rw [this]
  rfl

set_option maxHeartbeats 1000000 in
theorem scheme_any (s : ByteArray) (w : World) (hs : s.size ≤ 140737488355328) :
    Calls Tryz.prog 36 #[.string s] w fun e w' => e = .returned (.tuple #[.int .i64 (colN s.data.toList), .bool (colB s.data.toList)]) ∧ w = w' := by
  by_cases h0 : s.size = 0
  · have he := empty_true s h0
    have hn := Lib.hid (nil_of_size s h0)
    go_enter Tryz.func36, Tryz.ntmps36
    go_wp2
    go_step3
    go_wp2
    try rw [Exit.noGoto_ret]
    go_ret2
    exact ⟨by rw [hn.out]; rfl, rfl⟩
  · have hpos : 0 < s.size := by omega
    have hposI : (0 : Int) < (s.size : Int) := by omega
    have he := empty_false s hpos
    have hopen := Lib.hid (colon_open s hpos)
    obtain ⟨c0, hc0⟩ : ∃ c, s[0] = c := ⟨_, rfl⟩
    have c1 := letter_any (s[0].toNat : Int) w
    have hb := byte_le s[0]
    cases hl : letB s[0]
    · have hl2 : letZ (s[0].toNat : Int) = false := hl
      rw [hl2] at c1
      have HL := Lib.hid hl
      clear hl hl2 hc0
      go_enter Tryz.func36, Tryz.ntmps36
      go_wp2
      go_step3
      go_wp2_with (go_at_call 71; refine c1.mono ?_; rintro e w' ⟨rfl, rfl⟩)
      try rw [Exit.noGoto_ret]
      go_ret2
      refine ⟨?_, rfl⟩
      have : colon s.data.toList = none := by rw [hopen.out, HL.out]; rfl
      rw [(colon_none this).1, (colon_none this).2]
      rfl
    · have hl2 : letZ (s[0].toNat : Int) = true := hl
      rw [hl2] at c1
      have hop : Hid (colon s.data.toList = colonGo (s.data.toList.drop 1) 1) := by show _ = _; rw [hopen.out, hl]; rfl
      clear hl hl2 hc0 hopen
      go_enter Tryz.func36, Tryz.ntmps36
      go_wp2
      go_step3
      go_wp2_with (go_at_call 71; refine c1.mono ?_; rintro e w' ⟨rfl, rfl⟩)
      clear c1 hb
      go_step3
      go_wp2
      go_loop [4] (fun i => ∃ k : Nat, 1 ≤ k ∧ k ≤ s.size ∧ i = .int .i64 k ∧ colonGo (s.data.toList.drop 1) 1 = colonGo (s.data.toList.drop k) k) (fun i => s.size - (intOf i).toNat)
      case atStart => exact ⟨1, Nat.le_refl _, by omega, rfl, rfl⟩
      case round =>
        obtain ⟨k, hk1, hk, rfl, hrel2⟩ := hrel
        have HR : Hid (colon s.data.toList = colonGo (s.data.toList.drop k) k) := hop.out.trans hrel2
        have HR2 := Lib.hid hrel2
        clear hrel2 hop
        by_cases hlt : k < s.size
        · have hd := Lib.hid (drop_at s k hlt)
          have hb := byte_le s[k]
          have c2 := schemeByte_any s[k] w
          by_cases h58 : (s[k].toNat : Int) = 58
          · have h58' : ((s[k].toNat : Int) == 58) = true := by simpa using h58
            have H58 := Lib.hid h58
            clear h58
            go_wp2
            try rw [Exit.noGoto_ret]
            go_ret2
            refine ⟨?_, rfl⟩
            have : colon s.data.toList = some k := by
              rw [HR.out, hd.out, colonGo, if_pos (by have := H58.out; omega)]
            rw [(colon_some this).1, (colon_some this).2]
            rfl
          · have h58' : ((s[k].toNat : Int) == 58) = false := by simpa using h58
            have H58 := Lib.hid h58
            clear h58
            cases hsc : schB s[k]
            · have h2 : schZ (s[k].toNat : Int) = false := hsc
              rw [h2] at c2
              have HS := Lib.hid hsc
              clear hsc h2
              go_wp2_with (go_at_call 75; refine c2.mono ?_; rintro e w' ⟨rfl, rfl⟩)
              try rw [Exit.noGoto_ret]
              go_ret2
              refine ⟨?_, rfl⟩
              have : colon s.data.toList = none := by
                rw [HR.out, hd.out, colonGo, if_neg (by have := H58.out; omega), HS.out]; rfl
              rw [(colon_none this).1, (colon_none this).2]
              rfl
            · have h2 : schZ (s[k].toNat : Int) = true := hsc
              rw [h2] at c2
              have HS := Lib.hid hsc
              clear hsc h2
              go_wp2_with (go_at_call 75; refine c2.mono ?_; rintro e w' ⟨rfl, rfl⟩)
              go_round
              case rel =>
                refine ⟨k + 1, by omega, by omega, by go_num, ?_⟩
                rw [HR2.out, hd.out, colonGo, if_neg (by have := H58.out; omega), HS.out]; rfl
              case measure => simp [intOf]; omega
        · obtain rfl : k = s.size := by omega
          go_wp2
          try rw [Exit.noGoto_ret]
          go_ret2
          refine ⟨?_, rfl⟩
          have : colon s.data.toList = none := by
            rw [HR.out, drop_end s s.size (Nat.le_refl _)]; rfl
          rw [(colon_none this).1, (colon_none this).2]
          rfl
end Go.Proofs.YtabagfhnkdhjdaaGreatDoor
