/- link.slash, link.Kind: what a link begins with. -/
import Derived.Test.YtabagfhnkdhjdaaDoorTidyP
set_option linter.unusedVariables false
set_option maxRecDepth 100000
namespace Go.Proofs.YtabagfhnkdhjdaaDoor
open Go.RowKit Go.Lib

theorem slash_any (c : UInt8) (w : World) :
    Calls Tryd.prog 37 #[.int .u8 c.toNat] w fun e w' => e = .returned (.bool (slB c)) ∧ w = w' := by
  have hs : slB c = (((c.toNat : Int) == 47) || ((c.toNat : Int) == 92)) := by
    unfold slB
    have e1 : (c == 47) = ((c.toNat : Int) == 47) := by
      rw [Bool.eq_iff_iff, beq_iff_eq, beq_iff_eq]
      constructor
      · intro h; subst h; rfl
      · intro h; exact UInt8.toNat_inj.1 (by show c.toNat = 47; omega)
    have e2 : (c == 92) = ((c.toNat : Int) == 92) := by
      rw [Bool.eq_iff_iff, beq_iff_eq, beq_iff_eq]
      constructor
      · intro h; subst h; rfl
      · intro h; exact UInt8.toNat_inj.1 (by show c.toNat = 92; omega)
    rw [e1, e2]
  have HS := Lib.hid hs
  clear hs
  generalize (c.toNat : Int) = n at *
  cases h1 : (n == 47)
  · cases h2 : (n == 92)
    · go_enter Tryd.func37, Tryd.ntmps37
      go_wp2
      go_ret
      exact ⟨by rw [HS.out, h1, h2]; rfl, rfl⟩
    · go_enter Tryd.func37, Tryd.ntmps37
      go_wp2
      go_ret
      exact ⟨by rw [HS.out, h1, h2]; rfl, rfl⟩
  · go_enter Tryd.func37, Tryd.ntmps37
    go_wp2
    go_ret
    exact ⟨by rw [HS.out, h1]; rfl, rfl⟩

theorem kind_first {s : ByteArray} (hb : colB s.data.toList = false) (h : 0 < s.size) :
    kindN s.data.toList = if slB s[0] then (if h2 : 1 < s.size then (if slB s[1] then 2 else 3) else 3) else if s[0] = 63 then 4 else if s[0] = 35 then 5 else 6 := by
  have h0 := drop_at s 0 h
  rw [List.drop_zero] at h0
  unfold kindN
  rw [hb, if_neg Bool.false_ne_true, h0]
  by_cases h1 : 1 < s.size
  · rw [dif_pos h1, show (0 + 1) = 1 from rfl, drop_at s 1 h1]
  · rw [dif_neg h1, drop_end s 1 (by omega)]

theorem ret_int' {a b : Int} (h : a = b) : Ending.returned (.int .i64 a) = Ending.returned (.int .i64 b) := by rw [h]
theorem eq_byte {a b : UInt8} {n : Int} (hn : (b.toNat : Int) = n) : ((a.toNat : Int) == n) = true ↔ a = b := by
  rw [beq_iff_eq, ← hn]
  constructor
  · intro h; exact UInt8.toNat_inj.1 (by omega)
  · intro h; rw [h]

set_option maxHeartbeats 4000000 in
theorem kind_any (v : ByteArray) (w : World) (hv : v.size ≤ 500000000) :
    Calls Tryd.prog 15 #[.string v] w fun e w' => e = .returned (.int .i64 (kindN (strip v.data.toList) : Nat)) ∧ Below w.heap.size w w' := by
  have h1 := strip_any v w (by omega)
  have hl := strip_len v.data.toList
  rw [← size_eq] at hl
  obtain ⟨S, hS⟩ : ∃ S, strip v.data.toList = S := ⟨_, rfl⟩
  rw [hS] at h1 hl ⊢
  clear hS
  obtain ⟨s, hs⟩ : ∃ s : ByteArray, (⟨S.toArray⟩ : ByteArray) = s := ⟨_, rfl⟩
  have hsd : s.data.toList = S := by rw [← hs]
  have hss : s.size ≤ 2000000000 := by rw [size_eq, hsd]; omega
  rw [hs] at h1
  have h2 := fun w => scheme_any s w (by omega)
  clear hs hl
  subst hsd
  obtain ⟨bb, hbb⟩ : ∃ bb, colB s.data.toList = bb := ⟨_, rfl⟩
  rw [hbb] at h2
  generalize colN s.data.toList = n at h2
  cases bb
  · by_cases h0 : s.size = 0
    · have he := empty_true s h0
      have HK : Hid (kindN s.data.toList = 0) := by
        show _ = _
        unfold kindN
        rw [hbb, nil_of_size s h0]; rfl
      clear hbb
      go_enter Tryd.func15, Tryd.ntmps15
      go_wp2_with fail
      refine h1.mono ?_
      clear h1
      rintro e w1 ⟨rfl, hb1⟩
      have HB1 := Lib.hid hb1
      clear hb1
      go_wp2_with (go_at_call 20; refine (h2 _).mono ?_; clear h2; rintro e w2 ⟨rfl, rfl⟩)
      go_ret
      exact ⟨by rw [HK.out]; rfl, HB1.out⟩
    · have hpos : 0 < s.size := by omega
      have hposI : (0 : Int) < (s.size : Int) := by omega
      have he := empty_false s hpos
      have hk := kind_first hbb hpos
      clear hbb
      have hs0 := fun w => slash_any s[0] w
      have hby := byte_le s[0]
      obtain ⟨b0, hb0⟩ : ∃ b, slB s[0] = b := ⟨_, rfl⟩
      rw [hb0] at hs0 hk
      clear hb0
      cases b0
      · rw [if_neg Bool.false_ne_true] at hk
        cases hq : ((s[0].toNat : Int) == 63)
        · have hne : s[0] ≠ 63 := fun e => by rw [(eq_byte (b := 63) (n := 63) (by decide)).2 e] at hq; cases hq
          rw [if_neg hne] at hk
          clear hne
          cases hr : ((s[0].toNat : Int) == 35)
          · have hne : s[0] ≠ 35 := fun e => by rw [(eq_byte (b := 35) (n := 35) (by decide)).2 e] at hr; cases hr
            rw [if_neg hne] at hk
            have HK := Lib.hid hk
            clear hne hk
            go_enter Tryd.func15, Tryd.ntmps15
            go_wp2_with fail
            refine h1.mono ?_
            clear h1
            rintro e w1 ⟨rfl, hb1⟩
            have HB1 := Lib.hid hb1
            clear hb1
            go_wp2_with (first | (go_at_call 20; refine (h2 _).mono ?_; rintro e w2 ⟨rfl, rfl⟩) | (go_at_call 37; refine (hs0 _).mono ?_; rintro e w2 ⟨rfl, rfl⟩))
            go_ret
            exact ⟨by rw [HK.out]; rfl, HB1.out⟩
          · have hne : s[0] = 35 := (eq_byte (b := 35) (n := 35) (by decide)).1 hr
            rw [if_pos hne] at hk
            have HK := Lib.hid hk
            clear hne hk
            go_enter Tryd.func15, Tryd.ntmps15
            go_wp2_with fail
            refine h1.mono ?_
            clear h1
            rintro e w1 ⟨rfl, hb1⟩
            have HB1 := Lib.hid hb1
            clear hb1
            go_wp2_with (first | (go_at_call 20; refine (h2 _).mono ?_; rintro e w2 ⟨rfl, rfl⟩) | (go_at_call 37; refine (hs0 _).mono ?_; rintro e w2 ⟨rfl, rfl⟩))
            go_ret
            exact ⟨by rw [HK.out]; rfl, HB1.out⟩
        · have hne : s[0] = 63 := (eq_byte (b := 63) (n := 63) (by decide)).1 hq
          rw [if_pos hne] at hk
          have HK := Lib.hid hk
          clear hne hk
          go_enter Tryd.func15, Tryd.ntmps15
          go_wp2_with fail
          refine h1.mono ?_
          clear h1
          rintro e w1 ⟨rfl, hb1⟩
          have HB1 := Lib.hid hb1
          clear hb1
          go_wp2_with (first | (go_at_call 20; refine (h2 _).mono ?_; rintro e w2 ⟨rfl, rfl⟩) | (go_at_call 37; refine (hs0 _).mono ?_; rintro e w2 ⟨rfl, rfl⟩))
          go_ret
          exact ⟨by rw [HK.out]; rfl, HB1.out⟩
      · rw [if_pos rfl] at hk
        by_cases hlen : 1 < s.size
        · rw [dif_pos hlen] at hk
          have hlenI : (1 : Int) < (s.size : Int) := by omega
          have hs1 := fun w => slash_any s[1] w
          have hby1 := byte_le s[1]
          obtain ⟨b1, hb1⟩ : ∃ b, slB s[1] = b := ⟨_, rfl⟩
          rw [hb1] at hs1 hk
          clear hb1
          cases b1
          · rw [if_neg Bool.false_ne_true] at hk
            have HK := Lib.hid hk
            clear hk
            go_enter Tryd.func15, Tryd.ntmps15
            go_wp2_with fail
            refine h1.mono ?_
            clear h1
            rintro e w1 ⟨rfl, hb1⟩
            have HB1 := Lib.hid hb1
            clear hb1
            go_wp2_with (go_at_call 20; refine (h2 _).mono ?_; rintro e w2 ⟨rfl, rfl⟩)
            refine (hs0 _).mono ?_
            rintro e w2 ⟨rfl, rfl⟩
            go_wp2_with fail
            refine (hs1 _).mono ?_
            rintro e w2 ⟨rfl, rfl⟩
            go_wp2_with fail
            refine (hs0 _).mono ?_
            rintro e w2 ⟨rfl, rfl⟩
            go_wp2_with fail
            go_ret
            exact ⟨by rw [HK.out]; rfl, HB1.out⟩
          · rw [if_pos rfl] at hk
            have HK := Lib.hid hk
            clear hk
            go_enter Tryd.func15, Tryd.ntmps15
            go_wp2_with fail
            refine h1.mono ?_
            clear h1
            rintro e w1 ⟨rfl, hb1⟩
            have HB1 := Lib.hid hb1
            clear hb1
            go_wp2_with (go_at_call 20; refine (h2 _).mono ?_; rintro e w2 ⟨rfl, rfl⟩)
            refine (hs0 _).mono ?_
            rintro e w2 ⟨rfl, rfl⟩
            go_wp2_with fail
            refine (hs1 _).mono ?_
            rintro e w2 ⟨rfl, rfl⟩
            go_wp2_with fail
            go_ret
            exact ⟨by rw [HK.out]; rfl, HB1.out⟩
        · rw [dif_neg hlen] at hk
          have hlenI : ¬ (1 : Int) < (s.size : Int) := by omega
          have HK := Lib.hid hk
          clear hk
          go_enter Tryd.func15, Tryd.ntmps15
          go_wp2_with fail
          refine h1.mono ?_
          clear h1
          rintro e w1 ⟨rfl, hb1⟩
          have HB1 := Lib.hid hb1
          clear hb1
          go_wp2_with (first | (go_at_call 20; refine (h2 _).mono ?_; rintro e w2 ⟨rfl, rfl⟩) | (go_at_call 37; refine (hs0 _).mono ?_; rintro e w2 ⟨rfl, rfl⟩))
          go_ret
          exact ⟨by rw [HK.out]; rfl, HB1.out⟩
  · have HK : Hid (kindN s.data.toList = 1) := by
      show _ = _
      unfold kindN
      rw [hbb]; rfl
    clear hbb
    go_enter Tryd.func15, Tryd.ntmps15
    go_wp2_with fail
    refine h1.mono ?_
    clear h1
    rintro e w1 ⟨rfl, hb1⟩
    have HB1 := Lib.hid hb1
    clear hb1
    go_wp2_with (go_at_call 20; refine (h2 _).mono ?_; clear h2; rintro e w2 ⟨rfl, rfl⟩)
    go_ret
    exact ⟨by rw [HK.out]; rfl, HB1.out⟩

end Go.Proofs.YtabagfhnkdhjdaaDoor
