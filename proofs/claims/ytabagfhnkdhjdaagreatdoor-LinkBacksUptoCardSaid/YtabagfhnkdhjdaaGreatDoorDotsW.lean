/- link.Dots: the walk. -/
import Derived.Test.YtabagfhnkdhjdaaGreatDoorDots
set_option linter.unusedVariables false
set_option maxRecDepth 100000
set_option linter.unusedSimpArgs false
namespace Go.Proofs.YtabagfhnkdhjdaaGreatDoor
open Go.RowKit Go.Lib

set_option maxRecDepth 100000 in
set_option maxHeartbeats 4000000 in
theorem dots_any (v : ByteArray) (w : World) (hv : v.size ≤ 500000000) :
    Calls Tryz.prog 48 #[.string v] w fun e w' => e = .returned (.string ⟨(dots v.data.toList).toArray⟩) ∧ Below w.heap.size w w' := by
  have h1 := mend_any v w (by omega)
  have hl := mend_len v.data.toList
  rw [← size_eq] at hl
  obtain ⟨S, hS⟩ : ∃ S, mend v.data.toList = S := ⟨_, rfl⟩
  obtain ⟨R, hR⟩ : ∃ R, dots v.data.toList = R := ⟨_, rfl⟩
  have HR : Hid (dotsF S.length S [] = R) := by show _ = _; rw [← hR]; unfold dots; rw [hS]
  rw [hS] at h1 hl
  rw [hR]
  clear hS hR
  obtain ⟨s0, hs⟩ : ∃ s : ByteArray, (⟨S.toArray⟩ : ByteArray) = s := ⟨_, rfl⟩
  have hsd : s0.data.toList = S := by rw [← hs]
  have hss : s0.size ≤ 2000000000 := by rw [size_eq, hsd]; omega
  rw [hs] at h1
  have HSD := Lib.hid hsd
  clear hs hsd hl
  go_enter Tryz.func48, Tryz.ntmps48
  go_wp2_with fail
  refine h1.mono ?_
  clear h1
  rintro e w1 ⟨rfl, hb1⟩
  have HB1 := Lib.hid hb1
  clear hb1
  go_wp2_with fail
  go_loopw [0, 3] (fun i u wr => ∃ (n : Nat) (s o : ByteArray), i = .string s ∧ u = .string o ∧ s.size ≤ n ∧ s.size + o.size ≤ s0.size ∧ dotsF n s.data.toList o.data.toList = R ∧ Below w.heap.size w wr) (fun i _ _ => strLen i)
  case atStart => exact ⟨S.length, s0, ⟨#[]⟩, rfl, rfl, by rw [size_eq, HSD.out]; exact Nat.le_refl _, Nat.le_refl _, by rw [HSD.out]; exact HR.out, HB1.out⟩
  case round =>
    obtain ⟨n, s, o, rfl, rfl, hn, hsum, hd, hbw⟩ := hrel
    have HD := Lib.hid hd
    have HBW := Lib.hid hbw
    have HN := Lib.hid hn
    have HSUM := Lib.hid hsum
    have hso : o.size ≤ 2000000000 := by omega
    have hs9 : s.size ≤ 2000000000 := by omega
    clear hd hbw hn hsum HR HB1
    by_cases h0 : 0 < s.size
    · have hne := empty_false s h0
      obtain ⟨b1, e1⟩ : ∃ b, Lib.hasPrefix s.data.toList [46, 46, 47] = b := ⟨_, rfl⟩
      obtain ⟨b2, e2⟩ : ∃ b, Lib.hasPrefix s.data.toList [46, 47] = b := ⟨_, rfl⟩
      obtain ⟨b3, e3⟩ : ∃ b, Lib.hasPrefix s.data.toList [47, 46, 47] = b := ⟨_, rfl⟩
      obtain ⟨b4, e4⟩ : ∃ b, (s.toList == [47, 46]) = b := ⟨_, rfl⟩
      obtain ⟨b5, e5⟩ : ∃ b, Lib.hasPrefix s.data.toList [47, 46, 46, 47] = b := ⟨_, rfl⟩
      obtain ⟨b6, e6⟩ : ∃ b, (s.toList == [47, 46, 46]) = b := ⟨_, rfl⟩
      obtain ⟨b7, e7⟩ : ∃ b, (s.toList == [46]) = b := ⟨_, rfl⟩
      obtain ⟨b8, e8⟩ : ∃ b, (s.toList == [46, 46]) = b := ⟨_, rfl⟩
      have hp1 : ∀ w, Calls Tryz.prog 38 #[.string s, .string ⟨#[46, 46, 47]⟩] w fun e w' => e = .returned (.bool b1) ∧ w' = w := fun w => by
        rw [← e1]; exact Tryz.strings_HasPrefix s ⟨#[46, 46, 47]⟩ w
      have hp2 : ∀ w, Calls Tryz.prog 38 #[.string s, .string ⟨#[46, 47]⟩] w fun e w' => e = .returned (.bool b2) ∧ w' = w := fun w => by
        rw [← e2]; exact Tryz.strings_HasPrefix s ⟨#[46, 47]⟩ w
      have hp3 : ∀ w, Calls Tryz.prog 38 #[.string s, .string ⟨#[47, 46, 47]⟩] w fun e w' => e = .returned (.bool b3) ∧ w' = w := fun w => by
        rw [← e3]; exact Tryz.strings_HasPrefix s ⟨#[47, 46, 47]⟩ w
      have hp5 : ∀ w, Calls Tryz.prog 38 #[.string s, .string ⟨#[47, 46, 46, 47]⟩] w fun e w' => e = .returned (.bool b5) ∧ w' = w := fun w => by
        rw [← e5]; exact Tryz.strings_HasPrefix s ⟨#[47, 46, 46, 47]⟩ w
      have H1 := Lib.hid e1
      have H2 := Lib.hid e2
      have H3 := Lib.hid e3
      have H4 : Hid ((s.data.toList == [47, 46]) = b4) := by show _ = _; rw [← Lib.toList_data]; exact e4
      have H5 := Lib.hid e5
      have H6 : Hid ((s.data.toList == [47, 46, 46]) = b6) := by show _ = _; rw [← Lib.toList_data]; exact e6
      have H7 : Hid ((s.data.toList == [46]) = b7) := by show _ = _; rw [← Lib.toList_data]; exact e7
      have H8 : Hid ((s.data.toList == [46, 46]) = b8) := by show _ = _; rw [← Lib.toList_data]; exact e8
      have hpar := fun w => parent_any o w (by omega)
      clear e1 e2 e3 e5
      go_wp2_with fail
      refine (hp1 _).mono ?_
      clear hp1
      rintro e wz ⟨rfl, hwz⟩
      obtain rfl := hwz.symm
      clear hwz
      cases b1
      case true =>
        clear hp2 hp3 hp5 e4 e6 e7 e8
        have hl3 : (3 : Int) ≤ (s.size : Int) := by
          have h : 3 ≤ s.data.toList.length := prefix_len H1.out
          rw [size_eq]; omega
        go_wp2_with fail
        go_roundw
        case rel =>
          obtain ⟨m, k1, k2, k3, k4⟩ := dots_ok (s' := s.extract 3 s.size) (o' := o) h0 HN.out HSUM.out HD.out (by unfold dotStep; simp only [H1.out, if_true, if_false, Bool.false_eq_true, Bool.or_false, Bool.or_true, Bool.true_or, Bool.false_or, Bool.or_self]; rw [drop_mk])
          exact ⟨m, _, _, rfl, rfl, k1, k2, k3, HBW.out⟩
        case measure =>
          show (s.extract 3 s.size).size < s.size
          rw [ByteArray.size_extract]; omega
      case false =>
        go_wp2_with fail
        refine (hp2 _).mono ?_
        clear hp2
        rintro e wz ⟨rfl, hwz⟩
        obtain rfl := hwz.symm
        clear hwz
        cases b2
        case true =>
          clear hp3 hp5 e4 e6 e7 e8
          have hl3 : (2 : Int) ≤ (s.size : Int) := by
            have h : 2 ≤ s.data.toList.length := prefix_len H2.out
            rw [size_eq]; omega
          go_wp2_with fail
          go_roundw
          case rel =>
            obtain ⟨m, k1, k2, k3, k4⟩ := dots_ok (s' := s.extract 2 s.size) (o' := o) h0 HN.out HSUM.out HD.out (by unfold dotStep; simp only [H1.out, H2.out, if_true, if_false, Bool.false_eq_true, Bool.or_false, Bool.or_true, Bool.true_or, Bool.false_or, Bool.or_self]; rw [drop_mk])
            exact ⟨m, _, _, rfl, rfl, k1, k2, k3, HBW.out⟩
          case measure =>
            show (s.extract 2 s.size).size < s.size
            rw [ByteArray.size_extract]; omega
        case false =>
          go_wp2_with fail
          refine (hp3 _).mono ?_
          clear hp3
          rintro e wz ⟨rfl, hwz⟩
          obtain rfl := hwz.symm
          clear hwz
          cases b3
          case true =>
            clear hp5 e4 e6 e7 e8
            have hl3 : (2 : Int) ≤ (s.size : Int) := by
              have h : 2 ≤ s.data.toList.length := Nat.le_trans (by decide) (prefix_len H3.out)
              rw [size_eq]; omega
            go_wp2_with fail
            go_roundw
            case rel =>
              obtain ⟨m, k1, k2, k3, k4⟩ := dots_ok (s' := s.extract 2 s.size) (o' := o) h0 HN.out HSUM.out HD.out (by unfold dotStep; simp only [H1.out, H2.out, H3.out, if_true, if_false, Bool.false_eq_true, Bool.or_false, Bool.or_true, Bool.true_or, Bool.false_or, Bool.or_self]; rw [drop_mk])
              exact ⟨m, _, _, rfl, rfl, k1, k2, k3, HBW.out⟩
            case measure =>
              show (s.extract 2 s.size).size < s.size
              rw [ByteArray.size_extract]; omega
          case false =>
            cases b4
            case true =>
              clear hp5 e6 e7 e8
              go_wp2_with fail
              go_roundw
              case rel =>
                obtain ⟨m, k1, k2, k3, k4⟩ := dots_ok (s' := ⟨#[47]⟩) (o' := o) h0 HN.out HSUM.out HD.out (by unfold dotStep; simp only [H1.out, H2.out, H3.out, H4.out, if_true, if_false, Bool.false_eq_true, Bool.or_false, Bool.or_true, Bool.true_or, Bool.false_or, Bool.or_self])
                exact ⟨m, _, _, rfl, rfl, k1, k2, k3, HBW.out⟩
              case measure =>
                show 1 < s.size
                have h := congrArg List.length (eq_of_beq H4.out)
                rw [← size_eq] at h; simp at h; omega
            case false =>
              go_wp2_with fail
              refine (hp5 _).mono ?_
              clear hp5
              rintro e wz ⟨rfl, hwz⟩
              obtain rfl := hwz.symm
              clear hwz
              cases b5
              case true =>
                clear e6 e7 e8
                have hl3 : (3 : Int) ≤ (s.size : Int) := by
                  have h : 3 ≤ s.data.toList.length := Nat.le_trans (by decide) (prefix_len H5.out)
                  rw [size_eq]; omega
                go_wp2_with fail
                go_quiet ((go_at_call 79; first | exact Calls.quiet_of_same (hpar _) | exact quiet_add_same (hpar _)))
                go_wp2_with fail
                go_roundw
                case rel =>
                  obtain ⟨m, k1, k2, k3, k4⟩ := dots_ok (s' := s.extract 3 s.size) (o' := ⟨(parentL o.data.toList).toArray⟩) h0 HN.out HSUM.out HD.out (by unfold dotStep; simp only [H1.out, H2.out, H3.out, H4.out, H5.out, if_true, if_false, Bool.false_eq_true, Bool.or_false, Bool.or_true, Bool.true_or, Bool.false_or, Bool.or_self]; rw [drop_mk])
                  exact ⟨m, _, _, rfl, rfl, k1, k2, k3, Below.drewN HBW.out _⟩
                case measure =>
                  show (s.extract 3 s.size).size < s.size
                  rw [ByteArray.size_extract]; omega
              case false =>
                cases b6
                case true =>
                  clear e7 e8
                  go_wp2_with fail
                  refine (hpar _).mono ?_
                  clear hpar
                  rintro e wz ⟨rfl, hwz⟩
                  obtain rfl := hwz.symm
                  clear hwz
                  go_wp2_with fail
                  go_roundw
                  case rel =>
                    obtain ⟨m, k1, k2, k3, k4⟩ := dots_ok (s' := ⟨#[47]⟩) (o' := ⟨(parentL o.data.toList).toArray⟩) h0 HN.out HSUM.out HD.out (by unfold dotStep; simp only [H1.out, H2.out, H3.out, H4.out, H5.out, H6.out, if_true, if_false, Bool.false_eq_true, Bool.or_false, Bool.or_true, Bool.true_or, Bool.false_or, Bool.or_self])
                    exact ⟨m, _, _, rfl, rfl, k1, k2, k3, HBW.out⟩
                  case measure =>
                    show 1 < s.size
                    have h := congrArg List.length (eq_of_beq H6.out)
                    rw [← size_eq] at h; simp at h; omega
                case false =>
                  cases b7
                  case true =>
                    clear e8
                    go_wp2_with fail
                    go_roundw
                    case rel =>
                      obtain ⟨m, k1, k2, k3, k4⟩ := dots_ok (s' := ⟨#[]⟩) (o' := o) h0 HN.out HSUM.out HD.out (by unfold dotStep; simp only [H1.out, H2.out, H3.out, H4.out, H5.out, H6.out, H7.out, if_true, if_false, Bool.false_eq_true, Bool.or_false, Bool.or_true, Bool.true_or, Bool.false_or, Bool.or_self])
                      exact ⟨m, _, _, rfl, rfl, k1, k2, k3, HBW.out⟩
                    case measure =>
                      show 0 < s.size
                      have h := congrArg List.length (eq_of_beq H7.out)
                      rw [← size_eq] at h; simp at h; omega
                  case false =>
                    cases b8
                    case true =>
                      go_wp2_with fail
                      go_roundw
                      case rel =>
                        obtain ⟨m, k1, k2, k3, k4⟩ := dots_ok (s' := ⟨#[]⟩) (o' := o) h0 HN.out HSUM.out HD.out (by unfold dotStep; simp only [H1.out, H2.out, H3.out, H4.out, H5.out, H6.out, H7.out, H8.out, if_true, if_false, Bool.false_eq_true, Bool.or_false, Bool.or_true, Bool.true_or, Bool.false_or, Bool.or_self])
                        exact ⟨m, _, _, rfl, rfl, k1, k2, k3, HBW.out⟩
                      case measure =>
                        show 0 < s.size
                        have h := congrArg List.length (eq_of_beq H8.out)
                        rw [← size_eq] at h; simp at h; omega
                    case false =>
                      have hl1 : (1 : Int) ≤ (s.size : Int) := by omega
                      have hib := fun w => Tryz.strings_IndexByte (s.extract 1 s.size) 47 w
                      have hx : (s.extract 1 s.size).data.toList = s.data.toList.drop 1 := by rw [drop_mk]
                      have h47 : (47 : Int).toNat.toUInt8 = 47 := rfl
                      rw [hx, h47, upTo_indexByte] at hib
                      have hul := upTo_le (s.data.toList.drop 1) [47]
                      rw [List.length_drop, ← size_eq] at hul
                      obtain ⟨k, hk⟩ : ∃ k, upTo (s.data.toList.drop 1) [47] = k := ⟨_, rfl⟩
                      rw [List.length_drop, ← size_eq] at hib
                      rw [hk] at hib hul
                      have HK := Lib.hid hk
                      clear hk hx h47 hpar
                      by_cases hlt : k < s.size - 1
                      · rw [if_pos hlt] at hib
                        have q1 : (k : Int) + 1 ≤ (s.size : Int) := by omega
                        have HUL := Lib.hid hul
                        clear hul
                        go_wp2_with fail
                        refine (hib _).mono ?_
                        clear hib
                        rintro e wz ⟨rfl, hwz⟩
                        obtain rfl := hwz.symm
                        clear hwz
                        go_wp2_with fail
                        go_roundw
                        case rel =>
                          obtain ⟨m, k1, k2, k3, k4⟩ := dots_ok (s' := s.extract (k + 1) s.size) (o' := o ++ s.extract 0 (k + 1)) h0 HN.out HSUM.out HD.out (by unfold dotStep; simp only [H1.out, H2.out, H3.out, H4.out, H5.out, H6.out, H7.out, H8.out, HK.out, if_false, Bool.false_eq_true, Bool.or_self]; rw [drop_mk, take_mk, data_append])
                          exact ⟨m, _, _, rfl, rfl, k1, k2, k3, HBW.out⟩
                        case measure =>
                          show (s.extract (k + 1) s.size).size < s.size
                          rw [ByteArray.size_extract]; omega
                      · rw [if_neg hlt] at hib
                        obtain rfl : k = s.size - 1 := by omega
                        have q0 : s.size - 1 + 1 = s.size := by omega
                        have HUL := Lib.hid hul
                        clear hul
                        go_wp2_with fail
                        refine (hib _).mono ?_
                        clear hib
                        rintro e wz ⟨rfl, hwz⟩
                        obtain rfl := hwz.symm
                        clear hwz
                        go_wp2_with fail
                        go_roundw
                        case rel =>
                          obtain ⟨m, k1, k2, k3, k4⟩ := dots_ok (s' := ByteArray.empty) (o' := o ++ s) h0 HN.out HSUM.out HD.out (by unfold dotStep; simp only [H1.out, H2.out, H3.out, H4.out, H5.out, H6.out, H7.out, H8.out, HK.out, if_false, Bool.false_eq_true, Bool.or_self]; rw [List.drop_of_length_le (by rw [← size_eq]; omega), List.take_of_length_le (by rw [← size_eq]; omega), data_append]; rfl)
                          exact ⟨m, _, _, rfl, rfl, k1, k2, k3, HBW.out⟩
                        case measure =>
                          show 0 < s.size
                          exact h0
    · have hne := empty_true s (by omega)
      go_wp2_with fail
      go_ret
      refine ⟨?_, HBW.out⟩
      have hd := HD.out
      rw [nil_of_size s (by omega)] at hd
      have ho : dotsF n [] o.data.toList = o.data.toList := by cases n <;> rfl
      rw [ho] at hd
      show Ending.returned (Value.string o) = _
      rw [← hd, mk_data]
end Go.Proofs.YtabagfhnkdhjdaaGreatDoor
