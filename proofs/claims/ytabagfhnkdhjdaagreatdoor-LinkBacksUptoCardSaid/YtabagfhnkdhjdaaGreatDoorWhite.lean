/- link.white, link.digits, link.goodDesc; sievelaw12.plain. -/
import Derived.Test.YtabagfhnkdhjdaaGreatDoorScheme
set_option linter.unusedVariables false
set_option maxRecDepth 100000
namespace Go.Proofs.YtabagfhnkdhjdaaGreatDoor
open Go.RowKit Go.Lib

def whZ (n : Int) : Bool := n == 9 || n == 10 || n == 12 || n == 13 || n == 32
def whB (c : UInt8) : Bool := whZ (c.toNat : Int)
theorem white_int (n : Int) (w : World) : Calls Tryz.prog 19 #[.int .u8 n] w fun e w' => e = .returned (.bool (whZ n)) ∧ w = w' := by
  cases h1 : (n == 9)
  · cases h2 : (n == 10)
    · cases h3 : (n == 12)
      · cases h4 : (n == 13)
        · cases h5 : (n == 32)
          all_goals
            go_enter Tryz.func19, Tryz.ntmps19
            go_wp2
            go_ret
            exact ⟨by unfold whZ; rw [h1, h2, h3, h4, h5]; rfl, rfl⟩
        · go_enter Tryz.func19, Tryz.ntmps19
          go_wp2
          go_ret
          exact ⟨by unfold whZ; rw [h1, h2, h3, h4]; rfl, rfl⟩
      · go_enter Tryz.func19, Tryz.ntmps19
        go_wp2
        go_ret
        exact ⟨by unfold whZ; rw [h1, h2, h3]; rfl, rfl⟩
    · go_enter Tryz.func19, Tryz.ntmps19
      go_wp2
      go_ret
      exact ⟨by unfold whZ; rw [h1, h2]; rfl, rfl⟩
  · go_enter Tryz.func19, Tryz.ntmps19
    go_wp2
    go_ret
    exact ⟨by unfold whZ; rw [h1]; rfl, rfl⟩
theorem white_any (c : UInt8) (w : World) : Calls Tryz.prog 19 #[.int .u8 (c.toNat : Nat)] w fun e w' => e = .returned (.bool (whB c)) ∧ w = w' := white_int _ w

def digB (c : UInt8) : Bool := digZ (c.toNat : Int)
/-- How many digits a text begins with. -/
def digN : List UInt8 → Nat
  | [] => 0
  | c :: t => if digB c then digN t + 1 else 0
theorem digN_le : ∀ (l : List UInt8), digN l ≤ l.length
  | [] => Nat.le_refl _
  | c :: t => by
    have := digN_le t
    unfold digN
    split
    · simp; omega
    · simp
theorem digN_stop : ∀ (l : List UInt8) (k : Nat), (l.take k).all digB = true → (∀ x, l[k]? = some x → digB x = false) → k ≤ l.length → digN l = k
  | [], k, _, _, hk => by simp at hk; subst hk; rfl
  | c :: t, 0, _, h, _ => by
    have := h c rfl
    unfold digN
    rw [if_neg (by rw [this]; exact Bool.false_ne_true)]
  | c :: t, k + 1, ha, h, hk => by
    simp only [List.take_succ_cons, List.all_cons, Bool.and_eq_true] at ha
    unfold digN
    rw [if_pos ha.1, digN_stop t k ha.2 (fun x hx => h x (by simpa using hx)) (by simpa using hk)]

set_option maxHeartbeats 1000000 in
theorem digits_any (s : ByteArray) (w : World) (hs : s.size ≤ 140737488355328) :
    Calls Tryz.prog 61 #[.string s] w fun e w' => e = .returned (.int .i64 (digN s.data.toList : Nat)) ∧ w = w' := by
  go_enter Tryz.func61, Tryz.ntmps61
  go_wp2_with fail
  go_loop [3] (fun i => ∃ k : Nat, k ≤ s.size ∧ i = .int .i64 k ∧ (s.data.toList.take k).all digB = true) (fun i => s.size - (RowKit.intOf i).toNat)
  case atStart => exact ⟨0, Nat.zero_le _, rfl, by simp⟩
  case round =>
    obtain ⟨k, hk, rfl, hall⟩ := hrel
    have HALL := Lib.hid hall
    clear hall
    by_cases hlt : k < s.size
    · have hltI : (k : Int) < (s.size : Int) := by omega
      have hdg := fun w => digit_any (s[k].toNat : Int) w
      have hby := byte_le s[k]
      have HTK : Hid (s.data.toList.take (k + 1) = s.data.toList.take k ++ [s[k]]) := List.take_succ_eq_append_getElem (by rw [← size_eq]; exact hlt)
      have HAT : Hid (s.data.toList[k]? = some s[k]) := by show _ = _; rw [List.getElem?_eq_getElem (by rw [← size_eq]; exact hlt)]; rfl
      obtain ⟨b, hbb⟩ : ∃ b, digZ (s[k].toNat : Int) = b := ⟨_, rfl⟩
      rw [hbb] at hdg
      have HBB : Hid (digB s[k] = b) := hbb
      clear hbb
      cases b
      · have HC : Hid (digN s.data.toList = k) := digN_stop _ _ HALL.out (fun x hx => by rw [HAT.out] at hx; obtain rfl := Option.some.inj hx; exact HBB.out) (by rw [← size_eq]; omega)
        go_wp2_with (go_at_call 72; refine (hdg _).mono ?_; rintro e w2 ⟨rfl, rfl⟩)
        go_ret
        exact ⟨by rw [HC.out]; rfl, rfl⟩
      · have HN : Hid ((s.data.toList.take (k + 1)).all digB = true) := by show _ = _; rw [HTK.out, List.all_append, HALL.out]; simp [HBB.out]
        go_wp2_with (go_at_call 72; refine (hdg _).mono ?_; rintro e w2 ⟨rfl, rfl⟩)
        go_round
        case rel => exact ⟨k + 1, by omega, by go_num, HN.out⟩
        case measure => simp [RowKit.intOf]; omega
    · obtain rfl : k = s.size := by omega
      have HC : Hid (digN s.data.toList = s.size) := digN_stop _ _ HALL.out (fun x hx => by rw [List.getElem?_eq_none (by rw [← size_eq]; exact Nat.le_refl _)] at hx; cases hx) (by rw [← size_eq]; exact Nat.le_refl _)
      go_wp2_with fail
      go_ret
      exact ⟨by rw [HC.out]; rfl, rfl⟩

/-- Is a descriptor good? -/
def goodD (d : List UInt8) : Bool :=
  d.isEmpty || (decide (1 ≤ digN d) && decide (digN d ≤ 9) &&
    (d.drop (digN d) == [119] || d.drop (digN d) == [120] ||
      ((d.drop (digN d)).head? == some 46 && decide (1 ≤ digN ((d.drop (digN d)).drop 1)) && decide (digN ((d.drop (digN d)).drop 1) ≤ 9) && (d.drop (digN d)).drop (1 + digN ((d.drop (digN d)).drop 1)) == [120])))

def plZ (n : Int) : Bool := (decide (48 ≤ n) && decide (n ≤ 57)) || n == 46 || n == 119 || n == 120
def plB (c : UInt8) : Bool := plZ (c.toNat : Int)

set_option maxHeartbeats 1000000 in
theorem plain_any (s : ByteArray) (w : World) (hs : s.size ≤ 140737488355328) :
    Calls Tryz.prog 6 #[.string s] w fun e w' => e = .returned (.bool (s.data.toList.all plB)) ∧ w = w' := by
  obtain ⟨R, hR⟩ : ∃ R, s.data.toList.all plB = R := ⟨_, rfl⟩
  rw [hR]
  have HRES := Lib.hid hR
  clear hR
  go_enter Tryz.func6, Tryz.ntmps6
  go_wp2_with fail
  go_loop [6, 3] (fun i _ => ∃ k : Nat, k ≤ s.size ∧ i = .int .i64 k ∧ (s.data.toList.take k).all plB = true) (fun i _ => s.size - (RowKit.intOf i).toNat)
  case atStart => exact ⟨0, Nat.zero_le _, rfl, by simp⟩
  case round =>
    obtain ⟨k, hk, rfl, hall⟩ := hrel
    have HALL := Lib.hid hall
    clear hall
    by_cases hlt : k < s.size
    · have hltI : (k : Int) < (s.size : Int) := by omega
      have hby := byte_le s[k]
      have HTK : Hid (s.data.toList.take (k + 1) = s.data.toList.take k ++ [s[k]]) := List.take_succ_eq_append_getElem (by rw [← size_eq]; exact hlt)
      have HAT : Hid (s[k] ∈ s.data.toList) := List.mem_iff_getElem?.2 ⟨k, by rw [List.getElem?_eq_getElem (by rw [← size_eq]; exact hlt)]; rfl⟩
      have HPL : Hid (plB s[k] = plZ (s[k].toNat : Int)) := Lib.hid rfl
      have HNO : Hid (plB s[k] = false → R = false) := fun h => by
        rw [← HRES.out, List.all_eq_false]
        exact ⟨s[k], HAT.out, by rw [h]; exact Bool.false_ne_true⟩
      have HYE : Hid (plB s[k] = true → (s.data.toList.take (k + 1)).all plB = true) := fun h => by
        rw [HTK.out, List.all_append, HALL.out]; simp [h]
      by_cases h1 : (s[k].toNat : Int) < 48
      · have h57 : ¬ (57 : Int) < (s[k].toNat : Int) := by omega
        cases h2 : ((s[k].toNat : Int) == 46)
        · have h3 : ((s[k].toNat : Int) == 119) = false := beq_eq_false_iff_ne.2 (by omega)
          have h4 : ((s[k].toNat : Int) == 120) = false := beq_eq_false_iff_ne.2 (by omega)
          have HX : Hid (plB s[k] = false) := by
            show _ = _
            rw [HPL.out]; unfold plZ; rw [h2, h3, h4, decide_eq_false (show ¬ (48 : Int) ≤ (s[k].toNat : Int) by omega)]; rfl
          have n2 : ((s[k].toNat : Int) != 46) = true := by rw [bne, h2]; rfl
          have n3 : ((s[k].toNat : Int) != 119) = true := by rw [bne, h3]; rfl
          have n4 : ((s[k].toNat : Int) != 120) = true := by rw [bne, h4]; rfl
          go_wp2_with fail
          go_ret
          exact ⟨by rw [HNO.out HX.out]; rfl, rfl⟩
        · have HX : Hid (plB s[k] = true) := by
            show _ = _
            rw [HPL.out]; unfold plZ; rw [h2]; simp
          have n2 : ((s[k].toNat : Int) != 46) = false := by rw [bne, h2]; rfl
          go_wp2_with fail
          go_round
          case rel => exact ⟨k + 1, by omega, by go_num, HYE.out HX.out⟩
          case measure => simp [RowKit.intOf]; omega
      · by_cases h57 : (57 : Int) < (s[k].toNat : Int)
        · have h2 : ((s[k].toNat : Int) == 46) = false := beq_eq_false_iff_ne.2 (by omega)
          have n2 : ((s[k].toNat : Int) != 46) = true := by rw [bne, h2]; rfl
          cases h3 : ((s[k].toNat : Int) == 119)
          · cases h4 : ((s[k].toNat : Int) == 120)
            · have HX : Hid (plB s[k] = false) := by
                show _ = _
                rw [HPL.out]; unfold plZ; rw [h2, h3, h4, decide_eq_false (show ¬ (s[k].toNat : Int) ≤ 57 by omega)]; simp
              have n3 : ((s[k].toNat : Int) != 119) = true := by rw [bne, h3]; rfl
              have n4 : ((s[k].toNat : Int) != 120) = true := by rw [bne, h4]; rfl
              go_wp2_with fail
              go_ret
              exact ⟨by rw [HNO.out HX.out]; rfl, rfl⟩
            · have HX : Hid (plB s[k] = true) := by
                show _ = _
                rw [HPL.out]; unfold plZ; rw [h4]; simp
              have n3 : ((s[k].toNat : Int) != 119) = true := by rw [bne, h3]; rfl
              have n4 : ((s[k].toNat : Int) != 120) = false := by rw [bne, h4]; rfl
              go_wp2_with fail
              go_round
              case rel => exact ⟨k + 1, by omega, by go_num, HYE.out HX.out⟩
              case measure => simp [RowKit.intOf]; omega
          · have HX : Hid (plB s[k] = true) := by
              show _ = _
              rw [HPL.out]; unfold plZ; rw [h3]; simp
            have n3 : ((s[k].toNat : Int) != 119) = false := by rw [bne, h3]; rfl
            go_wp2_with fail
            go_round
            case rel => exact ⟨k + 1, by omega, by go_num, HYE.out HX.out⟩
            case measure => simp [RowKit.intOf]; omega
        · have HX : Hid (plB s[k] = true) := by
            show _ = _
            rw [HPL.out]; unfold plZ
            rw [decide_eq_true (show (48 : Int) ≤ (s[k].toNat : Int) by omega), decide_eq_true (show (s[k].toNat : Int) ≤ 57 by omega)]; rfl
          go_wp2_with fail
          go_round
          case rel => exact ⟨k + 1, by omega, by go_num, HYE.out HX.out⟩
          case measure => simp [RowKit.intOf]; omega
    · obtain rfl : k = s.size := by omega
      have HC : Hid (R = true) := by
        have := HALL.out
        rw [← HRES.out]
        rw [List.take_of_length_le (by rw [← size_eq]; exact Nat.le_refl _)] at this
        exact this
      go_wp2_with fail
      go_ret
      exact ⟨by rw [HC.out]; rfl, rfl⟩

end Go.Proofs.YtabagfhnkdhjdaaGreatDoor
