/- link.Check: may a scheme be allowed? -/
import Derived.Test.YtabagfhnkdhjdaaDoorColon
set_option linter.unusedVariables false
set_option maxRecDepth 100000
namespace Go.Proofs.YtabagfhnkdhjdaaDoor
open Go.RowKit Go.Lib

def nv0 : List UInt8 := [106, 97, 118, 97, 115, 99, 114, 105, 112, 116]
def nv1 : List UInt8 := [100, 97, 116, 97]
def nv2 : List UInt8 := [118, 98, 115, 99, 114, 105, 112, 116]
def nv3 : List UInt8 := [98, 108, 111, 98]
def nv4 : List UInt8 := [102, 105, 108, 101]
def nv5 : List UInt8 := [102, 105, 108, 101, 115, 121, 115, 116, 101, 109]
def nv6 : List UInt8 := [97, 98, 111, 117, 116]
def neverL : List (List UInt8) := [nv0, nv1, nv2, nv3, nv4, nv5, nv6]
def neverRow : List Value := [.string ⟨#[106, 97, 118, 97, 115, 99, 114, 105, 112, 116]⟩, .string ⟨#[100, 97, 116, 97]⟩, .string ⟨#[118, 98, 115, 99, 114, 105, 112, 116]⟩, .string ⟨#[98, 108, 111, 98]⟩, .string ⟨#[102, 105, 108, 101]⟩, .string ⟨#[102, 105, 108, 101, 115, 121, 115, 116, 101, 109]⟩, .string ⟨#[97, 98, 111, 117, 116]⟩]

/-- The variable 'never' holds what the program lays. -/
def NvAt (w : World) : Prop := 0 < w.heap.size ∧ ∀ (j : Nat) (v : Value), neverRow[j]? = some v → w.cell? ⟨0, j, none⟩ = some v
theorem NvAt.below {w w' : World} (h : NvAt w) (hb : Below w.heap.size w w') : NvAt w' :=
  ⟨Nat.lt_of_lt_of_le h.1 hb.size, fun j v hj => (hb.cell (p := ⟨0, j, none⟩) h.1).trans (h.2 j v hj)⟩
theorem NvAt.cell {w : World} (h : NvAt w) {j : Nat} {v : Value} (hj : neverRow[j]? = some v) : w.cell? ⟨0, j, none⟩ = some v := h.2 j v hj

/-- Is a scheme good? -/
def chkG (l : List UInt8) : Bool :=
  !l.isEmpty && decide (l.length ≤ 100) && decide (97 ≤ (l.headD 0).toNat) && decide ((l.headD 0).toNat ≤ 122) && decide (lower l = l) && l.all schB && !neverL.contains l
def chkN (l : List UInt8) : Int := if chkG l then 0 else 120

theorem chkN_bad {l : List UInt8} (h : chkG l = false) : chkN l = 120 := by unfold chkN; rw [h]; rfl
theorem ret_int {a b : Int} (h : a = b) : Ending.returned (.int .i64 a) = Ending.returned (.int .i64 b) := by rw [h]

theorem head_at (s : ByteArray) (h : 0 < s.size) : s.data.toList.headD 0 = s[0] := by
  have := drop_at s 0 h
  rw [List.drop_zero] at this
  rw [this]; rfl

theorem contains_append (a b : List (List UInt8)) (x : List UInt8) : (a ++ b).contains x = (a.contains x || b.contains x) := by
  rw [Bool.eq_iff_iff]
  simp
theorem contains_one {x y : List UInt8} (h : (x == y) = false) : [y].contains x = false := by
  rw [beq_eq_false_iff_ne] at h
  simp [h]
theorem never_has {x y : List UInt8} (hx : x ∈ neverL) (h : (y == x) = true) : neverL.contains y = true := by
  rw [beq_iff_eq] at h
  subst h
  simpa using hx

set_option maxHeartbeats 4000000 in
theorem check_any (s : ByteArray) (w : World) (hs : s.size ≤ 140737488355328) (hrow : NvAt w) :
    Calls Tryd.prog 16 #[.string s] w fun e w' => e = .returned (.int .i64 (chkN s.data.toList)) ∧ Below w.heap.size w w' := by
  by_cases h0 : s.size = 0
  · have he := empty_true s h0
    have HC : Hid (chkN s.data.toList = 120) := by
      show _ = _
      rw [nil_of_size s h0]; rfl
    go_enter Tryd.func16, Tryd.ntmps16
    go_wp2_with fail
    go_ret
    exact ⟨ret_int HC.out.symm, Below.refl _ _⟩
  · have hpos : 0 < s.size := by omega
    have hposI : (0 : Int) < (s.size : Int) := by omega
    have he := empty_false s hpos
    have hb := byte_le s[0]
    by_cases h1 : (100 : Int) < (s.size : Int)
    · have HC : Hid (chkN s.data.toList = 120) := by
        refine chkN_bad ?_
        unfold chkG
        rw [← size_eq, decide_eq_false (p := s.size ≤ 100) (by omega)]; simp
      go_enter Tryd.func16, Tryd.ntmps16
      go_wp2_with fail
      go_ret
      exact ⟨ret_int HC.out.symm, Below.refl _ _⟩
    · by_cases h2 : (s[0].toNat : Int) < 97
      · have HC : Hid (chkN s.data.toList = 120) := by
          refine chkN_bad ?_
          unfold chkG
          rw [head_at s hpos, decide_eq_false (p := 97 ≤ s[0].toNat) (by omega)]; simp
        go_enter Tryd.func16, Tryd.ntmps16
        go_wp2_with fail
        go_ret
        exact ⟨ret_int HC.out.symm, Below.refl _ _⟩
      · by_cases h3 : (122 : Int) < (s[0].toNat : Int)
        · have HC : Hid (chkN s.data.toList = 120) := by
            refine chkN_bad ?_
            unfold chkG
            rw [head_at s hpos, decide_eq_false (p := s[0].toNat ≤ 122) (by omega)]; simp
          go_enter Tryd.func16, Tryd.ntmps16
          go_wp2_with fail
          go_ret
          exact ⟨ret_int HC.out.symm, Below.refl _ _⟩
        · have hlow := lower_any s w hs
          obtain ⟨t, ht⟩ : ∃ t : ByteArray, (⟨(lower s.data.toList).toArray⟩ : ByteArray) = t := ⟨_, rfl⟩
          rw [ht] at hlow
          by_cases h4 : lower s.data.toList = s.data.toList
          · obtain rfl : s = t := by rw [← ht, h4, mk_data]
            have HK : Hid (chkG s.data.toList = (s.data.toList.all schB && !neverL.contains s.data.toList)) := by
              show _ = _
              unfold chkG
              rw [head_at s hpos, decide_eq_true (p := 97 ≤ s[0].toNat) (by omega), decide_eq_true (p := s[0].toNat ≤ 122) (by omega), decide_eq_true h4, ← size_eq, decide_eq_true (p := s.size ≤ 100) (by omega), ← Lib.toList_data, he]; simp
            have HR := Lib.hid hrow
            clear ht h4 hrow
            go_enter Tryd.func16, Tryd.ntmps16
            go_wp2_with fail
            refine hlow.mono ?_
            clear hlow
            rintro e w1 ⟨rfl, hb1⟩
            have HB1 := Lib.hid hb1
            have HR1 : Hid (NvAt w1) := HR.out.below hb1
            clear hb1
            have d0 := HR1.out.cell (j := 0) rfl
            have d1 := HR1.out.cell (j := 1) rfl
            have d2 := HR1.out.cell (j := 2) rfl
            have d3 := HR1.out.cell (j := 3) rfl
            have d4 := HR1.out.cell (j := 4) rfl
            have d5 := HR1.out.cell (j := 5) rfl
            have d6 := HR1.out.cell (j := 6) rfl
            go_wp2_with fail
            go_loop [31, 3] (fun i _ => ∃ k : Nat, k ≤ s.size ∧ i = .int .i64 k ∧ (s.data.toList.take k).all schB = true) (fun i _ => s.size - (RowKit.intOf i).toNat)
            case atStart => exact ⟨0, Nat.zero_le _, rfl, by simp⟩
            case round =>
              obtain ⟨k, hk, rfl, hall⟩ := hrel
              have HALL := Lib.hid hall
              clear hall
              by_cases hlt : k < s.size
              · have hltI : (k : Int) < (s.size : Int) := by omega
                have hsc := fun w => schemeByte_any s[k] w
                have HTK : Hid (s.data.toList.take (k + 1) = s.data.toList.take k ++ [s[k]]) := List.take_succ_eq_append_getElem (by rw [← size_eq]; exact hlt)
                obtain ⟨b, hbb⟩ : ∃ b, schZ (s[k].toNat : Int) = b := ⟨_, rfl⟩
                rw [hbb] at hsc
                have HBB : Hid (schB s[k] = b) := hbb
                clear hbb
                cases b
                · have HC : Hid (chkN s.data.toList = 120) := by
                    refine chkN_bad ?_
                    have ha : s.data.toList.all schB = false := by
                      rw [List.all_eq_false]
                      exact ⟨s[k], List.mem_iff_getElem?.2 ⟨k, by rw [List.getElem?_eq_getElem (by rw [← size_eq]; exact hlt)]; rfl⟩, by rw [HBB.out]; exact Bool.false_ne_true⟩
                    rw [HK.out, ha]; rfl
                  go_wp2_with (go_at_call 38; refine (hsc _).mono ?_; rintro e w2 ⟨rfl, rfl⟩)
                  go_ret
                  exact ⟨ret_int HC.out.symm, HB1.out⟩
                · have HN : Hid ((s.data.toList.take (k + 1)).all schB = true) := by show _ = _; rw [HTK.out, List.all_append, HALL.out]; simp [HBB.out]
                  go_wp2_with (go_at_call 38; refine (hsc _).mono ?_; rintro e w2 ⟨rfl, rfl⟩)
                  go_round
                  case rel => exact ⟨k + 1, by omega, by go_num, HN.out⟩
                  case measure => simp [RowKit.intOf]; omega
              · obtain rfl : k = s.size := by omega
                have HA : Hid (s.data.toList.all schB = true) := by
                  have := HALL.out
                  rw [List.take_of_length_le (by rw [← size_eq]; exact Nat.le_refl _)] at this
                  exact this
                go_wp2_with fail
                go_loop [41, 5] (fun i _ => ∃ j : Nat, j ≤ 7 ∧ i = .int .i64 j ∧ (neverL.take j).contains s.data.toList = false) (fun i _ => 7 - (RowKit.intOf i).toNat)
                case atStart => exact ⟨0, Nat.zero_le _, rfl, rfl⟩
                case round =>
                  obtain ⟨j, hj, rfl, hno⟩ := hrel
                  have HNO := Lib.hid hno
                  clear hno
                  have i0 : ∀ w, (Instr.index 63 (.agg #[.string ⟨#[106, 97, 118, 97, 115, 99, 114, 105, 112, 116]⟩, .string ⟨#[100, 97, 116, 97]⟩, .string ⟨#[118, 98, 115, 99, 114, 105, 112, 116]⟩, .string ⟨#[98, 108, 111, 98]⟩, .string ⟨#[102, 105, 108, 101]⟩, .string ⟨#[102, 105, 108, 101, 115, 121, 115, 116, 101, 109]⟩, .string ⟨#[97, 98, 111, 117, 116]⟩]) (.int .i64 0)).run Tryd.prog w = .ok (.string ⟨#[106, 97, 118, 97, 115, 99, 114, 105, 112, 116]⟩) w := fun _ => by kernel_rfl
                  have i1 : ∀ w, (Instr.index 63 (.agg #[.string ⟨#[106, 97, 118, 97, 115, 99, 114, 105, 112, 116]⟩, .string ⟨#[100, 97, 116, 97]⟩, .string ⟨#[118, 98, 115, 99, 114, 105, 112, 116]⟩, .string ⟨#[98, 108, 111, 98]⟩, .string ⟨#[102, 105, 108, 101]⟩, .string ⟨#[102, 105, 108, 101, 115, 121, 115, 116, 101, 109]⟩, .string ⟨#[97, 98, 111, 117, 116]⟩]) (.int .i64 1)).run Tryd.prog w = .ok (.string ⟨#[100, 97, 116, 97]⟩) w := fun _ => by kernel_rfl
                  have i2 : ∀ w, (Instr.index 63 (.agg #[.string ⟨#[106, 97, 118, 97, 115, 99, 114, 105, 112, 116]⟩, .string ⟨#[100, 97, 116, 97]⟩, .string ⟨#[118, 98, 115, 99, 114, 105, 112, 116]⟩, .string ⟨#[98, 108, 111, 98]⟩, .string ⟨#[102, 105, 108, 101]⟩, .string ⟨#[102, 105, 108, 101, 115, 121, 115, 116, 101, 109]⟩, .string ⟨#[97, 98, 111, 117, 116]⟩]) (.int .i64 2)).run Tryd.prog w = .ok (.string ⟨#[118, 98, 115, 99, 114, 105, 112, 116]⟩) w := fun _ => by kernel_rfl
                  have i3 : ∀ w, (Instr.index 63 (.agg #[.string ⟨#[106, 97, 118, 97, 115, 99, 114, 105, 112, 116]⟩, .string ⟨#[100, 97, 116, 97]⟩, .string ⟨#[118, 98, 115, 99, 114, 105, 112, 116]⟩, .string ⟨#[98, 108, 111, 98]⟩, .string ⟨#[102, 105, 108, 101]⟩, .string ⟨#[102, 105, 108, 101, 115, 121, 115, 116, 101, 109]⟩, .string ⟨#[97, 98, 111, 117, 116]⟩]) (.int .i64 3)).run Tryd.prog w = .ok (.string ⟨#[98, 108, 111, 98]⟩) w := fun _ => by kernel_rfl
                  have i4 : ∀ w, (Instr.index 63 (.agg #[.string ⟨#[106, 97, 118, 97, 115, 99, 114, 105, 112, 116]⟩, .string ⟨#[100, 97, 116, 97]⟩, .string ⟨#[118, 98, 115, 99, 114, 105, 112, 116]⟩, .string ⟨#[98, 108, 111, 98]⟩, .string ⟨#[102, 105, 108, 101]⟩, .string ⟨#[102, 105, 108, 101, 115, 121, 115, 116, 101, 109]⟩, .string ⟨#[97, 98, 111, 117, 116]⟩]) (.int .i64 4)).run Tryd.prog w = .ok (.string ⟨#[102, 105, 108, 101]⟩) w := fun _ => by kernel_rfl
                  have i5 : ∀ w, (Instr.index 63 (.agg #[.string ⟨#[106, 97, 118, 97, 115, 99, 114, 105, 112, 116]⟩, .string ⟨#[100, 97, 116, 97]⟩, .string ⟨#[118, 98, 115, 99, 114, 105, 112, 116]⟩, .string ⟨#[98, 108, 111, 98]⟩, .string ⟨#[102, 105, 108, 101]⟩, .string ⟨#[102, 105, 108, 101, 115, 121, 115, 116, 101, 109]⟩, .string ⟨#[97, 98, 111, 117, 116]⟩]) (.int .i64 5)).run Tryd.prog w = .ok (.string ⟨#[102, 105, 108, 101, 115, 121, 115, 116, 101, 109]⟩) w := fun _ => by kernel_rfl
                  have i6 : ∀ w, (Instr.index 63 (.agg #[.string ⟨#[106, 97, 118, 97, 115, 99, 114, 105, 112, 116]⟩, .string ⟨#[100, 97, 116, 97]⟩, .string ⟨#[118, 98, 115, 99, 114, 105, 112, 116]⟩, .string ⟨#[98, 108, 111, 98]⟩, .string ⟨#[102, 105, 108, 101]⟩, .string ⟨#[102, 105, 108, 101, 115, 121, 115, 116, 101, 109]⟩, .string ⟨#[97, 98, 111, 117, 116]⟩]) (.int .i64 6)).run Tryd.prog w = .ok (.string ⟨#[97, 98, 111, 117, 116]⟩) w := fun _ => by kernel_rfl
                  have hj8 : j = 0 ∨ j = 1 ∨ j = 2 ∨ j = 3 ∨ j = 4 ∨ j = 5 ∨ j = 6 ∨ j = 7 := by omega
                  rcases hj8 with rfl | rfl | rfl | rfl | rfl | rfl | rfl | rfl
                  · cases hq : (s.toList == [106, 97, 118, 97, 115, 99, 114, 105, 112, 116])
                    · have HN : Hid ((neverL.take 1).contains s.data.toList = false) := by
                        show ((neverL.take 0 ++ [nv0]).contains s.data.toList) = false
                        rw [contains_append, HNO.out, Bool.false_or]
                        exact contains_one (by rw [← Lib.toList_data]; exact hq)
                      go_wp2_with fail
                      go_round
                      case rel => exact ⟨1, by omega, by go_num, HN.out⟩
                      case measure => simp [RowKit.intOf]
                    · have HC : Hid (chkN s.data.toList = 120) := by
                        refine chkN_bad ?_
                        rw [HK.out, never_has (x := nv0) (by simp [neverL]) (by rw [← Lib.toList_data]; exact hq)]; simp
                      go_wp2_with fail
                      go_ret
                      exact ⟨ret_int HC.out.symm, HB1.out⟩
                  · cases hq : (s.toList == [100, 97, 116, 97])
                    · have HN : Hid ((neverL.take 2).contains s.data.toList = false) := by
                        show ((neverL.take 1 ++ [nv1]).contains s.data.toList) = false
                        rw [contains_append, HNO.out, Bool.false_or]
                        exact contains_one (by rw [← Lib.toList_data]; exact hq)
                      go_wp2_with fail
                      go_round
                      case rel => exact ⟨2, by omega, by go_num, HN.out⟩
                      case measure => simp [RowKit.intOf]
                    · have HC : Hid (chkN s.data.toList = 120) := by
                        refine chkN_bad ?_
                        rw [HK.out, never_has (x := nv1) (by simp [neverL]) (by rw [← Lib.toList_data]; exact hq)]; simp
                      go_wp2_with fail
                      go_ret
                      exact ⟨ret_int HC.out.symm, HB1.out⟩
                  · cases hq : (s.toList == [118, 98, 115, 99, 114, 105, 112, 116])
                    · have HN : Hid ((neverL.take 3).contains s.data.toList = false) := by
                        show ((neverL.take 2 ++ [nv2]).contains s.data.toList) = false
                        rw [contains_append, HNO.out, Bool.false_or]
                        exact contains_one (by rw [← Lib.toList_data]; exact hq)
                      go_wp2_with fail
                      go_round
                      case rel => exact ⟨3, by omega, by go_num, HN.out⟩
                      case measure => simp [RowKit.intOf]
                    · have HC : Hid (chkN s.data.toList = 120) := by
                        refine chkN_bad ?_
                        rw [HK.out, never_has (x := nv2) (by simp [neverL]) (by rw [← Lib.toList_data]; exact hq)]; simp
                      go_wp2_with fail
                      go_ret
                      exact ⟨ret_int HC.out.symm, HB1.out⟩
                  · cases hq : (s.toList == [98, 108, 111, 98])
                    · have HN : Hid ((neverL.take 4).contains s.data.toList = false) := by
                        show ((neverL.take 3 ++ [nv3]).contains s.data.toList) = false
                        rw [contains_append, HNO.out, Bool.false_or]
                        exact contains_one (by rw [← Lib.toList_data]; exact hq)
                      go_wp2_with fail
                      go_round
                      case rel => exact ⟨4, by omega, by go_num, HN.out⟩
                      case measure => simp [RowKit.intOf]
                    · have HC : Hid (chkN s.data.toList = 120) := by
                        refine chkN_bad ?_
                        rw [HK.out, never_has (x := nv3) (by simp [neverL]) (by rw [← Lib.toList_data]; exact hq)]; simp
                      go_wp2_with fail
                      go_ret
                      exact ⟨ret_int HC.out.symm, HB1.out⟩
                  · cases hq : (s.toList == [102, 105, 108, 101])
                    · have HN : Hid ((neverL.take 5).contains s.data.toList = false) := by
                        show ((neverL.take 4 ++ [nv4]).contains s.data.toList) = false
                        rw [contains_append, HNO.out, Bool.false_or]
                        exact contains_one (by rw [← Lib.toList_data]; exact hq)
                      go_wp2_with fail
                      go_round
                      case rel => exact ⟨5, by omega, by go_num, HN.out⟩
                      case measure => simp [RowKit.intOf]
                    · have HC : Hid (chkN s.data.toList = 120) := by
                        refine chkN_bad ?_
                        rw [HK.out, never_has (x := nv4) (by simp [neverL]) (by rw [← Lib.toList_data]; exact hq)]; simp
                      go_wp2_with fail
                      go_ret
                      exact ⟨ret_int HC.out.symm, HB1.out⟩
                  · cases hq : (s.toList == [102, 105, 108, 101, 115, 121, 115, 116, 101, 109])
                    · have HN : Hid ((neverL.take 6).contains s.data.toList = false) := by
                        show ((neverL.take 5 ++ [nv5]).contains s.data.toList) = false
                        rw [contains_append, HNO.out, Bool.false_or]
                        exact contains_one (by rw [← Lib.toList_data]; exact hq)
                      go_wp2_with fail
                      go_round
                      case rel => exact ⟨6, by omega, by go_num, HN.out⟩
                      case measure => simp [RowKit.intOf]
                    · have HC : Hid (chkN s.data.toList = 120) := by
                        refine chkN_bad ?_
                        rw [HK.out, never_has (x := nv5) (by simp [neverL]) (by rw [← Lib.toList_data]; exact hq)]; simp
                      go_wp2_with fail
                      go_ret
                      exact ⟨ret_int HC.out.symm, HB1.out⟩
                  · cases hq : (s.toList == [97, 98, 111, 117, 116])
                    · have HN : Hid ((neverL.take 7).contains s.data.toList = false) := by
                        show ((neverL.take 6 ++ [nv6]).contains s.data.toList) = false
                        rw [contains_append, HNO.out, Bool.false_or]
                        exact contains_one (by rw [← Lib.toList_data]; exact hq)
                      go_wp2_with fail
                      go_round
                      case rel => exact ⟨7, by omega, by go_num, HN.out⟩
                      case measure => simp [RowKit.intOf]
                    · have HC : Hid (chkN s.data.toList = 120) := by
                        refine chkN_bad ?_
                        rw [HK.out, never_has (x := nv6) (by simp [neverL]) (by rw [← Lib.toList_data]; exact hq)]; simp
                      go_wp2_with fail
                      go_ret
                      exact ⟨ret_int HC.out.symm, HB1.out⟩
                  · have HC : Hid (chkN s.data.toList = 0) := by
                      have hn : neverL.contains s.data.toList = false := HNO.out
                      show (if chkG s.data.toList then (0 : Int) else 120) = 0
                      rw [HK.out, HA.out, hn]; rfl
                    go_wp2_with fail
                    go_ret
                    exact ⟨ret_int HC.out.symm, HB1.out⟩
          · have hne : (s.toList == t.toList) = false := by
              rw [beq_eq_false_iff_ne, Lib.toList_data, Lib.toList_data, ← ht]
              exact fun e => h4 e.symm
            have HC : Hid (chkN s.data.toList = 120) := by
              refine chkN_bad ?_
              unfold chkG
              rw [decide_eq_false h4]; simp
            clear ht h4 hrow
            go_enter Tryd.func16, Tryd.ntmps16
            go_wp2_with fail
            refine hlow.mono ?_
            clear hlow
            rintro e w1 ⟨rfl, hb1⟩
            have HB1 := Lib.hid hb1
            clear hb1
            go_wp2_with fail
            go_ret
            exact ⟨ret_int HC.out.symm, HB1.out⟩

end Go.Proofs.YtabagfhnkdhjdaaDoor
