/- The reference's Check, Scheme. -/
import Derived.Test.YtabagfhnkdhjdaaDoorAllow
import Derived.Test.YtabagfhnkdhjdaaDoorRefG
set_option linter.unusedVariables false
set_option maxRecDepth 100000
namespace Go.Proofs.YtabagfhnkdhjdaaDoor
open Go.RowKit Go.Lib

def upB (b : UInt8) : Bool := upZ (b.toNat : Int)
def fitB (b : UInt8) : Bool := schB b && !upB b
theorem low_up (b : UInt8) : (lowB b = b) ↔ upB b = false := by
  have := all_bytes (fun b => decide (lowB b = b) == !upB b) (by decide +kernel) b
  rw [beq_iff_eq] at this
  constructor
  · intro h; rw [decide_eq_true h] at this; cases hu : upB b
    · rfl
    · rw [hu] at this; cases this
  · intro h; rw [h] at this; exact of_decide_eq_true this
theorem lower_same : ∀ (l : List UInt8), (lower l = l) ↔ l.all (fun b => !upB b) = true
  | [] => by simp [lower]
  | b :: l => by
    have ih := lower_same l
    unfold lower at *
    rw [List.map_cons, List.cons.injEq, ih, low_up, List.all_cons]
    simp
theorem chkG_alt (l : List UInt8) : chkG l = (!l.isEmpty && decide (l.length ≤ 100) && decide (97 ≤ (l.headD 0).toNat) && decide ((l.headD 0).toNat ≤ 122) && l.all fitB && !neverL.contains l) := by
  have e : (decide (lower l = l) && l.all schB) = l.all fitB := by
    have e1 : decide (lower l = l) = l.all (fun b => !upB b) := by
      rw [Bool.eq_iff_iff, decide_eq_true_eq]; exact lower_same l
    rw [e1]
    induction l with
    | nil => rfl
    | cons b l ih =>
      have e2 : decide (lower l = l) = l.all (fun b => !upB b) := by
        rw [Bool.eq_iff_iff, decide_eq_true_eq]; exact lower_same l
      have ih' := ih e2
      simp only [List.all_cons, fitB] at *
      rw [← ih']
      cases upB b <;> cases schB b <;> simp
  unfold chkG
  rw [← e]
  simp only [Bool.and_assoc]

def neverB : List ByteArray := neverL.map fun z => ⟨z.toArray⟩
theorem never_has' (s : ByteArray) : hasS neverB s = neverL.contains s.data.toList := by
  unfold hasS neverB
  rw [List.any_map, Bool.eq_iff_iff, List.any_eq_true, List.contains_iff_mem]
  constructor
  · rintro ⟨x, hx, h⟩
    simp only [Function.comp, beq_iff_eq, Lib.toList_data] at h
    have h' : x = s.data.toList := h
    rw [← h']; exact hx
  · intro h
    exact ⟨_, h, by simp only [Function.comp, beq_iff_eq, Lib.toList_data]⟩

set_option maxHeartbeats 4000000 in
theorem rcheck_any (s : ByteArray) (w : World) (hs : s.size ≤ 140737488355328) :
    Calls Tryd.prog 18 #[.string s] w fun e w' => e = .returned (.int .i64 (chkN s.data.toList)) ∧ Below w.heap.size w w' := by
  have HK0 := Lib.hid (chkG_alt s.data.toList)
  by_cases h0 : s.size = 0
  · have hlI : (s.size : Int) < 1 := by omega
    have HC : Hid (chkN s.data.toList = 120) := by
      show _ = _
      rw [nil_of_size s h0]; rfl
    go_enter Tryd.func18, Tryd.ntmps18
    go_wp2_with fail
    go_ret
    exact ⟨ret_int HC.out.symm, Below.refl _ _⟩
  · have hpos : 0 < s.size := by omega
    have hposI : (0 : Int) < (s.size : Int) := by omega
    have hlI : ¬ (s.size : Int) < 1 := by omega
    have he := empty_false s hpos
    have hb := byte_le s[0]
    by_cases h1 : (100 : Int) < (s.size : Int)
    · have HC : Hid (chkN s.data.toList = 120) := by
        refine chkN_bad ?_
        rw [HK0.out, ← size_eq, decide_eq_false (p := s.size ≤ 100) (by omega)]; simp
      go_enter Tryd.func18, Tryd.ntmps18
      go_wp2_with fail
      go_ret
      exact ⟨ret_int HC.out.symm, Below.refl _ _⟩
    · by_cases h2 : (s[0].toNat : Int) < 97
      · have HC : Hid (chkN s.data.toList = 120) := by
          refine chkN_bad ?_
          rw [HK0.out, head_at s hpos, decide_eq_false (p := 97 ≤ s[0].toNat) (by omega)]; simp
        go_enter Tryd.func18, Tryd.ntmps18
        go_wp2_with fail
        go_ret
        exact ⟨ret_int HC.out.symm, Below.refl _ _⟩
      · by_cases h3 : (122 : Int) < (s[0].toNat : Int)
        · have HC : Hid (chkN s.data.toList = 120) := by
            refine chkN_bad ?_
            rw [HK0.out, head_at s hpos, decide_eq_false (p := s[0].toNat ≤ 122) (by omega)]; simp
          go_enter Tryd.func18, Tryd.ntmps18
          go_wp2_with fail
          go_ret
          exact ⟨ret_int HC.out.symm, Below.refl _ _⟩
        · have HK : Hid (chkG s.data.toList = (s.data.toList.all fitB && !hasS neverB s)) := by
            show _ = _
            rw [HK0.out, never_has', head_at s hpos, decide_eq_true (p := 97 ≤ s[0].toNat) (by omega), decide_eq_true (p := s[0].toNat ≤ 122) (by omega), ← size_eq, decide_eq_true (p := s.size ≤ 100) (by omega), ← Lib.toList_data, he]; simp
          have hrow := RowAt.new w #[.string ⟨#[106, 97, 118, 97, 115, 99, 114, 105, 112, 116]⟩, .string ⟨#[100, 97, 116, 97]⟩, .string ⟨#[118, 98, 115, 99, 114, 105, 112, 116]⟩, .string ⟨#[98, 108, 111, 98]⟩, .string ⟨#[102, 105, 108, 101]⟩, .string ⟨#[102, 105, 108, 101, 115, 121, 115, 116, 101, 109]⟩, .string ⟨#[97, 98, 111, 117, 116]⟩] 9 (neverB.map Value.string) rfl
          have hbel := (Below.refl w.heap.size w).alloc (Nat.le_refl _) (.cells #[.string ⟨#[106, 97, 118, 97, 115, 99, 114, 105, 112, 116]⟩, .string ⟨#[100, 97, 116, 97]⟩, .string ⟨#[118, 98, 115, 99, 114, 105, 112, 116]⟩, .string ⟨#[98, 108, 111, 98]⟩, .string ⟨#[102, 105, 108, 101]⟩, .string ⟨#[102, 105, 108, 101, 115, 121, 115, 116, 101, 109]⟩, .string ⟨#[97, 98, 111, 117, 116]⟩] 9)
          have HR := Lib.hid hrow
          have HB := Lib.hid hbel
          clear hrow hbel HK0
          go_enter Tryd.func18, Tryd.ntmps18
          go_wp2_with fail
          go_loop [26, 3] (fun i _ => ∃ k : Nat, k ≤ s.size ∧ i = .int .i64 k ∧ (s.data.toList.take k).all fitB = true) (fun i _ => s.size - (RowKit.intOf i).toNat)
          case atStart => exact ⟨0, Nat.zero_le _, rfl, by simp⟩
          case round =>
            obtain ⟨k, hk, rfl, hall⟩ := hrel
            have HALL := Lib.hid hall
            clear hall
            by_cases hlt : k < s.size
            · have hltI : (k : Int) < (s.size : Int) := by omega
              have hin := fun w => rinner_any s[k] w
              have hup := fun w => rupper_any (s[k].toNat : Int) w
              have hby := byte_le s[k]
              have HTK : Hid (s.data.toList.take (k + 1) = s.data.toList.take k ++ [s[k]]) := List.take_succ_eq_append_getElem (by rw [← size_eq]; exact hlt)
              have HMEM : Hid (s[k] ∈ s.data.toList) := List.mem_iff_getElem?.2 ⟨k, by rw [List.getElem?_eq_getElem (by rw [← size_eq]; exact hlt)]; rfl⟩
              obtain ⟨bi, hbi⟩ : ∃ b, schZ (s[k].toNat : Int) = b := ⟨_, rfl⟩
              obtain ⟨bu, hbu⟩ : ∃ b, upZ (s[k].toNat : Int) = b := ⟨_, rfl⟩
              rw [hbi] at hin
              rw [hbu] at hup
              have HF : Hid (fitB s[k] = (bi && !bu)) := by show _ = _; unfold fitB schB upB; rw [hbi, hbu]
              clear hbi hbu
              cases bi
              · have HC : Hid (chkN s.data.toList = 120) := by
                  refine chkN_bad ?_
                  have ha : s.data.toList.all fitB = false := by
                    rw [List.all_eq_false]
                    exact ⟨s[k], HMEM.out, by rw [HF.out]; exact Bool.false_ne_true⟩
                  rw [HK.out, ha]; rfl
                go_wp2_with (go_at_call 39; refine (hin _).mono ?_; rintro e w2 ⟨rfl, rfl⟩)
                go_ret
                exact ⟨ret_int HC.out.symm, Below.refl _ _⟩
              · cases bu
                · have HN : Hid ((s.data.toList.take (k + 1)).all fitB = true) := by show _ = _; rw [HTK.out, List.all_append, HALL.out]; simp [HF.out]
                  go_wp2_with (first | (go_at_call 39; refine (hin _).mono ?_; rintro e w2 ⟨rfl, rfl⟩) | (go_at_call 40; refine (hup _).mono ?_; rintro e w2 ⟨rfl, rfl⟩))
                  go_round
                  case rel => exact ⟨k + 1, by omega, by go_num, HN.out⟩
                  case measure => simp [RowKit.intOf]; omega
                · have HC : Hid (chkN s.data.toList = 120) := by
                    refine chkN_bad ?_
                    have ha : s.data.toList.all fitB = false := by
                      rw [List.all_eq_false]
                      exact ⟨s[k], HMEM.out, by rw [HF.out]; exact Bool.false_ne_true⟩
                    rw [HK.out, ha]; rfl
                  go_wp2_with (first | (go_at_call 39; refine (hin _).mono ?_; rintro e w2 ⟨rfl, rfl⟩) | (go_at_call 40; refine (hup _).mono ?_; rintro e w2 ⟨rfl, rfl⟩))
                  go_ret
                  exact ⟨ret_int HC.out.symm, Below.refl _ _⟩
            · obtain rfl : k = s.size := by omega
              have HA : Hid (s.data.toList.all fitB = true) := by
                have := HALL.out
                rw [List.take_of_length_le (by rw [← size_eq]; exact Nat.le_refl _)] at this
                exact this
              go_wp2_with fail
              obtain ⟨w2, hw2⟩ : ∃ w2, w.alloc (.cells #[.string ⟨#[106, 97, 118, 97, 115, 99, 114, 105, 112, 116]⟩, .string ⟨#[100, 97, 116, 97]⟩, .string ⟨#[118, 98, 115, 99, 114, 105, 112, 116]⟩, .string ⟨#[98, 108, 111, 98]⟩, .string ⟨#[102, 105, 108, 101]⟩, .string ⟨#[102, 105, 108, 101, 115, 121, 115, 116, 101, 109]⟩, .string ⟨#[97, 98, 111, 117, 116]⟩] 9) = w2 := ⟨_, rfl⟩
              obtain ⟨B, hB⟩ : ∃ B, w.heap.size = B := ⟨_, rfl⟩
              have HR2 : Hid (RowAt w2 B (neverB.map Value.string)) := by have := HR.out; rw [hw2, hB] at this; exact this
              have HB2 : Hid (Below B w w2) := by have := HB.out; rw [hw2, hB] at this; exact this
              rw [hw2, hB]
              clear hw2
              go_loop [44, 5] (fun i _ => ∃ j : Nat, j ≤ 7 ∧ i = .int .i64 j ∧ hasS (neverB.take j) s = false) (fun i _ => 7 - (RowKit.intOf i).toNat)
              case atStart => exact ⟨0, Nat.zero_le _, rfl, rfl⟩
              case round =>
                obtain ⟨j, hj, rfl, hno⟩ := hrel
                have HNO := Lib.hid hno
                clear hno
                by_cases hj7 : j < 7
                · have hj7I : (j : Int) < 7 := by omega
                  have hjl : j < neverB.length := hj7
                  have hld := HR2.out.cell (j := j) (v := .string neverB[j]) (by rw [List.getElem?_map, List.getElem?_eq_getElem hjl]; rfl)
                  have HTK : Hid (neverB.take (j + 1) = neverB.take j ++ [neverB[j]]) := List.take_succ_eq_append_getElem hjl
                  have HM : Hid (neverB[j] ∈ neverB) := List.getElem_mem hjl
                  obtain ⟨x, hxx⟩ : ∃ x, neverB[j] = x := ⟨_, rfl⟩
                  rw [hxx] at hld HTK HM
                  clear hxx hjl
                  cases hq : (s.toList == x.toList)
                  · have HN2 : Hid (hasS (neverB.take (j + 1)) s = false) := by
                      show _ = _
                      rw [HTK.out]
                      unfold hasS at *
                      rw [List.any_append, HNO.out]
                      have : (x.toList == s.toList) = false := by rw [BEq.comm]; exact hq
                      simp only [List.any_cons, List.any_nil, this, Bool.or_false]
                    go_wp2_with fail
                    go_round
                    case rel => exact ⟨j + 1, by omega, by go_num, HN2.out⟩
                    case measure => simp [RowKit.intOf]; omega
                  · have HC : Hid (chkN s.data.toList = 120) := by
                      refine chkN_bad ?_
                      have : hasS neverB s = true := by
                        unfold hasS
                        rw [List.any_eq_true]
                        exact ⟨x, HM.out, by rw [BEq.comm]; exact hq⟩
                      rw [HK.out, this]; simp
                    go_wp2_with fail
                    go_ret
                    exact ⟨ret_int HC.out.symm, HB2.out⟩
                · obtain rfl : j = 7 := by omega
                  have HC : Hid (chkN s.data.toList = 0) := by
                    have hn : hasS neverB s = false := HNO.out
                    show (if chkG s.data.toList then (0 : Int) else 120) = 0
                    rw [HK.out, HA.out, hn]; rfl
                  go_wp2_with fail
                  go_ret
                  exact ⟨ret_int HC.out.symm, HB2.out⟩

set_option maxHeartbeats 2000000 in
theorem rScheme_any (v : ByteArray) (w : World) (hv : v.size ≤ 500000000) :
    Calls Tryd.prog 19 #[.string v] w fun e w' => e = .returned (.tuple #[.string ⟨(schemeS (strip v.data.toList)).toArray⟩, .bool (colB (strip v.data.toList))]) ∧ Below w.heap.size w w' := by
  have h1 := rstrip_any v w hv
  have hl := strip_len v.data.toList
  rw [← size_eq] at hl
  obtain ⟨S, hS⟩ : ∃ S, strip v.data.toList = S := ⟨_, rfl⟩
  rw [hS] at h1 hl ⊢
  clear hS
  obtain ⟨s, hs⟩ : ∃ s : ByteArray, (⟨S.toArray⟩ : ByteArray) = s := ⟨_, rfl⟩
  have hsd : s.data.toList = S := by rw [← hs]
  have hss : s.size ≤ 2000000000 := by rw [size_eq, hsd]; omega
  rw [hs] at h1
  have hcn := colN_le S
  have hcI : (colN S : Int) ≤ (s.size : Int) := by rw [size_eq, hsd]; omega
  have h2 := fun w => rcolon_any s w (by omega)
  rw [hsd] at h2
  have h3 := fun w => rlower_any (s.extract 0 (colN S)) w (by rw [ByteArray.size_extract]; omega)
  have hx : (s.extract 0 (colN S)).data.toList = S.take (colN S) := by rw [take_mk, hsd]
  rw [hx] at h3
  obtain ⟨t, ht⟩ : ∃ t : ByteArray, (⟨(lower (S.take (colN S))).toArray⟩ : ByteArray) = t := ⟨_, rfl⟩
  have HT : Hid ((⟨(schemeS S).toArray⟩ : ByteArray) = t) := ht
  rw [ht] at h3
  cases hb : colB S
  · have hz : ∀ w, Calls Tryd.prog 26 #[.string s] w fun e w' => e = .returned (.int .i64 (-1)) ∧ w = w' := fun w => by
      have := h2 w
      rw [colZ_not hb] at this
      exact this
    have HE : Hid ((⟨(schemeS S).toArray⟩ : ByteArray) = ⟨#[]⟩) := by
      show _ = _
      unfold schemeS
      rw [(colon_none (by unfold colB at hb; cases hc : colon S with | none => rfl | some n => rw [hc] at hb; cases hb)).1]; rfl
    rw [HE.out]
    clear h2 h3 hx ht hb hsd hs
    go_enter Tryd.func19, Tryd.ntmps19
    go_wp2_with fail
    refine h1.mono ?_
    clear h1
    rintro e w1 ⟨rfl, hb1⟩
    have HB1 := Lib.hid hb1
    clear hb1
    go_wp2_with (go_at_call 26; refine (hz _).mono ?_; rintro e w2 ⟨rfl, rfl⟩)
    go_ret2
    exact ⟨rfl, HB1.out⟩
  · have hz : ∀ w, Calls Tryd.prog 26 #[.string s] w fun e w' => e = .returned (.int .i64 (colN S : Nat)) ∧ w = w' := fun w => by
      have := h2 w
      rw [colZ_is hb] at this
      exact this
    rw [HT.out]
    generalize colN S = n at *
    clear h2 hx ht hb hsd hs
    go_enter Tryd.func19, Tryd.ntmps19
    go_wp2_with fail
    refine h1.mono ?_
    clear h1
    rintro e w1 ⟨rfl, hb1⟩
    have HB1 := Lib.hid hb1
    clear hb1
    go_wp2_with (go_at_call 26; refine (hz _).mono ?_; rintro e w2 ⟨rfl, rfl⟩)
    refine (h3 _).mono ?_
    rintro e w2 ⟨rfl, hb2⟩
    have HB2 : Hid (Below w.heap.size w w2) := HB1.out.trans (hb2.mono HB1.out.size)
    clear hb2
    go_wp2_with fail
    go_ret2
    exact ⟨rfl, HB2.out⟩

end Go.Proofs.YtabagfhnkdhjdaaDoor
