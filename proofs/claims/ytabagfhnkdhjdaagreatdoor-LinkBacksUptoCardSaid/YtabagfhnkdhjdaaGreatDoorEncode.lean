/- link.coded, link.Encode: with percent escapes. -/
import Derived.Test.YtabagfhnkdhjdaaGreatDoorBuilder
import Derived.Test.YtabagfhnkdhjdaaGreatDoorSplitP
set_option linter.unusedVariables false
set_option maxRecDepth 100000
namespace Go.Proofs.YtabagfhnkdhjdaaGreatDoor
open Go.RowKit Go.Lib

def hexB (c : UInt8) : Bool := hexZ (c.toNat : Int)
/-- Do two hexadecimal digits stand at the beginning? -/
def coded2 : List UInt8 → Bool
  | x :: y :: _ => hexB x && hexB y
  | _ => false

set_option maxHeartbeats 1000000 in
theorem coded_any (s : ByteArray) (k : Nat) (w : World) (hs : s.size ≤ 140737488355328) (hk : k < s.size) :
    Calls Tryz.prog 66 #[.string s, .int .i64 k] w fun e w' => e = .returned (.bool (coded2 (s.data.toList.drop (k + 1)))) ∧ w = w' := by
  by_cases h : k + 2 < s.size
  · have hI : (k : Int) + 2 < (s.size : Int) := by omega
    have hkI : (k : Int) + 1 < (s.size : Int) := by omega
    have hb1 := byte_le s[k + 1]
    have hb2 := byte_le s[k + 2]
    have c1 := hex_any (s[k + 1].toNat : Int) w
    have c2 := hex_any (s[k + 2].toNat : Int) w
    have e1 : coded2 (s.data.toList.drop (k + 1)) = (hexB s[k + 1] && hexB s[k + 2]) := by
      rw [drop_at s (k + 1) (by omega), drop_at s (k + 1 + 1) (by omega)]
      rfl
    have E1 := Lib.hid e1
    clear e1
    cases h1 : hexB s[k + 1]
    · have h1' : hexZ (s[k + 1].toNat : Int) = false := h1
      rw [h1'] at c1
      have H1 := Lib.hid h1
      clear h1 h1'
      go_enter Tryz.func66, Tryz.ntmps66
      go_wp2_with fail
      refine c1.mono ?_
      clear c1
      rintro e w' ⟨rfl, rfl⟩
      go_wp2_with fail
      go_ret
      exact ⟨by rw [E1.out, H1.out]; rfl, rfl⟩
    · have h1' : hexZ (s[k + 1].toNat : Int) = true := h1
      rw [h1'] at c1
      have H1 := Lib.hid h1
      clear h1 h1'
      go_enter Tryz.func66, Tryz.ntmps66
      go_wp2_with fail
      refine c1.mono ?_
      clear c1
      rintro e w' ⟨rfl, rfl⟩
      go_wp2_with fail
      refine c2.mono ?_
      clear c2
      rintro e w' ⟨rfl, rfl⟩
      go_wp2_with fail
      go_ret
      exact ⟨by rw [E1.out, H1.out]; rfl, rfl⟩
  · have hI : ¬ (k : Int) + 2 < (s.size : Int) := by omega
    have e1 : coded2 (s.data.toList.drop (k + 1)) = false := by
      by_cases h2 : k + 1 < s.size
      · rw [drop_at s (k + 1) h2, drop_end s (k + 1 + 1) (by omega)]; rfl
      · rw [drop_end s (k + 1) (by omega)]; rfl
    have E1 := Lib.hid e1
    clear e1
    go_enter Tryz.func66, Tryz.ntmps66
    go_wp2_with fail
    go_ret
    exact ⟨by rw [E1.out]; rfl, rfl⟩

def hexDigits : List UInt8 := [48, 49, 50, 51, 52, 53, 54, 55, 56, 57, 65, 66, 67, 68, 69, 70]
def hexd (n : Nat) : UInt8 := hexDigits.getD n 0
def escSpec : List UInt8 := [34, 60, 62, 92, 94, 96, 123, 124, 125]
def badB (c : UInt8) (rest : List UInt8) : Bool := decide (c.toNat ≤ 32) || decide (127 ≤ c.toNat) || escSpec.contains c || (decide (c.toNat = 37) && !coded2 rest)
def esc (c : UInt8) : List UInt8 := [37, hexd (c.toNat / 16), hexd (c.toNat % 16)]
def encodeF : List UInt8 → List UInt8
  | [] => []
  | c :: t => (if badB c t then esc c else [c]) ++ encodeF t
def encode (l : List UInt8) : List UInt8 := encodeF (mend l)

theorem encodeF_len : ∀ l : List UInt8, (encodeF l).length ≤ 3 * l.length
  | [] => by simp [encodeF]
  | c :: t => by
    have := encodeF_len t
    unfold encodeF
    split
    · simp [esc]; omega
    · simp; omega

theorem hexd_eq (n : Nat) (h : n < (⟨#[48, 49, 50, 51, 52, 53, 54, 55, 56, 57, 65, 66, 67, 68, 69, 70]⟩ : ByteArray).size) : hexd n = (⟨#[48, 49, 50, 51, 52, 53, 54, 55, 56, 57, 65, 66, 67, 68, 69, 70]⟩ : ByteArray)[n] := by
  unfold hexd
  have h2 : n < hexDigits.length := h
  rw [List.getD_eq_getElem?_getD, List.getElem?_eq_getElem h2]
  rfl

theorem byteCells_esc (out : List UInt8) (c : UInt8) (h1 : c.toNat / 16 < (⟨#[48, 49, 50, 51, 52, 53, 54, 55, 56, 57, 65, 66, 67, 68, 69, 70]⟩ : ByteArray).size) (h2 : c.toNat % 16 < (⟨#[48, 49, 50, 51, 52, 53, 54, 55, 56, 57, 65, 66, 67, 68, 69, 70]⟩ : ByteArray).size) :
    byteCells (out ++ esc c) = byteCells out ++ [.int .u8 37] ++ [.int .u8 ((⟨#[48, 49, 50, 51, 52, 53, 54, 55, 56, 57, 65, 66, 67, 68, 69, 70]⟩ : ByteArray)[c.toNat / 16].toNat : Nat)] ++ [.int .u8 ((⟨#[48, 49, 50, 51, 52, 53, 54, 55, 56, 57, 65, 66, 67, 68, 69, 70]⟩ : ByteArray)[c.toNat % 16].toNat : Nat)] := by
  rw [← hexd_eq _ h1, ← hexd_eq _ h2]
  simp [byteCells, esc]

set_option maxRecDepth 100000 in
set_option maxHeartbeats 4000000 in
theorem encode_any (v : ByteArray) (w : World) (hv : v.size ≤ 500000000) :
    Calls Tryz.prog 51 #[.string v] w fun e w' => e = .returned (.string ⟨(encode v.data.toList).toArray⟩) ∧ Below w.heap.size w w' := by
  have h1 := mend_any v w (by omega)
  have hl := mend_len v.data.toList
  rw [← size_eq] at hl
  obtain ⟨S, hS⟩ : ∃ S, mend v.data.toList = S := ⟨_, rfl⟩
  have HE : Hid (encode v.data.toList = encodeF S) := by show _ = _; unfold encode; rw [hS]
  rw [hS] at h1 hl
  clear hS
  obtain ⟨s, hs⟩ : ∃ s : ByteArray, (⟨S.toArray⟩ : ByteArray) = s := ⟨_, rfl⟩
  have hsd : s.data.toList = S := by rw [← hs]
  have hss : s.size ≤ 2000000000 := by rw [size_eq, hsd]; omega
  rw [hs] at h1
  have HSD := Lib.hid hsd
  clear hs hsd hl
  go_enter Tryz.func51, Tryz.ntmps51
  go_wp2_with fail
  refine h1.mono ?_
  clear h1
  rintro e w1 ⟨rfl, hb1⟩
  obtain ⟨b, hb⟩ : ∃ b, w1.heap.size = b := ⟨_, rfl⟩
  have hfr := Lib.fresh_isBuilder 90 5 w1
  rw [hb] at hfr
  have hwb := hb1.size
  rw [hb] at hwb
  have HB0 : Hid (Below w.heap.size w (w1.alloc (.cells #[.pointer none, .slice none 0 0] 90))) := hb1.alloc hb1.size _
  have HF := Lib.hid hfr
  have HBN := Lib.hid hb
  clear hb1 hfr
  go_wp2_with fail
  go_loopw [10, 4, 5] (fun i _ _ wr => ∃ (k : Nat) (out : List UInt8), k ≤ s.size ∧ i = .int .i64 k ∧ out ++ encodeF (s.data.toList.drop k) = encodeF S ∧ Lib.IsBuilder 90 5 b b (byteCells out) wr ∧ Below w.heap.size w wr ∧ b ≤ wr.heap.size) (fun i _ _ _ => s.size - (RowKit.intOf i).toNat)
  case atStart => exact ⟨0, [], Nat.zero_le _, rfl, by rw [List.drop_zero, HSD.out]; rfl, HF.out, HB0.out, by simp; have := HBN.out; omega⟩
  case round =>
    obtain ⟨k, out, hk, rfl, hout, hbd, hbw, hbs⟩ := hrel
    have HO := Lib.hid hout
    have HBD := Lib.hid hbd
    have HBW := Lib.hid hbw
    have HBS := Lib.hid hbs
    clear hout hbd hbw hbs HF HB0
    by_cases hlt : k < s.size
    · have HOL : Hid (out.length + 3 ≤ 140737488355328) := by
        show _ ≤ _
        have h1 := congrArg List.length HO.out
        have h2 := encodeF_len S
        have h3 := HSD.out
        rw [List.length_append] at h1
        have h4 : S.length ≤ 2000000000 := by rw [← h3, ← size_eq]; exact hss
        omega
      have HD := Lib.hid (drop_at s k hlt)
      have hbc := byte_le s[k]
      have hcd := fun w => coded_any s k w (by omega) hlt
      obtain ⟨c, hc⟩ : ∃ c, s[k] = c := ⟨_, rfl⟩
      rw [hc] at HD hbc
      obtain ⟨cd, hcdv⟩ : ∃ cd, coded2 (s.data.toList.drop (k + 1)) = cd := ⟨_, rfl⟩
      rw [hcdv] at hcd
      have HCD := Lib.hid hcdv
      have hix := fun w => Tryz.strings_IndexByte ⟨#[34, 60, 62, 92, 94, 96, 123, 124, 125]⟩ (c.toNat : Nat) w
      rw [Lib.byte_back' c] at hix
      have hcon := Lib.contains_iff_indexByte escSpec c
      obtain ⟨ix, hixv⟩ : ∃ ix, Lib.indexByte escSpec c = ix := ⟨_, rfl⟩
      have hix2 : ∀ w, Calls Tryz.prog 73 #[.string ⟨#[34, 60, 62, 92, 94, 96, 123, 124, 125]⟩, .int .u8 (c.toNat : Nat)] w fun e w' => e = .returned (.int .i64 ix) ∧ w' = w := by
        rw [← hixv]; exact hix
      rw [hixv] at hcon
      have HCON := Lib.hid hcon
      clear hix hcon hixv hcdv
      by_cases hA : (c.toNat : Int) ≤ 32
      · have HBAD : Hid (badB c (s.data.toList.drop (k + 1)) = true) := by
          show _ = _; unfold badB; rw [decide_eq_true (show c.toNat ≤ 32 by omega)]; rfl
        clear hcd hix2
        go_wp2_with fail
        refine (writeByte_any b b (byteCells out) 37 wr HBD.out (by rw [byteCells_len]; have := HOL.out; omega) HBS.out).mono ?_
        rintro e w2 ⟨rfl, hbd2, hb2⟩
        have HBD2 := Lib.hid hbd2
        have HB2 := Lib.hid hb2
        clear hbd2 hb2
        go_wp2_with fail
        refine (writeByte_any b b (byteCells out ++ [.int .u8 37]) _ w2 HBD2.out (by rw [List.length_append, byteCells_len]; have := HOL.out; simp; omega) (Nat.le_trans HBS.out HB2.out.size)).mono ?_
        rintro e w3 ⟨rfl, hbd3, hb3⟩
        have HBD3 := Lib.hid hbd3
        have HB3 := Lib.hid hb3
        clear hbd3 hb3
        go_wp2_with fail
        refine (writeByte_any b b _ _ w3 HBD3.out (by rw [List.length_append, List.length_append, byteCells_len]; have := HOL.out; simp; omega) (Nat.le_trans HBS.out (Nat.le_trans HB2.out.size HB3.out.size))).mono ?_
        rintro e w4 ⟨rfl, hbd4, hb4⟩
        have HBD4 := Lib.hid hbd4
        have HB4 := Lib.hid hb4
        clear hbd4 hb4
        go_wp2_with fail
        go_roundw
        case rel =>
          refine ⟨k + 1, out ++ esc c, by omega, by go_num, ?_, ?_, HBW.out.trans (((HB2.out.trans HB3.out).trans HB4.out).mono (by omega)), Nat.le_trans HBS.out (Nat.le_trans HB2.out.size (Nat.le_trans HB3.out.size HB4.out.size))⟩
          · rw [← HO.out, HD.out, encodeF, HBAD.out, List.append_assoc]; rfl
          · have hc := c.toNat_lt
            rw [byteCells_esc out c (by show _ < 16; omega) (by show _ < 16; omega)]; exact HBD4.out
        case measure => simp [RowKit.intOf]; omega
      · by_cases hB : 127 ≤ (c.toNat : Int)
        · have HBAD : Hid (badB c (s.data.toList.drop (k + 1)) = true) := by
            show _ = _; unfold badB; rw [decide_eq_true (show 127 ≤ c.toNat by omega)]; simp
          clear hcd hix2
          go_wp2_with fail
          refine (writeByte_any b b (byteCells out) 37 wr HBD.out (by rw [byteCells_len]; have := HOL.out; omega) HBS.out).mono ?_
          rintro e w2 ⟨rfl, hbd2, hb2⟩
          have HBD2 := Lib.hid hbd2
          have HB2 := Lib.hid hb2
          clear hbd2 hb2
          go_wp2_with fail
          refine (writeByte_any b b (byteCells out ++ [.int .u8 37]) _ w2 HBD2.out (by rw [List.length_append, byteCells_len]; have := HOL.out; simp; omega) (Nat.le_trans HBS.out HB2.out.size)).mono ?_
          rintro e w3 ⟨rfl, hbd3, hb3⟩
          have HBD3 := Lib.hid hbd3
          have HB3 := Lib.hid hb3
          clear hbd3 hb3
          go_wp2_with fail
          refine (writeByte_any b b _ _ w3 HBD3.out (by rw [List.length_append, List.length_append, byteCells_len]; have := HOL.out; simp; omega) (Nat.le_trans HBS.out (Nat.le_trans HB2.out.size HB3.out.size))).mono ?_
          rintro e w4 ⟨rfl, hbd4, hb4⟩
          have HBD4 := Lib.hid hbd4
          have HB4 := Lib.hid hb4
          clear hbd4 hb4
          go_wp2_with fail
          go_roundw
          case rel =>
            refine ⟨k + 1, out ++ esc c, by omega, by go_num, ?_, ?_, HBW.out.trans (((HB2.out.trans HB3.out).trans HB4.out).mono (by omega)), Nat.le_trans HBS.out (Nat.le_trans HB2.out.size (Nat.le_trans HB3.out.size HB4.out.size))⟩
            · rw [← HO.out, HD.out, encodeF, HBAD.out, List.append_assoc]; rfl
            · have hc := c.toNat_lt
              rw [byteCells_esc out c (by show _ < 16; omega) (by show _ < 16; omega)]; exact HBD4.out
          case measure => simp [RowKit.intOf]; omega
        · by_cases hC : 0 ≤ ix
          · have HBAD : Hid (badB c (s.data.toList.drop (k + 1)) = true) := by
              show _ = _; unfold badB; rw [HCON.out, decide_eq_true hC]; simp
            clear hcd
            go_wp2_with fail
            refine (hix2 _).mono ?_
            clear hix2
            rintro e wz ⟨rfl, hwz⟩
            obtain rfl := hwz.symm
            clear hwz
            go_wp2_with fail
            refine (writeByte_any b b (byteCells out) 37 wr HBD.out (by rw [byteCells_len]; have := HOL.out; omega) HBS.out).mono ?_
            rintro e w2 ⟨rfl, hbd2, hb2⟩
            have HBD2 := Lib.hid hbd2
            have HB2 := Lib.hid hb2
            clear hbd2 hb2
            go_wp2_with fail
            refine (writeByte_any b b (byteCells out ++ [.int .u8 37]) _ w2 HBD2.out (by rw [List.length_append, byteCells_len]; have := HOL.out; simp; omega) (Nat.le_trans HBS.out HB2.out.size)).mono ?_
            rintro e w3 ⟨rfl, hbd3, hb3⟩
            have HBD3 := Lib.hid hbd3
            have HB3 := Lib.hid hb3
            clear hbd3 hb3
            go_wp2_with fail
            refine (writeByte_any b b _ _ w3 HBD3.out (by rw [List.length_append, List.length_append, byteCells_len]; have := HOL.out; simp; omega) (Nat.le_trans HBS.out (Nat.le_trans HB2.out.size HB3.out.size))).mono ?_
            rintro e w4 ⟨rfl, hbd4, hb4⟩
            have HBD4 := Lib.hid hbd4
            have HB4 := Lib.hid hb4
            clear hbd4 hb4
            go_wp2_with fail
            go_roundw
            case rel =>
              refine ⟨k + 1, out ++ esc c, by omega, by go_num, ?_, ?_, HBW.out.trans (((HB2.out.trans HB3.out).trans HB4.out).mono (by omega)), Nat.le_trans HBS.out (Nat.le_trans HB2.out.size (Nat.le_trans HB3.out.size HB4.out.size))⟩
              · rw [← HO.out, HD.out, encodeF, HBAD.out, List.append_assoc]; rfl
              · have hc := c.toNat_lt
                rw [byteCells_esc out c (by show _ < 16; omega) (by show _ < 16; omega)]; exact HBD4.out
            case measure => simp [RowKit.intOf]; omega
          · by_cases hD : (c.toNat : Int) = 37
            · have hDb : ((c.toNat : Int) == 37) = true := beq_iff_eq.2 hD
              have HDD := Lib.hid hD
              clear hD
              cases cd
              · have HBAD : Hid (badB c (s.data.toList.drop (k + 1)) = true) := by
                  show _ = _; unfold badB; rw [HCD.out, decide_eq_true (show c.toNat = 37 by have := HDD.out; omega)]; simp
                go_wp2_with fail
                refine (hix2 _).mono ?_
                clear hix2
                rintro e wz ⟨rfl, hwz⟩
                obtain rfl := hwz.symm
                clear hwz
                go_wp2_with fail
                refine (hcd _).mono ?_
                clear hcd
                rintro e wz ⟨rfl, rfl⟩
                go_wp2_with fail
                refine (writeByte_any b b (byteCells out) 37 wr HBD.out (by rw [byteCells_len]; have := HOL.out; omega) HBS.out).mono ?_
                rintro e w2 ⟨rfl, hbd2, hb2⟩
                have HBD2 := Lib.hid hbd2
                have HB2 := Lib.hid hb2
                clear hbd2 hb2
                go_wp2_with fail
                refine (writeByte_any b b (byteCells out ++ [.int .u8 37]) _ w2 HBD2.out (by rw [List.length_append, byteCells_len]; have := HOL.out; simp; omega) (Nat.le_trans HBS.out HB2.out.size)).mono ?_
                rintro e w3 ⟨rfl, hbd3, hb3⟩
                have HBD3 := Lib.hid hbd3
                have HB3 := Lib.hid hb3
                clear hbd3 hb3
                go_wp2_with fail
                refine (writeByte_any b b _ _ w3 HBD3.out (by rw [List.length_append, List.length_append, byteCells_len]; have := HOL.out; simp; omega) (Nat.le_trans HBS.out (Nat.le_trans HB2.out.size HB3.out.size))).mono ?_
                rintro e w4 ⟨rfl, hbd4, hb4⟩
                have HBD4 := Lib.hid hbd4
                have HB4 := Lib.hid hb4
                clear hbd4 hb4
                go_wp2_with fail
                go_roundw
                case rel =>
                  refine ⟨k + 1, out ++ esc c, by omega, by go_num, ?_, ?_, HBW.out.trans (((HB2.out.trans HB3.out).trans HB4.out).mono (by omega)), Nat.le_trans HBS.out (Nat.le_trans HB2.out.size (Nat.le_trans HB3.out.size HB4.out.size))⟩
                  · rw [← HO.out, HD.out, encodeF, HBAD.out, List.append_assoc]; rfl
                  · have hc := c.toNat_lt
                    rw [byteCells_esc out c (by show _ < 16; omega) (by show _ < 16; omega)]; exact HBD4.out
                case measure => simp [RowKit.intOf]; omega
              · have HBAD : Hid (badB c (s.data.toList.drop (k + 1)) = false) := by
                  show _ = _; unfold badB; rw [HCD.out, HCON.out, decide_eq_false hC, decide_eq_false (show ¬ c.toNat ≤ 32 by omega), decide_eq_false (show ¬ 127 ≤ c.toNat by omega)]; simp
                go_wp2_with fail
                refine (hix2 _).mono ?_
                clear hix2
                rintro e wz ⟨rfl, hwz⟩
                obtain rfl := hwz.symm
                clear hwz
                go_wp2_with fail
                refine (hcd _).mono ?_
                clear hcd
                rintro e wz ⟨rfl, rfl⟩
                go_wp2_with fail
                refine (writeByte_any b b (byteCells out) (c.toNat : Nat) wr HBD.out (by rw [byteCells_len]; have := HOL.out; omega) HBS.out).mono ?_
                rintro e w2 ⟨rfl, hbd2, hb2⟩
                have HBD2 := Lib.hid hbd2
                have HB2 := Lib.hid hb2
                clear hbd2 hb2
                go_wp2_with fail
                go_roundw
                case rel =>
                  refine ⟨k + 1, out ++ [c], by omega, by go_num, ?_, ?_, HBW.out.trans (HB2.out.mono (by omega)), Nat.le_trans HBS.out HB2.out.size⟩
                  · rw [← HO.out, HD.out, encodeF, HBAD.out, List.append_assoc]; rfl
                  · have : byteCells (out ++ [c]) = byteCells out ++ [.int .u8 (c.toNat : Nat)] := by simp [byteCells]
                    rw [this]; exact HBD2.out
                case measure => simp [RowKit.intOf]; omega
            · have hDb : ((c.toNat : Int) == 37) = false := beq_eq_false_iff_ne.2 hD
              have HDD := Lib.hid hD
              clear hD
              have HBAD : Hid (badB c (s.data.toList.drop (k + 1)) = false) := by
                show _ = _; unfold badB; rw [HCON.out, decide_eq_false hC, decide_eq_false (show ¬ c.toNat ≤ 32 by omega), decide_eq_false (show ¬ 127 ≤ c.toNat by omega), decide_eq_false (show ¬ c.toNat = 37 by have := HDD.out; omega)]; simp
              clear hcd
              go_wp2_with fail
              refine (hix2 _).mono ?_
              clear hix2
              rintro e wz ⟨rfl, hwz⟩
              obtain rfl := hwz.symm
              clear hwz
              go_wp2_with fail
              refine (writeByte_any b b (byteCells out) (c.toNat : Nat) wr HBD.out (by rw [byteCells_len]; have := HOL.out; omega) HBS.out).mono ?_
              rintro e w2 ⟨rfl, hbd2, hb2⟩
              have HBD2 := Lib.hid hbd2
              have HB2 := Lib.hid hb2
              clear hbd2 hb2
              go_wp2_with fail
              go_roundw
              case rel =>
                refine ⟨k + 1, out ++ [c], by omega, by go_num, ?_, ?_, HBW.out.trans (HB2.out.mono (by omega)), Nat.le_trans HBS.out HB2.out.size⟩
                · rw [← HO.out, HD.out, encodeF, HBAD.out, List.append_assoc]; rfl
                · have : byteCells (out ++ [c]) = byteCells out ++ [.int .u8 (c.toNat : Nat)] := by simp [byteCells]
                  rw [this]; exact HBD2.out
              case measure => simp [RowKit.intOf]; omega
    · obtain rfl : k = s.size := by omega
      have hend : out = encodeF S := by
        have := HO.out
        rw [drop_end s s.size (Nat.le_refl _)] at this
        simpa [encodeF] using this
      subst hend
      have hst := Tryz.Builder_String_any b b (encodeF S) wr HBD.out HBS.out
      go_wp2_with fail
      refine hst.mono ?_
      clear hst
      rintro e w9 ⟨rfl, hb9⟩
      have HB9 := Lib.hid hb9
      clear hb9
      go_wp2_with fail
      go_ret
      exact ⟨by rw [HE.out]; rfl, HBW.out.trans (HB9.out.mono (by omega))⟩
end Go.Proofs.YtabagfhnkdhjdaaGreatDoor
