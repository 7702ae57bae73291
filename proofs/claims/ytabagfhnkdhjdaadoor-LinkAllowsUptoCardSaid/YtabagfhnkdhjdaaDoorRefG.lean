/- The reference's Strip. -/
import Derived.Test.YtabagfhnkdhjdaaDoorRefF
set_option linter.unusedVariables false
set_option maxRecDepth 100000
namespace Go.Proofs.YtabagfhnkdhjdaaDoor
open Go.RowKit Go.Lib

theorem trimLB_len (l : List UInt8) : (trimLB l).length ≤ l.length := by
  induction l with
  | nil => simp [trimLB]
  | cons a t ih =>
    unfold trimLB
    split
    · simp; omega
    · simp

def sizeOf' : Value → Nat
  | .string s => s.size
  | _ => 0

theorem take_mk' (s : ByteArray) (n : Nat) : (s.extract 0 n).data.toList = s.data.toList.take n := by rw [take_mk]
theorem drop_mk' (s : ByteArray) (n : Nat) : (s.extract n s.size).data.toList = s.data.toList.drop n := by rw [drop_mk]

set_option maxRecDepth 100000 in
set_option maxHeartbeats 2000000 in
theorem rstrip_any (v : ByteArray) (w : World) (hv : v.size ≤ 500000000) :
    Calls Tryd.prog 25 #[.string v] w fun e w' => e = .returned (.string ⟨(strip v.data.toList).toArray⟩) ∧ Below w.heap.size w w' := by
  have HM := rmend_any v w (by omega)
  have hml := mend_len v.data.toList
  rw [← size_eq] at hml
  have HST := Lib.hid (strip_bytes v.data.toList)
  obtain ⟨M, hM⟩ : ∃ M, mend v.data.toList = M := ⟨_, rfl⟩
  rw [hM] at HM hml HST
  clear hM
  obtain ⟨m, hm⟩ : ∃ m : ByteArray, (⟨M.toArray⟩ : ByteArray) = m := ⟨_, rfl⟩
  have hmd : m.data.toList = M := by rw [← hm]
  have hms : m.size ≤ 2000000000 := by rw [size_eq, hmd]; omega
  rw [hm] at HM
  have HMD := Lib.hid hmd
  clear hm hmd hml
  obtain ⟨i0, hi, hz0, hz1, hz2⟩ := info_parts infoB
  go_enter Tryd.func25, Tryd.ntmps25
  go_wp2_with fail
  refine HM.mono ?_
  clear HM
  rintro e w1 ⟨rfl, hb1⟩
  have HB1 := Lib.hid hb1
  clear hb1
  go_upto_block 0 with fail
  go_cut [0] (fun l wx => (∃ x : ByteArray, l = .string x ∧ x.data.toList = trimLB M ∧ x.size ≤ 2000000000) ∧ wx = w1)
  case first =>
    go_wp2
    go_loop [0] (fun l => ∃ x : ByteArray, l = .string x ∧ trimLB M = trimLB x.data.toList ∧ x.size ≤ 2000000000) (fun l => sizeOf' l)
    case atStart => exact ⟨m, rfl, by rw [HMD.out], hms⟩
    case round =>
      obtain ⟨x, rfl, htr, hxl⟩ := hrel
      have HT := Lib.hid htr
      clear htr
      by_cases h0 : x.size = 0
      · have hn := Lib.hid (nil_of_size x h0)
        have h0i : ¬ (0 : Int) < (x.size : Int) := by omega
        go_wp2_with fail
        go_meet
        case rel => exact ⟨⟨x, rfl, by rw [HT.out, hn.out]; rfl, hxl⟩, rfl⟩
      · have hpos : 0 < x.size := by omega
        have hposI : (0 : Int) < (x.size : Int) := by omega
        have hd := drop_at x 0 hpos
        rw [List.drop_zero] at hd
        have hb := byte_le x[0]
        by_cases hx : (x[0].toNat : Int) ≤ 32
        · have HX : Hid (trimLB x.data.toList = trimLB (x.data.toList.drop 1)) := by
            show _ = _
            conv => lhs; rw [hd]
            exact trimLB_low (by omega)
          clear hd
          have h1I : (1 : Int) ≤ (x.size : Int) := by omega
          go_wp2_with fail
          go_round
          case rel =>
            refine ⟨_, rfl, ?_, ?_⟩
            · rw [drop_mk', HT.out, HX.out]
            · rw [ByteArray.size_extract]; omega
          case measure => simp [sizeOf', ByteArray.size_extract]; omega
        · have HX : Hid (trimLB x.data.toList = x.data.toList) := by
            show _ = _
            rw [hd]
            exact trimLB_high (by omega)
          clear hd
          go_wp2_with fail
          go_meet
          case rel => exact ⟨⟨x, rfl, by rw [HT.out, HX.out], hxl⟩, rfl⟩
  case rest =>
    obtain ⟨⟨y, rfl, hyd, hys⟩, hwx⟩ := hcut
    subst hwx
    have HYD := Lib.hid hyd
    clear hyd
    go_upto_block 2 with fail
    go_cut [0] (fun l wx => (∃ x : ByteArray, l = .string x ∧ x.data.toList = trimRB (trimLB M) ∧ x.size ≤ 2000000000) ∧ wx = wc)
    case first =>
      go_wp2
      go_loop [0] (fun l => ∃ x : ByteArray, l = .string x ∧ trimRB (trimLB M) = trimRB x.data.toList ∧ x.size ≤ 2000000000) (fun l => sizeOf' l)
      case atStart => exact ⟨y, rfl, by rw [HYD.out], hys⟩
      case round =>
        obtain ⟨x, rfl, htr, hxl⟩ := hrel
        have HT := Lib.hid htr
        clear htr
        by_cases h0 : x.size = 0
        · have hn := Lib.hid (nil_of_size x h0)
          have h0i : ¬ (0 : Int) < (x.size : Int) := by omega
          go_wp2_with fail
          go_meet
          case rel => exact ⟨⟨x, rfl, by rw [HT.out, hn.out]; rfl, hxl⟩, rfl⟩
        · obtain ⟨q, hq⟩ : ∃ q, x.size = q + 1 := ⟨x.size - 1, by omega⟩
          have hpos : q < x.size := by omega
          have hposI : (0 : Int) < (x.size : Int) := by omega
          have HTK : Hid (x.data.toList = x.data.toList.take q ++ [x[q]]) := by
            show _ = _
            have h1 := List.take_succ_eq_append_getElem (l := x.data.toList) (i := q) (by rw [← size_eq]; exact hpos)
            rw [List.take_of_length_le (by rw [← size_eq]; omega)] at h1
            exact h1
          have hb := byte_le x[q]
          have e1 : (x.size : Int) - 1 = (q : Int) := by omega
          have HQ := Lib.hid hq
          obtain ⟨b, hbb⟩ : ∃ b, x[q] = b := ⟨_, rfl⟩
          rw [hbb] at HTK hb
          by_cases hx : (b.toNat : Int) ≤ 32
          · have HX : Hid (trimRB x.data.toList = trimRB (x.data.toList.take q)) := by
              show _ = _
              conv => lhs; rw [HTK.out]
              exact trimRB_low _ _ (by omega)
            go_wp2_with fail
            go_round
            case rel => exact ⟨_, rfl, by rw [take_mk', HT.out, HX.out], by rw [ByteArray.size_extract]; omega⟩
            case measure => have := HQ.out; simp [sizeOf', ByteArray.size_extract]; omega
          · have HX : Hid (trimRB x.data.toList = x.data.toList) := by
              show _ = _
              conv => lhs; rw [HTK.out]
              rw [trimRB_high _ _ (by omega)]
              exact HTK.out.symm
            go_wp2_with fail
            go_meet
            case rel => exact ⟨⟨x, rfl, by rw [HT.out, HX.out], hxl⟩, rfl⟩
    case rest =>
      obtain ⟨⟨z, rfl, hzd, hzs⟩, hwx⟩ := hcut
      subst hwx
      have HZD := Lib.hid hzd
      clear hzd HYD
      go_wp2_with fail
      go_loopw [3, 35, 4] (fun v i _ wr => ∃ k : Nat, k ≤ z.size ∧ i = .int .i64 k ∧ wr.ownsRow wc.heap.size 5 1 v ((z.data.toList.take k).filter keepB).length (byteCells ((z.data.toList.take k).filter keepB)) ∧ Below wc.heap.size wc wr) (fun _ i _ _ => z.size - (RowKit.intOf i).toNat)
      case atStart => exact ⟨0, Nat.zero_le _, rfl, World.ownsRow_nil _ _ _ _, Below.refl _ _⟩
      case round =>
        obtain ⟨k, hk, rfl, hown, hbw⟩ := hrel
        have HBW := Lib.hid hbw
        clear hbw
        by_cases hlt : k < z.size
        · have hltI : (k : Int) < (z.size : Int) := by omega
          have HTK : Hid (z.data.toList.take (k + 1) = z.data.toList.take k ++ [z[k]]) := List.take_succ_eq_append_getElem (by rw [← size_eq]; exact hlt)
          obtain ⟨b, hbb⟩ : ∃ b, z[k] = b := ⟨_, rfl⟩
          rw [hbb] at HTK
          have hfl : ((z.data.toList.take k).filter keepB).length ≤ k := Nat.le_trans (List.length_filter_le _ _) (List.length_take_le _ _)
          generalize hfx : (z.data.toList.take k).filter keepB = fx at hown hfl
          have HFX := Lib.hid hfx
          clear hfx
          have hb := byte_le b
          cases hkp : keepB b
          · have hkp2 : b.toNat = 9 ∨ b.toNat = 10 ∨ b.toNat = 13 := by simp [keepB] at hkp; omega
            have HE : Hid ((z.data.toList.take (k + 1)).filter keepB = fx) := by show _ = _; rw [HTK.out, List.filter_append, HFX.out]; simp [hkp]
            clear hkp
            have HOW := Lib.hid hown
            clear hown
            generalize hn : (b.toNat : Int) = n at *
            have hn3 : n = 9 ∨ n = 10 ∨ n = 13 := by omega
            have HBB := Lib.hid hbb
            rcases hn3 with rfl | rfl | rfl
            all_goals
              go_wp2_with fail
              go_roundw
              case rel => exact ⟨k + 1, by omega, by go_num, by rw [HE.out]; exact HOW.out, HBW.out⟩
              case measure => simp [RowKit.intOf]; omega
          · have hkp2 : b.toNat ≠ 9 ∧ b.toNat ≠ 10 ∧ b.toNat ≠ 13 := by simp [keepB] at hkp; omega
            have HE : Hid ((z.data.toList.take (k + 1)).filter keepB = fx ++ [b]) := by show _ = _; rw [HTK.out, List.filter_append, HFX.out]; simp [hkp]
            clear hkp
            have hy9 : ((b.toNat : Int) != 9) = true := by rw [bne_iff_ne]; omega
            have hy10 : ((b.toNat : Int) != 10) = true := by rw [bne_iff_ne]; omega
            have hy13 : ((b.toNat : Int) != 13) = true := by rw [bne_iff_ne]; omega
            have hz9 : ((b.toNat : Int) == 9) = false := beq_eq_false_iff_ne.2 (by omega)
            have hz10 : ((b.toNat : Int) == 10) = false := beq_eq_false_iff_ne.2 (by omega)
            have hz13 : ((b.toNat : Int) == 13) = false := beq_eq_false_iff_ne.2 (by omega)
            clear hkp2
            have hbs := HBW.out.size
            go_wp2_with (at_builtin; refine wpList_append_own _ rfl _ _ 52 rfl wc.heap.size 5 i0 (.int .u8 0) 1 1 Tryd.underlying52 hi hz0 hz1 hz2 rfl (by decide) _ _ _ rfl (hown.alloc _) ⟨wr.heap.size, 0, none⟩ 1 1 [.int .u8 (b.toNat : Nat)] rfl rfl (cell_one_new _ _ _) (by simp [Value.oneCell']) (by unfold maxLen; omega) (by omega) (by simp; omega) ?_; intro v' w4 hown' hgrow _)
            have HOW2 := Lib.hid hown'
            have HB4 : Hid (Below wc.heap.size wc w4) := HBW.out.trans (((Below.refl wc.heap.size wr).alloc hbs _).grown hgrow (by simp; omega) (fun j ej => (hown.lt j ej).1))
            clear hown' hgrow hown
            go_wp2
            go_roundw
            case rel =>
              refine ⟨k + 1, by omega, by go_num, ?_, HB4.out⟩
              rw [HE.out, List.length_append]
              simpa [byteCells] using HOW2.out
            case measure => simp [RowKit.intOf]; omega
        · obtain rfl : k = z.size := by omega
          have HE : Hid ((z.data.toList.take z.size).filter keepB = strip v.data.toList) := by show _ = _; rw [List.take_of_length_le (by rw [← size_eq]; exact Nat.le_refl _), HZD.out, HST.out]
          rw [HE.out] at hown
          have hback2 := bytes_string (P := Tryd.prog) wr 52 9 5 _ _ (strip v.data.toList) Tryd.underlying52 Tryd.underlying5 Tryd.underlying9 hown
          clear hown
          go_wp2
          go_ret
          exact ⟨rfl, HB1.out.trans (HBW.out.mono HB1.out.size)⟩

end Go.Proofs.YtabagfhnkdhjdaaDoor
