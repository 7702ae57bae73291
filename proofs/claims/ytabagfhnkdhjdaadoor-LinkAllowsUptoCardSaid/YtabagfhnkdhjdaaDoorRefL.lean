/- The reference's Encode. -/
import Derived.Test.YtabagfhnkdhjdaaDoorRefK
import Derived.Test.YtabagfhnkdhjdaaDoorRefG
import Derived.Test.YtabagfhnkdhjdaaDoorTidyP
import Derived.Deep.DeepCutAuto
import Derived.Lib.SmallJoins
set_option linter.unusedVariables false
set_option maxRecDepth 100000
namespace Go.Proofs.YtabagfhnkdhjdaaDoor
open Go.RowKit Go.Lib

/-- Bad already ahead of the nine bytes. -/
def bad0 (c : UInt8) (rest : List UInt8) : Bool := decide (c.toNat ≤ 32) || decide (127 ≤ c.toNat) || (decide (c.toNat = 37) && !coded2 rest)
theorem badB_eq (c : UInt8) (rest : List UInt8) : badB c rest = (bad0 c rest || escSpec.contains c) := by
  unfold badB bad0
  cases decide (c.toNat ≤ 32) <;> cases decide (127 ≤ c.toNat) <;> cases escSpec.contains c <;> simp

theorem hexd_ext (n : Nat) (h : n < 16) : (⟨#[48, 49, 50, 51, 52, 53, 54, 55, 56, 57, 65, 66, 67, 68, 69, 70]⟩ : ByteArray).extract n (n + 1) = ⟨#[hexd n]⟩ := by
  rw [extract_eq, show n + 1 - n = 1 by omega]
  match n, h with
  | 0, _ => rfl | 1, _ => rfl | 2, _ => rfl | 3, _ => rfl | 4, _ => rfl | 5, _ => rfl | 6, _ => rfl | 7, _ => rfl
  | 8, _ => rfl | 9, _ => rfl | 10, _ => rfl | 11, _ => rfl | 12, _ => rfl | 13, _ => rfl | 14, _ => rfl | 15, _ => rfl
  | n + 16, h => exact absurd h (by omega)
theorem contains_snoc (l : List UInt8) (x c : UInt8) : (l ++ [x]).contains c = (l.contains c || (c == x)) := by
  rw [Bool.eq_iff_iff]
  simp
set_option maxHeartbeats 8000000 in
theorem rencode_any (v : ByteArray) (w : World) (hv : v.size ≤ 500000000) :
    Calls Tryd.prog 29 #[.string v] w fun e w' => e = .returned (.string ⟨(encode v.data.toList).toArray⟩) ∧ Below w.heap.size w w' := by
  have h1 := rmend_any v w (by omega)
  have hl := mend_len v.data.toList
  rw [← size_eq] at hl
  obtain ⟨S, hS⟩ : ∃ S, mend v.data.toList = S := ⟨_, rfl⟩
  have HE : Hid (encode v.data.toList = encodeF S) := by show _ = _; unfold encode; rw [hS]
  rw [hS] at h1 hl
  clear hS
  obtain ⟨s, hs⟩ : ∃ s : ByteArray, (⟨S.toArray⟩ : ByteArray) = s := ⟨_, rfl⟩
  have hsd : s.data.toList = S := by rw [← hs]
  have hss : s.size ≤ 2000000000 := by rw [size_eq, hsd]; omega
  rw [hs] at h1
  have HSD := Lib.hid hsd
  clear hs hsd hl
  go_enter Tryd.func29, Tryd.ntmps29
  go_wp2_with fail
  refine h1.mono ?_
  clear h1
  rintro e w1 ⟨rfl, hb1⟩
  have HB1 := Lib.hid hb1
  clear hb1
  go_wp2_with fail
  go_loopw [13, 3, 4, 5, 6, 8] (fun i o _ _ _ _ wr => ∃ (k : Nat) (out : ByteArray), k ≤ s.size ∧ i = .int .i64 k ∧ o = .string out ∧ out.data.toList ++ encodeF (s.data.toList.drop k) = encodeF S ∧ Below w.heap.size w wr) (fun i _ _ _ _ _ _ => s.size - (RowKit.intOf i).toNat)
  case atStart => exact ⟨0, ⟨#[]⟩, Nat.zero_le _, rfl, rfl, by rw [List.drop_zero, HSD.out]; rfl, HB1.out⟩
  case round =>
    obtain ⟨k, out, hk, rfl, rfl, hout, hbw⟩ := hrel
    have HO := Lib.hid hout
    have HBW := Lib.hid hbw
    clear hout hbw
    have hos : out.size ≤ 6000000000 := by
      have h1 := congrArg List.length HO.out
      have h2 := encodeF_len S
      have h3 := HSD.out
      rw [List.length_append, ← size_eq] at h1
      have h4 : S.length ≤ 2000000000 := by rw [← h3, ← size_eq]; exact hss
      omega
    by_cases hlt : k < s.size
    · have hltI : (k : Int) < (s.size : Int) := by omega
      have HD := Lib.hid (drop_at s k hlt)
      have hbc := byte_le s[k]
      have hcd := fun w => hexes_any s k w (by omega) hlt
      obtain ⟨c, hc⟩ : ∃ c, s[k] = c := ⟨_, rfl⟩
      rw [hc] at HD hbc
      obtain ⟨cd, hcdv⟩ : ∃ cd, coded2 (s.data.toList.drop (k + 1)) = cd := ⟨_, rfl⟩
      rw [hcdv] at hcd
      have HB0 : Hid (bad0 c (s.data.toList.drop (k + 1)) = (decide (c.toNat ≤ 32) || decide (127 ≤ c.toNat) || (decide (c.toNat = 37) && !cd))) := by show _ = _; unfold bad0; rw [hcdv]
      obtain ⟨b0, hb0⟩ : ∃ b, bad0 c (s.data.toList.drop (k + 1)) = b := ⟨_, rfl⟩
      have HBB := Lib.hid hb0
      clear hb0 hcdv
      go_upto_region 7 with fail
      go_cut [6] (fun b wx => b = .bool b0 ∧ wx = wr)
      case first =>
        by_cases hA : (c.toNat : Int) ≤ 32
        · have hb : b0 = true := by rw [← HBB.out, HB0.out, decide_eq_true (show c.toNat ≤ 32 by omega)]; rfl
          go_wp2_with fail
          go_meet
          case rel => exact ⟨by rw [hb], rfl⟩
        · by_cases hB : 127 ≤ (c.toNat : Int)
          · have hb : b0 = true := by rw [← HBB.out, HB0.out, decide_eq_true (show 127 ≤ c.toNat by omega)]; simp
            go_wp2_with fail
            go_meet
            case rel => exact ⟨by rw [hb], rfl⟩
          · cases hq : ((c.toNat : Int) == 37)
            · have hb : b0 = false := by
                rw [beq_eq_false_iff_ne] at hq
                rw [← HBB.out, HB0.out, decide_eq_false (show ¬ c.toNat ≤ 32 by omega), decide_eq_false (show ¬ 127 ≤ c.toNat by omega), decide_eq_false (show ¬ c.toNat = 37 by omega)]; rfl
              go_wp2_with fail
              go_meet
              case rel => exact ⟨by rw [hb], rfl⟩
            · have hb : b0 = !cd := by
                rw [beq_iff_eq] at hq
                rw [← HBB.out, HB0.out, decide_eq_false (show ¬ c.toNat ≤ 32 by omega), decide_eq_false (show ¬ 127 ≤ c.toNat by omega), decide_eq_true (show c.toNat = 37 by omega)]; rfl
              have HQ := Lib.hid hb
              clear hb
              go_wp2_with (go_at_call 47; refine (hcd _).mono ?_; rintro e w' ⟨rfl, rfl⟩)
              go_meet
              case rel => exact ⟨by rw [HQ.out], rfl⟩
      case rest =>
        obtain ⟨rfl, rfl⟩ := hcut
        have hcv : (convert 52 52 (.slice (some ⟨wc.heap.size, 0, none⟩) 9 9)).run Tryd.prog (wc.alloc (.cells #[.int .u8 34, .int .u8 60, .int .u8 62, .int .u8 92, .int .u8 94, .int .u8 96, .int .u8 123, .int .u8 124, .int .u8 125] 5)) = .ok (.slice (some ⟨wc.heap.size, 0, none⟩) 9 9) (wc.alloc (.cells #[.int .u8 34, .int .u8 60, .int .u8 62, .int .u8 92, .int .u8 94, .int .u8 96, .int .u8 123, .int .u8 124, .int .u8 125] 5 (9, 10))) := Go.Joins.run_convert_bytes_const_at (P := Tryd.prog) wc 52 5 #[.int .u8 34, .int .u8 60, .int .u8 62, .int .u8 92, .int .u8 94, .int .u8 96, .int .u8 123, .int .u8 124, .int .u8 125] 9 9 wc.heap.size rfl Tryd.underlying52 Tryd.underlying5
        have hcells : ∀ (j : Nat) (x : UInt8), escSpec[j]? = some x → (wc.alloc (.cells #[.int .u8 34, .int .u8 60, .int .u8 62, .int .u8 92, .int .u8 94, .int .u8 96, .int .u8 123, .int .u8 124, .int .u8 125] 5 (9, 10))).cell? ⟨wc.heap.size, j, none⟩ = some (.int .u8 (x.toNat : Nat)) := fun j x hx => by
          rw [World.cell?_alloc_mark, ← Array.getElem?_toList]
          have e : (#[.int .u8 34, .int .u8 60, .int .u8 62, .int .u8 92, .int .u8 94, .int .u8 96, .int .u8 123, .int .u8 124, .int .u8 125] : Array Value).toList = byteCells escSpec := rfl
          rw [e]; exact byteCells_at hx
        have hbw1 := HBW.out.alloc HBW.out.size (.cells #[.int .u8 34, .int .u8 60, .int .u8 62, .int .u8 92, .int .u8 94, .int .u8 96, .int .u8 123, .int .u8 124, .int .u8 125] 5 (9, 10))
        go_wp2_with fail
        clear hcv
        obtain ⟨w2, hw2⟩ : ∃ w2, wc.alloc (.cells #[.int .u8 34, .int .u8 60, .int .u8 62, .int .u8 92, .int .u8 94, .int .u8 96, .int .u8 123, .int .u8 124, .int .u8 125] 5 (9, 10)) = w2 := ⟨_, rfl⟩
        obtain ⟨B, hB⟩ : ∃ B, wc.heap.size = B := ⟨_, rfl⟩
        rw [hw2] at hcells hbw1 ⊢
        rw [hB] at hcells ⊢
        have HR := Lib.hid hcells
        have HBW1 := Lib.hid hbw1
        clear hcells hbw1 hw2 hB
        go_loop [38, 6, 8] (fun i b _ => ∃ j : Nat, j ≤ 9 ∧ i = .int .i64 j ∧ b = .bool (b0 || (escSpec.take j).contains c)) (fun i _ _ => 9 - (RowKit.intOf i).toNat)
        case atStart => exact ⟨0, Nat.zero_le _, rfl, by simp⟩
        case round =>
          obtain ⟨j, hj, rfl, rfl⟩ := hrel
          by_cases hj9 : j < 9
          · have hj9I : (j : Int) < 9 := by omega
            obtain ⟨x, hx⟩ : ∃ x, escSpec[j]? = some x := ⟨_, List.getElem?_eq_getElem (by simpa [escSpec] using hj9)⟩
            have hld := HR.out j x hx
            have hxb := byte_le x
            have HTK : Hid ((escSpec.take (j + 1)).contains c = ((escSpec.take j).contains c || (c == x))) := by
              show _ = _
              rw [List.take_add_one, hx]
              exact contains_snoc _ x c
            obtain ⟨q, hq⟩ : ∃ q, (escSpec.take j).contains c = q := ⟨_, rfl⟩
            rw [hq] at HTK ⊢
            have hcx : ((c.toNat : Int) == (x.toNat : Int)) = (c == x) := by
              rw [Bool.eq_iff_iff, beq_iff_eq, beq_iff_eq]
              constructor
              · intro h; exact UInt8.toNat_inj.1 (by omega)
              · intro h; rw [h]
            clear hq hx
            obtain ⟨bq, hbq⟩ : ∃ bq, (b0 || q) = bq := ⟨_, rfl⟩
            obtain ⟨cx, hcx2⟩ : ∃ cx, (c == x) = cx := ⟨_, rfl⟩
            rw [hbq]
            rw [hcx2] at HTK hcx
            have HBQ := Lib.hid hbq
            clear hcx2 hbq
            cases bq <;> cases cx
            all_goals
              go_wp2_with fail
              go_round
              case rel => exact ⟨j + 1, by omega, by go_num, by rw [HTK.out, ← Bool.or_assoc, HBQ.out]; rfl⟩
              case measure => simp [RowKit.intOf]; omega
          · obtain rfl : j = 9 := by omega
            have HBD : Hid ((b0 || (escSpec.take 9).contains c) = badB c (s.data.toList.drop (k + 1))) := by
              show _ = _
              rw [badB_eq, HBB.out]; rfl
            rw [HBD.out]
            cases hbad : badB c (s.data.toList.drop (k + 1))
            · have HBAD := Lib.hid hbad
              have h127 : c.toNat < 127 := by
                have := (fine_of (bad_fine hbad)).2.1
                omega
              have hen : ∀ w, (convert 21 9 (.int .i32 (c.toNat : Nat))).run Tryd.prog w = .ok (.string ⟨#[c]⟩) w := fun w => by
                rw [run_convert_int_string w 21 9 .i32 (c.toNat : Nat) (by rw [Tryd.underlying21]; rfl) Tryd.underlying9, encode_enc c.toNat (by unfold isCh; omega), enc_low (by omega)]
                have : bt c.toNat = c := UInt8.toNat_inj.1 (by rw [bt_toNat _ (by omega)])
                rw [this]
              clear hbad
              go_wp2_with fail
              go_roundw
              case rel =>
                refine ⟨k + 1, _, by omega, by go_num, rfl, ?_, HBW1.out⟩
                rw [← HO.out, HD.out, encodeF_keep HBAD.out]
                simp
              case measure => simp [RowKit.intOf]; omega
            · have HBAD := Lib.hid hbad
              clear hbad
              go_wp2_with fail
              go_quiet (fail)
              have hc256 := c.toNat_lt
              rw [hexd_ext _ (by omega), hexd_ext _ (by omega)]
              go_wp2_with fail
              go_roundw
              case rel =>
                refine ⟨k + 1, _, by omega, by go_num, rfl, ?_, Below.drewN HBW1.out _⟩
                rw [← HO.out, HD.out, encodeF_esc HBAD.out]
                simp
              case measure => simp [RowKit.intOf]; omega
    · obtain rfl : k = s.size := by omega
      have HF : Hid (out = ⟨(encodeF S).toArray⟩) := by
        show _ = _
        have := HO.out
        rw [drop_end s s.size (Nat.le_refl _)] at this
        apply ByteArray.ext
        rw [← this]
        simp [encodeF]
      go_wp2_with fail
      go_ret
      exact ⟨by rw [HE.out, ← HF.out]; rfl, HBW.out⟩

end Go.Proofs.YtabagfhnkdhjdaaDoor
