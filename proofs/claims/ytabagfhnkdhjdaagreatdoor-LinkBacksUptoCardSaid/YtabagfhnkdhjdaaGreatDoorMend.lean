/- utf.Mend: a text of valid bytes alone. -/
import Derived.Test.YtabagfhnkdhjdaaGreatDoorDec
import Derived.Deep.LoopGhost
set_option linter.unusedVariables false
set_option maxRecDepth 100000
namespace Go.Proofs.YtabagfhnkdhjdaaGreatDoor
open Go.RowKit Go.Lib

theorem below_iter (B : Nat) (w : World) (s : ByteArray) (k : Nat) (h : B ≤ w.heap.size) : Below B w (w.iter s k) := (Below.refl _ w).alloc h _

theorem take3_eq (s : ByteArray) (k : Nat) (h : k + 3 ≤ s.size) : (s.extract k (k + 3)).toList = (s.data.toList.drop k).take 3 := by
  rw [extract_toList]; congr 1; omega

set_option maxRecDepth 100000 in
set_option maxHeartbeats 2000000 in
theorem mend_any (s : ByteArray) (w : World) (hs : s.size ≤ 35184372088831) :
    Calls Tryz.prog 18 #[.string s] w fun e w' => e = .returned (.string ⟨(mend s.data.toList).toArray⟩) ∧ Below w.heap.size w w' := by
  go_enter Tryz.func18, Tryz.ntmps18
  go_wp2
  go_loopg [3, 4, 5] s.size (fun gk v _ _ wx => ∃ (k : Nat) (b : Bool), k ≤ s.size ∧ s.size ≤ k + gk ∧ wx = w.iter s k ∧ v = .bool b ∧ (b = true → okL (s.data.toList.drop k) = true → okL s.data.toList = true))
  case atStart => exact ⟨0, true, Nat.zero_le _, by omega, rfl, rfl, fun _ h => by rwa [List.drop_zero] at h⟩
  case round =>
    obtain ⟨k, b, hk, hg, rfl, rfl, hok⟩ := hrel
    have HO := Lib.hid hok
    clear hok
    by_cases hlt : k < s.size
    · have hnx := fun ty => run_next_any (P := Tryz.prog) w s k ty hlt
      have hds := drop_at s k hlt
      have hsz := dec_size s[k] (s.data.toList.drop (k + 1))
      have hll : (s.data.toList.drop (k + 1)).length = s.size - (k + 1) := by rw [List.length_drop, size_eq]
      rw [hll, ← hds] at hsz
      obtain ⟨r, n, hd⟩ : ∃ r n, dec (s.data.toList.drop k) = (r, n) := ⟨_, _, rfl⟩
      have hde := decode_dec s k
      rw [hd] at hde hsz
      rw [hde] at hnx
      simp only at hnx hsz
      obtain ⟨hs1, hs2⟩ := hsz
      have HOK : Hid (okL (s.data.toList.drop k) = (!bad1 (s.data.toList.drop k) && okL (s.data.toList.drop (k + n)))) := by
        show _ = _
        have := okL_cons s[k] (s.data.toList.drop (k + 1))
        rw [← hds, hd, List.drop_drop] at this
        exact this
      have HB : Hid (bad1 (s.data.toList.drop k) = (r == 65533 && (decide (s.size - k < 3) || (s.data.toList.drop k).take 3 != [239, 191, 189]))) := by
        show _ = _
        unfold bad1
        rw [hd, List.length_drop, ← size_eq]
      clear hde hds hd hll
      by_cases hr : r = 65533
      · have hrb : ((r : Int) == 65533) = true := beq_iff_eq.2 (by omega)
        have HRR := Lib.hid hr
        clear hr
        by_cases h3 : s.size - k < 3
        · have h3I : (s.size : Int) - k < 3 := by omega
          have HBB : Hid (bad1 (s.data.toList.drop k) = true) := by show _ = _; rw [HB.out, decide_eq_true h3, HRR.out]; rfl
          go_wp2
          go_roundg (gk - n)
          case measure => omega
          case rel => exact ⟨k + n, false, by omega, by omega, rfl, rfl, fun h => by cases h⟩
        · have h3I : ¬ (s.size : Int) - k < 3 := by omega
          have h3J : (k : Int) + 3 ≤ s.size := by omega
          have HT := Lib.hid (take3_eq s k (by omega))
          cases hx : ((s.extract k (k + 3)).toList == [239, 191, 189])
          · have HBB : Hid (bad1 (s.data.toList.drop k) = true) := by
              show _ = _
              rw [HT.out] at hx
              rw [HB.out, decide_eq_false h3, HRR.out]
              simpa using hx
            go_wp2
            go_roundg (gk - n)
            case measure => omega
            case rel => exact ⟨k + n, false, by omega, by omega, rfl, rfl, fun h => by cases h⟩
          · have HBB : Hid (bad1 (s.data.toList.drop k) = false) := by
              show _ = _
              rw [HT.out] at hx
              rw [HB.out, decide_eq_false h3, HRR.out]
              simpa using hx
            go_wp2
            go_roundg (gk - n)
            case measure => omega
            case rel =>
              refine ⟨k + n, b, by omega, by omega, rfl, rfl, fun h1 h2 => HO.out h1 ?_⟩
              rw [HOK.out, HBB.out, h2]
              rfl
      · have hrb : ((r : Int) == 65533) = false := beq_eq_false_iff_ne.2 (by omega)
        have HRR := Lib.hid hr
        clear hr
        go_wp2
        go_roundg (gk - n)
        case measure => omega
        case rel =>
          refine ⟨k + n, b, by omega, by omega, rfl, rfl, fun h1 h2 => HO.out h1 ?_⟩
          have e : (r == 65533) = false := beq_eq_false_iff_ne.2 HRR.out
          rw [HOK.out, HB.out, e, h2]
          rfl
    · obtain rfl : k = s.size := by omega
      have hnx := run_next_end (P := Tryz.prog) w s s.size
      cases b
      · clear HO
        obtain ⟨W1, hW1⟩ : ∃ W1, w.iter s s.size = W1 := ⟨_, rfl⟩
        have hb1 : Below w.heap.size w W1 := by rw [← hW1]; exact below_iter _ _ _ _ (Nat.le_refl _)
        rw [hW1] at hnx ⊢
        clear hW1
        have hconv := run_bytes_of_string (P := Tryz.prog) W1 9 29 5 s Tryz.underlying9 Tryz.underlying29 Tryz.underlying5
        have hrw := RowAt.bytes W1 s (grownCap W1 s.size 0 5) 5
        generalize grownCap W1 s.size 0 5 = cap at hconv hrw
        generalize bytesRow s cap = C at hconv hrw
        have hr := runes_any W1.heap.size cap s.data.toList ((W1.alloc (.cells C 5 (C.size, C.size + 1))).drew) (by rw [← size_eq]; exact hs) hrw
        rw [← size_eq] at hr
        have hsz : (W1.alloc (.cells C 5 (C.size, C.size + 1))).drew.heap.size = W1.heap.size + 1 := World.size_alloc _ _
        rw [hsz] at hr
        have hb2 : Hid (Below w.heap.size w (W1.alloc (.cells C 5 (C.size, C.size + 1))).drew) := (hb1.alloc hb1.size _).drew
        have hsz1 := hb1.size
        have HZ := Lib.hid hsz
        clear hrw hb1 hsz
        go_wp2_with (go_at_call 53; refine hr.mono ?_; clear hr; rintro e w2 ⟨v, rfl, hown, hb3⟩)
        have hback := runes_string (P := Tryz.prog) w2 61 9 21 _ v (runes s.data.toList) (runes_ch _) Tryz.underlying61 Tryz.underlying21 Tryz.underlying9 hown
        have HB3 := Lib.hid hb3
        clear hown hb3
        rw [hback]
        simp only [Result.andThen]
        rw [Oper.upon_value]
        go_wp2
        go_ret
        exact ⟨rfl, hb2.out.trans (HB3.out.mono (by omega))⟩
      · have HV : Hid (mend s.data.toList = s.data.toList) := okL_mend (HO.out rfl (by rw [drop_end s s.size (Nat.le_refl _)]; rfl))
        go_wp2
        go_ret
        exact ⟨by rw [HV.out, mk_data]; rfl, below_iter _ _ _ _ (Nat.le_refl _)⟩
end Go.Proofs.YtabagfhnkdhjdaaGreatDoor
