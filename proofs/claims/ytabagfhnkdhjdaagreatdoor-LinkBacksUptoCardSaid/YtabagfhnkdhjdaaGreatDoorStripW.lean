/- link.Strip: the walk. -/
import Derived.Test.YtabagfhnkdhjdaaGreatDoorStrip
import Derived.Deep.CutBlock
import Derived.Deep.DeepCutAuto
set_option linter.unusedVariables false
set_option maxRecDepth 100000
namespace Go.Proofs.YtabagfhnkdhjdaaGreatDoor
open Go.RowKit Go.Lib

/-- A slice value over cells that hold the runes xs. -/
def OverR (w : World) (g : Nat) (v : Value) (xs : List Nat) : Prop :=
  ∃ o cap, v = .slice (some ⟨g, o, none⟩) xs.length cap ∧ xs.length ≤ cap ∧ ∀ j r, xs[j]? = some r → w.cell? ⟨g, o + j, none⟩ = some (.int .i32 (r : Nat))

theorem trimLN_len (l : List Nat) : (trimLN l).length ≤ l.length := by
  induction l with
  | nil => simp [trimLN]
  | cons a t ih =>
    unfold trimLN
    split
    · simp; omega
    · simp

def lenOf : Value → Nat
  | .slice _ n _ => n
  | _ => 0

theorem trimLN_low {x : Nat} {xs : List Nat} (h : x ≤ 32) : trimLN (x :: xs) = trimLN xs := by rw [trimLN, if_pos h]
theorem trimLN_high {x : Nat} {xs : List Nat} (h : ¬ x ≤ 32) : trimLN (x :: xs) = x :: xs := by rw [trimLN, if_neg h]

set_option maxHeartbeats 4000000 in
theorem strip_any (v : ByteArray) (w : World) (hv : v.size ≤ 8796093022207) :
    Calls Tryz.prog 35 #[.string v] w fun e w' => e = .returned (.string ⟨(strip v.data.toList).toArray⟩) ∧ Below w.heap.size w w' := by
  have hvl : v.data.toList.length ≤ 8796093022207 := by rw [← size_eq]; exact hv
  have HM := mend_any v w (by omega)
  generalize hL : v.data.toList = L at HM hvl
  have hrl := runes_len_le L.length L (Nat.le_refl _)
  clear hL
  obtain ⟨i0, hi, hz0, hz1, hz2⟩ := info_parts infoR
  go_enter Tryz.func35, Tryz.ntmps35
  go_wp2_with (go_at_call 18; refine HM.mono ?_; clear HM; rintro e w1 ⟨rfl, hb1⟩)
  obtain ⟨cap, C, hcap, hrow, hconv⟩ := runes_conv (P := Tryz.prog) w1 9 61 21 L (by omega) Tryz.underlying9 Tryz.underlying61 Tryz.underlying21
  obtain ⟨rs, hrs⟩ : ∃ rs, runes L = rs := ⟨_, rfl⟩
  have HRS := Lib.hid hrs
  rw [hrs] at hconv hrow hrl hcap
  clear hrs
  obtain ⟨W2, hW2⟩ : ∃ W2, (w1.drew.alloc (.cells C 21)) = W2 := ⟨_, rfl⟩
  have hb2 : Below w.heap.size w W2 := by rw [← hW2]; exact (hb1.drew).alloc hb1.size _
  have hrow2 : RowAt W2 w1.heap.size (runeCells rs) := by rw [← hW2]; exact hrow
  have hg : w1.heap.size < W2.heap.size := hrow2.lt
  rw [hW2] at hconv
  rw [hconv]
  simp only [Result.andThen]
  rw [Oper.upon_value]
  obtain ⟨g, hgg⟩ : ∃ g, w1.heap.size = g := ⟨_, rfl⟩
  rw [hgg] at hrow2 hg ⊢
  clear hconv hrow hW2 hgg
  have HB2 := Lib.hid hb2
  clear hb2 hb1
  have HO0 : Hid (OverR W2 g (.slice (some ⟨g, 0, none⟩) rs.length cap) rs) := ⟨0, cap, rfl, hcap, fun j r hj => by rw [Nat.zero_add]; exact hrow2.cell (runeCells_at hj)⟩
  clear hrow2
  go_upto_block 0 with fail
  go_cut [3] (fun l wx => OverR W2 g l (trimLN rs) ∧ wx = W2)
  case first =>
    go_wp2
    go_loop [3] (fun l => ∃ xs : List Nat, OverR W2 g l xs ∧ trimLN rs = trimLN xs ∧ xs.length ≤ rs.length) (fun l => lenOf l)
    case atStart => exact ⟨rs, HO0.out, rfl, Nat.le_refl _⟩
    case round =>
      obtain ⟨xs, ⟨o, cap1, rfl, hcap1, hc⟩, htr, hxl⟩ := hrel
      have HC := Lib.hid hc
      have HT := Lib.hid htr
      clear hc htr HO0
      cases xs with
      | nil =>
        go_wp2
        go_meet
        case rel => exact ⟨by rw [HT.out]; exact ⟨o, cap1, rfl, hcap1, HC.out⟩, rfl⟩
      | cons x xs =>
        have hc0 := HC.out 0 x rfl
        rw [Nat.add_zero] at hc0
        have hl1 : (0 : Int) < ((x :: xs).length : Int) := by simp
        by_cases hx : (x : Int) ≤ 32
        · by_cases hc1 : cap1 = 1
          · have hxs : xs = [] := List.length_eq_zero_iff.1 (by simp at hcap1; omega)
            subst hxs
            subst hc1
            go_wp2
            go_round
            case rel => exact ⟨[], ⟨o, 0, rfl, Nat.le_refl _, fun j r hj => by simp at hj⟩, by rw [HT.out, trimLN_low (by omega)], by simp⟩
            case measure => simp [lenOf]
          · go_wp2
            go_round
            case rel =>
              refine ⟨xs, ⟨o + 1, cap1 - 1, by simp, by simp at hcap1; omega, fun j r hj => ?_⟩, by rw [HT.out, trimLN_low (by omega)], by simp at hxl; omega⟩
              have := HC.out (j + 1) r hj
              rw [Nat.add_assoc, Nat.add_comm 1 j]
              exact this
            case measure => simp [lenOf]
        · have HX : Hid (trimLN rs = x :: xs) := by show _ = _; rw [HT.out, trimLN_high (by omega)]
          go_wp2
          go_meet
          case rel => exact ⟨by rw [HX.out]; exact ⟨o, cap1, rfl, hcap1, HC.out⟩, rfl⟩
  case rest =>
    obtain ⟨⟨o, cap1, rfl, hcap1, hc⟩, hwx⟩ := hcut
    subst hwx
    obtain ⟨ys, hys⟩ : ∃ ys, trimLN rs = ys := ⟨_, rfl⟩
    have HYS := Lib.hid hys
    have hyl : ys.length ≤ rs.length := by rw [← hys]; exact trimLN_len rs
    rw [hys] at hcap1 hc ⊢
    have HC := Lib.hid hc
    clear hys hc HO0
    go_upto_block 2 with fail
    go_cut [3] (fun l wx => (∃ n, l = .slice (some ⟨g, o, none⟩) n cap1 ∧ n ≤ ys.length ∧ trimRN ys = ys.take n) ∧ wx = wc)
    case first =>
      go_wp2
      go_loop [3] (fun l => ∃ n, l = .slice (some ⟨g, o, none⟩) n cap1 ∧ n ≤ ys.length ∧ trimRN ys = trimRN (ys.take n)) (fun l => lenOf l)
      case atStart => exact ⟨ys.length, rfl, Nat.le_refl _, by rw [List.take_length]⟩
      case round =>
        obtain ⟨n, rfl, hn, htr⟩ := hrel
        have HT := Lib.hid htr
        clear htr
        cases n with
        | zero =>
          go_wp2
          go_meet
          case rel => exact ⟨⟨0, rfl, Nat.zero_le _, by rw [HT.out]; rfl⟩, rfl⟩
        | succ m =>
          have hml : m < ys.length := by omega
          have hcm := HC.out m ys[m] (List.getElem?_eq_getElem hml)
          have HTK : Hid (ys.take (m + 1) = ys.take m ++ [ys[m]]) := List.take_succ_eq_append_getElem hml
          obtain ⟨y, hy⟩ : ∃ y, ys[m] = y := ⟨_, rfl⟩
          rw [hy] at hcm HTK
          clear hy
          by_cases hx : (y : Int) ≤ 32
          · go_wp2
            go_round
            case rel => exact ⟨m, by simp, by omega, by rw [HT.out, HTK.out, trimRN_low _ _ (by omega)]⟩
            case measure => simp [lenOf]
          · go_wp2
            go_meet
            case rel => exact ⟨⟨m + 1, rfl, hn, by rw [HT.out, HTK.out, trimRN_high _ _ (by omega)]⟩, rfl⟩
    case rest =>
      obtain ⟨⟨n, rfl, hn, htr⟩, hwx⟩ := hcut
      have HT := Lib.hid htr
      clear htr
      subst hwx
      have hnb : (n : Int) ≤ 8796093022207 := by omega
      have hz2b : i0.bytes * n ≤ 281474976710656 := by rw [hz2]; omega
      go_wp2_with (at_make; refine wpList_make_own _ rfl _ _ 61 rfl wc.heap.size 21 i0 (.int .i32 0) 1 Tryz.underlying61 hi hz0 hz1 .i64 .i64 _ n rfl rfl rfl hz2b (by unfold maxLen; omega) (Nat.le_refl _) ?_; intro w3 hown3 hgrow3)
      have hB3 : Hid (Below wc.heap.size wc w3) := (Below.refl _ wc).grown hgrow3 (Nat.le_refl _) (fun k e => by cases e)
      have HO3 := Lib.hid hown3
      clear hown3 hgrow3
      go_loopw [4, 43, 6] (fun v i _ wr => ∃ k : Nat, k ≤ n ∧ i = .int .i64 k ∧ wr.ownsRow wc.heap.size 21 1 v ((ys.take k).filter keepN).length (runeCells ((ys.take k).filter keepN)) ∧ Below wc.heap.size wc wr) (fun _ i _ _ => n - (intOf i).toNat)
      case atStart => exact ⟨0, Nat.zero_le _, rfl, HO3.out, hB3.out⟩
      case round =>
        obtain ⟨k, hk, rfl, hown, hbw⟩ := hrel
        have HBW := Lib.hid hbw
        clear hbw HO3 hB3
        by_cases hlt : k < n
        · have hml : k < ys.length := by omega
          have hcm : wr.cell? ⟨g, o + k, none⟩ = some (.int .i32 (ys[k] : Nat)) := (HBW.out.cell (p := ⟨g, o + k, none⟩) hg).trans (HC.out k ys[k] (List.getElem?_eq_getElem hml))
          have HTK : Hid (ys.take (k + 1) = ys.take k ++ [ys[k]]) := List.take_succ_eq_append_getElem hml
          obtain ⟨y, hy⟩ : ∃ y, ys[k] = y := ⟨_, rfl⟩
          rw [hy] at hcm HTK
          clear hy
          have hfl : ((ys.take k).filter keepN).length ≤ k := Nat.le_trans (List.length_filter_le _ _) (List.length_take_le _ _)
          generalize hfx : (ys.take k).filter keepN = fx at hown hfl
          have HFX := Lib.hid hfx
          clear hfx
          cases hkp : keepN y
          · have hkp2 : y = 9 ∨ y = 10 ∨ y = 13 := by simp [keepN] at hkp; omega
            have HE : Hid ((ys.take (k + 1)).filter keepN = fx) := by show _ = _; rw [HTK.out, List.filter_append, HFX.out]; simp [hkp]
            clear hkp
            have HOW := Lib.hid hown
            clear hown
            rcases hkp2 with rfl | rfl | rfl
            all_goals
              go_wp2
              go_roundw
              case rel => exact ⟨k + 1, by omega, by go_num, by rw [HE.out]; exact HOW.out, HBW.out⟩
              case measure => simp [intOf]; omega
          · have hkp2 : y ≠ 9 ∧ y ≠ 10 ∧ y ≠ 13 := by simp [keepN] at hkp; omega
            have HE : Hid ((ys.take (k + 1)).filter keepN = fx ++ [y]) := by show _ = _; rw [HTK.out, List.filter_append, HFX.out]; simp [hkp]
            clear hkp
            have hy9 : ((y : Int) == 9) = false := beq_eq_false_iff_ne.2 (by omega)
            have hy10 : ((y : Int) == 10) = false := beq_eq_false_iff_ne.2 (by omega)
            have hy13 : ((y : Int) == 13) = false := beq_eq_false_iff_ne.2 (by omega)
            clear hkp2
            have hbs := HBW.out.size
            go_wp2_with (at_builtin; refine wpList_append_own _ rfl _ _ 61 rfl wc.heap.size 21 i0 (.int .i32 0) 1 4 Tryz.underlying61 hi hz0 hz1 hz2 rfl (by decide) _ _ _ rfl (hown.alloc _) ⟨wr.heap.size, 0, none⟩ 1 1 [.int .i32 (y : Nat)] rfl rfl (cell_one_new _ _ _) (by simp [Value.oneCell']) (by unfold maxLen; omega) (by omega) (by simp; omega) ?_; intro v' w4 hown' hgrow _)
            have HOW2 := Lib.hid hown'
            have HB4 : Hid (Below wc.heap.size wc w4) := HBW.out.trans (((Below.refl wc.heap.size wr).alloc hbs _).grown hgrow (by simp; omega) (fun j ej => (hown.lt j ej).1))
            clear hown' hgrow hown
            go_wp2
            go_roundw
            case rel =>
              refine ⟨k + 1, by omega, by go_num, ?_, HB4.out⟩
              rw [HE.out, List.length_append]
              simpa [runeCells] using HOW2.out
            case measure => simp [intOf]; omega
        · obtain rfl : k = n := by omega
          have HE : Hid ((ys.take k).filter keepN = stripN rs) := by show _ = _; unfold stripN; rw [HYS.out, HT.out]
          rw [HE.out] at hown
          have hback := fun v (h : wr.ownsRow wc.heap.size 21 1 v (stripN rs).length (runeCells (stripN rs))) => runes_string (P := Tryz.prog) wr 61 9 21 _ v (stripN rs) (fun r hr => runes_ch L r (by rw [HRS.out]; exact stripN_sub _ r hr)) Tryz.underlying61 Tryz.underlying21 Tryz.underlying9 h
          have hback2 := hback _ hown
          clear hback hown
          go_wp2
          go_ret
          refine ⟨?_, (HB2.out.trans (HBW.out.mono HB2.out.size))⟩
          unfold strip
          rw [HRS.out]
          rfl
end Go.Proofs.YtabagfhnkdhjdaaGreatDoor
