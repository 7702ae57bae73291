/- link.Decode: without percent escapes. -/
import Derived.Test.YtabagfhnkdhjdaaGreatDoorQueryW
import Derived.Laws.BytesArg
set_option linter.unusedVariables false
set_option maxRecDepth 100000
namespace Go.Proofs.YtabagfhnkdhjdaaGreatDoor
open Go.RowKit Go.Lib

def decV (x y : UInt8) : UInt8 := UInt8.ofNat (valZ (x.toNat : Int) * 16 + valZ (y.toNat : Int)).toNat
def decF : List UInt8 → List UInt8
  | [] => []
  | [c] => [c]
  | [c, d] => [c, d]
  | c :: x :: y :: t => if c.toNat = 37 ∧ hexB x = true ∧ hexB y = true then decV x y :: decF t else c :: decF (x :: y :: t)
theorem decF_one (c : UInt8) (t : List UInt8) (h : ¬ (c.toNat = 37 ∧ coded2 t = true)) : decF (c :: t) = c :: decF t := by
  match t, h with
  | [], _ => rfl
  | [d], _ => rfl
  | x :: y :: t, h =>
    rw [decF, if_neg]
    rintro ⟨h1, h2, h3⟩
    exact h ⟨h1, by simp [coded2, h2, h3]⟩
theorem decF_esc (c x y : UInt8) (t : List UInt8) (h1 : c.toNat = 37) (h2 : coded2 (x :: y :: t) = true) : decF (c :: x :: y :: t) = decV x y :: decF t := by
  have h : hexB x = true ∧ hexB y = true := by simpa [coded2] using h2
  rw [decF, if_pos ⟨h1, h.1, h.2⟩]
theorem decF_len : ∀ l : List UInt8, (decF l).length ≤ l.length
  | [] => Nat.le_refl _
  | [c] => Nat.le_refl _
  | [c, d] => Nat.le_refl _
  | c :: x :: y :: t => by
    rw [decF]
    split
    · have := decF_len t
      simp; omega
    · have := decF_len (x :: y :: t)
      simp at *; omega
def decL (l : List UInt8) : List UInt8 := mend (decF (mend l))

theorem decV_wrap : ∀ a b : Fin 16, IntKind.u8.wrap (bits BinOp.or IntKind.i64 (IntKind.i64.wrap ((a.val : Int) * 16)) (b.val : Int)) = ((UInt8.ofNat ((a.val : Int) * 16 + (b.val : Int)).toNat).toNat : Int) := by decide
theorem decV_val {x y : UInt8} (hx : hexB x = true) (hy : hexB y = true) : IntKind.u8.wrap (bits BinOp.or IntKind.i64 (IntKind.i64.wrap (valZ (x.toNat : Int) * 16)) (valZ (y.toNat : Int))) = ((decV x y).toNat : Int) := by
  have h1 : 0 ≤ valZ (x.toNat : Int) := of_decide_eq_true hx
  have h2 : 0 ≤ valZ (y.toNat : Int) := of_decide_eq_true hy
  have b1 := (val_bd (x.toNat : Int)).2
  have b2 := (val_bd (y.toNat : Int)).2
  unfold decV
  generalize valZ (x.toNat : Int) = a at *
  generalize valZ (y.toNat : Int) = b at *
  obtain ⟨m, rfl⟩ := Int.eq_ofNat_of_zero_le h1
  obtain ⟨n, rfl⟩ := Int.eq_ofNat_of_zero_le h2
  exact decV_wrap ⟨m, by omega⟩ ⟨n, by omega⟩

theorem coded2_len (s : ByteArray) (k : Nat) (h : coded2 (s.data.toList.drop (k + 1)) = true) : k + 2 < s.size := by
  rw [size_eq]
  apply Classical.byContradiction
  intro hn
  have hl : (s.data.toList.drop (k + 1)).length ≤ 1 := by rw [List.length_drop]; omega
  match s.data.toList.drop (k + 1), h, hl with
  | [], h, _ => simp [coded2] at h
  | [x], h, _ => simp [coded2] at h
  | x :: y :: t, _, hl => simp at hl

set_option maxHeartbeats 8000000 in
theorem decode_any (v : ByteArray) (w : World) (hv : v.size ≤ 500000000) :
    Calls Tryz.prog 30 #[.string v] w fun e w' => e = .returned (.string ⟨(decL v.data.toList).toArray⟩) ∧ Below w.heap.size w w' := by
  have h1 := mend_any v w (by omega)
  have hl := mend_len v.data.toList
  rw [← size_eq] at hl
  obtain ⟨S, hS⟩ : ∃ S, mend v.data.toList = S := ⟨_, rfl⟩
  have HE : Hid (decL v.data.toList = mend (decF S)) := by show _ = _; unfold decL; rw [hS]
  rw [hS] at h1 hl
  clear hS
  obtain ⟨s, hs⟩ : ∃ s : ByteArray, (⟨S.toArray⟩ : ByteArray) = s := ⟨_, rfl⟩
  have hsd : s.data.toList = S := by rw [← hs]
  have hss : s.size ≤ 2000000000 := by rw [size_eq, hsd]; omega
  rw [hs] at h1
  have HSD := Lib.hid hsd
  obtain ⟨i0, hi, hz0, hz1, hz2⟩ := info_parts infoByteB
  clear hs hsd hl
  go_enter Tryz.func30, Tryz.ntmps30
  go_wp2_with fail
  refine h1.mono ?_
  clear h1
  rintro e w1 ⟨rfl, hb1⟩
  have HB1 := Lib.hid hb1
  clear hb1
  have hyn : ∀ (W : World) (z : Value) (j : Nat) (u : Value), [z][j]? = some u → (W.alloc (.cells #[z] 5)).cell? ((⟨W.heap.size, 0, none⟩ : Addr).add j) = some u := fun W z j u hj => by
    have := RowAt.new W #[z] 5 [z] rfl
    rw [add_at]
    exact this.cell hj
  have HYN := Lib.hid hyn
  clear hyn
  go_wp2_with fail
  go_loopw [4, 3] (fun i v wr => ∃ (k : Nat) (out : List UInt8), k ≤ s.size ∧ i = .int .i64 k ∧ out ++ decF (s.data.toList.drop k) = decF S ∧ wr.ownsRow w.heap.size 5 1 v out.length (byteCells out) ∧ Below w.heap.size w wr) (fun i _ _ => s.size - (RowKit.intOf i).toNat)
  case atStart => exact ⟨0, [], Nat.zero_le _, rfl, by rw [List.drop_zero, HSD.out]; rfl, World.ownsRow_nil _ _ _ _, HB1.out⟩
  case round =>
    obtain ⟨k, out, hk, rfl, hout, hown, hbw⟩ := hrel
    have HO := Lib.hid hout
    have HOWN := Lib.hid hown
    have HBW := Lib.hid hbw
    have HOL : Hid (out.length ≤ 2000000000) := by
      show _ ≤ _
      have h1 := congrArg List.length HO.out
      have h2 := decF_len S
      have h3 := HSD.out
      rw [List.length_append] at h1
      have h4 : S.length ≤ 2000000000 := by rw [← h3, ← size_eq]; exact hss
      omega
    have hol := HOL.out
    clear hout hown hbw
    by_cases hlt : k < s.size
    · have HD := Lib.hid (drop_at s k hlt)
      have hbc := byte_le s[k]
      have hcd := fun w => coded_any s k w (by omega) hlt
      obtain ⟨cd, hcdv⟩ : ∃ cd, coded2 (s.data.toList.drop (k + 1)) = cd := ⟨_, rfl⟩
      rw [hcdv] at hcd
      have HCD := Lib.hid hcdv
      clear hcdv
      have hkI : (k : Int) < (s.size : Int) := by omega
      by_cases hq : (s[k].toNat : Int) = 37
      · have hqb : ((s[k].toNat : Int) == 37) = true := beq_iff_eq.2 hq
        have HQ := Lib.hid hq
        clear hq
        cases cd
        · have HF : Hid (decF (s.data.toList.drop k) = s[k] :: decF (s.data.toList.drop (k + 1))) := by
            show _ = _
            rw [HD.out, decF_one]
            rintro ⟨_, h⟩
            rw [HCD.out] at h; cases h
          go_wp2_with fail
          refine (hcd _).mono ?_
          clear hcd
          rintro e wz ⟨rfl, rfl⟩
          go_wp2_with (at_builtin; refine wpList_append_own _ rfl _ _ 29 rfl w.heap.size 5 i0 (.int .u8 0) 1 1 Tryz.underlying29 hi hz0 hz1 hz2 rfl (by decide) _ out.length (byteCells out) rfl (HOWN.out.alloc _) ⟨wr.heap.size, 0, none⟩ 1 1 [Value.int .u8 (s[k].toNat : Nat)] rfl rfl (HYN.out _ _) (by simp [Value.oneCell']) (by unfold maxLen; omega) (by omega) (by simp; have := HBW.out.size; omega) ?_; intro v' w5 hown' hgrow _)
          have HO5 : Hid (w5.ownsRow w.heap.size 5 1 v' (out ++ [s[k]]).length (byteCells (out ++ [s[k]]))) := by
            show World.ownsRow _ _ _ _ _ _ _
            have e : byteCells (out ++ [s[k]]) = byteCells out ++ [.int .u8 (s[k].toNat : Nat)] := by simp [byteCells]
            rw [e, List.length_append]
            exact hown'
          have HB5 : Hid (Below w.heap.size w w5) := (HBW.out.alloc HBW.out.size (.cells #[.int .u8 (s[k].toNat : Nat)] 5)).grown hgrow (by simp; have := HBW.out.size; omega) (fun j ej => (HOWN.out.lt j ej).1)
          clear hown' hgrow
          go_wp2_with fail
          go_roundw
          case rel => exact ⟨k + 1, out ++ [s[k]], by omega, by go_num, by rw [← HO.out, HF.out, List.append_assoc]; rfl, HO5.out, HB5.out⟩
          case measure => simp [RowKit.intOf]; omega
        · have hk2 := coded2_len s k HCD.out
          have HDx := Lib.hid (drop_at s (k + 1) (by omega))
          have HDy := Lib.hid (drop_at s (k + 1 + 1) (by omega))
          go_upto_region 7 with (go_at_call 66; refine (hcd _).mono ?_; clear hcd; rintro e wz ⟨rfl, rfl⟩)
          have hkI1 : (k : Int) + 1 < (s.size : Int) := by omega
          have hkI2 : (k : Int) + 2 < (s.size : Int) := by omega
          have hw1 : IntKind.i64.wrap ((k : Int) + 1) = (k : Int) + 1 := IntWalk.i64_in _ (by omega)
          have hw2 : IntKind.i64.wrap ((k : Int) + 2) = (k : Int) + 2 := IntWalk.i64_in _ (by omega)
          have hp1 : 0 ≤ (k : Int) + 1 := by omega
          have hp2 : 0 ≤ (k : Int) + 2 := by omega
          have ht1 : ((k : Int) + 1).toNat = k + 1 := by omega
          have ht2 : ((k : Int) + 2).toNat = k + 2 := by omega
          obtain ⟨x, hx⟩ : ∃ x, s[k + 1] = x := ⟨_, rfl⟩
          obtain ⟨y, hy⟩ : ∃ y, s[k + 2] = y := ⟨_, rfl⟩
          have hb1 := byte_le x
          have hb2 := byte_le y
          have hc1 : IntKind.i32.wrap (x.toNat : Int) = (x.toNat : Int) := IntWalk.i32_in _ (by omega)
          have hc2 : IntKind.i32.wrap (y.toNat : Int) = (y.toNat : Int) := IntWalk.i32_in _ (by omega)
          have HX : Hid (decF (s.data.toList.drop k) = decV x y :: decF (s.data.toList.drop (k + 1 + 1 + 1))) := by
            show _ = _
            have h := HCD.out
            rw [HDx.out, HDy.out] at h
            rw [HD.out, HDx.out, HDy.out, decF_esc _ _ _ _ (by have := HQ.out; omega) h]
            rw [← hx, ← hy]
          have hby : IntKind.u8.wrap (bits BinOp.or IntKind.i64 (IntKind.i64.wrap (valZ (x.toNat : Int) * 16)) (valZ (y.toNat : Int))) = ((decV x y).toNat : Int) := by
            have h := HCD.out
            rw [HDx.out, HDy.out] at h
            have h' : hexB s[k + 1] = true ∧ hexB s[k + 2] = true := by simpa [coded2] using h
            rw [hx, hy] at h'
            exact decV_val h'.1 h'.2
          generalize decV x y = z at hby HX
          have HOWd : Hid (wr.drew.ownsRow w.heap.size 5 1 u3 out.length (byteCells out)) := HOWN.out
          have HBWd : Hid (Below w.heap.size w wr.drew) := HBW.out.drew
          have hv1 := fun w => value_any (x.toNat : Int) w
          have hv2 := fun w => value_any (y.toNat : Int) w
          go_region_law (first
            | (go_simp; go_at_call_of 67 (Value.int .i32 (x.toNat : Int)); refine (hv1 _).mono ?_; rintro e wz ⟨rfl, rfl⟩)
            | (go_simp; go_at_call_of 67 (Value.int .i32 (y.toNat : Int)); refine (hv2 _).mono ?_; rintro e wz ⟨rfl, rfl⟩)
            | (refine step_append_own rfl (.tmp 22) (.tmp 38) 29 rfl w.heap.size 5 i0 (.int .u8 0) 1 1 Tryz.underlying29 hi hz0 hz1 hz2 rfl (by decide) u3 out.length (byteCells out) (by simp [Act.eval]) (HOWd.out.alloc _) ⟨wr.heap.size, 0, none⟩ 1 1 [Value.int .u8 (z.toNat : Nat)] (by simp [Act.eval]) rfl (HYN.out _ _) (by simp [Value.oneCell']) (by unfold maxLen; omega) (by omega) (by simp; have := HBW.out.size; omega) ?_; intro v' w5 hown' hgrow; have HOW := Lib.hid hown'; have HGR := Lib.hid hgrow; clear hown' hgrow))
          all_goals
            have HO5 : Hid (w5.ownsRow w.heap.size 5 1 v' (out ++ [z]).length (byteCells (out ++ [z]))) := by
              show World.ownsRow _ _ _ _ _ _ _
              have e : byteCells (out ++ [z]) = byteCells out ++ [.int .u8 (z.toNat : Nat)] := by simp [byteCells]
              rw [e, List.length_append]
              exact HOW.out
            have HB5 : Hid (Below w.heap.size w w5) := (HBWd.out.alloc HBWd.out.size (.cells #[.int .u8 (z.toNat : Nat)] 5)).grown HGR.out (by simp; have := HBW.out.size; omega) (fun j ej => (HOWd.out.lt j ej).1)
            go_wp2_with fail
            go_roundw
            case rel => exact ⟨k + 1 + 1 + 1, out ++ [z], by omega, by go_num, by rw [← HO.out, HX.out, List.append_assoc]; rfl, HO5.out, HB5.out⟩
            case measure => simp [RowKit.intOf]; omega
      · have hqb : ((s[k].toNat : Int) == 37) = false := beq_eq_false_iff_ne.2 hq
        have HF : Hid (decF (s.data.toList.drop k) = s[k] :: decF (s.data.toList.drop (k + 1))) := by
          show _ = _
          rw [HD.out, decF_one]
          rintro ⟨h, _⟩
          omega
        have HQ := Lib.hid hq
        clear hq hcd
        go_wp2_with (at_builtin; refine wpList_append_own _ rfl _ _ 29 rfl w.heap.size 5 i0 (.int .u8 0) 1 1 Tryz.underlying29 hi hz0 hz1 hz2 rfl (by decide) _ out.length (byteCells out) rfl (HOWN.out.alloc _) ⟨wr.heap.size, 0, none⟩ 1 1 [Value.int .u8 (s[k].toNat : Nat)] rfl rfl (HYN.out _ _) (by simp [Value.oneCell']) (by unfold maxLen; omega) (by omega) (by simp; have := HBW.out.size; omega) ?_; intro v' w5 hown' hgrow _)
        have HO5 : Hid (w5.ownsRow w.heap.size 5 1 v' (out ++ [s[k]]).length (byteCells (out ++ [s[k]]))) := by
          show World.ownsRow _ _ _ _ _ _ _
          have e : byteCells (out ++ [s[k]]) = byteCells out ++ [.int .u8 (s[k].toNat : Nat)] := by simp [byteCells]
          rw [e, List.length_append]
          exact hown'
        have HB5 : Hid (Below w.heap.size w w5) := (HBW.out.alloc HBW.out.size (.cells #[.int .u8 (s[k].toNat : Nat)] 5)).grown hgrow (by simp; have := HBW.out.size; omega) (fun j ej => (HOWN.out.lt j ej).1)
        clear hown' hgrow
        go_wp2_with fail
        go_roundw
        case rel => exact ⟨k + 1, out ++ [s[k]], by omega, by go_num, by rw [← HO.out, HF.out, List.append_assoc]; rfl, HO5.out, HB5.out⟩
        case measure => simp [RowKit.intOf]; omega
    · obtain rfl : k = s.size := by omega
      have hend : out = decF S := by
        have := HO.out
        rw [drop_end s s.size (Nat.le_refl _)] at this
        simpa [decF] using this
      subst hend
      have hm := fun w => mend_any ⟨(decF S).toArray⟩ w (by rw [size_eq]; exact Nat.le_trans hol (by decide))
      rcases HOWN.out.2 with ⟨rfl, h0⟩ | ⟨g, cap', cur, rfl, hg, hh, hn, hx, hy, ht⟩
      · have he : decF S = [] := List.length_eq_zero_iff.1 h0
        rw [he] at hm HE
        have hcv : (convert 29 9 (.slice none 0 0)).run Tryz.prog wr = .ok (.string ⟨#[]⟩) wr := run_convert_bytes_nil (w := wr) 29 5 Tryz.underlying29 Tryz.underlying5 0 0 9 Tryz.underlying9
        clear he h0
        go_wp2_with fail
        refine (hm _).mono ?_
        clear hm
        rintro e w2 ⟨rfl, hb2⟩
        have HB2 : Hid (Below w.heap.size w w2) := HBW.out.trans (hb2.mono HBW.out.size)
        clear hb2
        go_wp2_with fail
        go_ret
        exact ⟨by rw [HE.out]; rfl, HB2.out⟩
      · have hrow := RowAt.owned HOWN.out
        have hcv := hrow.string 29 9 5 _ cap' rfl Tryz.underlying29 Tryz.underlying5 Tryz.underlying9 (P := Tryz.prog)
        clear hrow hh
        go_wp2_with fail
        refine (hm _).mono ?_
        clear hm
        rintro e w2 ⟨rfl, hb2⟩
        have HB2 : Hid (Below w.heap.size w w2) := HBW.out.trans (hb2.mono HBW.out.size)
        clear hb2
        go_wp2_with fail
        go_ret
        exact ⟨by rw [HE.out]; rfl, HB2.out⟩

end Go.Proofs.YtabagfhnkdhjdaaGreatDoor
