/- The reference's Tidy. -/
import Derived.Test.YtabagfhnkdhjdaaDoorRefN
import Derived.Test.YtabagfhnkdhjdaaDoorRefL
import Derived.Test.YtabagfhnkdhjdaaDoorTidyW
import Derived.Deep.DeepCutAuto
set_option linter.unusedVariables false
set_option maxRecDepth 100000
namespace Go.Proofs.YtabagfhnkdhjdaaDoor
open Go.RowKit Go.Lib

theorem rupTo_under (s c : ByteArray) (w : World) (hs : s.size ≤ 140737488355328) (hc : c.size ≤ 140737488355328) :
    Calls Tryd.prog 28 #[.string s, .string c] w fun e w' => e = .returned (.int .i64 (upTo s.data.toList c.data.toList : Nat)) ∧ Below w.heap.size w w' :=
  (rupTo_any s c w hs hc).mono fun e w' ⟨he, a, hw⟩ => ⟨he, by rw [← hw]; exact Below.drewN (Below.refl _ _) a⟩

theorem turn_len (l : List UInt8) : (turn l).length = l.length := by
  have := upTo_le l spQuest
  unfold turn untilA untilB
  rw [List.length_append, List.length_map, List.length_take, List.length_drop]; omega
theorem turn_at (l : List UInt8) (k : Nat) (x : UInt8) (h : l[k]? = some x) : (turn l)[k]? = some (if x = 92 ∧ k < upTo l spQuest then 47 else x) := by
  have hu := upTo_le l spQuest
  have hk := (List.getElem?_eq_some_iff.1 h).1
  unfold turn untilA untilB
  by_cases hlt : k < upTo l spQuest
  · rw [List.getElem?_append_left (by rw [List.length_map, List.length_take]; omega), List.getElem?_map, List.getElem?_take_of_lt hlt, h]
    show some (turnB x) = _
    unfold turnB
    by_cases h92 : x = 92
    · rw [if_pos h92, if_pos ⟨h92, hlt⟩]
    · rw [if_neg h92, if_neg (fun e => h92 e.1)]
  · rw [List.getElem?_append_right (by rw [List.length_map, List.length_take]; omega), List.getElem?_drop, List.length_map, List.length_take, show min (upTo l spQuest) l.length = upTo l spQuest by omega, show upTo l spQuest + (k - upTo l spQuest) = k by omega, h, if_neg (fun e => hlt e.2)]
theorem one_byte (s : ByteArray) (k : Nat) (h : k < s.size) : s.extract k (k + 1) = ⟨#[s[k]]⟩ := by
  rw [extract_eq, drop_at s k h, show k + 1 - k = 1 by omega]; rfl

set_option maxHeartbeats 8000000 in
theorem rtidy_any (v : ByteArray) (l : List ByteArray) (sv : Value) (rel : Bool) (w : World) (hv : v.size ≤ 50000000) (hl : l.length ≤ 140737488355328) (hsz : ∀ s ∈ l, s.size ≤ 140737488355328)
    (hs : StrsAt w sv l) :
    Calls Tryd.prog 8 #[.string v, sv, .bool rel] w fun e w' => e = .returned (tidyV l (strip v.data.toList) rel) ∧ Below w.heap.size w w' := by
  have h0 := rallows_any v l sv rel w (by omega) hl hsz hs
  have h1 := fun w => rstrip_any v w (by omega)
  have hlen := strip_len v.data.toList
  rw [← size_eq] at hlen
  obtain ⟨S, hS⟩ : ∃ S, strip v.data.toList = S := ⟨_, rfl⟩
  rw [hS] at h0 h1 hlen ⊢
  clear hS hsz hs
  have hSl : S.length ≤ 200000000 := by omega
  clear hlen
  cases hok : allowB l S rel
  · have HV : Hid (allowV l S rel = .tuple #[.bool false, .int .i64 (allowN l)]) := by
      show _ = _
      unfold allowV; rw [hok]
    have HW : Hid (tidyV l S rel = .tuple #[.string ⟨#[]⟩, .bool false, .int .i64 (allowN l)]) := by
      show _ = _
      unfold tidyV; rw [hok]; rfl
    rw [HV.out] at h0
    have hn : allowN l = 0 ∨ allowN l = 120 := by unfold allowN; split <;> simp
    generalize allowN l = n at *
    have HW2 := Lib.hid HW.out
    clear h1 hok HV HW
    rcases hn with rfl | rfl
    all_goals
      go_enter Tryd.func8, Tryd.ntmps8
      go_wp2_with fail
      refine h0.mono ?_
      clear h0
      rintro e w1 ⟨rfl, hb1⟩
      have HB1 := Lib.hid hb1
      clear hb1
      go_wp2_with fail
      go_ret3
      exact ⟨by rw [HW2.out]; rfl, HB1.out⟩
  · have hag : allG l = true := by
      unfold allowB at hok
      simp only [Bool.and_eq_true] at hok
      exact hok.1
    have hn : allowN l = 0 := by unfold allowN; rw [hag]; rfl
    have HV : Hid (allowV l S rel = .tuple #[.bool true, .int .i64 0]) := by
      show _ = _
      unfold allowV; rw [hok, hn]
    have HW : Hid (tidyV l S rel = .tuple #[.string ⟨(encode (tidyX S)).toArray⟩, .bool true, .int .i64 0]) := by
      show _ = _
      unfold tidyV; rw [hok, hn]; rfl
    rw [HV.out] at h0
    rw [HW.out]
    clear hok hag hn HV HW
    obtain ⟨s, hs⟩ : ∃ s : ByteArray, (⟨S.toArray⟩ : ByteArray) = s := ⟨_, rfl⟩
    have hsd : s.data.toList = S := by rw [← hs]
    have hss : s.size ≤ 200000000 := by rw [size_eq, hsd]; exact hSl
    rw [hs] at h1
    have h2 := fun w => rcolon_any s w (by omega)
    have hcn := colN_le S
    have hcI : (colN S : Int) ≤ (s.size : Int) := by rw [size_eq, hsd]; omega
    rw [hsd] at h2
    have h3 := fun w => rlower_any (s.extract 0 (colN S)) w (by rw [ByteArray.size_extract]; omega)
    have hx : (s.extract 0 (colN S)).data.toList = S.take (colN S) := by rw [take_mk, hsd]
    rw [hx] at h3
    obtain ⟨t, ht⟩ : ∃ t : ByteArray, (⟨(lower (S.take (colN S))).toArray⟩ : ByteArray) = t := ⟨_, rfl⟩
    have htd : t.data.toList = schemeS S := by rw [← ht]; rfl
    rw [ht] at h3
    have hts : t.size ≤ 200000000 := by
      rw [size_eq, htd]; unfold schemeS lower
      rw [List.length_map, List.length_take]; omega
    obtain ⟨q, hq⟩ : ∃ q : ByteArray, (⟨(lowS S).toArray⟩ : ByteArray) = q := ⟨_, rfl⟩
    have hqd : q.data.toList = lowS S := by rw [← hq]
    have hqs : q.size ≤ 200000000 := by rw [size_eq, hqd, lowS_len]; exact hSl
    have hadd : t ++ s.extract (colN S) s.size = q := by
      apply ByteArray.ext
      rw [← hq, drop_mk, hsd]
      apply Array.toList_inj.1
      simp [htd, lowS]
    obtain ⟨X, hX⟩ : ∃ X : ByteArray, (⟨(tidyX S).toArray⟩ : ByteArray) = X := ⟨_, rfl⟩
    have hXd : X.data.toList = tidyX S := by rw [← hX]
    have hXl : X.size = q.size := by
      rw [size_eq, size_eq, hXd, hqd]; unfold tidyX
      split
      · rw [turn_len]
      · rfl
    have hen := fun w => rencode_any X w (by omega)
    rw [hXd] at hen
    obtain ⟨b, hb⟩ : ∃ b, webN S = b := ⟨_, rfl⟩
    obtain ⟨u, hu⟩ : ∃ u, upTo (lowS S) spQuest = u := ⟨_, rfl⟩
    have hup : ∀ w, Calls Tryd.prog 28 #[.string q, .string ⟨#[63, 35]⟩] w fun e w' => e = .returned (.int .i64 u) ∧ Below w.heap.size w w' := fun w => by
      have := rupTo_under q ⟨#[63, 35]⟩ w (by omega) (by decide)
      rw [hqd] at this
      rw [← hu]
      exact this
    have HAT : Hid (∀ (k : Nat) (x : UInt8), q.data.toList[k]? = some x → X.data.toList[k]? = some (if b = true ∧ x = 92 ∧ k < u then 47 else x)) := fun k x hk => by
      rw [hXd]
      rw [hqd] at hk
      unfold tidyX
      rw [hb]
      cases b
      · rw [if_neg Bool.false_ne_true, hk, if_neg (fun e => Bool.false_ne_true e.1)]
      · rw [if_pos rfl, turn_at _ _ _ hk, hu]
        by_cases h9 : x = 92 ∧ k < u
        · rw [if_pos h9, if_pos ⟨rfl, h9⟩]
        · rw [if_neg h9, if_neg (fun e => h9 e.2)]
    obtain ⟨bb, hbb⟩ : ∃ bb, colB S = bb := ⟨_, rfl⟩
    have HWEB : Hid (bb = true → b = ((t.toList == [104, 116, 116, 112]) || (t.toList == [104, 116, 116, 112, 115]) || (t.toList == [102, 116, 112]) || (t.toList == [119, 115]) || (t.toList == [119, 115, 115]))) := fun h => by
      rw [← hb]; unfold webN webL
      rw [hbb, h, Lib.toList_data, htd]; rfl
    have HNW : Hid (bb = false → b = true) := fun h => by rw [← hb]; unfold webN; rw [hbb, h]; rfl
    have HNQ : Hid (bb = false → s = q) := fun h => by
      rw [← hs, ← hq, lowS_plain (by rw [hbb, h])]
    obtain ⟨z, hz⟩ : ∃ z, colZ S = z := ⟨_, rfl⟩
    rw [hz] at h2
    have HZ : Hid ((bb = false → z = -1) ∧ (bb = true → z = (colN S : Nat))) := ⟨fun h => by rw [← hz, colZ_not (by rw [hbb, h])], fun h => by rw [← hz, colZ_is (by rw [hbb, h])]⟩
    generalize hcz : colN S = n at *
    have HADD := Lib.hid hadd
    have HQS := Lib.hid hXl
    clear hadd hX hXd hq hqd ht htd hx hs hsd hb hbb hcz hcn hSl hz hu hXl
    go_enter Tryd.func8, Tryd.ntmps8
    go_wp2_with fail
    refine h0.mono ?_
    clear h0
    rintro e w1 ⟨rfl, hb1⟩
    have HB1 := Lib.hid hb1
    clear hb1
    go_wp2_with fail
    refine (h1 _).mono ?_
    clear h1
    rintro e w2 ⟨rfl, hb2⟩
    have HB2 : Hid (Below w.heap.size w w2) := HB1.out.trans (hb2.mono HB1.out.size)
    clear hb2
    go_upto_if 37 with (go_at_call 26; refine (h2 _).mono ?_; clear h2; rintro e w3 ⟨rfl, rfl⟩)
    go_cut [11, 13] (fun x c wx => x = .string q ∧ c = .bool b ∧ Below w.heap.size w wx)
    case first =>
      cases bb
      · obtain rfl := HNW.out rfl
        obtain rfl := HNQ.out rfl
        obtain rfl := HZ.out.1 rfl
        go_wp2_with fail
        go_meet
        case rel => exact ⟨rfl, rfl, HB2.out⟩
      · obtain rfl := HZ.out.2 rfl
        have HWB := Lib.hid (HWEB.out rfl)
        clear HWEB HNW HNQ HZ
        go_wp2_with fail
        refine (h3 _).mono ?_
        clear h3
        rintro e w3 ⟨rfl, hb3⟩
        have HB3 : Hid (Below w.heap.size w w3) := HB2.out.trans (hb3.mono HB2.out.size)
        clear hb3
        cases c1 : (t.toList == [104, 116, 116, 112])
        · cases c2 : (t.toList == [104, 116, 116, 112, 115])
          · cases c3 : (t.toList == [102, 116, 112])
            · cases c4 : (t.toList == [119, 115])
              · cases c5 : (t.toList == [119, 115, 115])
                all_goals
                  have HBV := Lib.hid HWB.out
                  go_wp2_with fail
                  go_meet
                  case rel =>
                    refine ⟨by rw [HADD.out], ?_, HB3.out⟩
                    rw [HBV.out, c1, c2, c3, c4, c5]; rfl
              · have HBV := Lib.hid HWB.out
                go_wp2_with fail
                go_meet
                case rel =>
                  refine ⟨by rw [HADD.out], ?_, HB3.out⟩
                  rw [HBV.out, c1, c2, c3, c4]; rfl
            · have HBV := Lib.hid HWB.out
              go_wp2_with fail
              go_meet
              case rel =>
                refine ⟨by rw [HADD.out], ?_, HB3.out⟩
                rw [HBV.out, c1, c2, c3]; rfl
          · have HBV := Lib.hid HWB.out
            go_wp2_with fail
            go_meet
            case rel =>
              refine ⟨by rw [HADD.out], ?_, HB3.out⟩
              rw [HBV.out, c1, c2]; rfl
        · have HBV := Lib.hid HWB.out
          go_wp2_with fail
          go_meet
          case rel =>
            refine ⟨by rw [HADD.out], ?_, HB3.out⟩
            rw [HBV.out, c1]; rfl
    case rest =>
      obtain ⟨rfl, rfl, hbc⟩ := hcut
      have HBC := Lib.hid hbc
      clear hbc HWEB HNW HNQ HZ HADD h3
      go_wp2_with fail
      go_loopw [67, 15, 16, 17] (fun i o _ _ wr => ∃ (k : Nat) (out : ByteArray), k ≤ q.size ∧ i = .int .i64 k ∧ o = .string out ∧ out.data.toList = X.data.toList.take k ∧ Below w.heap.size w wr) (fun i _ _ _ _ => q.size - (RowKit.intOf i).toNat)
      case atStart => exact ⟨0, ⟨#[]⟩, Nat.zero_le _, rfl, rfl, rfl, HBC.out⟩
      case round =>
        obtain ⟨k, out, hk, rfl, rfl, hout, hbw⟩ := hrel
        have HO := Lib.hid hout
        have HBW := Lib.hid hbw
        have hos : out.size ≤ 6000000000 := by
          rw [size_eq, hout, List.length_take, ← size_eq]
          have := HQS.out
          omega
        clear hout hbw
        by_cases hlt : k < q.size
        · have hltI : (k : Int) < (q.size : Int) := by omega
          have hex := one_byte q k hlt
          obtain ⟨x, hx⟩ : ∃ x, q[k] = x := ⟨_, rfl⟩
          have hqk := at_data q k hlt
          rw [hx] at hex hqk
          have HXK := Lib.hid (HAT.out k x hqk)
          have HTK : Hid (∀ y, X.data.toList[k]? = some y → X.data.toList.take (k + 1) = X.data.toList.take k ++ [y]) := fun y hy => by
            rw [List.take_add_one, hy]; rfl
          have hxs : (q.extract k (k + 1)).size = 1 := by rw [hex]; rfl
          have hc92 : ((q.extract k (k + 1)).toList == [92]) = decide (x = 92) := by
            rw [hex, Lib.toList_data, Bool.eq_iff_iff, beq_iff_eq, decide_eq_true_eq]
            simp
          have HEX := Lib.hid hex
          clear hex hqk hx
          cases b
          · have HY : Hid (X.data.toList.take (k + 1) = X.data.toList.take k ++ [x]) := by
              have := HXK.out
              rw [if_neg (fun e => Bool.false_ne_true e.1)] at this
              exact HTK.out x this
            clear hc92
            go_wp2_with fail
            go_roundw
            case rel =>
              refine ⟨k + 1, _, by omega, by go_num, rfl, ?_, HBW.out⟩
              rw [HY.out, ← HO.out, HEX.out]; simp
            case measure => simp [RowKit.intOf]; omega
          · by_cases h92 : x = 92
            · have hc : ((q.extract k (k + 1)).toList == [92]) = true := by rw [hc92, decide_eq_true h92]
              clear hc92
              go_wp2_with fail
              refine (hup _).mono ?_
              rintro e w4 ⟨rfl, hb4⟩
              have HB4 : Hid (Below w.heap.size w w4) := HBW.out.trans (hb4.mono HBW.out.size)
              clear hb4
              by_cases hku : k < u
              · have hkuI : (k : Int) < (u : Int) := by omega
                have HY : Hid (X.data.toList.take (k + 1) = X.data.toList.take k ++ [47]) := by
                  have := HXK.out
                  rw [if_pos ⟨trivial, h92, hku⟩] at this
                  exact HTK.out 47 this
                go_wp2_with fail
                go_roundw
                case rel =>
                  refine ⟨k + 1, _, by omega, by go_num, rfl, ?_, HB4.out⟩
                  rw [HY.out, ← HO.out]; simp
                case measure => simp [RowKit.intOf]; omega
              · have hkuI : ¬ (k : Int) < (u : Int) := by omega
                have HY : Hid (X.data.toList.take (k + 1) = X.data.toList.take k ++ [x]) := by
                  have := HXK.out
                  rw [if_neg (fun e => hku e.2.2)] at this
                  exact HTK.out x this
                go_wp2_with fail
                go_roundw
                case rel =>
                  refine ⟨k + 1, _, by omega, by go_num, rfl, ?_, HB4.out⟩
                  rw [HY.out, ← HO.out, HEX.out]; simp
                case measure => simp [RowKit.intOf]; omega
            · have hc : ((q.extract k (k + 1)).toList == [92]) = false := by rw [hc92, decide_eq_false h92]
              have HY : Hid (X.data.toList.take (k + 1) = X.data.toList.take k ++ [x]) := by
                have := HXK.out
                rw [if_neg (fun e => h92 e.2.1)] at this
                exact HTK.out x this
              clear hc92 h92
              go_wp2_with fail
              go_roundw
              case rel =>
                refine ⟨k + 1, _, by omega, by go_num, rfl, ?_, HBW.out⟩
                rw [HY.out, ← HO.out, HEX.out]; simp
              case measure => simp [RowKit.intOf]; omega
        · obtain rfl : k = q.size := by omega
          obtain rfl : out = X := by
            apply ByteArray.ext
            apply Array.toList_inj.1
            rw [HO.out, List.take_of_length_le (by rw [← size_eq, HQS.out]; exact Nat.le_refl _)]
          go_wp2_with fail
          refine (hen _).mono ?_
          rintro e w6 ⟨rfl, hb6⟩
          have HB6 : Hid (Below w.heap.size w w6) := HBW.out.trans (hb6.mono HBW.out.size)
          clear hb6
          go_wp2_with fail
          go_ret3
          exact ⟨rfl, HB6.out⟩

end Go.Proofs.YtabagfhnkdhjdaaDoor
