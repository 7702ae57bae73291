/- The reference's Allows. -/
import Derived.Test.YtabagfhnkdhjdaaDoorRefM
set_option linter.unusedVariables false
set_option maxRecDepth 100000
namespace Go.Proofs.YtabagfhnkdhjdaaDoor
open Go.RowKit Go.Lib

set_option maxHeartbeats 4000000 in
theorem rallows_any (v : ByteArray) (l : List ByteArray) (sv : Value) (rel : Bool) (w : World) (hv : v.size ≤ 500000000) (hl : l.length ≤ 140737488355328) (hsz : ∀ s ∈ l, s.size ≤ 140737488355328)
    (hs : StrsAt w sv l) :
    Calls Tryd.prog 6 #[.string v, sv, .bool rel] w fun e w' => e = .returned (allowV l (strip v.data.toList) rel) ∧ Below w.heap.size w w' := by
  have hS := fun w => rScheme_any v w hv
  obtain ⟨S, hSS⟩ : ∃ S, strip v.data.toList = S := ⟨_, rfl⟩
  rw [hSS] at hS ⊢
  clear hSS
  obtain ⟨t, ht⟩ : ∃ t : ByteArray, (⟨(schemeS S).toArray⟩ : ByteArray) = t := ⟨_, rfl⟩
  obtain ⟨bb, hbb⟩ : ∃ bb, colB S = bb := ⟨_, rfl⟩
  rw [ht, hbb] at hS
  have HV : Hid (allG l = true → allowV l S rel = .tuple #[.bool (if bb then hasS l t else rel), .int .i64 0]) := fun h => by
    unfold allowV allowB allowN
    rw [h, ht, hbb]; rfl
  have HVN : Hid (allG l = false → allowV l S rel = .tuple #[.bool false, .int .i64 120]) := fun h => by
    unfold allowV allowB allowN
    rw [h]; rfl
  clear ht hbb
  have HSZ := Lib.hid hsz
  clear hsz
  rcases hs with ⟨rfl, rfl⟩ | ⟨a, cap, rfl, hcap, hc⟩
  · go_enter Tryd.func6, Tryd.ntmps6
    go_wp2_with fail
    go_loopw [17, 9, 10] (fun i _ _ wr => i = .int .i64 0 ∧ wr = w) (fun _ _ _ _ => 0)
    case atStart => exact ⟨rfl, rfl⟩
    case round =>
      obtain ⟨rfl, rfl⟩ := hrel
      go_wp2_with fail
      refine (hS _).mono ?_
      clear hS
      rintro e w1 ⟨rfl, hb1⟩
      have HB1 := Lib.hid hb1
      clear hb1
      cases bb
      · have HF : Hid (allowV [] S rel = .tuple #[.bool rel, .int .i64 0]) := HV.out rfl
        go_wp2_with fail
        go_ret2
        exact ⟨by rw [HF.out]; rfl, HB1.out⟩
      · have HF : Hid (allowV [] S rel = .tuple #[.bool false, .int .i64 0]) := HV.out rfl
        go_wp2_with fail
        go_loop [37, 14] (fun i _ => i = .int .i64 0) (fun _ _ => 0)
        case atStart => rfl
        case round =>
          subst hrel
          go_wp2_with fail
          go_ret2
          exact ⟨by rw [HF.out]; rfl, HB1.out⟩
  · have HC := Lib.hid hc
    clear hc
    go_enter Tryd.func6, Tryd.ntmps6
    go_wp2_with fail
    go_loopw [17, 9, 10] (fun i _ _ wr => ∃ k : Nat, k ≤ l.length ∧ i = .int .i64 k ∧ allG (l.take k) = true ∧ Below w.heap.size w wr) (fun i _ _ _ => l.length - (RowKit.intOf i).toNat)
    case atStart => exact ⟨0, Nat.zero_le _, rfl, rfl, Below.refl _ _⟩
    case round =>
      obtain ⟨k, hk, rfl, hall, hbw⟩ := hrel
      have HALL := Lib.hid hall
      have HB := Lib.hid hbw
      clear hall
      by_cases hlt : k < l.length
      · have hltI : (k : Int) < (l.length : Int) := by omega
        have hx := (hbw.cell (p := a.add k) (cell_blk (HC.out k l[k] (List.getElem?_eq_getElem hlt)))).trans (HC.out k l[k] (List.getElem?_eq_getElem hlt))
        have HTK : Hid (l.take (k + 1) = l.take k ++ [l[k]]) := List.take_succ_eq_append_getElem hlt
        have HM : Hid (l[k] ∈ l) := List.getElem_mem hlt
        obtain ⟨x, hxx⟩ : ∃ x, l[k] = x := ⟨_, rfl⟩
        rw [hxx] at hx HTK HM
        clear hxx
        have hck := rcheck_any x wr (HSZ.out x HM.out)
        clear hbw
        cases hq : chkG x.data.toList
        · have hcn : chkN x.data.toList = 120 := chkN_bad hq
          rw [hcn] at hck
          have HX : Hid (allG l = false) := by
            show _ = _
            unfold allG
            rw [List.all_eq_false]
            exact ⟨x, HM.out, by rw [hq]; exact Bool.false_ne_true⟩
          clear hcn hq
          go_wp2_with fail
          refine hck.mono ?_
          clear hck
          rintro e w1 ⟨rfl, hb1⟩
          have HB1 : Hid (Below w.heap.size w w1) := HB.out.trans (hb1.mono HB.out.size)
          clear hb1
          go_wp2_with fail
          go_ret2
          exact ⟨by rw [HVN.out HX.out]; rfl, HB1.out⟩
        · have hcn : chkN x.data.toList = 0 := by unfold chkN; rw [hq]; rfl
          rw [hcn] at hck
          have HX : Hid (allG (l.take (k + 1)) = true) := by
            show _ = _
            rw [HTK.out]
            unfold allG at *
            rw [List.all_append, HALL.out]
            simp only [List.all_cons, List.all_nil, hq, Bool.and_true]
          clear hcn hq
          go_wp2_with fail
          refine hck.mono ?_
          clear hck
          rintro e w1 ⟨rfl, hb1⟩
          have HB1 : Hid (Below w.heap.size w w1) := HB.out.trans (hb1.mono HB.out.size)
          clear hb1
          go_wp2_with fail
          go_roundw
          case rel => exact ⟨k + 1, by omega, by go_num, HX.out, HB1.out⟩
          case measure => simp [RowKit.intOf]; omega
      · obtain rfl : k = l.length := by omega
        have HX : Hid (allG l = true) := by
          have := HALL.out
          rw [List.take_length] at this
          exact this
        clear hbw
        go_wp2_with fail
        refine (hS _).mono ?_
        clear hS
        rintro e w1 ⟨rfl, hb1⟩
        have hbx := HB.out.trans (hb1.mono HB.out.size)
        have HB1 := Lib.hid hbx
        clear hb1
        cases bb
        · have HF : Hid (allowV l S rel = .tuple #[.bool rel, .int .i64 0]) := HV.out HX.out
          clear hbx
          go_wp2_with fail
          go_ret2
          exact ⟨by rw [HF.out]; rfl, HB1.out⟩
        · have HF : Hid (allowV l S rel = .tuple #[.bool (hasS l t), .int .i64 0]) := HV.out HX.out
          have HC1 : Hid (∀ (i : Nat) (s : ByteArray), l[i]? = some s → w1.cell? (a.add i) = some (.string s)) := fun i s hi => (hbx.cell (p := a.add i) (cell_blk (HC.out i s hi))).trans (HC.out i s hi)
          clear hbx
          go_wp2_with fail
          go_loop [37, 14] (fun i _ => ∃ k : Nat, k ≤ l.length ∧ i = .int .i64 k ∧ hasS (l.take k) t = false) (fun i _ => l.length - (RowKit.intOf i).toNat)
          case atStart => exact ⟨0, Nat.zero_le _, rfl, rfl⟩
          case round =>
            obtain ⟨k, hk, rfl, hno⟩ := hrel
            have HN := Lib.hid hno
            clear hno
            by_cases hlt : k < l.length
            · have hltI : (k : Int) < (l.length : Int) := by omega
              have hx := HC1.out k l[k] (List.getElem?_eq_getElem hlt)
              have HTK : Hid (l.take (k + 1) = l.take k ++ [l[k]]) := List.take_succ_eq_append_getElem hlt
              have HM : Hid (l[k] ∈ l) := List.getElem_mem hlt
              obtain ⟨x, hxx⟩ : ∃ x, l[k] = x := ⟨_, rfl⟩
              rw [hxx] at hx HTK HM
              clear hxx
              cases hq : (x.toList == t.toList)
              · have HN2 : Hid (hasS (l.take (k + 1)) t = false) := by
                  show _ = _
                  rw [HTK.out]
                  unfold hasS at *
                  rw [List.any_append, HN.out]
                  simp only [List.any_cons, List.any_nil, hq, Bool.or_false]
                go_wp2_with fail
                go_round
                case rel => exact ⟨k + 1, by omega, by go_num, HN2.out⟩
                case measure => simp [RowKit.intOf]; omega
              · have HY : Hid (hasS l t = true) := by
                  show _ = _
                  unfold hasS
                  rw [List.any_eq_true]
                  exact ⟨x, HM.out, hq⟩
                go_wp2_with fail
                go_ret2
                exact ⟨by rw [HF.out, HY.out]; rfl, HB1.out⟩
            · obtain rfl : k = l.length := by omega
              have HY : Hid (hasS l t = false) := by
                have := HN.out
                rw [List.take_length] at this
                exact this
              go_wp2_with fail
              go_ret2
              exact ⟨by rw [HF.out, HY.out]; rfl, HB1.out⟩

end Go.Proofs.YtabagfhnkdhjdaaDoor
