/- link.goodDesc, link.squeeze, link.descriptor. -/
import Derived.Test.YtabagfhnkdhjdaaGreatDoorWhite
import Derived.Test.YtabagfhnkdhjdaaGreatDoorUntil
import Derived.Lib.Join
set_option linter.unusedVariables false
set_option maxRecDepth 100000
namespace Go.Proofs.YtabagfhnkdhjdaaGreatDoor
open Go.RowKit Go.Lib

theorem drop_ext (s : ByteArray) (n : Nat) : (s.extract n s.size).data.toList = s.data.toList.drop n := by rw [drop_mk]

set_option maxHeartbeats 4000000 in
theorem goodDesc_any (d : ByteArray) (w : World) (hs : d.size ≤ 140737488355328) :
    Calls Tryz.prog 25 #[.string d] w fun e w' => e = .returned (.bool (goodD d.data.toList)) ∧ w = w' := by
  by_cases h0 : d.size = 0
  · have he := empty_true d h0
    have HG : Hid (goodD d.data.toList = true) := by show _ = _; rw [nil_of_size d h0]; rfl
    go_enter Tryz.func25, Tryz.ntmps25
    go_wp2_with fail
    go_ret
    exact ⟨by rw [HG.out]; rfl, rfl⟩
  · have hpos : 0 < d.size := by omega
    have he := empty_false d hpos
    have hemp : d.data.toList.isEmpty = false := by rw [← Lib.toList_data]; exact he
    have hdg := fun w => digits_any d w hs
    have hnl := digN_le d.data.toList
    rw [← size_eq] at hnl
    obtain ⟨n, hn⟩ : ∃ n, digN d.data.toList = n := ⟨_, rfl⟩
    obtain ⟨r, hr⟩ : ∃ r, d.extract n d.size = r := ⟨_, rfl⟩
    have hrd : r.data.toList = d.data.toList.drop n := by rw [← hr, drop_ext]
    have hrs : r.size ≤ 140737488355328 := by rw [← hr, ByteArray.size_extract]; omega
    have HG : Hid (goodD d.data.toList = (decide (1 ≤ n) && decide (n ≤ 9) && (r.data.toList == [119] || r.data.toList == [120] || (r.data.toList.head? == some 46 && decide (1 ≤ digN (r.data.toList.drop 1)) && decide (digN (r.data.toList.drop 1) ≤ 9) && r.data.toList.drop (1 + digN (r.data.toList.drop 1)) == [120])))) := by
      show _ = _
      unfold goodD
      rw [hemp, hn, hrd, Bool.false_or]
    rw [hn] at hdg hnl
    have hnI : (n : Int) ≤ (d.size : Int) := by omega
    have HR := Lib.hid hr
    clear hn hrd hr hemp
    by_cases h1 : (n : Int) < 1
    · have HV : Hid (goodD d.data.toList = false) := by show _ = _; rw [HG.out, decide_eq_false (show ¬ 1 ≤ n by omega)]; rfl
      go_enter Tryz.func25, Tryz.ntmps25
      go_wp2_with (go_at_call 61; refine (hdg _).mono ?_; rintro e w2 ⟨rfl, rfl⟩)
      go_ret
      exact ⟨by rw [HV.out]; rfl, rfl⟩
    · by_cases h2 : (9 : Int) < (n : Int)
      · have HV : Hid (goodD d.data.toList = false) := by show _ = _; rw [HG.out, decide_eq_false (show ¬ n ≤ 9 by omega)]; simp
        go_enter Tryz.func25, Tryz.ntmps25
        go_wp2_with (go_at_call 61; refine (hdg _).mono ?_; rintro e w2 ⟨rfl, rfl⟩)
        go_ret
        exact ⟨by rw [HV.out]; rfl, rfl⟩
      · have HG2 : Hid (goodD d.data.toList = (r.data.toList == [119] || r.data.toList == [120] || (r.data.toList.head? == some 46 && decide (1 ≤ digN (r.data.toList.drop 1)) && decide (digN (r.data.toList.drop 1) ≤ 9) && r.data.toList.drop (1 + digN (r.data.toList.drop 1)) == [120]))) := by
          show _ = _
          rw [HG.out, decide_eq_true (show 1 ≤ n by omega), decide_eq_true (show n ≤ 9 by omega)]; rfl
        clear HG
        go_enter Tryz.func25, Tryz.ntmps25
        go_upto_region 7 with (go_at_call 61; refine (hdg _).mono ?_; rintro e w2 ⟨rfl, rfl⟩)
        rw [HR.out]
        clear hdg
        have hq : ∀ z : List UInt8, (r.toList == z) = (r.data.toList == z) := fun z => by rw [Lib.toList_data]
        cases q1 : (r.toList == [119])
        · have q1' : (r.data.toList == [119]) = false := by rw [← hq]; exact q1
          cases q2 : (r.toList == [120])
          · have q2' : (r.data.toList == [120]) = false := by rw [← hq]; exact q2
            rw [q1', q2'] at HG2
            clear q1' q2' hq
            by_cases hz : r.size = 0
            · have hre := empty_true r hz
              have HV : Hid (goodD d.data.toList = false) := by show _ = _; rw [HG2.out, nil_of_size r hz]; rfl
              go_wp2_with fail
              go_ret
              exact ⟨by rw [HV.out]; rfl, rfl⟩
            · have hrp : 0 < r.size := by omega
              have hrpI : (0 : Int) < (r.size : Int) := by omega
              have hr1I : (1 : Int) ≤ (r.size : Int) := by omega
              have hre := empty_false r hrp
              have hhead : r.data.toList.head? = some r[0] := by
                have := drop_at r 0 hrp
                rw [List.drop_zero] at this
                rw [this]; rfl
              have hby := byte_le r[0]
              have hr0 : (r.data.toList.head? == some 46) = ((r[0].toNat : Int) == 46) := by
                rw [hhead, Bool.eq_iff_iff, beq_iff_eq, beq_iff_eq]
                constructor
                · intro h; rw [Option.some.inj h]; rfl
                · intro h; exact congrArg some (UInt8.toNat_inj.1 (by show r[0].toNat = 46; omega))
              rw [hr0] at HG2
              clear hr0 hhead
              cases q3 : ((r[0].toNat : Int) == 46)
              · have n3 : ((r[0].toNat : Int) != 46) = true := by rw [bne, q3]; rfl
                have HV : Hid (goodD d.data.toList = false) := by show _ = _; rw [HG2.out, q3]; rfl
                go_wp2_with fail
                go_ret
                exact ⟨by rw [HV.out]; rfl, rfl⟩
              · have n3 : ((r[0].toNat : Int) != 46) = false := by rw [bne, q3]; rfl
                have hdg2 := fun w => digits_any (r.extract 1 r.size) w (by rw [ByteArray.size_extract]; omega)
                rw [drop_ext] at hdg2
                have hml := digN_le (r.data.toList.drop 1)
                rw [List.length_drop, ← size_eq] at hml
                obtain ⟨m, hm⟩ : ∃ m, digN (r.data.toList.drop 1) = m := ⟨_, rfl⟩
                rw [hm] at hdg2 hml
                have HG3 : Hid (goodD d.data.toList = (decide (1 ≤ m) && decide (m ≤ 9) && ((r.extract (1 + m) r.size).data.toList == [120]))) := by
                  show _ = _
                  rw [HG2.out, q3, hm, drop_ext]; simp
                have hmI : (1 : Int) + (m : Int) ≤ (r.size : Int) := by omega
                clear HG2 hm
                by_cases h5 : (1 : Int) ≤ (m : Int)
                · by_cases h6 : (m : Int) ≤ 9
                  · have hq5 : ((r.extract (1 + m) r.size).toList == [120]) = ((r.extract (1 + m) r.size).data.toList == [120]) := by rw [Lib.toList_data]
                    cases q6 : ((r.extract (1 + m) r.size).toList == [120])
                    all_goals
                      have HV : Hid (goodD d.data.toList = ((r.extract (1 + m) r.size).data.toList == [120])) := by
                        show _ = _
                        rw [HG3.out, decide_eq_true (show 1 ≤ m by omega), decide_eq_true (show m ≤ 9 by omega)]; rfl
                      rw [← hq5, q6] at HV
                      clear hq5
                      go_wp2_with (go_at_call 61; refine (hdg2 _).mono ?_; rintro e w2 ⟨rfl, rfl⟩)
                      go_ret
                      exact ⟨by rw [HV.out]; rfl, rfl⟩
                  · have HV : Hid (goodD d.data.toList = false) := by show _ = _; rw [HG3.out, decide_eq_false (show ¬ m ≤ 9 by omega)]; simp
                    go_wp2_with (go_at_call 61; refine (hdg2 _).mono ?_; rintro e w2 ⟨rfl, rfl⟩)
                    go_ret
                    exact ⟨by rw [HV.out]; rfl, rfl⟩
                · have HV : Hid (goodD d.data.toList = false) := by show _ = _; rw [HG3.out, decide_eq_false (show ¬ 1 ≤ m by omega)]; rfl
                  go_wp2_with (go_at_call 61; refine (hdg2 _).mono ?_; rintro e w2 ⟨rfl, rfl⟩)
                  go_ret
                  exact ⟨by rw [HV.out]; rfl, rfl⟩
          · have q2' : (r.data.toList == [120]) = true := by rw [← hq]; exact q2
            have HV : Hid (goodD d.data.toList = true) := by show _ = _; rw [HG2.out, q2']; simp
            go_wp2_with fail
            go_ret
            exact ⟨by rw [HV.out]; rfl, rfl⟩
        · have q1' : (r.data.toList == [119]) = true := by rw [← hq]; exact q1
          have HV : Hid (goodD d.data.toList = true) := by show _ = _; rw [HG2.out, q1']; simp
          go_wp2_with fail
          go_ret
          exact ⟨by rw [HV.out]; rfl, rfl⟩

/-! squeeze. -/
def whR (x : Nat) : Bool := decide (x < 128) && whZ (x : Int)
def squeezeS (s : ByteArray) : ByteArray := ⟨(Lib.join ((Lib.goFieldsP whR s).map (·.data.toList)) [32]).toArray⟩

theorem squeeze1_any (x : Nat) (w : World) (hx : x ≤ 1114111) : Calls Tryz.prog 87 #[.int .i32 (x : Nat)] w fun e w' => e = .returned (.bool (whR x)) ∧ w = w' := by
  by_cases h : (x : Int) < 128
  · have c := fun w => white_int (x : Int) w
    have HV : Hid (whR x = whZ (x : Int)) := by show _ = _; unfold whR; rw [decide_eq_true (show x < 128 by omega)]; rfl
    obtain ⟨b, hb⟩ : ∃ b, whZ (x : Int) = b := ⟨_, rfl⟩
    rw [hb] at c HV
    clear hb
    go_enter Tryz.func87, Tryz.ntmps87
    go_wp2_with (go_at_call 19; refine (c _).mono ?_; rintro e w2 ⟨rfl, rfl⟩)
    go_ret
    exact ⟨by rw [HV.out]; rfl, rfl⟩
  · have HV : Hid (whR x = false) := by show _ = _; unfold whR; rw [decide_eq_false (show ¬ x < 128 by omega)]; rfl
    go_enter Tryz.func87, Tryz.ntmps87
    go_wp2_with fail
    go_ret
    exact ⟨by rw [HV.out]; rfl, rfl⟩

theorem spans_len (p : Nat → Bool) (s : ByteArray) : ∀ (f pos : Nat) (st : Option Nat) (acc : List (Nat × Nat)), (Lib.spansFromP p s f pos st acc).1.length ≤ acc.length + f
  | 0, _, _, _ => Nat.le_refl _
  | f + 1, pos, st, acc => by
    unfold Lib.spansFromP
    split
    · split
      · cases st with
        | none => exact Nat.le_trans (spans_len p s f _ _ _) (by omega)
        | some a =>
          refine Nat.le_trans (spans_len p s f _ _ _) ?_
          simp; omega
      · cases st with
        | none => exact Nat.le_trans (spans_len p s f _ _ _) (by omega)
        | some a => exact Nat.le_trans (spans_len p s f _ _ _) (by omega)
    · simp
theorem fields_len (p : Nat → Bool) (s : ByteArray) : (Lib.goFieldsP p s).length ≤ s.size + 1 := by
  have h := spans_len p s s.size 0 none []
  unfold Lib.goFieldsP Lib.spansOfP Lib.closeSpans
  rw [List.length_map]
  split
  · rw [List.length_append]; simp at h ⊢; omega
  · simp at h ⊢; omega
theorem join_len (sep : List UInt8) (M : Nat) : ∀ (xs : List (List UInt8)), (∀ x ∈ xs, x.length ≤ M) → (Lib.join xs sep).length ≤ xs.length * (M + sep.length)
  | [], _ => by simp [Lib.join_nil]
  | x :: r, h => by
    have h2 : ∀ (r : List (List UInt8)), (∀ x ∈ r, x.length ≤ M) → (Lib.joinTail sep r).length ≤ r.length * (M + sep.length) := by
      intro r hr
      induction r with
      | nil => simp [Lib.joinTail]
      | cons y r ih =>
        have := ih (fun x hx => hr x (by simp [hx]))
        have hy := hr y (by simp)
        unfold Lib.joinTail at *
        rw [List.map_cons, List.flatten_cons, List.length_append, List.length_append, List.length_cons, Nat.succ_mul]
        omega
    have := h2 r (fun y hy => h y (by simp [hy]))
    have hx := h x (by simp)
    rw [Lib.join_cons, List.length_append, List.length_cons, Nat.succ_mul]
    omega
theorem squeeze_join {s : ByteArray} (hs : s.size ≤ 8000000) : (Lib.join ((Lib.goFieldsP whR s).map (·.data.toList)) [32]).length ≤ 140737488355328 := by
  have h := join_len [32] s.size ((Lib.goFieldsP whR s).map (·.data.toList)) (fun x hx => by
    obtain ⟨y, hy, rfl⟩ := List.mem_map.1 hx
    unfold Lib.goFieldsP at hy
    obtain ⟨z, _, rfl⟩ := List.mem_map.1 hy
    rw [← size_eq, ByteArray.size_extract]; omega)
  have h2 := fields_len whR s
  rw [List.length_map] at h
  refine Nat.le_trans h (Nat.le_trans (Nat.mul_le_mul h2 (Nat.le_refl _)) ?_)
  have : (s.size + 1) * (s.size + [(32 : UInt8)].length) ≤ 8000001 * 8000001 := Nat.mul_le_mul (by omega) (by simp; omega)
  omega

set_option maxHeartbeats 2000000 in
theorem squeeze_any (s : ByteArray) (w : World) (hs : s.size ≤ 8000000) :
    Calls Tryz.prog 59 #[.string s] w fun e w' => e = .returned (.string (squeezeS s)) ∧ Below w.heap.size w w' := by
  have hf := Tryz.strings_FieldsFunc_runes 87 #[] (fun _ _ => by kernel_rfl) whR s w (by omega) (fun W x hx _ => (squeeze1_any x W hx).mono fun e w' ⟨h1, h2⟩ => ⟨h1, 0, h2.symm⟩)
  have hj := squeeze_join hs
  generalize hxs : Lib.goFieldsP whR s = xs at hf hj
  have HX := Lib.hid hxs
  clear hxs
  go_enter Tryz.func59, Tryz.ntmps59
  go_wp2_with fail
  refine hf.mono ?_
  clear hf
  rintro e w1 ⟨A, rfl, hA, hown, hb1⟩
  have hrow := RowAt.owned hown
  have hjc := Tryz.strings_Join A 0 xs.length xs ⟨#[32]⟩ w1 (fun j x hx => by
    rw [Nat.zero_add]
    exact hrow.cell (by rw [List.getElem?_map, hx]; rfl)) hrow.lt (by
      have := fields_len whR s
      rw [HX.out] at this
      omega) (Nat.le_refl _) hj
  have HB1 := Lib.hid hb1
  clear hown hrow hb1 hj
  go_wp2_with fail
  refine hjc.mono ?_
  clear hjc
  rintro e w2 ⟨rfl, hb2⟩
  have HB2 : Hid (Below w.heap.size w w2) := HB1.out.trans (hb2.mono HB1.out.size)
  clear hb2
  go_wp2_with fail
  go_ret
  exact ⟨by unfold squeezeS; rw [HX.out]; rfl, HB2.out⟩

/-! descriptor. -/
def dPos : List UInt8 → Bool → Option Nat
  | [], _ => none
  | c :: t, inn => if c.toNat = 40 then (dPos t true).map (· + 1) else if c.toNat = 41 then (dPos t false).map (· + 1) else if c.toNat = 44 ∧ inn = false then some 0 else (dPos t inn).map (· + 1)
def descS (s : ByteArray) : ByteArray := match dPos s.data.toList false with | some i => squeezeS (s.extract 0 i) | none => squeezeS s
def descN (s : ByteArray) : Nat := match dPos s.data.toList false with | some i => i + 1 | none => s.size

theorem dPos_map {o : Option Nat} {a b : Nat} : (o.map (· + a)).map (· + b) = o.map (· + (a + b)) := by cases o <;> simp [Nat.add_assoc]

set_option maxHeartbeats 4000000 in
theorem descriptor_any (s : ByteArray) (w : World) (hs : s.size ≤ 8000000) :
    Calls Tryz.prog 22 #[.string s] w fun e w' => e = .returned (.tuple #[.string (descS s), .int .i64 (descN s : Nat)]) ∧ Below w.heap.size w w' := by
  go_enter Tryz.func22, Tryz.ntmps22
  go_wp2_with fail
  go_loop [8, 4, 5, 11, 16, 21] (fun i b _ _ _ _ => ∃ (k : Nat) (inn : Bool), k ≤ s.size ∧ i = .int .i64 k ∧ b = .bool inn ∧ dPos s.data.toList false = (dPos (s.data.toList.drop k) inn).map (· + k)) (fun i _ _ _ _ _ => s.size - (RowKit.intOf i).toNat)
  case atStart => exact ⟨0, false, Nat.zero_le _, rfl, rfl, by simp⟩
  case round =>
    obtain ⟨k, inn, hk, rfl, rfl, hd⟩ := hrel
    have HD := Lib.hid hd
    clear hd
    by_cases hlt : k < s.size
    · have hltI : (k : Int) < (s.size : Int) := by omega
      have HC := Lib.hid (drop_at s k hlt)
      have hby := byte_le s[k]
      cases q1 : ((s[k].toNat : Int) == 40)
      · cases q2 : ((s[k].toNat : Int) == 41)
        · cases q3 : ((s[k].toNat : Int) == 44)
          · have HN : Hid (dPos s.data.toList false = (dPos (s.data.toList.drop (k + 1)) inn).map (· + (k + 1))) := by
              rw [beq_eq_false_iff_ne] at q1 q2 q3
              show _ = _
              rw [HD.out, HC.out, dPos, if_neg (by omega), if_neg (by omega), if_neg (by omega), dPos_map, Nat.add_comm 1 k]
            go_wp2_with fail
            go_round
            case rel => exact ⟨k + 1, inn, by omega, by go_num, rfl, HN.out⟩
            case measure => simp [RowKit.intOf]; omega
          · cases inn
            · have HN : Hid (dPos s.data.toList false = some k) := by
                rw [beq_eq_false_iff_ne] at q1 q2
                rw [beq_iff_eq] at q3
                show _ = _
                rw [HD.out, HC.out, dPos, if_neg (by omega), if_neg (by omega), if_pos ⟨by omega, rfl⟩]; simp
              have hsq := squeeze_any (s.extract 0 k) w (by rw [ByteArray.size_extract]; omega)
              have HV1 : Hid (descS s = squeezeS (s.extract 0 k)) := by show _ = _; unfold descS; rw [HN.out]
              have HV2 : Hid (descN s = k + 1) := by show _ = _; unfold descN; rw [HN.out]
              generalize squeezeS (s.extract 0 k) = z at hsq HV1
              go_wp2_with fail
              refine hsq.mono ?_
              clear hsq
              rintro e w2 ⟨rfl, hb2⟩
              have HB2 := Lib.hid hb2
              clear hb2
              go_wp2_with fail
              go_ret2
              exact ⟨by rw [HV1.out, HV2.out]; rfl, HB2.out⟩
            · have HN : Hid (dPos s.data.toList false = (dPos (s.data.toList.drop (k + 1)) true).map (· + (k + 1))) := by
                rw [beq_eq_false_iff_ne] at q1 q2
                show _ = _
                rw [HD.out, HC.out, dPos, if_neg (by omega), if_neg (by omega), if_neg (fun h => Bool.noConfusion h.2), dPos_map, Nat.add_comm 1 k]
              go_wp2_with fail
              go_round
              case rel => exact ⟨k + 1, true, by omega, by go_num, rfl, HN.out⟩
              case measure => simp [RowKit.intOf]; omega
        · have HN : Hid (dPos s.data.toList false = (dPos (s.data.toList.drop (k + 1)) false).map (· + (k + 1))) := by
            rw [beq_eq_false_iff_ne] at q1
            rw [beq_iff_eq] at q2
            show _ = _
            rw [HD.out, HC.out, dPos, if_neg (by omega), if_pos (by omega), dPos_map, Nat.add_comm 1 k]
          go_wp2_with fail
          go_round
          case rel => exact ⟨k + 1, false, by omega, by go_num, rfl, HN.out⟩
          case measure => simp [RowKit.intOf]; omega
      · have HN : Hid (dPos s.data.toList false = (dPos (s.data.toList.drop (k + 1)) true).map (· + (k + 1))) := by
          rw [beq_iff_eq] at q1
          show _ = _
          rw [HD.out, HC.out, dPos, if_pos (by omega), dPos_map, Nat.add_comm 1 k]
        go_wp2_with fail
        go_round
        case rel => exact ⟨k + 1, true, by omega, by go_num, rfl, HN.out⟩
        case measure => simp [RowKit.intOf]; omega
    · obtain rfl : k = s.size := by omega
      have HN : Hid (dPos s.data.toList false = none) := by
        show _ = _
        rw [HD.out, drop_end s s.size (Nat.le_refl _)]; rfl
      have hsq := squeeze_any s w hs
      have HV1 : Hid (descS s = squeezeS s) := by show _ = _; unfold descS; rw [HN.out]
      have HV2 : Hid (descN s = s.size) := by show _ = _; unfold descN; rw [HN.out]
      generalize squeezeS s = z at hsq HV1
      go_wp2_with fail
      refine hsq.mono ?_
      clear hsq
      rintro e w2 ⟨rfl, hb2⟩
      have HB2 := Lib.hid hb2
      clear hb2
      go_wp2_with fail
      go_ret2
      exact ⟨by rw [HV1.out, HV2.out]; rfl, HB2.out⟩

end Go.Proofs.YtabagfhnkdhjdaaGreatDoor
