/- link.Set: candidates as a srcset. -/
import Derived.Test.YtabagfhnkdhjdaaGreatDoorSrcW
import Derived.Test.YtabagfhnkdhjdaaGreatDoorMended
set_option linter.unusedVariables false
set_option maxRecDepth 100000
namespace Go.Proofs.YtabagfhnkdhjdaaGreatDoor
open Go.RowKit Go.Lib

theorem infoS1 : (Tryz.prog.info? 9).map (fun i => (i.zero, i.size, i.bytes)) = some (some (.string ⟨#[]⟩), 1, 16) := by kernel_rfl

/-- One candidate as it is written. -/
def setB (p : ByteArray × ByteArray) : ByteArray := if p.2.size = 0 then mendS p.1 else mendS p.1 ++ ((⟨#[32]⟩ : ByteArray) ++ mendS p.2)
def setS (l : List (ByteArray × ByteArray)) : ByteArray := ⟨(Lib.join ((l.map setB).map (·.data.toList)) [44, 32]).toArray⟩

theorem mendS_le (s : ByteArray) : (mendS s).size ≤ 4 * s.size := by
  have := mend_len s.data.toList
  rw [← size_eq] at this
  show (⟨(mend s.data.toList).toArray⟩ : ByteArray).size ≤ _
  rw [size_eq]
  exact this
theorem setB_le {p : ByteArray × ByteArray} (h1 : p.1.size ≤ 1048576) (h2 : p.2.size ≤ 1048576) : (setB p).size ≤ 8388609 := by
  have a := mendS_le p.1
  have b := mendS_le p.2
  unfold setB
  split
  · omega
  · rw [ByteArray.size_append, ByteArray.size_append]
    show (mendS p.1).size + (1 + (mendS p.2).size) ≤ _
    omega
theorem set_join {l : List (ByteArray × ByteArray)} (hl : l.length ≤ 1048576) (h : ∀ p ∈ l, p.1.size ≤ 1048576 ∧ p.2.size ≤ 1048576) : (Lib.join ((l.map setB).map (·.data.toList)) [44, 32]).length ≤ 140737488355328 := by
  have h1 := join_len [44, 32] 8388609 ((l.map setB).map (·.data.toList)) (fun x hx => by
    obtain ⟨y, hy, rfl⟩ := List.mem_map.1 hx
    obtain ⟨p, hp, rfl⟩ := List.mem_map.1 hy
    rw [← size_eq]
    exact setB_le (h p hp).1 (h p hp).2)
  rw [List.length_map, List.length_map] at h1
  refine Nat.le_trans h1 (Nat.le_trans (Nat.mul_le_mul hl (Nat.le_refl _)) ?_)
  decide

set_option maxHeartbeats 8000000 in
theorem set_any (v : Value) (l : List (ByteArray × ByteArray)) (w : World) (hl : l.length ≤ 1048576) (hsz : ∀ p ∈ l, p.1.size ≤ 1048576 ∧ p.2.size ≤ 1048576) (hp : PairsAt w v l) :
    Calls Tryz.prog 7 #[v] w fun e w' => e = .returned (.string (setS l)) ∧ Below w.heap.size w w' := by
  have hj := set_join hl hsz
  have HJ := Lib.hid hj
  clear hj
  obtain ⟨R, hR⟩ : ∃ R, setS l = R := ⟨_, rfl⟩
  rw [hR]
  have HRES := Lib.hid hR
  clear hR
  obtain ⟨a0, cap, rfl, hcap, hc⟩ := hp
  have HC := Lib.hid hc
  have HSZ := Lib.hid hsz
  obtain ⟨i0, hi, hz0, hz1, hz2⟩ := info_parts infoS1
  clear hc hsz
  go_enter Tryz.func7, Tryz.ntmps7
  go_wp2_with fail
  go_loopw [9, 3, 5, 6] (fun i v _ _ wr => ∃ k : Nat, k ≤ l.length ∧ i = .int .i64 k ∧ wr.ownsRow w.heap.size 9 1 v k (((l.map setB).take k).map Value.string) ∧ Below w.heap.size w wr) (fun i _ _ _ _ => l.length - (RowKit.intOf i).toNat)
  case atStart => exact ⟨0, Nat.zero_le _, rfl, World.ownsRow_nil _ _ _ _, Below.refl _ _⟩
  case round =>
    obtain ⟨k, hk, rfl, hown, hbw⟩ := hrel
    have HOWN := Lib.hid hown
    have HB := Lib.hid hbw
    clear hown
    by_cases hlt : k < l.length
    · have hltI : (k : Int) < (l.length : Int) := by omega
      obtain ⟨a, rfl, hx0, hx1⟩ := HC.out k l[k] (List.getElem?_eq_getElem hlt)
      have hy0 := (hbw.cell (p := a.add (k * 2)) (cell_in hx0)).trans hx0
      have hy1 := (hbw.cell (p := ⟨(a.add (k * 2)).block, (a.add (k * 2)).off + 1, none⟩) (cell_in hx1)).trans hx1
      have HTK : Hid ((l.map setB).take (k + 1) = (l.map setB).take k ++ [setB l[k]]) := by
        show _ = _
        rw [List.take_add_one, List.getElem?_map, List.getElem?_eq_getElem hlt]; rfl
      have hpz := HSZ.out l[k] (List.getElem_mem hlt)
      obtain ⟨p, hpp⟩ : ∃ p, l[k] = p := ⟨_, rfl⟩
      rw [hpp] at hy0 hy1 HTK hpz
      clear hx0 hx1 hpp HC hbw
      obtain ⟨x, y⟩ := p
      simp only at hy0 hy1 hpz
      have hm1 := fun w => mend_any x w (by omega)
      have hm2 := fun w => mend_any y w (by omega)
      have hm1' : ∀ w, Calls Tryz.prog 18 #[.string x] w fun e w' => e = .returned (.string (mendS x)) ∧ Below w.heap.size w w' := hm1
      have hm2' : ∀ w, Calls Tryz.prog 18 #[.string y] w fun e w' => e = .returned (.string (mendS y)) ∧ Below w.heap.size w w' := hm2
      have hmx := mendS_le x
      have hmy := mendS_le y
      have HSB : Hid (setB (x, y) = if y.size = 0 then mendS x else mendS x ++ ((⟨#[32]⟩ : ByteArray) ++ mendS y)) := by show _ = _; rfl
      generalize mendS x = mx at hm1' hmx HSB
      generalize mendS y = my at hm2' hmy HSB
      have hmxs : mx.size ≤ 8388608 := by omega
      have hmys : my.size ≤ 8388608 := by omega
      clear hm1 hm2 hmx hmy
      have hrow := RowAt.new wr #[.string x, .string y] 27 [.string x, .string y] rfl
      have hbel := HB.out.alloc HB.out.size (.cells #[.string x, .string y] 27)
      have hown1 := HOWN.out.alloc (.cells #[.string x, .string y] 27)
      have HROW := Lib.hid hrow
      have HBEL := Lib.hid hbel
      have HOWN1 := Lib.hid hown1
      clear hrow hbel hown1
      go_upto_region 5 with fail
      obtain ⟨w1, hw1⟩ : ∃ w1, wr.alloc (.cells #[.string x, .string y] 27) = w1 := ⟨_, rfl⟩
      obtain ⟨B, hB⟩ : ∃ B, wr.heap.size = B := ⟨_, rfl⟩
      have hr1 : RowAt w1 B [.string x, .string y] := by have := HROW.out; rw [hw1, hB] at this; exact this
      have HO1 : Hid (w1.ownsRow w.heap.size 9 1 u3 k (((l.map setB).take k).map Value.string)) := by have := HOWN1.out; rw [hw1] at this; exact this
      have HB1 : Hid (Below w.heap.size w w1) := by have := HBEL.out; rw [hw1] at this; exact this
      rw [hw1, hB]
      clear hw1 hB HROW HBEL HOWN1
      have c0 := hr1.cell (j := 0) rfl
      have c1 := hr1.cell (j := 1) rfl
      have HR1 := Lib.hid hr1
      clear hr1
      go_wp2_with fail
      refine (hm1' _).mono ?_
      clear hm1'
      rintro e w2 ⟨rfl, hb2⟩
      have hr2 := HR1.out.below hb2 HR1.out.lt
      have HO2 := Lib.hid (own_below HO1.out hb2)
      have HB2 : Hid (Below w.heap.size w w2) := HB1.out.trans (hb2.mono HB1.out.size)
      have d1 := hr2.cell (j := 1) rfl
      have HR2 := Lib.hid hr2
      clear c0 c1 hr2 hb2
      go_upto_if 18 with fail
      obtain ⟨q, hq⟩ : ∃ q, (!y.toList.isEmpty) = q := ⟨_, rfl⟩
      rw [hq]
      have HQ := Lib.hid hq
      clear hq
      go_cut [6] (fun s wx => s = .string (setB (x, y)) ∧ wx.ownsRow w.heap.size 9 1 u3 k (((l.map setB).take k).map Value.string) ∧ Below w.heap.size w wx)
      case first =>
        cases q
        · have hyz : y.size = 0 := by
            apply Decidable.byContradiction
            intro h
            have := HQ.out
            rw [empty_false y (by omega)] at this
            cases this
          have HV : Hid (setB (x, y) = mx) := by show _ = _; rw [HSB.out, if_pos hyz]
          go_wp2_with fail
          go_meet
          case rel => exact ⟨by rw [HV.out], HO2.out, HB2.out⟩
        · have hyz : ¬ y.size = 0 := by
            intro h
            have := HQ.out
            rw [empty_true y h] at this
            cases this
          have HV : Hid (setB (x, y) = mx ++ ((⟨#[32]⟩ : ByteArray) ++ my)) := by show _ = _; rw [HSB.out, if_neg hyz]
          go_wp2_with fail
          refine (hm2' _).mono ?_
          clear hm2'
          rintro e w3 ⟨rfl, hb3⟩
          have HO3 := Lib.hid (own_below HO2.out hb3)
          have HB3 : Hid (Below w.heap.size w w3) := HB2.out.trans (hb3.mono HB2.out.size)
          clear hb3
          go_wp2_with fail
          go_meet
          case rel => exact ⟨by rw [HV.out], HO3.out, HB3.out⟩
      case rest =>
        obtain ⟨rfl, hown3, hb3⟩ := hcut
        have HO3 := Lib.hid hown3
        have HB3 := Lib.hid hb3
        clear hown3 hb3 HSB
        generalize setB (x, y) = z at *
        have hnew : ∀ (j : Nat) (u : Value), [Value.string z][j]? = some u → (wc.alloc (.cells #[.string z] 9)).cell? ((⟨wc.heap.size, 0, none⟩ : Addr).add j) = some u := fun j u hj => by
          have := RowAt.new wc #[.string z] 9 [.string z] rfl
          rw [add_at]
          exact this.cell hj
        have hal := HB3.out.alloc HB3.out.size (.cells #[.string z] 9)
        have HNEW := Lib.hid hnew
        have HAL := Lib.hid hal
        clear hnew hal
        go_wp2_with (at_builtin; refine wpList_append_own _ rfl _ _ 58 rfl w.heap.size 9 i0 (.string ⟨#[]⟩) 1 16 Tryz.underlying58 hi hz0 hz1 hz2 rfl (by decide) _ k (((l.map setB).take k).map Value.string) rfl (HO3.out.alloc _) ⟨wc.heap.size, 0, none⟩ 1 1 [Value.string z] rfl rfl HNEW.out (by simp [Value.oneCell']) (by unfold maxLen; omega) (by omega) (by simp; have := HB3.out.size; omega) ?_; intro v' w5 hown' hgrow _)
        have HO5 : Hid (w5.ownsRow w.heap.size 9 1 v' (k + 1) (((l.map setB).take (k + 1)).map Value.string)) := by
          show World.ownsRow _ _ _ _ _ _ _
          rw [HTK.out, List.map_append]
          exact hown'
        have HB5 : Hid (Below w.heap.size w w5) := HAL.out.grown hgrow (by simp; have := HB3.out.size; omega) (fun j ej => (HO3.out.lt j ej).1)
        clear hown' hgrow
        go_wp2_with fail
        go_roundw
        case rel => exact ⟨k + 1, by omega, by go_num, HO5.out, HB5.out⟩
        case measure => simp [RowKit.intOf]; omega
    · obtain rfl : k = l.length := by omega
      have hown2 := HOWN.out
      rw [List.take_of_length_le (by rw [List.length_map]; exact Nat.le_refl _)] at hown2
      clear hbw HOWN
      rcases hown2.2 with ⟨rfl, h0⟩ | ⟨g, cap', cur, rfl, hg, hh, hn, hx, hy, ht⟩
      · have hjn := fun w => Tryz.strings_Join_none none 0 ⟨#[44, 32]⟩ w
        have HV : Hid (R = ⟨#[]⟩) := by
          have := HRES.out
          obtain rfl := List.length_eq_zero_iff.1 h0
          exact this.symm
        clear hown2
        go_wp2_with (go_at_call 26; refine (hjn _).mono ?_; rintro e w3 ⟨rfl, h3⟩; rw [h3]; clear h3 w3)
        go_ret
        exact ⟨by rw [HV.out]; rfl, HB.out⟩
      · have hrow := RowAt.owned hown2
        have hjn := Tryz.strings_Join g 0 cap' (l.map setB) ⟨#[44, 32]⟩ wr (fun j x hx => by
          rw [Nat.zero_add]
          exact hrow.cell (by rw [List.getElem?_map, hx]; rfl)) hrow.lt (by rw [List.length_map]; omega) (by rw [List.length_map]; exact hn) HJ.out
        rw [List.length_map] at hjn
        have e : (⟨(Lib.join ((l.map setB).map (·.data.toList)) (⟨#[44, 32]⟩ : ByteArray).data.toList).toArray⟩ : ByteArray) = R := HRES.out
        rw [e] at hjn
        clear e
        clear hown2 hrow hh
        go_wp2_with fail
        refine hjn.mono ?_
        clear hjn
        rintro e w3 ⟨rfl, hb3⟩
        have HB3 : Hid (Below w.heap.size w w3) := HB.out.trans (hb3.mono HB.out.size)
        clear hb3
        go_wp2_with fail
        go_ret
        exact ⟨rfl, HB3.out⟩

end Go.Proofs.YtabagfhnkdhjdaaGreatDoor
