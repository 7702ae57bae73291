/- The reference's Lower, colon, upTo. -/
import Derived.Test.YtabagfhnkdhjdaaDoorRefE
set_option linter.unusedVariables false
set_option maxRecDepth 100000
namespace Go.Proofs.YtabagfhnkdhjdaaDoor
open Go.RowKit Go.Lib

set_option maxHeartbeats 1000000 in
theorem rlower_any (s : ByteArray) (w : World) (hs : s.size ≤ 140737488355328) :
    Calls Tryd.prog 27 #[.string s] w fun e w' => e = .returned (.string ⟨(lower s.data.toList).toArray⟩) ∧ Below w.heap.size w w' := by
  have hconv := run_bytes_of_string (P := Tryd.prog) w 9 52 5 s Tryd.underlying9 Tryd.underlying52 Tryd.underlying5
  have hr0 : Hid (RowAt (w.alloc (.cells (bytesRow s (grownCap w s.size 0 5)) 5 ((bytesRow s (grownCap w s.size 0 5)).size, (bytesRow s (grownCap w s.size 0 5)).size + 1))).drew w.heap.size (byteCells (lower (s.data.toList.take 0) ++ s.data.toList.drop 0))) := RowAt.bytes w s _ _
  have hb0 : Hid (Below w.heap.size w (w.alloc (.cells (bytesRow s (grownCap w s.size 0 5)) 5 ((bytesRow s (grownCap w s.size 0 5)).size, (bytesRow s (grownCap w s.size 0 5)).size + 1))).drew) := ((Below.refl _ w).alloc (Nat.le_refl _) _).drew
  have hcap := grownCap_ge w s.size 0 5
  have HC : ∃ c, grownCap w s.size 0 5 = c := ⟨_, rfl⟩
  obtain ⟨cap, hcc⟩ := HC
  rw [hcc] at hconv hcap hr0 hb0
  clear hcc
  obtain ⟨C, hC⟩ : ∃ C, bytesRow s cap = C := ⟨_, rfl⟩
  rw [hC] at hconv hr0 hb0
  clear hC
  go_enter Tryd.func27, Tryd.ntmps27
  go_wp2
  go_loopw [9, 4] (fun i _ wr => ∃ k : Nat, k ≤ s.size ∧ i = .int .i64 k ∧ RowAt wr w.heap.size (byteCells (lower (s.data.toList.take k) ++ s.data.toList.drop k)) ∧ Below w.heap.size w wr) (fun i _ _ => s.size - (RowKit.intOf i).toNat)
  case atStart => exact ⟨0, Nat.zero_le _, rfl, hr0.out, hb0.out⟩
  case round =>
    obtain ⟨k, hk, rfl, hrow, hbel⟩ := hrel
    have HR := Lib.hid hrow
    have HB := Lib.hid hbel
    clear hrow hbel hr0 hb0
    by_cases hlt : k < s.size
    · have hcell := HR.out.cell (lower_at s k hlt)
      have hfr := HR.out.frozen (j := k) (by rw [lower_len s k hk]; exact hlt)
      obtain ⟨c, hc⟩ : ∃ c, s[k] = c := ⟨_, rfl⟩
      have HC := Lib.hid hc
      rw [hc] at hcell
      clear hc
      have hc256 := c.toNat_lt
      by_cases h1 : 65 ≤ (c.toNat : Int) <;> by_cases h2 : (c.toNat : Int) ≤ 90
      all_goals try (exfalso; omega)
      · go_wp2
        go_roundw
        case rel =>
          refine ⟨k + 1, by omega, by go_num, ?_, HB.out.setCell (p := ⟨w.heap.size, k, none⟩) (Nat.le_refl _) _⟩
          rw [lower_step s k hlt]
          have e : ((lowB s[k]).toNat : Int) = c.toNat + 32 := by rw [HC.out, lowB_in h1 h2]
          rw [e]
          exact HR.out.set k _
        case measure => simp [RowKit.intOf]; omega
      · go_wp2
        go_roundw
        case rel =>
          refine ⟨k + 1, by omega, by go_num, ?_, HB.out⟩
          rw [lower_keep s k hlt (by rw [HC.out]; omega)]
          exact HR.out
        case measure => simp [RowKit.intOf]; omega
      · go_wp2
        go_roundw
        case rel =>
          refine ⟨k + 1, by omega, by go_num, ?_, HB.out⟩
          rw [lower_keep s k hlt (by rw [HC.out]; omega)]
          exact HR.out
        case measure => simp [RowKit.intOf]; omega
    · obtain rfl : k = s.size := by omega
      have hback := HR.out.string (P := Tryd.prog) 52 9 5 s.size cap (by rw [← byteCells_len, lower_len s s.size (Nat.le_refl _)]) Tryd.underlying52 Tryd.underlying5 Tryd.underlying9
      go_wp2
      go_ret
      refine ⟨?_, HB.out⟩
      rw [drop_end s s.size (Nat.le_refl _), List.append_nil, List.take_of_length_le (by rw [← size_eq]; exact Nat.le_refl _)]
      rfl

theorem colZ_open {s : ByteArray} (h : 0 < s.size) : letB s[0] = true → colon s.data.toList = colonGo (s.data.toList.drop 0) 0 := fun hl => by
  have := drop_at s 0 h
  rw [this]
  rw [List.drop_zero] at this
  rw [this]
  exact colon_zero hl

set_option maxHeartbeats 1000000 in
theorem rcolon_any (s : ByteArray) (w : World) (hs : s.size ≤ 140737488355328) :
    Calls Tryd.prog 26 #[.string s] w fun e w' => e = .returned (.int .i64 (colZ s.data.toList)) ∧ w = w' := by
  by_cases h0 : s.size = 0
  · have he := empty_true s h0
    have hn := Lib.hid (nil_of_size s h0)
    go_enter Tryd.func26, Tryd.ntmps26
    go_wp2
    go_ret
    exact ⟨by rw [hn.out]; rfl, rfl⟩
  · have hpos : 0 < s.size := by omega
    have hposI : (0 : Int) < (s.size : Int) := by omega
    have he := empty_false s hpos
    have hopen := Lib.hid (colon_open s hpos)
    have hzero := Lib.hid (colZ_open hpos)
    have c1 := rletter_any (s[0].toNat : Int) w
    have hb := byte_le s[0]
    cases hl : letB s[0]
    · have hl2 : letZ (s[0].toNat : Int) = false := hl
      rw [hl2] at c1
      have HL := Lib.hid hl
      clear hl hl2
      go_enter Tryd.func26, Tryd.ntmps26
      go_wp2_with (go_at_call 46; refine c1.mono ?_; rintro e w' ⟨rfl, rfl⟩)
      go_ret
      refine ⟨?_, rfl⟩
      have : colon s.data.toList = none := by rw [hopen.out, HL.out]; rfl
      rw [colZ_none this]; rfl
    · have hl2 : letZ (s[0].toNat : Int) = true := hl
      rw [hl2] at c1
      have hop : Hid (colon s.data.toList = colonGo (s.data.toList.drop 0) 0) := hzero.out hl
      clear hl hl2 hopen hzero
      go_enter Tryd.func26, Tryd.ntmps26
      go_wp2_with (go_at_call 46; refine c1.mono ?_; rintro e w' ⟨rfl, rfl⟩)
      clear c1 hb
      go_loop [15, 3] (fun i _ => ∃ k : Nat, k ≤ s.size ∧ i = .int .i64 k ∧ colon s.data.toList = colonGo (s.data.toList.drop k) k) (fun i _ => s.size - (RowKit.intOf i).toNat)
      case atStart => exact ⟨0, Nat.zero_le _, rfl, hop.out⟩
      case round =>
        obtain ⟨k, hk, rfl, hrel2⟩ := hrel
        have HR := Lib.hid hrel2
        clear hrel2 hop
        by_cases hlt : k < s.size
        · have hd := Lib.hid (drop_at s k hlt)
          have hb := byte_le s[k]
          have c2 := rinner_any s[k] w
          by_cases h58 : (s[k].toNat : Int) = 58
          · have h58' : ((s[k].toNat : Int) == 58) = true := by simpa using h58
            have H58 := Lib.hid h58
            clear h58
            go_wp2_with fail
            go_ret
            refine ⟨?_, rfl⟩
            have : colon s.data.toList = some k := by
              rw [HR.out, hd.out, colonGo, if_pos (by have := H58.out; omega)]
            rw [colZ_some this]; rfl
          · have h58' : ((s[k].toNat : Int) == 58) = false := by simpa using h58
            have H58 := Lib.hid h58
            clear h58
            cases hsc : schB s[k]
            · have h2 : schZ (s[k].toNat : Int) = false := hsc
              rw [h2] at c2
              have HS := Lib.hid hsc
              clear hsc h2
              go_wp2_with (go_at_call 39; refine c2.mono ?_; rintro e w' ⟨rfl, rfl⟩)
              go_ret
              refine ⟨?_, rfl⟩
              have : colon s.data.toList = none := by
                rw [HR.out, hd.out, colonGo, if_neg (by have := H58.out; omega), HS.out]; rfl
              rw [colZ_none this]; rfl
            · have h2 : schZ (s[k].toNat : Int) = true := hsc
              rw [h2] at c2
              have HS := Lib.hid hsc
              clear hsc h2
              go_wp2_with (go_at_call 39; refine c2.mono ?_; rintro e w' ⟨rfl, rfl⟩)
              go_round
              case rel =>
                refine ⟨k + 1, by omega, by go_num, ?_⟩
                rw [HR.out, hd.out, colonGo, if_neg (by have := H58.out; omega), HS.out]; rfl
              case measure => simp [RowKit.intOf]; omega
        · obtain rfl : k = s.size := by omega
          go_wp2_with fail
          go_ret
          refine ⟨?_, rfl⟩
          have : colon s.data.toList = none := by
            rw [HR.out, drop_end s s.size (Nat.le_refl _)]; rfl
          rw [colZ_none this]; rfl

theorem at_data (s : ByteArray) (i : Nat) (h : i < s.size) : s.data.toList[i]? = some s[i] := by
  rw [List.getElem?_eq_getElem (by rw [← size_eq]; exact h)]; rfl

/-- What upTo hands back, some draws later. -/
def UpToAt (w : World) (n : Nat) (e : Ending) (w' : World) : Prop := e = .returned (.int .i64 n) ∧ ∃ a, w.drewN a = w'

set_option maxRecDepth 100000 in
set_option maxHeartbeats 1000000 in
theorem rupTo_any (s c : ByteArray) (w : World) (hs : s.size ≤ 140737488355328) (hc : c.size ≤ 140737488355328) :
    Calls Tryd.prog 28 #[.string s, .string c] w (UpToAt w (upTo s.data.toList c.data.toList)) := by
  go_enter Tryd.func28, Tryd.ntmps28
  go_wp2_with fail
  go_loopw [9, 5, 6] (fun idx _ _ wr => ∃ i a : Nat, i ≤ s.size ∧ idx = .int .i64 i ∧ (∀ (j : Nat) (x : UInt8), j < i → s.data.toList[j]? = some x → c.data.toList.contains x = false) ∧ wr = w.drewN a) (fun idx _ _ _ => s.size - (RowKit.intOf idx).toNat)
  case atStart => exact ⟨0, 0, Nat.zero_le _, rfl, fun j x h => by omega, rfl⟩
  case round =>
    obtain ⟨i, a, hi, rfl, hno, rfl⟩ := hrel
    have HN := Lib.hid hno
    clear hno
    by_cases hlt : i < s.size
    · have hltI : (i : Int) < (s.size : Int) := by omega
      have HD := Lib.hid (at_data s i hlt)
      go_wp2_with fail
      go_loopw [14, 6] (fun idx _ wr => ∃ k a' : Nat, k ≤ c.size ∧ idx = .int .i64 k ∧ (∀ (j : Nat) (x : UInt8), j < k → c.data.toList[j]? = some x → x ≠ s[i]) ∧ wr = w.drewN a') (fun idx _ _ => c.size - (RowKit.intOf idx).toNat)
      case atStart => exact ⟨0, a, Nat.zero_le _, rfl, fun j x h => by omega, rfl⟩
      case round =>
        obtain ⟨k, a', hk, rfl, hne, rfl⟩ := hrel
        have HE := Lib.hid hne
        clear hne
        by_cases hlt2 : k < c.size
        · have hltJ : (k : Int) < (c.size : Int) := by omega
          have HD2 := Lib.hid (at_data c k hlt2)
          by_cases hq : c[k] = s[i]
          · have hb : ((s[i].toNat : Int) == (c[k].toNat : Int)) = true := by rw [hq]; exact beq_self_eq_true _
            have HQ := Lib.hid hq
            clear hq
            go_wp2_with fail
            go_quiet (fail)
            go_wp2_with fail
            go_ret
            refine ⟨?_, _, (World.drewN_drewN _ _ _).symm⟩
            have h1 : upTo s.data.toList c.data.toList = i := upTo_hit (fun j x hj hx => HN.out j x hj hx) HD.out (by
              have := List.mem_of_getElem? HD2.out
              rw [HQ.out] at this
              simpa using this)
            rw [h1]; rfl
          · have hb : ((s[i].toNat : Int) == (c[k].toNat : Int)) = false := beq_eq_false_iff_ne.2 (fun h => hq (UInt8.toNat_inj.1 (by omega)))
            have HQ := Lib.hid hq
            clear hq
            go_wp2_with fail
            go_quiet (fail)
            go_wp2_with fail
            go_roundw
            case rel =>
              refine ⟨k + 1, _, by omega, by go_num, fun j x hj hx => ?_, rfl⟩
              by_cases hjk : j < k
              · exact HE.out j x hjk hx
              · obtain rfl : j = k := by omega
                rw [HD2.out] at hx
                obtain rfl : c[j] = x := by simpa using hx
                exact HQ.out
            case measure => simp [RowKit.intOf]; omega
        · obtain rfl : k = c.size := by omega
          go_wp2_with fail
          go_roundw
          case rel =>
            refine ⟨i + 1, a', by omega, by go_num, fun j x hj hx => ?_, rfl⟩
            by_cases hji : j < i
            · exact HN.out j x hji hx
            · obtain rfl : j = i := by omega
              rw [HD.out] at hx
              obtain rfl : s[j] = x := by simpa using hx
              cases hcc : c.data.toList.contains s[j] with
              | false => rfl
              | true =>
                have hm : s[j] ∈ c.data.toList := by simpa using hcc
                obtain ⟨m, hm2, e⟩ := List.getElem_of_mem hm
                exact absurd e (HE.out m _ (by rw [size_eq]; exact hm2) (List.getElem?_eq_getElem hm2))
          case measure => simp [RowKit.intOf]; omega
    · obtain rfl : i = s.size := by omega
      go_wp2_with fail
      go_ret
      refine ⟨?_, _, rfl⟩
      have h1 : upTo s.data.toList c.data.toList = s.data.toList.length := upTo_miss (fun j x hx => HN.out j x (by rw [size_eq]; exact (List.getElem?_eq_some_iff.1 hx).1) hx)
      rw [h1, ← size_eq]; rfl

end Go.Proofs.YtabagfhnkdhjdaaDoor
