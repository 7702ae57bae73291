/- The reference's Bytes, Text, Mend. -/
import Derived.Test.YtabagfhnkdhjdaaDoorRefD
set_option linter.unusedVariables false
set_option maxRecDepth 100000
namespace Go.Proofs.YtabagfhnkdhjdaaDoor
open Go.RowKit Go.Lib

theorem rchar_int (n : Int) (w : World) (h : (0 ≤ n ∧ n < 55296) ∨ (57343 < n ∧ n ≤ 1114111)) :
    Calls Tryd.prog 92 #[.int .i32 n] w fun e w' => e = .returned (.bool true) ∧ w = w' := by
  rcases h with ⟨h1, h2⟩ | ⟨h1, h2⟩
  · have h3 : n ≤ 1114111 := by omega
    go_enter Tryd.func92, Tryd.ntmps92
    go_wp2
    go_ret
    exact ⟨rfl, rfl⟩
  · have h3 : 0 ≤ n := by omega
    have h4 : ¬ n < 55296 := by omega
    go_enter Tryd.func92, Tryd.ntmps92
    go_wp2
    go_ret
    exact ⟨rfl, rfl⟩
theorem rchar_any (r : Nat) (w : World) (h : isCh r) :
    Calls Tryd.prog 92 #[.int .i32 (r : Nat)] w fun e w' => e = .returned (.bool true) ∧ w = w' :=
  rchar_int (r : Int) w (by unfold isCh at h; omega)

theorem rwidth_int (n k : Int) (w : World) (h : (0 ≤ n ∧ n < 55296) ∨ (57343 < n ∧ n ≤ 1114111)) (hk : (n < 128 ∧ k = 1) ∨ (128 ≤ n ∧ n < 2048 ∧ k = 2) ∨ (2048 ≤ n ∧ n < 65536 ∧ k = 3) ∨ (65536 ≤ n ∧ k = 4)) :
    Calls Tryd.prog 93 #[.int .i32 n] w fun e w' => e = .returned (.int .i64 k) ∧ w = w' := by
  have hc := rchar_int n w h
  clear h
  rcases hk with ⟨h1, rfl⟩ | ⟨h1, h2, rfl⟩ | ⟨h1, h2, rfl⟩ | ⟨h1, rfl⟩
  · go_enter Tryd.func93, Tryd.ntmps93
    go_wp2_with (go_at_call 92; refine hc.mono ?_; rintro e w' ⟨rfl, rfl⟩)
    go_ret
    exact ⟨rfl, rfl⟩
  · have h3 : ¬ n < 128 := by omega
    go_enter Tryd.func93, Tryd.ntmps93
    go_wp2_with (go_at_call 92; refine hc.mono ?_; rintro e w' ⟨rfl, rfl⟩)
    go_ret
    exact ⟨rfl, rfl⟩
  · have h3 : ¬ n < 128 := by omega
    have h4 : ¬ n < 2048 := by omega
    go_enter Tryd.func93, Tryd.ntmps93
    go_wp2_with (go_at_call 92; refine hc.mono ?_; rintro e w' ⟨rfl, rfl⟩)
    go_ret
    exact ⟨rfl, rfl⟩
  · have h3 : ¬ n < 128 := by omega
    have h4 : ¬ n < 2048 := by omega
    have h5 : ¬ n < 65536 := by omega
    go_enter Tryd.func93, Tryd.ntmps93
    go_wp2_with (go_at_call 92; refine hc.mono ?_; rintro e w' ⟨rfl, rfl⟩)
    go_ret
    exact ⟨rfl, rfl⟩
theorem rwidth_any (r : Nat) (w : World) (h : isCh r) :
    Calls Tryd.prog 93 #[.int .i32 (r : Nat)] w fun e w' => e = .returned (.int .i64 (if r < 128 then 1 else if r < 2048 then 2 else if r < 65536 then 3 else 4)) ∧ w = w' := by
  refine rwidth_int (r : Int) _ w (by unfold isCh at h; omega) ?_
  by_cases h1 : r < 128
  · left; exact ⟨by omega, by rw [if_pos h1]⟩
  · right
    rw [if_neg h1]
    by_cases h2 : r < 2048
    · left; exact ⟨by omega, by omega, by rw [if_pos h2]⟩
    · right
      rw [if_neg h2]
      by_cases h3 : r < 65536
      · left; exact ⟨by omega, by omega, by rw [if_pos h3]⟩
      · right; exact ⟨by omega, by rw [if_neg h3]⟩

theorem cells1 {r : Nat} (h : r < 128) : byteCells (enc r) = [.int .u8 (r : Int)] := by
  rw [enc_low h]
  have a := bt_toNat r (by omega)
  show [Value.int .u8 ((bt r).toNat : Int)] = _
  rw [a]
theorem cells2 {r : Nat} (h1 : ¬ r < 128) (h2 : r < 2048) : byteCells (enc r) = [.int .u8 (192 + (r : Int) / 64), .int .u8 (128 + (r : Int) % 64)] := by
  unfold enc
  rw [if_neg h1, if_pos h2]
  have a := bt_toNat (192 + r / 64) (by omega)
  have b := bt_toNat (128 + r % 64) (by omega)
  show [Value.int .u8 ((bt _).toNat : Int), Value.int .u8 ((bt _).toNat : Int)] = _
  rw [a, b, show ((192 + r / 64 : Nat) : Int) = 192 + (r : Int) / 64 by omega, show ((128 + r % 64 : Nat) : Int) = 128 + (r : Int) % 64 by omega]
theorem cells3 {r : Nat} (h1 : ¬ r < 128) (h2 : ¬ r < 2048) (h3 : r < 65536) : byteCells (enc r) = [.int .u8 (224 + (r : Int) / 4096), .int .u8 (128 + (r : Int) / 64 % 64), .int .u8 (128 + (r : Int) % 64)] := by
  unfold enc
  rw [if_neg h1, if_neg h2, if_pos h3]
  have a := bt_toNat (224 + r / 4096) (by omega)
  have b := bt_toNat (128 + r / 64 % 64) (by omega)
  have c := bt_toNat (128 + r % 64) (by omega)
  show [Value.int .u8 ((bt _).toNat : Int), Value.int .u8 ((bt _).toNat : Int), Value.int .u8 ((bt _).toNat : Int)] = _
  rw [a, b, c, show ((224 + r / 4096 : Nat) : Int) = 224 + (r : Int) / 4096 by omega, show ((128 + r / 64 % 64 : Nat) : Int) = 128 + (r : Int) / 64 % 64 by omega, show ((128 + r % 64 : Nat) : Int) = 128 + (r : Int) % 64 by omega]
theorem cells4 {r : Nat} (h1 : ¬ r < 128) (h2 : ¬ r < 2048) (h3 : ¬ r < 65536) (h4 : r ≤ 1114111) : byteCells (enc r) = [.int .u8 (240 + (r : Int) / 262144), .int .u8 (128 + (r : Int) / 4096 % 64), .int .u8 (128 + (r : Int) / 64 % 64), .int .u8 (128 + (r : Int) % 64)] := by
  unfold enc
  rw [if_neg h1, if_neg h2, if_neg h3]
  have a := bt_toNat (240 + r / 262144) (by omega)
  have b := bt_toNat (128 + r / 4096 % 64) (by omega)
  have c := bt_toNat (128 + r / 64 % 64) (by omega)
  have d := bt_toNat (128 + r % 64) (by omega)
  show [Value.int .u8 ((bt _).toNat : Int), Value.int .u8 ((bt _).toNat : Int), Value.int .u8 ((bt _).toNat : Int), Value.int .u8 ((bt _).toNat : Int)] = _
  rw [a, b, c, d, show ((240 + r / 262144 : Nat) : Int) = 240 + (r : Int) / 262144 by omega, show ((128 + r / 4096 % 64 : Nat) : Int) = 128 + (r : Int) / 4096 % 64 by omega, show ((128 + r / 64 % 64 : Nat) : Int) = 128 + (r : Int) / 64 % 64 by omega, show ((128 + r % 64 : Nat) : Int) = 128 + (r : Int) % 64 by omega]

/-- What bytesOf hands back: a new row. -/
def NewRow (w : World) (xs : List Value) (e : Ending) (w' : World) : Prop :=
  e = .returned (.slice (some ⟨w.heap.size, 0, none⟩) xs.length xs.length) ∧ w.alloc (.cells xs.toArray 5) = w'
theorem newRow_of {w : World} {xs ys : List Value} (h : xs = ys) : NewRow w xs (.returned (.slice (some ⟨w.heap.size, 0, none⟩) ys.length ys.length)) (w.alloc (.cells ys.toArray 5)) := by subst h; exact ⟨rfl, rfl⟩

set_option maxRecDepth 100000 in
set_option maxHeartbeats 1000000 in
theorem rbytesOf_any (r : Nat) (w : World) (h : isCh r) :
    Calls Tryd.prog 89 #[.int .i32 (r : Nat)] w (NewRow w (byteCells (enc r))) := by
  have hc := rchar_any r w h
  have hwd := rwidth_any r w h
  have hr4 : r ≤ 1114111 := by unfold isCh at h; omega
  clear h
  by_cases h1 : r < 128
  · rw [if_pos h1] at hwd
    have HX := Lib.hid (cells1 h1)
    have h1I : (r : Int) < 128 := by omega
    go_enter Tryd.func89, Tryd.ntmps89
    go_wp2_with (first | (go_at_call 92; refine hc.mono ?_; rintro e w' ⟨rfl, rfl⟩) | (go_at_call 93; refine hwd.mono ?_; rintro e w' ⟨rfl, rfl⟩))
    go_ret
    exact newRow_of HX.out
  · rw [if_neg h1] at hwd
    by_cases h2 : r < 2048
    · rw [if_pos h2] at hwd
      have HX := Lib.hid (cells2 h1 h2)
      have h1I : (r : Int) < 2048 := by omega
      go_enter Tryd.func89, Tryd.ntmps89
      go_wp2_with (first | (go_at_call 92; refine hc.mono ?_; rintro e w' ⟨rfl, rfl⟩) | (go_at_call 93; refine hwd.mono ?_; rintro e w' ⟨rfl, rfl⟩))
      go_ret
      exact newRow_of HX.out
    · rw [if_neg h2] at hwd
      by_cases h3 : r < 65536
      · rw [if_pos h3] at hwd
        have HX := Lib.hid (cells3 h1 h2 h3)
        have h1I : (r : Int) < 65536 := by omega
        go_enter Tryd.func89, Tryd.ntmps89
        go_wp2_with (first | (go_at_call 92; refine hc.mono ?_; rintro e w' ⟨rfl, rfl⟩) | (go_at_call 93; refine hwd.mono ?_; rintro e w' ⟨rfl, rfl⟩))
        go_ret
        exact newRow_of HX.out
      · rw [if_neg h3] at hwd
        have HX := Lib.hid (cells4 h1 h2 h3 hr4)
        go_enter Tryd.func89, Tryd.ntmps89
        go_wp2_with (first | (go_at_call 92; refine hc.mono ?_; rintro e w' ⟨rfl, rfl⟩) | (go_at_call 93; refine hwd.mono ?_; rintro e w' ⟨rfl, rfl⟩))
        go_ret
        exact newRow_of HX.out

/-- A slice value that holds runes. -/
def RunesAt (w : World) (v : Value) (rs : List Nat) : Prop := (v = .slice none 0 0 ∧ rs = []) ∨ ∃ g cap, v = .slice (some ⟨g, 0, none⟩) rs.length cap ∧ RowAt w g (runeCells rs)
theorem RunesAt.of_own {w : World} {base : Nat} {v : Value} {rs : List Nat} (h : w.ownsRow base 21 1 v rs.length (runeCells rs)) : RunesAt w v rs := by
  have h0 := h
  rcases h.2 with ⟨h1, h2⟩ | ⟨g, cap', cur, h1, h2, h4, _, _, _, h8⟩
  · exact .inl ⟨h1, List.length_eq_zero_iff.1 h2⟩
  · subst h1
    exact .inr ⟨g, cap', rfl, RowAt.owned h0⟩

set_option maxRecDepth 100000 in
set_option maxHeartbeats 1000000 in
theorem rbytes_any (rs : List Nat) (v : Value) (w : World) (hch : ∀ r ∈ rs, isCh r) (hl : rs.length ≤ 8796093022207) (h : RunesAt w v rs) :
    Calls Tryd.prog 82 #[v] w fun e w' =>
      ∃ v', e = .returned v' ∧ w'.ownsRow w.heap.size 5 1 v' (encAll rs).length (byteCells (encAll rs)) ∧ Below w.heap.size w w' := by
  obtain ⟨i0, hi, hz0, hz1, hz2⟩ := info_parts infoB
  rcases h with ⟨rfl, rfl⟩ | ⟨g, cap, rfl, hrow⟩
  · go_enter Tryd.func82, Tryd.ntmps82
    go_wp2_with fail
    go_loopw [3, 8, 5] (fun v i _ wr => v = .slice none 0 0 ∧ i = .int .i64 0 ∧ wr = w) (fun _ _ _ _ => 0)
    case atStart => exact ⟨rfl, rfl, rfl⟩
    case round =>
      obtain ⟨rfl, rfl, rfl⟩ := hrel
      go_wp2_with fail
      go_ret
      exact ⟨_, rfl, World.ownsRow_nil _ _ _ _, Below.refl _ _⟩
  · have hg := hrow.lt
    have HW := Lib.hid hrow
    have HCH := Lib.hid hch
    clear hrow hch
    go_enter Tryd.func82, Tryd.ntmps82
    go_wp2_with fail
    go_loopw [3, 8, 5] (fun v i _ wr => ∃ k : Nat, k ≤ rs.length ∧ i = .int .i64 k ∧ wr.ownsRow w.heap.size 5 1 v (encAll (rs.take k)).length (byteCells (encAll (rs.take k))) ∧ Below w.heap.size w wr) (fun _ i _ _ => rs.length - (RowKit.intOf i).toNat)
    case atStart => exact ⟨0, Nat.zero_le _, rfl, World.ownsRow_nil _ _ _ _, Below.refl _ _⟩
    case round =>
      obtain ⟨k, hk, rfl, hown, hbel⟩ := hrel
      have HO := Lib.hid hown
      have HBl := Lib.hid hbel
      have hsz2 := hbel.size
      clear hown hbel
      by_cases hlt : k < rs.length
      · obtain ⟨r, hp⟩ : ∃ p, rs[k]? = some p := ⟨_, List.getElem?_eq_getElem hlt⟩
        have hltI : (k : Int) < (rs.length : Int) := by omega
        have hrc := HCH.out r (List.mem_of_getElem? hp)
        have c0 := (HW.out.below HBl.out hg).cell (runeCells_at hp)
        have hbo := fun W => rbytesOf_any r W hrc
        have hel := enc_len r
        have hal := encAll_len (rs.take k)
        have htl : (rs.take k).length ≤ k := List.length_take_le _ _
        have HT : Hid (encAll (rs.take (k + 1)) = encAll (rs.take k) ++ enc r) := by
          show _ = _
          rw [List.take_add_one, hp]
          simp [encAll]
        obtain ⟨E, hE⟩ : ∃ E, enc r = E := ⟨_, rfl⟩
        rw [hE] at hbo hel HT
        obtain ⟨P, hP⟩ : ∃ P, encAll (rs.take k) = P := ⟨_, rfl⟩
        rw [hP] at HO hal HT
        clear hp hrc hE hP
        have hbl := byteCells_len E
        have HBL := Lib.hid hbl
        clear hbl
        go_wp2_with fail
        refine (hbo _).mono ?_
        clear hbo
        rintro e w1 ⟨rfl, rfl⟩
        rw [HBL.out]
        have HNW := Lib.hid (RowAt.new wr (byteCells E).toArray 5 (byteCells E) (by simp))
        go_wp2_with (at_builtin; refine wpList_append_own _ rfl _ _ 52 rfl w.heap.size 5 i0 (.int .u8 0) 1 1 Tryd.underlying52 hi hz0 hz1 hz2 rfl (by decide) _ _ _ rfl (HO.out.alloc _) ⟨wr.heap.size, 0, none⟩ E.length E.length (byteCells E) rfl (by rw [byteCells_len, Nat.mul_one]) (fun j u hj => by rw [add_at]; exact HNW.out.cell hj) (byteCells_one E) (by unfold maxLen; omega) (by omega) (by simp; omega) ?_; intro v' w2 hown' hgrow _)
        have HO2 := Lib.hid hown'
        have HB2 : Hid (Below w.heap.size w w2) := (HBl.out.alloc hsz2 _).grown hgrow (by simp; omega) (fun j ej => (HO.out.lt j ej).1)
        clear hown' hgrow
        go_wp2_with fail
        go_roundw
        case rel =>
          refine ⟨k + 1, by omega, by go_num, ?_, HB2.out⟩
          rw [HT.out, List.length_append]
          have := HO2.out
          simpa [byteCells] using this
        case measure => simp [RowKit.intOf]; omega
      · obtain rfl : k = rs.length := by omega
        go_wp2_with fail
        go_ret
        refine ⟨_, rfl, ?_, HBl.out⟩
        have h := HO.out
        rw [List.take_length] at h
        exact h

theorem bytes_string {P : Program} (W : World) (src dst e : TypeId) (base : Nat) (v : Value) (l : List UInt8) (hs : P.underlying src = some (.slice e)) (he : P.underlying e = some (.int .u8)) (hd : P.underlying dst = some .string)
    (hown : W.ownsRow base e 1 v l.length (byteCells l)) : (convert src dst v).run P W = .ok (.string ⟨l.toArray⟩) W := by
  rcases hown.2 with ⟨rfl, h0⟩ | ⟨g, cap, cur, rfl, _⟩
  · have : l = [] := List.length_eq_zero_iff.1 h0
    subst this
    rw [run_convert_bytes_string W src dst e _ 0 0 hs he hd]
    simp [Conv.bytesToString]
    rfl
  · exact (RowAt.owned hown).string src dst e l.length cap rfl hs he hd

set_option maxRecDepth 100000 in
set_option maxHeartbeats 1000000 in
theorem rtext_any (rs : List Nat) (v : Value) (w : World) (hch : ∀ r ∈ rs, isCh r) (hl : rs.length ≤ 8796093022207) (h : RunesAt w v rs) :
    Calls Tryd.prog 66 #[v] w fun e w' => e = .returned (.string ⟨(encAll rs).toArray⟩) ∧ Below w.heap.size w w' := by
  have hb := rbytes_any rs v w hch hl h
  clear h
  go_enter Tryd.func66, Tryd.ntmps66
  go_wp2_with fail
  refine hb.mono ?_
  clear hb
  rintro e w1 ⟨v', rfl, hown, hb1⟩
  have hback := bytes_string (P := Tryd.prog) w1 52 9 5 _ v' (encAll rs) Tryd.underlying52 Tryd.underlying5 Tryd.underlying9 hown
  have HB1 := Lib.hid hb1
  clear hown hb1
  go_wp2_with fail
  go_ret
  exact ⟨rfl, HB1.out⟩

set_option maxRecDepth 100000 in
set_option maxHeartbeats 1000000 in
theorem rmend_any (s : ByteArray) (w : World) (hs : s.size ≤ 2199023255552) :
    Calls Tryd.prog 45 #[.string s] w fun e w' => e = .returned (.string ⟨(mend s.data.toList).toArray⟩) ∧ Below w.heap.size w w' := by
  have hconv := run_bytes_of_string (P := Tryd.prog) w 9 52 5 s Tryd.underlying9 Tryd.underlying52 Tryd.underlying5
  have hrw := RowAt.bytes w s (grownCap w s.size 0 5) 5
  have hcap := grownCap_ge w s.size 0 5
  have hb0 : Below w.heap.size w (w.alloc (.cells (bytesRow s (grownCap w s.size 0 5)) 5 ((bytesRow s (grownCap w s.size 0 5)).size, (bytesRow s (grownCap w s.size 0 5)).size + 1))).drew := ((Below.refl _ w).alloc (Nat.le_refl _) _).drew
  generalize grownCap w s.size 0 5 = cap at hconv hrw hcap hb0
  generalize bytesRow s cap = C at hconv hrw hb0
  obtain ⟨W1, hW1⟩ : ∃ W1, (w.alloc (.cells C 5 (C.size, C.size + 1))).drew = W1 := ⟨_, rfl⟩
  have hrw1 : RowAt W1 w.heap.size (byteCells s.data.toList) := by rw [← hW1]; exact hrw.drew
  rw [hW1] at hb0
  have hr := rrunes_any w.heap.size cap s.data.toList W1 (by rw [← size_eq]; exact hs) (by rw [← size_eq]; omega) hrw1
  rw [← size_eq] at hr
  have hW2 : (w.drew.alloc (.cells C 5 (C.size, C.size + 1))) = W1 := hW1
  have HB0 := Lib.hid hb0
  have hrl := runes_len_le s.data.toList.length s.data.toList (Nat.le_refl _)
  rw [← size_eq] at hrl
  have HRL := Lib.hid hrl
  clear hrw hrw1 hb0 hrl
  go_enter Tryd.func45, Tryd.ntmps45
  go_wp2_with fail
  refine hr.mono ?_
  clear hr
  rintro e w2 ⟨v, rfl, hown, hb2⟩
  have ht := fun W => rtext_any (runes s.data.toList) v W (runes_ch _) (by have := HRL.out; omega)
  have hra := RunesAt.of_own hown
  have HB2 := Lib.hid hb2
  clear hown hb2
  go_wp2_with fail
  refine (ht _ hra).mono ?_
  clear ht
  rintro e w3 ⟨rfl, hb3⟩
  have HB3 := Lib.hid hb3
  clear hb3
  go_wp2_with fail
  go_ret
  exact ⟨rfl, HB0.out.trans ((HB2.out.trans (HB3.out.mono HB2.out.size)).mono HB0.out.size)⟩

end Go.Proofs.YtabagfhnkdhjdaaDoor
