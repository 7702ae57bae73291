/- strings.IndexAny at some bytes of ASCII, whatever the text; link.until. -/
import Derived.Test.YtabagfhnkdhjdaaGreatDoorShelf
import Derived.Test.YtabagfhnkdhjdaaGreatDoorStripW
import Derived.Lib.IndexAny
import Derived.Lib.OthersKept
set_option linter.unusedVariables false
set_option maxRecDepth 100000
namespace Go.Proofs.YtabagfhnkdhjdaaGreatDoor
open Go.RowKit Go.Lib

def AsciiS (s : ByteArray) : Prop := ∀ (j : Nat) b, s.data.toList[j]? = some b → b.toNat < 128

theorem AsciiS.at {s : ByteArray} (h : AsciiS s) (i : Nat) (hi : i < s.size) : s[i].toNat < 128 := h i s[i] (by rw [List.getElem?_eq_getElem (by rw [← size_eq]; exact hi)]; rfl)

theorem indexByte_none : ∀ (l : List UInt8) (c : UInt8), (∀ b ∈ l, b ≠ c) → Lib.indexByte l c = -1
  | [], _, _ => rfl
  | b :: l, c, h => by
    have h1 : (b == c) = false := by simpa using h b (by simp)
    rw [Lib.indexByte, h1, indexByte_none l c (fun x hx => h x (by simp [hx]))]
    rfl

theorem indexByte_high (s : ByteArray) (a b : Nat) (c : UInt8) (h : AsciiS s) (hc : 128 ≤ c.toNat) : Lib.indexByte (s.extract a b).data.toList c = -1 := by
  refine indexByte_none _ _ fun x hx e => ?_
  subst e
  rw [extract_data] at hx
  obtain ⟨j, hj, e⟩ := List.getElem_of_mem (List.mem_of_mem_drop (List.mem_of_mem_take hx))
  have := h j x (by rw [List.getElem?_eq_getElem hj, e])
  omega

theorem encode_data (r : Nat) (h : isCh r) : (Utf8.encode (r : Int)).data.toList = enc r := by rw [encode_enc r h]

theorem quiet_add_same {P : Program} {f : FuncId} {args : Array Value} {w : World} {a n : Nat} {v : Value}
    (h : Calls P f args (w.drewN (a + n)) fun e w' => e = .returned v ∧ w' = w.drewN (a + n)) :
    Calls P f args (w.drewN (a + n)) fun e w'' => e = .returned v ∧ ∃ m, w'' = w.drewN (a + m) :=
  h.mono fun _ _ ⟨he, hm⟩ => ⟨he, n, hm⟩

theorem Below.drewN {B : Nat} {a w : World} (h : Below B a w) (n : Nat) : Below B a (w.drewN n) := ⟨h.os, h.tape, h.output, h.size, h.block⟩

set_option maxRecDepth 100000 in
set_option maxHeartbeats 4000000 in
/-- strings.IndexRune of a rune beyond ASCII, in a text of ASCII. -/
theorem indexRune_high (s : ByteArray) (r : Nat) (w : World) (hs : s.size ≤ 140737488355328) (ha : AsciiS s) (hr : isCh r) (h128 : 128 ≤ r) (hn : r ≠ 65533) :
    Calls Tryz.prog 99 #[.string s, .int .i32 (r : Nat)] w fun e w' => e = .returned (.int .i64 (-1)) ∧ Below w.heap.size w w' := by
  have HA := Lib.hid ha
  have HR := Lib.hid hr
  have hr2 : r ≤ 1114111 := by unfold isCh at hr; omega
  have hrn : ((r : Int) == 65533) = false := beq_eq_false_iff_ne.2 (by omega)
  have hvr := Tryz.utf8_ValidRune (r : Int) w
  have hv : Lib.validRune (r : Int) = true := by
    unfold isCh at hr
    unfold Lib.validRune
    simp
    omega
  rw [hv] at hvr
  obtain ⟨E, hE⟩ : ∃ E, Utf8.encode (r : Int) = E := ⟨_, rfl⟩
  have hEd : E.data.toList = enc r := by rw [← hE, encode_data r hr]
  have hlen := enc_len r
  have hEs : E.size = (enc r).length := by rw [size_eq, hEd]
  have hEhigh : ∀ i (hi : i < E.size), 128 ≤ E[i].toNat := fun i hi => by
    have := enc_high hr h128 E[i] (by rw [← hEd]; exact Array.getElem_mem_toList (xs := E.data) hi)
    exact this
  have hconv := fun w => run_convert_int_string (P := Tryz.prog) w 21 9 .i32 (r : Int) (by kernel_rfl) Tryz.underlying9
  rw [hE] at hconv
  have hes1 : (1 : Int) ≤ (E.size : Int) := by omega
  have hes4 : (E.size : Int) ≤ 4 := by omega
  have hd128 : decide ((r : Int) < 128) = false := decide_eq_false (by omega)
  obtain ⟨m, hm⟩ : ∃ m, E.size = m + 1 := ⟨E.size - 1, by omega⟩
  have hm3 : m ≤ 3 := by omega
  have hEm : 128 ≤ E[m].toNat := hEhigh m (by omega)
  obtain ⟨e, he⟩ : ∃ e, E[m] = e := ⟨_, rfl⟩
  clear hes1 hes4
  clear hr ha hn hv hE hEd hEs hEhigh hlen
  go_enter Tryz.func99, Tryz.ntmps99
  go_wp2_with fail
  refine hvr.mono ?_
  clear hvr
  rintro e w' ⟨rfl, rfl⟩
  go_wp2_with fail
  go_step3
  go_wp2_with fail
  go_loop [9, 10] (fun i f => i = .int .i64 m ∧ f = .int .i64 0) (fun _ _ => 0)
  case atStart => exact ⟨rfl, rfl⟩
  case round =>
    obtain ⟨rfl, rfl⟩ := hrel
    by_cases hlt : m < s.size
    · have hsm := HA.out.at m hlt
      have hne : ((s[m].toNat : Int) == (e.toNat : Int)) = false := beq_eq_false_iff_ne.2 (by rw [he] at hEm; omega)
      have hne2 : ((s[m].toNat : Int) != (e.toNat : Int)) = true := by rw [bne, hne]; rfl
      have hib : ∀ w, Calls Tryz.prog 73 #[.string (s.extract (m + 1) s.size), .int .u8 (e.toNat : Nat)] w fun x w' => x = .returned (.int .i64 (-1)) ∧ w' = w := fun w => by
        have := Tryz.strings_IndexByte (s.extract (m + 1) s.size) (e.toNat : Nat) w
        rw [Lib.byte_back' e, indexByte_high s (m + 1) s.size e HA.out (by rw [← he]; exact hEm)] at this
        exact this
      go_wp2_with fail
      go_step3
      go_wp2_with fail
      go_quiet (fail)
      go_wp2_with fail
      have q1 : IntKind.i64.wrap ((m : Int) + 1) = (m : Int) + 1 := IntWalk.i64_in _ (by omega)
      have q2 : (0 : Int) ≤ (m : Int) + 1 := by omega
      have q3 : ((m : Int) + 1).toNat = m + 1 := by omega
      have q4 : (m : Int) + 1 ≤ (s.size : Int) := by omega
      have q5 : (m : Int) < (m : Int) + 1 := by omega
      go_quiet ((go_at_call 73; exact quiet_add_same (hib _)))
      clear q1 q2 q3 q4 q5
      go_wp2_with fail
      try rw [Exit.noGoto_ret]
      go_wp2_with fail
      try rw [Exit.noGoto_ret]
      go_ret
      exact ⟨rfl, Below.drewN (Below.refl _ _) _⟩
    · go_wp2_with fail
      try rw [Exit.noGoto_ret]
      try rw [Exit.noGoto_ret]
      go_ret
      exact ⟨rfl, Below.refl _ _⟩

set_option maxRecDepth 100000 in
set_option maxHeartbeats 4000000 in
/-- strings.IndexRune of U+FFFD, in a text of ASCII. -/
theorem indexRune_err (s : ByteArray) (w : World) (hs : s.size ≤ 140737488355328) (ha : AsciiS s) :
    Calls Tryz.prog 99 #[.string s, .int .i32 65533] w fun e w' => e = .returned (.int .i64 (-1)) ∧ Below w.heap.size w w' := by
  have HA := Lib.hid ha
  clear ha
  go_enter Tryz.func99, Tryz.ntmps99
  go_wp2_with fail
  go_loopg [5, 6] s.size (fun g _ _ wx => ∃ i : Nat, i + g = s.size ∧ wx = w.iter s i)
  case atStart => exact ⟨0, by omega, rfl⟩
  case round =>
    obtain ⟨i, hig, rfl⟩ := hrel
    cases gk with
    | zero =>
      obtain rfl : i = s.size := by omega
      have hnx := run_next_end (P := Tryz.prog) w s s.size
      go_wp2
      go_ret
      exact ⟨rfl, below_iter _ _ _ _ (Nat.le_refl _)⟩
    | succ g =>
      have hi : i < s.size := by omega
      have hb := HA.out.at i hi
      have hnx := fun ty => run_next_ascii (P := Tryz.prog) w s i ty hi hb
      have hne : ((s[i].toNat : Int) == 65533) = false := beq_eq_false_iff_ne.2 (by omega)
      go_wp2
      go_roundg g
      case measure => omega
      case rel => exact ⟨i + 1, by omega, rfl⟩

theorem dec_low (c : UInt8) (t : List UInt8) (h : c.toNat < 128) : dec (c :: t) = (c.toNat, 1) := by
  have := dec_enc c.toNat (by unfold isCh; omega) t
  rw [enc_low h, bk] at this
  simpa using this

/-- The bytes of what is decoded beyond ASCII are beyond ASCII. -/
theorem dec_bytes (c : UInt8) (t : List UInt8) (h : 128 ≤ c.toNat) : 128 ≤ (dec (c :: t)).1 ∧ ((dec (c :: t)).1 = 65533 ∨ isCh (dec (c :: t)).1) ∧ ∀ (j : Nat) b, j < (dec (c :: t)).2 → (c :: t)[j]? = some b → 128 ≤ b.toNat := by
  rcases dec_conv c t with hd | ⟨r, u, hr, he⟩
  · rw [hd]
    refine ⟨by decide, .inl rfl, fun j b hj hb => ?_⟩
    obtain rfl : j = 0 := by simp at hj; exact hj
    simp at hb
    subst hb
    exact h
  · have hd := dec_enc r hr u
    rw [← he] at hd
    rw [hd]
    have hr128 : 128 ≤ r := by
      apply Decidable.byContradiction
      intro hn
      rw [enc_low (by omega)] at he
      simp at he
      rw [he.1, bt_toNat _ (by omega)] at h
      omega
    refine ⟨hr128, .inr hr, fun j b hj hb => ?_⟩
    rw [he, List.getElem?_append_left hj] at hb
    exact enc_high hr hr128 b (List.mem_of_getElem? hb)

theorem contains_high {chars : ByteArray} (ha : AsciiS chars) {b : UInt8} (hb : 128 ≤ b.toNat) : chars.data.toList.contains b = false := by
  cases h : chars.data.toList.contains b with
  | false => rfl
  | true =>
    have hm : b ∈ chars.data.toList := by simpa using h
    obtain ⟨j, hj, e⟩ := List.getElem_of_mem hm
    have := ha j b (by rw [List.getElem?_eq_getElem hj, e])
    omega

set_option maxHeartbeats 8000000 in
set_option maxRecDepth 1000000 in
/-- strings.IndexAny: s of at most 8 bytes, whatever they are; chars of two or more bytes of ASCII. -/
theorem indexAny_short (s chars : ByteArray) (w : World) (h2 : 2 ≤ chars.size) (hc : chars.size ≤ 100) (h8 : s.size ≤ 8) (ha : AsciiS chars) :
    Calls Tryz.prog 77 #[.string s, .string chars] w fun e w' => e = .returned (.int .i64 (Lib.indexAny s.data.toList chars.data.toList)) ∧ Below w.heap.size w w' := by
  have HA := Lib.hid ha
  clear ha
  have hemp := empty_false chars (by omega)
  have hn1 : ((chars.size : Int) == 1) = false := beq_eq_false_iff_ne.2 (by omega)
  have h8z : decide ((8 : Int) < (s.size : Int)) = false := decide_eq_false (by omega)
  go_enter Tryz.func77, Tryz.ntmps77
  go_wp2_with (go_at_call 100; refine (Tryz.strings_shouldUseASCIISet _ _).mono ?_; rintro e w' ⟨rfl, hw⟩; rw [hw, h8z])
  go_loopg [9, 10] s.size (fun g _ _ wx => ∃ i : Nat, i ≤ s.size ∧ s.size ≤ i + g ∧ Below w.heap.size w wx ∧ wx.heap[w.heap.size]? = some (.stringIter s i) ∧ Lib.NoAny s.data.toList chars.data.toList i)
  case atStart => exact ⟨0, Nat.zero_le _, by omega, below_iter _ _ _ _ (Nat.le_refl _), World.iter_heap _ _ _, Lib.NoAny.zero _ _⟩
  case round =>
    obtain ⟨i, his, hig, hbw, hit, hno⟩ := hrel
    have HB := Lib.hid hbw
    have HN := Lib.hid hno
    have HI := Lib.hid hit
    clear hbw hno
    by_cases hlt : i < s.size
    · have hds := drop_at s i hlt
      have hdd := decode_dec s i
      rw [hds] at hdd
      have hsz := dec_size s[i] (s.data.toList.drop (i + 1))
      have hll : (s.data.toList.drop (i + 1)).length = s.size - (i + 1) := by rw [List.length_drop, size_eq]
      rw [hll] at hsz
      have hnx := fun ty => Lib.run_next_any_at (P := Tryz.prog) wr w.heap.size s i ty hit hlt
      obtain ⟨r, n, hd⟩ : ∃ r n, dec (s[i] :: s.data.toList.drop (i + 1)) = (r, n) := ⟨_, _, rfl⟩
      rw [hd] at hdd hsz
      rw [hdd] at hnx
      simp only at hnx hsz
      have hbi : Hid (Below w.heap.size w (wr.iterAt w.heap.size s (i + n))) := Lib.below_iterAt HB.out (Nat.le_refl _) s _
      have hii : Hid ((wr.iterAt w.heap.size s (i + n)).heap[w.heap.size]? = some (.stringIter s (i + n))) := Lib.iterAt_heap wr _ s i _ hit
      have hisz : Hid (w.heap.size < (wr.iterAt w.heap.size s (i + n)).heap.size) := by
        show _ < _
        rw [Lib.iterAt_size]
        exact lt_of_block hit
      clear hit
      obtain ⟨W1, hW1⟩ : ∃ W1, wr.iterAt w.heap.size s (i + n) = W1 := ⟨_, rfl⟩
      rw [hW1] at hbi hii hisz hnx
      clear hW1
      obtain ⟨hs1, hs2⟩ := hsz
      by_cases hlow : s[i].toNat < 128
      · have hd2 := dec_low s[i] (s.data.toList.drop (i + 1)) hlow
        rw [hd] at hd2
        simp only [Prod.mk.injEq] at hd2
        obtain ⟨rfl, rfl⟩ := hd2
        have HX : Hid (s.data.toList[i]? = some s[i]) := Lib.data_getElem? s i hlt
        obtain ⟨x, hx⟩ : ∃ x, s[i] = x := ⟨_, rfl⟩
        rw [hx] at HX hnx hlow
        clear hd hdd hds hll hx
        have hcon := Lib.contains_iff_indexByte chars.data.toList x
        have hback := Lib.byte_back' x
        have hir := Tryz.strings_IndexRune_ascii chars (x.toNat : Nat) W1 (by omega) (by omega)
        rw [hback] at hir
        cases hin : chars.data.toList.contains x
        · rw [hin] at hcon
          have hlt0 : ¬ ((0 : Int) ≤ Lib.indexByte chars.data.toList x) := of_decide_eq_false hcon.symm
          have HIN := Lib.hid hin
          clear hcon hback hin
          go_wp2_with (go_at_call 99; refine hir.mono ?_; clear hir; rintro e w2 ⟨rfl, rfl⟩)
          go_roundg (gk - 1)
          case measure => omega
          case rel => exact ⟨i + 1, by omega, by omega, hbi.out, hii.out, HN.out.succ HX.out HIN.out⟩
        · rw [hin] at hcon
          have hge : (0 : Int) ≤ Lib.indexByte chars.data.toList x := of_decide_eq_true hcon.symm
          have HIN := Lib.hid hin
          clear hcon hback hin
          go_wp2_with (go_at_call 99; refine hir.mono ?_; clear hir; rintro e w2 ⟨rfl, rfl⟩)
          go_ret
          exact ⟨by rw [Lib.indexAny_hit HN.out HX.out HIN.out]; rfl, hbi.out⟩
      · have hby := dec_bytes s[i] (s.data.toList.drop (i + 1)) (by omega)
        rw [hd] at hby
        simp only at hby
        obtain ⟨hr128, hrch, hbytes⟩ := hby
        rw [← hds] at hbytes
        have HNX : Hid (Lib.NoAny s.data.toList chars.data.toList (i + n)) := by
          intro j b hj hb
          by_cases hji : j < i
          · exact HN.out j b hji hb
          · exact contains_high HA.out (hbytes (j - i) b (by omega) (by rw [List.getElem?_drop]; rw [show i + (j - i) = j by omega]; exact hb))
        clear hd hdd hds hll hbytes
        have hir : Calls Tryz.prog 99 #[.string chars, .int .i32 (r : Nat)] W1 fun e w' => e = .returned (.int .i64 (-1)) ∧ Below W1.heap.size W1 w' := by
          by_cases h : r = 65533
          · subst h
            exact indexRune_err chars W1 (by omega) HA.out
          · rcases hrch with h' | h'
            · exact absurd h' h
            · exact indexRune_high chars r W1 (by omega) HA.out h' hr128 h
        clear hrch
        go_wp2_with (go_at_call 99; refine hir.mono ?_; clear hir; rintro e w2 ⟨rfl, hb2⟩)
        have HB2 := Lib.hid hb2
        clear hb2
        go_roundg (gk - n)
        case measure => omega
        case rel => exact ⟨i + n, by omega, by omega, hbi.out.trans (HB2.out.mono hbi.out.size), (HB2.out.block _ hisz.out).trans hii.out, HNX.out⟩
    · obtain rfl : i = s.size := by omega
      have hnx := fun ty => Lib.run_next_end_at (P := Tryz.prog) wr w.heap.size s s.size ty hit hlt
      clear hit
      go_wp2
      go_ret
      exact ⟨by rw [Lib.indexAny_none (by rw [← Lib.size_eq]; exact HN.out)]; rfl, HB.out⟩
end Go.Proofs.YtabagfhnkdhjdaaGreatDoor
