/- strings.Builder.WriteByte beside a row of bytes that stays; link.form. -/
import Derived.Test.YtabagfhnkdhjdaaGreatDoorEncode
import Derived.Test.YtabagfhnkdhjdaaGreatDoorMended
set_option linter.unusedVariables false
set_option maxRecDepth 100000
namespace Go.Proofs.YtabagfhnkdhjdaaGreatDoor
open Go.RowKit Go.Lib

/-- A block that is no builder's: frozen somewhere. -/
def StayAt (w w' : World) (b g : Nat) : Prop := g ≠ b → g < w.heap.size → (∀ C e, w.heap[g]? ≠ some (.cells C e (0, 0))) → w'.heap[g]? = w.heap[g]?
theorem copyCheck_stay (B b : Nat) (bs : List Value) (g : Nat) (w : World) (h : Lib.IsBuilder 90 5 B b bs w) :
    Calls Tryz.prog 88 #[.pointer (some ⟨b, 0, none⟩)] w fun e w' => e = .returned (.tuple #[]) ∧ (Lib.BuilderAt 90 5 B b (.pointer (some ⟨b, 0, none⟩)) bs w' ∧ Below B w w' ∧ w'.heap.size = w.heap.size ∧ (g ≠ b → w'.heap[g]? = w.heap[g]?)) := by
  rcases h with h | h
  · refine (copyCheck_fresh b w h.cell0 h.shape h.frozen0).mono ?_
    rintro e w' ⟨rfl, rfl⟩
    exact ⟨rfl, h.used _, (Below.refl B w).setCell (p := ⟨b, 0, none⟩) h.1 _, by simp, fun hg => Below.heap_setCell w ⟨b, 0, none⟩ _ g hg⟩
  · refine (copyCheck_used b w h.cell0).mono ?_
    rintro e w' ⟨rfl, rfl⟩
    exact ⟨rfl, h, Below.refl B _, rfl, fun _ => rfl⟩

set_option maxHeartbeats 2000000 in
theorem writeByte_stay (B b : Nat) (bs : List Value) (c : Int) (g0 : Nat) (w : World) (h : Lib.IsBuilder 90 5 B b bs w) (hlen : bs.length + 1 ≤ 140737488355328) (hBw : B ≤ w.heap.size) :
    Calls Tryz.prog 74 #[.pointer (some ⟨b, 0, none⟩), .int .u8 c] w fun e w' => e = .returned .nilIface ∧ (Lib.IsBuilder 90 5 B b (bs ++ [.int .u8 c]) w' ∧ Below B w w' ∧ StayAt w w' b g0) := by
  obtain ⟨i0, hi, hz0, hz1, hz2⟩ := info_parts infoByteB
  go_enter Tryz.func74, Tryz.ntmps74
  go_wp2_with (go_at_call 88; refine (copyCheck_stay B b bs g0 _ h).mono ?_)
  rintro e w1 ⟨rfl, h1, hb1, hs1, hst1⟩
  obtain ⟨hB, v, hbk, hown, hne⟩ := h1
  have HST := Lib.hid hst1
  have HSZ := Lib.hid hs1
  clear hst1 hs1
  have c0 : w1.cell? ⟨b, 0, none⟩ = some (.pointer (some ⟨b, 0, none⟩)) := by rw [Lib.cell_of_heap hbk]; rfl
  have c1 : w1.cell? ⟨b, 1, none⟩ = some v := by rw [Lib.cell_of_heap hbk]; rfl
  go_wp2_with (at_builtin; refine wpList_append_own _ rfl _ _ 29 rfl B 5 i0 (.int .u8 0) 1 1 Tryz.underlying29 hi hz0 hz1 hz2 rfl (by decide) _ _ _ rfl (hown.alloc _) ⟨w1.heap.size, 0, none⟩ 1 1 [.int .u8 c] rfl rfl ?c1 ?c2 ?c3 ?c4 ?c5 ?_)
  case c1 =>
    intro j u hj
    match j, hj with
    | 0, hj => simp at hj; subst hj; simp [Addr.add]
  case c2 => intro u hu; simp at hu; subst hu; rfl
  case c3 => unfold maxLen; omega
  case c4 => omega
  case c5 => have := hb1.size; simp; omega
  intro v' w2 hown' hgrow _
  have hlt : b < w1.heap.size := by
    rcases Nat.lt_or_ge b w1.heap.size with h' | h'
    · exact h'
    · simp [Array.getElem?_eq_none h'] at hbk
  have hb2 : w2.heap[b]? = some (.cells #[.pointer (some ⟨b, 0, none⟩), v] 90 (0, 0)) := by
    rw [hgrow.block b (by simp; omega) (fun e => hne e.symm), Lib.alloc_old w1 _ b hlt]
    exact hbk
  have HSTAY : Hid (StayAt w (w2.setCell ⟨b, 1, none⟩ v') b g0) := fun hg hgl hfz => by
    rw [Below.heap_setCell w2 ⟨b, 1, none⟩ _ g0 hg]
    have hgl1 : g0 < w1.heap.size := by rw [HSZ.out]; exact hgl
    rw [hgrow.block g0 (by simp; omega) (fun e => ?_), Lib.alloc_old w1 _ g0 hgl1, HST.out hg]
    rcases hown.2 with ⟨hv, _⟩ | ⟨q, cap, cur, hv, _, hh, _⟩
    · rw [hv] at e; cases e
    · rw [hv] at e
      obtain rfl : g0 = q := by simpa [Value.ownBlock] using e
      rw [HST.out hg] at hh
      exact hfz _ _ hh
  have d0 : w2.cell? ⟨b, 0, none⟩ = some (.pointer (some ⟨b, 0, none⟩)) := by rw [Lib.cell_of_heap hb2]; rfl
  have d1 : w2.cell? ⟨b, 1, none⟩ = some v := by rw [Lib.cell_of_heap hb2]; rfl
  have f1 : w2.frozen? ⟨b, 1, none⟩ = false := Lib.frozen_of_heap hb2 1
  obtain ⟨g, cap, rfl⟩ : ∃ g cap, v' = .slice (some ⟨g, 0, none⟩) (bs.length + 1) cap := by
    rcases hown'.2 with ⟨_, h0⟩ | ⟨g, cap, cur, hv, _⟩
    · omega
    · exact ⟨g, cap, hv⟩
  go_wp2
  go_ret
  refine ⟨rfl, .inr ?_, ?_, HSTAY.out⟩
  · exact Lib.BuilderAt.put (T := 90) (e := 5) hB hb2 (bs' := bs ++ [.int .u8 c]) (by simpa using hown') (by decide)
  · exact ((hb1.alloc (by have := hb1.size; omega) _).grown hgrow (by have := hb1.size; simp; omega) (fun k hk => (hown.lt k hk).1)).setCell (p := ⟨b, 1, none⟩) hB _

/-! form. -/
def fmSpec : List UInt8 := [42, 45, 46, 95]
def fmB (c : UInt8) : Bool := letB c || digZ (c.toNat : Int) || fmSpec.contains c
def formE (c : UInt8) : List UInt8 := if fmB c then [c] else if c.toNat = 32 then [43] else esc c
def formF (l : List UInt8) : List UInt8 := l.flatMap formE
def formL (l : List UInt8) : List UInt8 := formF (mend l)
theorem formE_len (c : UInt8) : (formE c).length ≤ 3 := by
  unfold formE
  split
  · simp
  · split
    · simp
    · simp [esc]
theorem formF_len : ∀ (l : List UInt8), (formF l).length ≤ 3 * l.length
  | [] => by simp [formF]
  | c :: t => by
    have := formF_len t
    have h := formE_len c
    unfold formF at *
    rw [List.flatMap_cons, List.length_append, List.length_cons]; omega
theorem formF_cons (c : UInt8) (t : List UInt8) : formF (c :: t) = formE c ++ formF t := by unfold formF; rw [List.flatMap_cons]

theorem builder_below {T e : TypeId} {B b : Nat} {bs : List Value} {w w' : World} (h : Lib.IsBuilder T e B b bs w) (hb : Below w.heap.size w w') : Lib.IsBuilder T e B b bs w' := by
  have hlt : ∀ (g : Nat) (o : Obj), w.heap[g]? = some o → w'.heap[g]? = some o := fun g o hg => by
    rw [hb.block g (by
      apply Classical.byContradiction
      intro hn
      rw [Array.getElem?_eq_none (by omega)] at hg
      cases hg)]
    exact hg
  have hown : ∀ v, w.ownsRow B e 1 v bs.length bs → w'.ownsRow B e 1 v bs.length bs := fun v h4 => by
    refine ⟨h4.1, ?_⟩
    rcases h4.2 with h6 | ⟨g, cap, cur, hv, hg, hh, r⟩
    · exact .inl h6
    · exact .inr ⟨g, cap, cur, hv, hg, hlt _ _ hh, r⟩
  rcases h with ⟨h2, v, h3, h4, h5⟩ | ⟨h2, v, h3, h4, h5⟩
  · exact .inl ⟨h2, v, hlt _ _ h3, hown v h4, h5⟩
  · exact .inr ⟨h2, v, hlt _ _ h3, hown v h4, h5⟩

set_option maxHeartbeats 8000000 in
theorem form_any (v : ByteArray) (w : World) (hv : v.size ≤ 500000000) :
    Calls Tryz.prog 34 #[.string v] w fun e w' => e = .returned (.string ⟨(formL v.data.toList).toArray⟩) ∧ Below w.heap.size w w' := by
  have hfr := Lib.fresh_isBuilder 90 5 w
  have hb0 := (Below.refl w.heap.size w).alloc (Nat.le_refl _) (.cells #[.pointer none, .slice none 0 0] 90)
  obtain ⟨w0, hw0⟩ : ∃ w0, w.alloc (.cells #[.pointer none, .slice none 0 0] 90) = w0 := ⟨_, rfl⟩
  obtain ⟨b, hb⟩ : ∃ b, w.heap.size = b := ⟨_, rfl⟩
  rw [hw0, hb] at hfr
  rw [hw0] at hb0
  have hs0 : b + 1 ≤ w0.heap.size := by rw [← hw0, World.size_alloc, hb]; omega
  have h1 := mend_any v w0 (by omega)
  have hl := mend_len v.data.toList
  rw [← size_eq] at hl
  obtain ⟨S, hS⟩ : ∃ S, mend v.data.toList = S := ⟨_, rfl⟩
  have HE : Hid (formL v.data.toList = formF S) := by show _ = _; unfold formL; rw [hS]
  rw [hS] at h1 hl
  clear hS
  obtain ⟨s, hs⟩ : ∃ s : ByteArray, (⟨S.toArray⟩ : ByteArray) = s := ⟨_, rfl⟩
  have hsd : s.data.toList = S := by rw [← hs]
  have hss : s.size ≤ 2000000000 := by rw [size_eq, hsd]; omega
  rw [hs] at h1
  have HSD := Lib.hid hsd
  have HF := Lib.hid hfr
  have HB0 := Lib.hid hb0
  have HW0 := Lib.hid hw0
  have HBN := Lib.hid hb
  clear hs hsd hl hfr hb0 hw0 hb
  go_enter Tryz.func34, Tryz.ntmps34
  go_upto_region 2 with fail
  rw [HW0.out, HBN.out]
  go_wp2_with fail
  refine h1.mono ?_
  clear h1
  rintro e w1 ⟨rfl, hb1⟩
  have hf1 := builder_below HF.out hb1
  have HB1 : Hid (Below w.heap.size w w1) := HB0.out.trans (hb1.mono HB0.out.size)
  have hs1 : b + 1 ≤ w1.heap.size := Nat.le_trans hs0 hb1.size
  clear hb1
  have hconv := run_bytes_of_string (P := Tryz.prog) w1 9 29 5 s Tryz.underlying9 Tryz.underlying29 Tryz.underlying5
  have hrw := RowAt.bytes w1 s (grownCap w1 s.size 0 5) 5
  have hcap := grownCap_ge w1 s.size 0 5
  have hb2 : Below w1.heap.size w1 (w1.alloc (.cells (bytesRow s (grownCap w1 s.size 0 5)) 5 ((bytesRow s (grownCap w1 s.size 0 5)).size, (bytesRow s (grownCap w1 s.size 0 5)).size + 1))).drew := ((Below.refl _ w1).alloc (Nat.le_refl _) _).drew
  have hhp : (w1.alloc (.cells (bytesRow s (grownCap w1 s.size 0 5)) 5 ((bytesRow s (grownCap w1 s.size 0 5)).size, (bytesRow s (grownCap w1 s.size 0 5)).size + 1))).drew.heap[w1.heap.size]? = some (.cells (bytesRow s (grownCap w1 s.size 0 5)) 5 ((bytesRow s (grownCap w1 s.size 0 5)).size, (bytesRow s (grownCap w1 s.size 0 5)).size + 1)) := heap_alloc_new w1 _
  generalize grownCap w1 s.size 0 5 = cap at hconv hrw hcap hb2 hhp
  generalize bytesRow s cap = C at hconv hrw hb2 hhp
  obtain ⟨W1, hW1⟩ : ∃ W1, (w1.alloc (.cells C 5 (C.size, C.size + 1))).drew = W1 := ⟨_, rfl⟩
  obtain ⟨g, hg⟩ : ∃ g, w1.heap.size = g := ⟨_, rfl⟩
  have hrw1 : RowAt W1 g (byteCells s.data.toList) := by rw [← hW1, ← hg]; exact hrw.drew
  rw [hW1, hg] at hhp
  rw [hW1] at hb2
  have hW2 : (w1.drew.alloc (.cells C 5 (C.size, C.size + 1))) = W1 := hW1
  have HF2 := Lib.hid (builder_below hf1 hb2)
  have HB2 : Hid (Below w.heap.size w W1) := HB1.out.trans (hb2.mono HB1.out.size)
  have hs2 : g + 1 ≤ W1.heap.size := by
    have := hrw1.lt
    omega
  have hgb : g ≠ b := by omega
  have HRW := Lib.hid hrw1
  have HHP := Lib.hid hhp
  have HGG := Lib.hid hg
  clear hrw hrw1 hb2 hf1 hhp
  go_wp2_with fail
  go_loopw [10, 5, 23] (fun i _ _ wr => ∃ (k : Nat) (out : List UInt8), k ≤ s.size ∧ i = .int .i64 k ∧ out ++ formF (s.data.toList.drop k) = formF S ∧ Lib.IsBuilder 90 5 b b (byteCells out) wr ∧ Below w.heap.size w wr ∧ b ≤ wr.heap.size ∧ wr.heap[g]? = W1.heap[g]? ∧ g < wr.heap.size) (fun i _ _ _ => s.size - (RowKit.intOf i).toNat)
  case atStart => exact ⟨0, [], Nat.zero_le _, rfl, by rw [List.drop_zero, HSD.out]; rfl, HF2.out, HB2.out, by omega, rfl, by omega⟩
  case round =>
    obtain ⟨k, out, hk, rfl, hout, hbd, hbw, hbs, hhg, hgs⟩ := hrel
    have HO := Lib.hid hout
    have HBD := Lib.hid hbd
    have HBW := Lib.hid hbw
    have HBS := Lib.hid hbs
    have HHG := Lib.hid hhg
    have HFZ : Hid (∀ C' e', wr.heap[g]? ≠ some (.cells C' e' (0, 0))) := fun C' e' e => by
      rw [hhg, HHP.out] at e
      simp at e
    by_cases hlt : k < s.size
    · have HOL : Hid (out.length + 3 ≤ 140737488355328) := by
        show _ ≤ _
        have h1 := congrArg List.length HO.out
        have h2 := formF_len S
        have h3 := HSD.out
        rw [List.length_append] at h1
        have h4 : S.length ≤ 2000000000 := by rw [← h3, ← size_eq]; exact hss
        omega
      have HD := Lib.hid (drop_at s k hlt)
      have hbc := byte_le s[k]
      have hcell : wr.cell? ⟨g, k, none⟩ = some (.int .u8 (s[k].toNat : Nat)) := (HRW.out.same hhg).cell (byteCells_at (by rw [List.getElem?_eq_getElem (by rw [← size_eq]; exact hlt)]; rfl))
      obtain ⟨c, hc⟩ : ∃ c, s[k] = c := ⟨_, rfl⟩
      rw [hc] at HD hbc hcell
      have hlet := fun w => letter_any (c.toNat : Int) w
      have hdig := fun w => digit_any (c.toNat : Int) w
      have hix := fun w => Tryz.strings_IndexByte ⟨#[42, 45, 46, 95]⟩ (c.toNat : Nat) w
      rw [Lib.byte_back' c] at hix
      have hcon := Lib.contains_iff_indexByte fmSpec c
      obtain ⟨ix, hixv⟩ : ∃ ix, Lib.indexByte fmSpec c = ix := ⟨_, rfl⟩
      have hix2 : ∀ w, Calls Tryz.prog 73 #[.string ⟨#[42, 45, 46, 95]⟩, .int .u8 (c.toNat : Nat)] w fun e w' => e = .returned (.int .i64 ix) ∧ w' = w := by
        rw [← hixv]; exact hix
      rw [hixv] at hcon
      have HCON := Lib.hid hcon
      have hkI : (k : Int) < (s.size : Int) := by omega
      clear hix hcon hixv hout hbd hbw hbs hhg
      cases hL : letZ (c.toNat : Int)
      · rw [hL] at hlet
        have HL := Lib.hid hL
        clear hL
        cases hZ : digZ (c.toNat : Int)
        · rw [hZ] at hdig
          have HZ := Lib.hid hZ
          clear hZ
          by_cases hC : 0 ≤ ix
          · have HFE : Hid (formE c = [c]) := by
              show _ = _
              unfold formE fmB; rw [HCON.out, decide_eq_true hC, Bool.or_true, if_pos rfl]
            go_wp2_with fail
            refine (hlet _).mono ?_
            clear hlet
            rintro e wz ⟨rfl, rfl⟩
            go_wp2_with fail
            refine (hdig _).mono ?_
            clear hdig
            rintro e wz ⟨rfl, rfl⟩
            go_wp2_with fail
            refine (hix2 _).mono ?_
            clear hix2
            rintro e wz ⟨rfl, hwz⟩
            obtain rfl := hwz.symm
            clear hwz
            go_wp2_with fail
            refine (writeByte_stay b b (byteCells out) (c.toNat : Nat) g wr HBD.out (by rw [byteCells_len]; have := HOL.out; simp; omega) HBS.out).mono ?_
            rintro e w2 ⟨rfl, hbd2, hb2, hst2⟩
            have HBD2 := Lib.hid hbd2
            have HB2 := Lib.hid hb2
            have HS2 : Hid (w2.heap[g]? = wr.heap[g]?) := hst2 hgb hgs HFZ.out
            clear hbd2 hb2 hst2
            go_wp2_with fail
            go_roundw
            case rel =>
              refine ⟨k + 1, out ++ [c], by omega, by go_num, ?_, ?_, HBW.out.trans (HB2.out.mono (by have := HBN.out; omega)), Nat.le_trans HBS.out HB2.out.size, HS2.out.trans HHG.out, Nat.lt_of_lt_of_le hgs HB2.out.size⟩
              · rw [← HO.out, HD.out, formF_cons, HFE.out, List.append_assoc]
              · have : byteCells (out ++ [c]) = byteCells out ++ [.int .u8 (c.toNat : Nat)] := by simp [byteCells]
                rw [this]; exact HBD2.out
            case measure => simp [RowKit.intOf]; omega
          · have HF0 : Hid (fmB c = false) := by
              show _ = _
              unfold fmB letB; rw [HL.out, HZ.out, HCON.out, decide_eq_false hC]; rfl
            by_cases hq : (c.toNat : Int) = 32
            · have hqb : ((c.toNat : Int) == 32) = true := beq_iff_eq.2 hq
              have HFE : Hid (formE c = [43]) := by
                show _ = _
                unfold formE; rw [HF0.out, if_neg Bool.false_ne_true, if_pos (by omega)]
              have HQ := Lib.hid hq
              clear hq
              go_wp2_with fail
              refine (hlet _).mono ?_
              clear hlet
              rintro e wz ⟨rfl, rfl⟩
              go_wp2_with fail
              refine (hdig _).mono ?_
              clear hdig
              rintro e wz ⟨rfl, rfl⟩
              go_wp2_with fail
              refine (hix2 _).mono ?_
              clear hix2
              rintro e wz ⟨rfl, hwz⟩
              obtain rfl := hwz.symm
              clear hwz
              go_wp2_with fail
              refine (writeByte_stay b b (byteCells out) 43 g wr HBD.out (by rw [byteCells_len]; have := HOL.out; simp; omega) HBS.out).mono ?_
              rintro e w2 ⟨rfl, hbd2, hb2, hst2⟩
              have HBD2 := Lib.hid hbd2
              have HB2 := Lib.hid hb2
              have HS2 : Hid (w2.heap[g]? = wr.heap[g]?) := hst2 hgb hgs HFZ.out
              clear hbd2 hb2 hst2
              go_wp2_with fail
              go_roundw
              case rel =>
                refine ⟨k + 1, out ++ [43], by omega, by go_num, ?_, ?_, HBW.out.trans (HB2.out.mono (by have := HBN.out; omega)), Nat.le_trans HBS.out HB2.out.size, HS2.out.trans HHG.out, Nat.lt_of_lt_of_le hgs HB2.out.size⟩
                · rw [← HO.out, HD.out, formF_cons, HFE.out, List.append_assoc]
                · have : byteCells (out ++ [43]) = byteCells out ++ [.int .u8 43] := by simp [byteCells]
                  rw [this]; exact HBD2.out
              case measure => simp [RowKit.intOf]; omega
            · have hqb : ((c.toNat : Int) == 32) = false := beq_eq_false_iff_ne.2 hq
              have HFE : Hid (formE c = esc c) := by
                show _ = _
                unfold formE; rw [HF0.out, if_neg Bool.false_ne_true, if_neg (by omega)]
              have HQ := Lib.hid hq
              clear hq
              go_wp2_with fail
              refine (hlet _).mono ?_
              clear hlet
              rintro e wz ⟨rfl, rfl⟩
              go_wp2_with fail
              refine (hdig _).mono ?_
              clear hdig
              rintro e wz ⟨rfl, rfl⟩
              go_wp2_with fail
              refine (hix2 _).mono ?_
              clear hix2
              rintro e wz ⟨rfl, hwz⟩
              obtain rfl := hwz.symm
              clear hwz
              go_wp2_with fail
              refine (writeByte_stay b b (byteCells out) 37 g wr HBD.out (by rw [byteCells_len]; have := HOL.out; simp; omega) HBS.out).mono ?_
              rintro e w2 ⟨rfl, hbd2, hb2, hst2⟩
              have HBD2 := Lib.hid hbd2
              have HB2 := Lib.hid hb2
              have HS2 : Hid (w2.heap[g]? = wr.heap[g]?) := hst2 hgb hgs HFZ.out
              clear hbd2 hb2 hst2
              go_wp2_with fail
              refine (writeByte_stay b b (byteCells out ++ [.int .u8 37]) _ g w2 HBD2.out (by rw [List.length_append, byteCells_len]; have := HOL.out; simp; omega) (Nat.le_trans HBS.out HB2.out.size)).mono ?_
              rintro e w3 ⟨rfl, hbd3, hb3, hst3⟩
              have HBD3 := Lib.hid hbd3
              have HB3 := Lib.hid hb3
              have HS3 : Hid (w3.heap[g]? = wr.heap[g]?) := (hst3 hgb (Nat.lt_of_lt_of_le hgs HB2.out.size) (fun C1 e1 => by rw [HS2.out]; exact HFZ.out C1 e1)).trans HS2.out
              clear hbd3 hb3 hst3
              go_wp2_with fail
              refine (writeByte_stay b b _ _ g w3 HBD3.out (by rw [List.length_append, List.length_append, byteCells_len]; have := HOL.out; simp; omega) (Nat.le_trans HBS.out (Nat.le_trans HB2.out.size HB3.out.size))).mono ?_
              rintro e w4 ⟨rfl, hbd4, hb4, hst4⟩
              have HBD4 := Lib.hid hbd4
              have HB4 := Lib.hid hb4
              have HS4 : Hid (w4.heap[g]? = wr.heap[g]?) := (hst4 hgb (Nat.lt_of_lt_of_le hgs (Nat.le_trans HB2.out.size HB3.out.size)) (fun C1 e1 => by rw [HS3.out]; exact HFZ.out C1 e1)).trans HS3.out
              clear hbd4 hb4 hst4
              go_wp2_with fail
              go_roundw
              case rel =>
                refine ⟨k + 1, out ++ esc c, by omega, by go_num, ?_, ?_, HBW.out.trans (((HB2.out.trans HB3.out).trans HB4.out).mono (by have := HBN.out; omega)), Nat.le_trans HBS.out (Nat.le_trans HB2.out.size (Nat.le_trans HB3.out.size HB4.out.size)), HS4.out.trans HHG.out, Nat.lt_of_lt_of_le hgs (Nat.le_trans HB2.out.size (Nat.le_trans HB3.out.size HB4.out.size))⟩
                · rw [← HO.out, HD.out, formF_cons, HFE.out, List.append_assoc]
                · have hc := c.toNat_lt
                  rw [byteCells_esc out c (by show _ < 16; omega) (by show _ < 16; omega)]; exact HBD4.out
              case measure => simp [RowKit.intOf]; omega
        · rw [hZ] at hdig
          have HZ := Lib.hid hZ
          clear hZ hix2
          have HFE : Hid (formE c = [c]) := by
            show _ = _
            unfold formE fmB; rw [HZ.out, Bool.or_true, Bool.true_or, if_pos rfl]
          go_wp2_with fail
          refine (hlet _).mono ?_
          clear hlet
          rintro e wz ⟨rfl, rfl⟩
          go_wp2_with fail
          refine (hdig _).mono ?_
          clear hdig
          rintro e wz ⟨rfl, rfl⟩
          go_wp2_with fail
          refine (writeByte_stay b b (byteCells out) (c.toNat : Nat) g wr HBD.out (by rw [byteCells_len]; have := HOL.out; simp; omega) HBS.out).mono ?_
          rintro e w2 ⟨rfl, hbd2, hb2, hst2⟩
          have HBD2 := Lib.hid hbd2
          have HB2 := Lib.hid hb2
          have HS2 : Hid (w2.heap[g]? = wr.heap[g]?) := hst2 hgb hgs HFZ.out
          clear hbd2 hb2 hst2
          go_wp2_with fail
          go_roundw
          case rel =>
            refine ⟨k + 1, out ++ [c], by omega, by go_num, ?_, ?_, HBW.out.trans (HB2.out.mono (by have := HBN.out; omega)), Nat.le_trans HBS.out HB2.out.size, HS2.out.trans HHG.out, Nat.lt_of_lt_of_le hgs HB2.out.size⟩
            · rw [← HO.out, HD.out, formF_cons, HFE.out, List.append_assoc]
            · have : byteCells (out ++ [c]) = byteCells out ++ [.int .u8 (c.toNat : Nat)] := by simp [byteCells]
              rw [this]; exact HBD2.out
          case measure => simp [RowKit.intOf]; omega
      · rw [hL] at hlet
        have HL := Lib.hid hL
        clear hL hdig hix2
        have HFE : Hid (formE c = [c]) := by
          show _ = _
          unfold formE fmB letB; rw [HL.out, Bool.true_or, Bool.true_or, if_pos rfl]
        go_wp2_with fail
        refine (hlet _).mono ?_
        clear hlet
        rintro e wz ⟨rfl, rfl⟩
        go_wp2_with fail
        refine (writeByte_stay b b (byteCells out) (c.toNat : Nat) g wr HBD.out (by rw [byteCells_len]; have := HOL.out; simp; omega) HBS.out).mono ?_
        rintro e w2 ⟨rfl, hbd2, hb2, hst2⟩
        have HBD2 := Lib.hid hbd2
        have HB2 := Lib.hid hb2
        have HS2 : Hid (w2.heap[g]? = wr.heap[g]?) := hst2 hgb hgs HFZ.out
        clear hbd2 hb2 hst2
        go_wp2_with fail
        go_roundw
        case rel =>
          refine ⟨k + 1, out ++ [c], by omega, by go_num, ?_, ?_, HBW.out.trans (HB2.out.mono (by have := HBN.out; omega)), Nat.le_trans HBS.out HB2.out.size, HS2.out.trans HHG.out, Nat.lt_of_lt_of_le hgs HB2.out.size⟩
          · rw [← HO.out, HD.out, formF_cons, HFE.out, List.append_assoc]
          · have : byteCells (out ++ [c]) = byteCells out ++ [.int .u8 (c.toNat : Nat)] := by simp [byteCells]
            rw [this]; exact HBD2.out
        case measure => simp [RowKit.intOf]; omega
    · obtain rfl : k = s.size := by omega
      have hend : out = formF S := by
        have := HO.out
        rw [drop_end s s.size (Nat.le_refl _)] at this
        simpa [formF] using this
      subst hend
      have hst := Tryz.Builder_String_any b b (formF S) wr HBD.out HBS.out
      clear hout hbd hbw hbs hhg
      go_wp2_with fail
      refine hst.mono ?_
      clear hst
      rintro e w9 ⟨rfl, hb9⟩
      have HB9 := Lib.hid hb9
      clear hb9
      go_wp2_with fail
      go_ret
      exact ⟨by rw [HE.out]; rfl, HBW.out.trans (HB9.out.mono (by have := HBN.out; omega))⟩

end Go.Proofs.YtabagfhnkdhjdaaGreatDoor
