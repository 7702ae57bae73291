/- link.Split: the walk. -/
import Derived.Test.YtabagfhnkdhjdaaGreatDoorSplitP
import Derived.Test.YtabagfhnkdhjdaaGreatDoorMended
set_option linter.unusedVariables false
set_option maxRecDepth 100000
namespace Go.Proofs.YtabagfhnkdhjdaaGreatDoor
open Go.RowKit Go.Lib

def splitL (s : List UInt8) : Lk :=
  ⟨spScheme s, spHost (sp1 s), spPath (sp2 (sp1 s)), spQuery (sp3 (sp2 (sp1 s))), spFrag (sp4 (sp3 (sp2 (sp1 s)))), colB s, spHH (sp1 s), spHQ (sp3 (sp2 (sp1 s))), spHF (sp4 (sp3 (sp2 (sp1 s))))⟩

def linkRow (a b c d f : List UInt8) (x y z u : Bool) : List Value := [.string ⟨a.toArray⟩, .string ⟨b.toArray⟩, .string ⟨c.toArray⟩, .string ⟨d.toArray⟩, .string ⟨f.toArray⟩, .bool x, .bool y, .bool z, .bool u]

/-- What the walk of Split keeps: the parts so far, in block L; the result's block. -/
def SpAt (w wx : World) (L : Nat) (row : List Value) : Prop := RowAt wx L row ∧ RowAt wx w.heap.size zeroLk ∧ Below w.heap.size w wx

theorem SpAt.later {w wx wy : World} {L : Nat} {row : List Value} (h : SpAt w wx L row) (hb : Below wx.heap.size wx wy) : SpAt w wy L row :=
  ⟨h.1.below hb h.1.lt, h.2.1.below hb h.2.1.lt, h.2.2.trans (hb.mono h.2.2.size)⟩
theorem SpAt.set {w wx : World} {L : Nat} {row : List Value} (h : SpAt w wx L row) (hL : w.heap.size < L) (j : Nat) (v : Value) : SpAt w (wx.setCell ⟨L, j, none⟩ v) L (row.set j v) :=
  ⟨h.1.set j v, h.2.1.other (by simp; omega) v, h.2.2.setCell (p := ⟨L, j, none⟩) (by exact Nat.le_of_lt hL) v⟩

set_option maxRecDepth 100000 in
set_option maxHeartbeats 4000000 in
theorem split_any (v : ByteArray) (w : World) (hv : v.size ≤ 500000000) :
    Calls Tryz.prog 13 #[.string v] w fun e w' => e = .returned (lkV (splitL (strip v.data.toList))) ∧ Below w.heap.size w w' := by
  have hz0 := RowAt.new w #[.string ⟨#[]⟩, .string ⟨#[]⟩, .string ⟨#[]⟩, .string ⟨#[]⟩, .string ⟨#[]⟩, .bool false, .bool false, .bool false, .bool false] 42 zeroLk rfl
  have hb0 := (Below.refl w.heap.size w).alloc (Nat.le_refl _) (.cells #[.string ⟨#[]⟩, .string ⟨#[]⟩, .string ⟨#[]⟩, .string ⟨#[]⟩, .string ⟨#[]⟩, .bool false, .bool false, .bool false, .bool false] 42)
  have h1 := strip_any v (w.alloc (.cells #[.string ⟨#[]⟩, .string ⟨#[]⟩, .string ⟨#[]⟩, .string ⟨#[]⟩, .string ⟨#[]⟩, .bool false, .bool false, .bool false, .bool false] 42)) (by omega)
  rw [World.size_alloc] at h1
  have hl := strip_len v.data.toList
  rw [← size_eq] at hl
  obtain ⟨S, hS⟩ : ∃ S, strip v.data.toList = S := ⟨_, rfl⟩
  rw [hS] at h1 hl
  rw [hS]
  clear hS
  have hSl : S.length ≤ 2000000000 := by omega
  obtain ⟨s, hs⟩ : ∃ s : ByteArray, (⟨S.toArray⟩ : ByteArray) = s := ⟨_, rfl⟩
  have hsd : s.data.toList = S := by rw [← hs]
  have hss : s.size ≤ 2000000000 := by rw [size_eq, hsd]; omega
  rw [hs] at h1
  have hc := colN_le S
  have hcs : (colN S : Int) ≤ (s.size : Int) := by rw [size_eq, hsd]; omega
  have h2 := fun w => scheme_any s w (by omega)
  rw [hsd] at h2
  obtain ⟨bb, hbb⟩ : ∃ bb, colB S = bb := ⟨_, rfl⟩
  rw [hbb] at h2
  have HBB := Lib.hid hbb
  have Hz0 := Lib.hid hz0
  have Hb0 := Lib.hid hb0
  have HSD := Lib.hid hsd
  have HS := Lib.hid hs
  clear hs hsd hl hc hz0 hb0 hbb
  go_enter Tryz.func13, Tryz.ntmps13
  go_wp2_with fail
  refine h1.mono ?_
  clear h1
  rintro e w1 ⟨rfl, hb1⟩
  obtain ⟨L, hL⟩ : ∃ L, w1.heap.size = L := ⟨_, rfl⟩
  have hz1 := RowAt.new w1 #[.string ⟨#[]⟩, .string ⟨#[]⟩, .string ⟨#[]⟩, .string ⟨#[]⟩, .string ⟨#[]⟩, .bool false, .bool false, .bool false, .bool false] 42 zeroLk rfl
  rw [hL] at hz1
  have HL := Lib.hid hL
  have hLs := hb1.size
  rw [World.size_alloc, hL] at hLs
  have HR : Hid (RowAt (w1.alloc (.cells #[.string ⟨#[]⟩, .string ⟨#[]⟩, .string ⟨#[]⟩, .string ⟨#[]⟩, .string ⟨#[]⟩, .bool false, .bool false, .bool false, .bool false] 42)) w.heap.size zeroLk) := (Hz0.out.below hb1 (by omega)).alloc _
  have HB : Hid (Below w.heap.size w (w1.alloc (.cells #[.string ⟨#[]⟩, .string ⟨#[]⟩, .string ⟨#[]⟩, .string ⟨#[]⟩, .string ⟨#[]⟩, .bool false, .bool false, .bool false, .bool false] 42))) := (Hb0.out.trans (hb1.mono (by omega))).alloc (by omega) _
  have HZ1 := Lib.hid hz1
  clear hz1 hb1 Hz0 Hb0
  go_upto_if 14 with (go_at_call 36; refine (h2 _).mono ?_; clear h2; rintro e w2 ⟨rfl, rfl⟩)
  have HSP : Hid (SpAt w (w1.alloc (.cells #[.string ⟨#[]⟩, .string ⟨#[]⟩, .string ⟨#[]⟩, .string ⟨#[]⟩, .string ⟨#[]⟩, .bool false, .bool false, .bool false, .bool false] 42)) L (linkRow [] [] [] [] [] false false false false)) := ⟨HZ1.out, HR.out, HB.out⟩
  clear HZ1 HR HB
  go_cut [3] (fun s wx => s = .string ⟨(sp1 S).toArray⟩ ∧ SpAt w wx L (linkRow (spScheme S) [] [] [] [] bb false false false))
  case first =>
    cases bb
    · go_wp2_with fail
      go_meet
      case rel =>
        refine ⟨?_, ?_⟩
        · have e1 : sp1 S = S := by unfold sp1; rw [HBB.out]; rfl
          rw [e1, HS.out]
        · unfold spScheme; rw [HBB.out]; exact HSP.out
    · have hcl : colN S + 1 ≤ s.size := by
        have hb := HBB.out
        unfold colB at hb
        cases h : colon S with
        | none => rw [h] at hb; cases hb
        | some n => have := colon_lt h; unfold colN; rw [h, size_eq, HSD.out]; exact this.2
      have hclI : (colN S : Int) + 1 ≤ (s.size : Int) := by omega
      have h3 := fun w => lower_any (s.extract 0 (colN S)) w (by rw [ByteArray.size_extract]; omega)
      have hx : (s.extract 0 (colN S)).data.toList = S.take (colN S) := by rw [take_mk, HSD.out]
      rw [hx] at h3
      have HX := Lib.hid hx
      clear hx
      go_wp2_with fail
      refine (h3 _).mono ?_
      clear h3
      rintro e w3 ⟨rfl, hb3⟩
      have hsp := HSP.out.later hb3
      have c0 := hsp.1.cell (j := 0) rfl
      have c5 := hsp.1.cell (j := 5) rfl
      have f0 := hsp.1.frozen (j := 0) (by simp [linkRow])
      have f5 := hsp.1.frozen (j := 5) (by simp [linkRow])
      have HSQ := Lib.hid hsp
      clear hsp hb3
      go_wp2_with fail
      go_meet
      case rel =>
        refine ⟨?_, ?_⟩
        · have e1 : sp1 S = S.drop (colN S + 1) := by unfold sp1; rw [HBB.out]; rfl
          rw [e1, drop_mk, HSD.out]
        · unfold spScheme; rw [HBB.out]
          exact (HSQ.out.set (by omega) 0 _).set (by omega) 5 _
  case rest =>
    obtain ⟨rfl, hsp⟩ := hcut
    have hl1 := sp1_len S
    obtain ⟨S1, hS1⟩ : ∃ S1, sp1 S = S1 := ⟨_, rfl⟩
    have E1 := Lib.hid hS1
    rw [hS1] at hl1 ⊢
    clear hS1
    obtain ⟨s1, hs1⟩ : ∃ s1 : ByteArray, (⟨S1.toArray⟩ : ByteArray) = s1 := ⟨_, rfl⟩
    have hsd1 : s1.data.toList = S1 := by rw [← hs1]
    have hss1 : s1.size ≤ 2000000000 := by rw [size_eq, hsd1]; omega
    rw [hs1]
    obtain ⟨b2, hb2⟩ : ∃ b2, spHH S1 = b2 := ⟨_, rfl⟩
    have h4 : ∀ w, Calls Tryz.prog 38 #[.string s1, .string ⟨#[47, 47]⟩] w fun e w' => e = .returned (.bool b2) ∧ w' = w := fun w => by
      have := Tryz.strings_HasPrefix s1 ⟨#[47, 47]⟩ w
      rw [hsd1] at this
      rw [← hb2]
      exact this
    have HB2 := Lib.hid hb2
    clear hb2
    have HS1 := Lib.hid hs1
    have HSD1 := Lib.hid hsd1
    have HSP1 := Lib.hid hsp
    clear hs1 hsd1 hsp HSP
    go_upto_if 26 with (go_at_call 38; refine (h4 _).mono ?_; clear h4; rintro e w2 ⟨rfl, rfl⟩)
    go_cut [3] (fun s wx => s = .string ⟨(sp2 S1).toArray⟩ ∧ SpAt w wx L (linkRow (spScheme S) (spHost S1) [] [] [] bb b2 false false))
    case first =>
      cases b2
      · go_wp2_with fail
        go_meet
        case rel =>
          refine ⟨?_, ?_⟩
          · have e1 : sp2 S1 = S1 := by unfold sp2; rw [HB2.out]; rfl
            rw [e1, HS1.out]
          · unfold spHost; rw [HB2.out]; exact HSP1.out
      · have h2l : 2 ≤ s1.size := by
          have := prefix_len (p := [47, 47]) HB2.out
          rw [size_eq, HSD1.out]; simpa using this
        have hclI : (2 : Int) ≤ (s1.size : Int) := by omega
        have hx : (s1.extract 2 s1.size).data.toList = S1.drop 2 := by rw [drop_mk, HSD1.out]
        have h3 := fun w => until_any (s1.extract 2 s1.size) ⟨#[47, 63, 35]⟩ w (by decide) (by decide) (by rw [ByteArray.size_extract]; omega) ascii3
        rw [hx] at h3
        have c6 := HSP1.out.1.cell (j := 6) rfl
        have f6 := HSP1.out.1.frozen (j := 6) (by simp [linkRow])
        have HSQ := Lib.hid (HSP1.out.set (by omega) 6 (.bool true))
        clear hx
        go_wp2_with fail
        refine (h3 _).mono ?_
        clear h3
        rintro e w3 ⟨rfl, hb3⟩
        have hsp := HSQ.out.later hb3
        have c1 := hsp.1.cell (j := 1) rfl
        have f1 := hsp.1.frozen (j := 1) (by simp [linkRow])
        have HSR := Lib.hid hsp
        clear hsp hb3
        go_wp2_with fail
        go_meet
        case rel =>
          refine ⟨?_, ?_⟩
          · have e1 : sp2 S1 = untilB (S1.drop 2) spSlash := by unfold sp2; rw [HB2.out]; rfl
            rw [e1]; rfl
          · unfold spHost; rw [HB2.out]
            exact HSR.out.set (by omega) 1 _
    case rest =>
      obtain ⟨rfl, hsp⟩ := hcut
      have hl2 := sp2_len S1
      obtain ⟨S2, hS2⟩ : ∃ S2, sp2 S1 = S2 := ⟨_, rfl⟩
      have E2 := Lib.hid hS2
      rw [hS2] at hl2 ⊢
      clear hS2
      obtain ⟨s2, hs2⟩ : ∃ s2 : ByteArray, (⟨S2.toArray⟩ : ByteArray) = s2 := ⟨_, rfl⟩
      have hsd2 : s2.data.toList = S2 := by rw [← hs2]
      have hss2 : s2.size ≤ 2000000000 := by rw [size_eq, hsd2]; omega
      rw [hs2]
      have h5 := fun w => until_any s2 ⟨#[63, 35]⟩ w (by decide) (by decide) (by omega) ascii2
      rw [hsd2] at h5
      have HSP2 := Lib.hid hsp
      have hl3 := sp3_len S2
      clear hs2 hsd2 hsp HSP1
      obtain ⟨S3, hS3⟩ : ∃ S3, sp3 S2 = S3 := ⟨_, rfl⟩
      have E3 := Lib.hid hS3
      have h5b : ∀ w, Calls Tryz.prog 39 #[.string s2, .string ⟨#[63, 35]⟩] w fun e w' => e = .returned (.tuple #[.string ⟨(spPath S2).toArray⟩, .string ⟨S3.toArray⟩]) ∧ Below w.heap.size w w' := by
        rw [← hS3]; exact h5
      rw [hS3] at hl3
      clear hS3 h5
      obtain ⟨s3, hs3⟩ : ∃ s3 : ByteArray, (⟨S3.toArray⟩ : ByteArray) = s3 := ⟨_, rfl⟩
      have hsd3 : s3.data.toList = S3 := by rw [← hs3]
      have hss3 : s3.size ≤ 2000000000 := by rw [size_eq, hsd3]; omega
      rw [hs3] at h5b
      obtain ⟨b3, hb3⟩ : ∃ b3, spHQ S3 = b3 := ⟨_, rfl⟩
      have h6 : ∀ w, Calls Tryz.prog 38 #[.string s3, .string ⟨#[63]⟩] w fun e w' => e = .returned (.bool b3) ∧ w' = w := fun w => by
        have := Tryz.strings_HasPrefix s3 ⟨#[63]⟩ w
        rw [hsd3] at this
        rw [← hb3]
        exact this
      have HB3 := Lib.hid hb3
      have HS3 := Lib.hid hs3
      have HSD3 := Lib.hid hsd3
      clear hb3 hs3 hsd3
      go_wp2_with fail
      refine (h5b _).mono ?_
      clear h5b
      rintro e w5 ⟨rfl, hb5⟩
      have hsp := HSP2.out.later hb5
      have c2 := hsp.1.cell (j := 2) rfl
      have f2 := hsp.1.frozen (j := 2) (by simp [linkRow])
      have HSP3 := Lib.hid (hsp.set (by omega) 2 (.string ⟨(spPath S2).toArray⟩))
      clear hsp hb5 HSP2
      go_upto_if 42 with (go_at_call 38; refine (h6 _).mono ?_; clear h6; rintro e w2 ⟨rfl, rfl⟩)
      go_cut [3] (fun s wx => s = .string ⟨(sp4 S3).toArray⟩ ∧ SpAt w wx L (linkRow (spScheme S) (spHost S1) (spPath S2) (spQuery S3) [] bb b2 b3 false))
      case first =>
        cases b3
        · go_wp2_with fail
          go_meet
          case rel =>
            refine ⟨?_, ?_⟩
            · have e1 : sp4 S3 = S3 := by unfold sp4; rw [HB3.out]; rfl
              rw [e1, HS3.out]
            · unfold spQuery; rw [HB3.out]; exact HSP3.out
        · have h2l : 1 ≤ s3.size := by
            have := prefix_len (p := [63]) HB3.out
            rw [size_eq, HSD3.out]; simpa using this
          have hclI : (1 : Int) ≤ (s3.size : Int) := by omega
          have hx : (s3.extract 1 s3.size).data.toList = S3.drop 1 := by rw [drop_mk, HSD3.out]
          have h3 := fun w => until_any (s3.extract 1 s3.size) ⟨#[35]⟩ w (by decide) (by decide) (by rw [ByteArray.size_extract]; omega) ascii1
          rw [hx] at h3
          have c7 := HSP3.out.1.cell (j := 7) rfl
          have f7 := HSP3.out.1.frozen (j := 7) (by simp [linkRow])
          have HSQ := Lib.hid (HSP3.out.set (by omega) 7 (.bool true))
          clear hx
          go_wp2_with fail
          refine (h3 _).mono ?_
          clear h3
          rintro e w3 ⟨rfl, hb3⟩
          have hsp := HSQ.out.later hb3
          have c3 := hsp.1.cell (j := 3) rfl
          have f3 := hsp.1.frozen (j := 3) (by simp [linkRow])
          have HSR := Lib.hid hsp
          clear hsp hb3
          go_wp2_with fail
          go_meet
          case rel =>
            refine ⟨?_, ?_⟩
            · have e1 : sp4 S3 = untilB (S3.drop 1) spHash := by unfold sp4; rw [HB3.out]; rfl
              rw [e1, List.drop_one]; rfl
            · unfold spQuery; rw [HB3.out, List.drop_one]
              exact HSR.out.set (by omega) 3 _
      case rest =>
        obtain ⟨rfl, hsp⟩ := hcut
        have hl4 := sp4_len S3
        obtain ⟨S4, hS4⟩ : ∃ S4, sp4 S3 = S4 := ⟨_, rfl⟩
        have E4 := Lib.hid hS4
        rw [hS4] at hl4 ⊢
        clear hS4
        obtain ⟨s4, hs4⟩ : ∃ s4 : ByteArray, (⟨S4.toArray⟩ : ByteArray) = s4 := ⟨_, rfl⟩
        have hsd4 : s4.data.toList = S4 := by rw [← hs4]
        have hss4 : s4.size ≤ 2000000000 := by rw [size_eq, hsd4]; omega
        rw [hs4]
        have HS4 := Lib.hid hs4
        have HSD4 := Lib.hid hsd4
        have HSP4 := Lib.hid hsp
        have c4 := hsp.1.cell (j := 4) rfl
        have f4 := hsp.1.frozen (j := 4) (by simp [linkRow])
        have c8 := hsp.1.cell (j := 8) rfl
        have f8 := hsp.1.frozen (j := 8) (by simp [linkRow])
        clear hs4 hsd4 hsp
        go_upto_if 52 with fail
        obtain ⟨q, hq⟩ : ∃ q, (!s4.toList.isEmpty) = q := ⟨_, rfl⟩
        rw [hq]
        have HQ := Lib.hid hq
        clear hq
        go_cut [] (fun wx => SpAt w wx L (linkRow (spScheme S) (spHost S1) (spPath S2) (spQuery S3) (spFrag S4) bb b2 b3 (spHF S4)))
        case first =>
          cases q
          · have h0 : s4.size = 0 := by
              apply Decidable.byContradiction
              intro h
              have := HQ.out
              rw [empty_false s4 (by omega)] at this
              cases this
            have hn := nil_of_size s4 h0
            rw [HSD4.out] at hn
            have HN := Lib.hid hn
            clear hn h0
            go_wp2_with fail
            go_meet
            case rel =>
              show SpAt _ _ _ _
              rw [HN.out]
              exact HSP4.out
          · have h0 : ¬ s4.size = 0 := by
              intro h
              have := HQ.out
              rw [empty_true s4 h] at this
              cases this
            have h1I : (1 : Int) ≤ (s4.size : Int) := by omega
            have hne : Hid (spHF S4 = true) := by
              show _ = _
              unfold spHF
              rw [← HSD4.out]
              cases h : s4.data.toList with
              | nil => rw [size_eq, h] at h0; simp at h0
              | cons => rfl
            go_wp2_with fail
            go_meet
            case rel =>
              show SpAt _ _ _ _
              have e : s4.extract 1 s4.size = ⟨(spFrag S4).toArray⟩ := by rw [drop_mk, HSD4.out]; rfl
              rw [hne.out, e]
              exact (HSP4.out.set (by omega) 4 _).set (by omega) 8 _
        case rest =>
          have hsp := hcut
          have HSP5 := Lib.hid hsp
          have c0 := hsp.1.cell (j := 0) rfl
          have c1 := hsp.1.cell (j := 1) rfl
          have c2 := hsp.1.cell (j := 2) rfl
          have c3 := hsp.1.cell (j := 3) rfl
          have c4 := hsp.1.cell (j := 4) rfl
          have c5 := hsp.1.cell (j := 5) rfl
          have c6 := hsp.1.cell (j := 6) rfl
          have c7 := hsp.1.cell (j := 7) rfl
          have c8 := hsp.1.cell (j := 8) rfl
          have d0 := hsp.2.1.cell (j := 0) rfl
          have d1 := hsp.2.1.cell (j := 1) rfl
          have d2 := hsp.2.1.cell (j := 2) rfl
          have d3 := hsp.2.1.cell (j := 3) rfl
          have d4 := hsp.2.1.cell (j := 4) rfl
          have d5 := hsp.2.1.cell (j := 5) rfl
          have d6 := hsp.2.1.cell (j := 6) rfl
          have d7 := hsp.2.1.cell (j := 7) rfl
          have d8 := hsp.2.1.cell (j := 8) rfl
          have f0 := hsp.2.1.frozen (j := 0) (by decide)
          have f1 := hsp.2.1.frozen (j := 1) (by decide)
          have f2 := hsp.2.1.frozen (j := 2) (by decide)
          have f3 := hsp.2.1.frozen (j := 3) (by decide)
          have f4 := hsp.2.1.frozen (j := 4) (by decide)
          have f5 := hsp.2.1.frozen (j := 5) (by decide)
          have f6 := hsp.2.1.frozen (j := 6) (by decide)
          have f7 := hsp.2.1.frozen (j := 7) (by decide)
          have f8 := hsp.2.1.frozen (j := 8) (by decide)
          clear hsp hcut HSP4 HSP3
          go_wp2_with fail
          have hfin : lkV (splitL S) = .agg #[.string ⟨(spScheme S).toArray⟩, .string ⟨(spHost S1).toArray⟩, .string ⟨(spPath S2).toArray⟩, .string ⟨(spQuery S3).toArray⟩, .string ⟨(spFrag S4).toArray⟩, .bool bb, .bool b2, .bool b3, .bool (spHF S4)] := by
            unfold lkV splitL
            simp only [E1.out, E2.out, E3.out, E4.out, HBB.out, HB2.out, HB3.out]
          rw [hfin]
          refine bodyPost_ret (v := .agg #[.string ⟨(spScheme S).toArray⟩, .string ⟨(spHost S1).toArray⟩, .string ⟨(spPath S2).toArray⟩, .string ⟨(spQuery S3).toArray⟩, .string ⟨(spFrag S4).toArray⟩, .bool bb, .bool b2, .bool b3, .bool (spHF S4)]) (by simp [results, Tryz.results13, go_sem, d0, d1, d2, d3, d4, d5, d6, d7, d8]) rfl ⟨rfl, ?_⟩
          iterate 9 (refine Below.setCell ?_ (by exact Nat.le_refl _) _)
          exact HSP5.out.2.2
end Go.Proofs.YtabagfhnkdhjdaaGreatDoor
