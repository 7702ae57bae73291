/- The reference's Split. -/
import Derived.Test.YtabagfhnkdhjdaaSplitW
import Derived.Test.YtabagfhnkdhjdaaRefG
set_option linter.unusedVariables false
set_option maxRecDepth 100000
namespace Go.Proofs.Ytabagfhnkdhjdaa
open Go.RowKit Go.Lib

theorem rupTo_below (s c : ByteArray) (w : World) (hs : s.size ≤ 140737488355328) (hc : c.size ≤ 140737488355328) :
    Calls Try.prog 24 #[.string s, .string c] w fun e w' => e = .returned (.int .i64 (upTo s.data.toList c.data.toList : Nat)) ∧ Below w.heap.size w w' :=
  (rupTo_any s c w hs hc).mono fun e w' ⟨he, a, hw⟩ => ⟨he, by rw [← hw]; exact Below.drewN (Below.refl _ _) a⟩

theorem hp_none (s : ByteArray) (h : ¬ 1 < s.size) : Lib.hasPrefix s.data.toList [47, 47] = false := by
  rw [size_eq] at h
  match hl : s.data.toList, h with
  | [], _ => rfl
  | [a], _ => show (((47 : UInt8) == a) && false) = false; simp
  | a :: b :: t, h => simp at h
theorem hp_two (s : ByteArray) (h : 1 < s.size) : Lib.hasPrefix s.data.toList [47, 47] = (((47 : UInt8) == s[0]) && ((47 : UInt8) == s[1])) := by
  have h0 := drop_at s 0 (by omega)
  have h1 := drop_at s 1 h
  rw [List.drop_zero] at h0
  rw [h0, show (0 + 1) = 1 from rfl, h1]
  show (((47 : UInt8) == s[0]) && (((47 : UInt8) == s[1]) && true)) = _
  rw [Bool.and_true]
theorem hp_one (s : ByteArray) (h : 0 < s.size) : Lib.hasPrefix s.data.toList [63] = ((63 : UInt8) == s[0]) := by
  have h0 := drop_at s 0 (by omega)
  rw [List.drop_zero] at h0
  rw [h0]
  show (((63 : UInt8) == s[0]) && true) = _
  rw [Bool.and_true]
theorem hp_one0 (s : ByteArray) (h : s.size = 0) : Lib.hasPrefix s.data.toList [63] = false := by rw [nil_of_size s h]; rfl
theorem u8_eq {a : UInt8} {n : Nat} (hn : n < 256) : ((UInt8.ofNat n == a) = true) ↔ ((a.toNat : Int) = (n : Int)) := by
  rw [beq_iff_eq]
  constructor
  · intro h; subst h; simp; omega
  · intro h
    have : a.toNat = n := by omega
    subst this; simp
theorem upTo_skip {b : UInt8} {l c : List UInt8} (h : c.contains b = false) : upTo (b :: l) c = upTo l c + 1 := by rw [upTo, if_neg (by rw [h]; exact Bool.false_ne_true)]
theorem mid_mk (s : ByteArray) (a b : Nat) : s.extract a b = ⟨((s.data.toList.drop a).take (b - a)).toArray⟩ := extract_eq s a b

set_option maxRecDepth 100000 in
set_option maxHeartbeats 4000000 in
theorem rsplit_any (v : ByteArray) (w : World) (hv : v.size ≤ 500000000) :
    Calls Try.prog 8 #[.string v] w fun e w' => e = .returned (lkV (splitL (strip v.data.toList))) ∧ Below w.heap.size w w' := by
  have hz0 := RowAt.new w #[.string ⟨#[]⟩, .string ⟨#[]⟩, .string ⟨#[]⟩, .string ⟨#[]⟩, .string ⟨#[]⟩, .bool false, .bool false, .bool false, .bool false] 23 zeroLk rfl
  have hb0 := (Below.refl w.heap.size w).alloc (Nat.le_refl _) (.cells #[.string ⟨#[]⟩, .string ⟨#[]⟩, .string ⟨#[]⟩, .string ⟨#[]⟩, .string ⟨#[]⟩, .bool false, .bool false, .bool false, .bool false] 23)
  have h1 := rstrip_any v (w.alloc (.cells #[.string ⟨#[]⟩, .string ⟨#[]⟩, .string ⟨#[]⟩, .string ⟨#[]⟩, .string ⟨#[]⟩, .bool false, .bool false, .bool false, .bool false] 23)) (by omega)
  rw [World.size_alloc] at h1
  have hl := strip_len v.data.toList
  rw [← size_eq] at hl
  obtain ⟨S, hS⟩ : ∃ S, strip v.data.toList = S := ⟨_, rfl⟩
  rw [hS] at h1 hl
  rw [hS]
  clear hS
  have hSl : S.length ≤ 2000000000 := by omega
  obtain ⟨s, hs⟩ : ∃ s : ByteArray, (⟨S.toArray⟩ : ByteArray) = s := ⟨_, rfl⟩
  have hsd : s.data.toList = S := by rw [← hs]
  have hss : s.size ≤ 2000000000 := by rw [size_eq, hsd]; omega
  rw [hs] at h1
  have hc := colN_le S
  have hcs : (colN S : Int) ≤ (s.size : Int) := by rw [size_eq, hsd]; omega
  have h2 := fun w => rcolon_any s w (by omega)
  rw [hsd] at h2
  obtain ⟨bb, hbb⟩ : ∃ bb, colB S = bb := ⟨_, rfl⟩
  have HBB := Lib.hid hbb
  have Hz0 := Lib.hid hz0
  have Hb0 := Lib.hid hb0
  have HSD := Lib.hid hsd
  have HS := Lib.hid hs
  obtain ⟨z, hz⟩ : ∃ z, colZ S = z := ⟨_, rfl⟩
  rw [hz] at h2
  have HZZ := Lib.hid hz
  clear hs hsd hl hc hz0 hb0 hbb hz
  go_enter Try.func8, Try.ntmps8
  go_wp2_with fail
  refine h1.mono ?_
  clear h1
  rintro e w1 ⟨rfl, hb1⟩
  obtain ⟨L, hL⟩ : ∃ L, w1.heap.size = L := ⟨_, rfl⟩
  have hz1 := RowAt.new w1 #[.string ⟨#[]⟩, .string ⟨#[]⟩, .string ⟨#[]⟩, .string ⟨#[]⟩, .string ⟨#[]⟩, .bool false, .bool false, .bool false, .bool false] 23 zeroLk rfl
  rw [hL] at hz1
  have HL := Lib.hid hL
  have hLs := hb1.size
  rw [World.size_alloc, hL] at hLs
  have HR : Hid (RowAt (w1.alloc (.cells #[.string ⟨#[]⟩, .string ⟨#[]⟩, .string ⟨#[]⟩, .string ⟨#[]⟩, .string ⟨#[]⟩, .bool false, .bool false, .bool false, .bool false] 23)) w.heap.size zeroLk) := (Hz0.out.below hb1 (by omega)).alloc _
  have HB : Hid (Below w.heap.size w (w1.alloc (.cells #[.string ⟨#[]⟩, .string ⟨#[]⟩, .string ⟨#[]⟩, .string ⟨#[]⟩, .string ⟨#[]⟩, .bool false, .bool false, .bool false, .bool false] 23))) := (Hb0.out.trans (hb1.mono (by omega))).alloc (by omega) _
  have HZ1 := Lib.hid hz1
  clear hz1 hb1 Hz0 Hb0
  go_upto_if 14 with (go_at_call 22; refine (h2 _).mono ?_; clear h2; rintro e w2 ⟨rfl, rfl⟩)
  have HSP : Hid (SpAt w (w1.alloc (.cells #[.string ⟨#[]⟩, .string ⟨#[]⟩, .string ⟨#[]⟩, .string ⟨#[]⟩, .string ⟨#[]⟩, .bool false, .bool false, .bool false, .bool false] 23)) L (linkRow [] [] [] [] [] false false false false)) := ⟨HZ1.out, HR.out, HB.out⟩
  clear HZ1 HR HB
  go_cut [3] (fun s wx => s = .string ⟨(sp1 S).toArray⟩ ∧ SpAt w wx L (linkRow (spScheme S) [] [] [] [] bb false false false))
  case first =>
    cases bb
    · have hzn : ¬ (0 : Int) ≤ z := by have := HZZ.out; rw [colZ_not HBB.out] at this; omega
      go_wp2_with fail
      go_meet
      case rel =>
        refine ⟨?_, ?_⟩
        · have e1 : sp1 S = S := by unfold sp1; rw [HBB.out]; rfl
          rw [e1, HS.out]
        · unfold spScheme; rw [HBB.out]; exact HSP.out
    · obtain rfl : z = (colN S : Nat) := by have := HZZ.out; rw [colZ_is HBB.out] at this; omega
      have hcl : colN S + 1 ≤ s.size := by
        have hb := HBB.out
        unfold colB at hb
        cases h : colon S with
        | none => rw [h] at hb; cases hb
        | some n => have := colon_lt h; unfold colN; rw [h, size_eq, HSD.out]; exact this.2
      have hclI : (colN S : Int) + 1 ≤ (s.size : Int) := by omega
      have h3 := fun w => rlower_any (s.extract 0 (colN S)) w (by rw [ByteArray.size_extract]; omega)
      have hx : (s.extract 0 (colN S)).data.toList = S.take (colN S) := by rw [take_mk, HSD.out]
      rw [hx] at h3
      have HX := Lib.hid hx
      clear hx
      go_wp2_with fail
      refine (h3 _).mono ?_
      clear h3
      rintro e w3 ⟨rfl, hb3⟩
      have hsp := HSP.out.later hb3
      have c0 := hsp.1.cell (j := 0) rfl
      have c5 := hsp.1.cell (j := 5) rfl
      have f0 := hsp.1.frozen (j := 0) (by simp [linkRow])
      have f5 := hsp.1.frozen (j := 5) (by simp [linkRow])
      have HSQ := Lib.hid hsp
      clear hsp hb3
      go_wp2_with fail
      go_meet
      case rel =>
        refine ⟨?_, ?_⟩
        · have e1 : sp1 S = S.drop (colN S + 1) := by unfold sp1; rw [HBB.out]; rfl
          rw [e1, drop_mk, HSD.out]
        · unfold spScheme; rw [HBB.out]
          exact (HSQ.out.set (by omega) 0 _).set (by omega) 5 _
  case rest =>
    obtain ⟨rfl, hsp⟩ := hcut
    have hl1 := sp1_len S
    obtain ⟨S1, hS1⟩ : ∃ S1, sp1 S = S1 := ⟨_, rfl⟩
    have E1 := Lib.hid hS1
    rw [hS1] at hl1 ⊢
    clear hS1
    obtain ⟨s1, hs1⟩ : ∃ s1 : ByteArray, (⟨S1.toArray⟩ : ByteArray) = s1 := ⟨_, rfl⟩
    have hsd1 : s1.data.toList = S1 := by rw [← hs1]
    have hss1 : s1.size ≤ 2000000000 := by rw [size_eq, hsd1]; omega
    rw [hs1]
    obtain ⟨b2, hb2⟩ : ∃ b2, spHH S1 = b2 := ⟨_, rfl⟩
    have hB2 : Lib.hasPrefix s1.data.toList [47, 47] = b2 := by rw [hsd1]; exact hb2
    have HB2 := Lib.hid hb2
    have HB3 := Lib.hid hB2
    clear hb2 hB2
    have HS1 := Lib.hid hs1
    have HSD1 := Lib.hid hsd1
    have HSP1 := Lib.hid hsp
    clear hs1 hsd1 hsp HSP HZZ
    go_upto_region 7 with fail
    go_cut [37] (fun c wx => c = .bool b2 ∧ SpAt w wx L (linkRow (spScheme S) [] [] [] [] bb false false false))
    case first =>
      by_cases hz : 1 < s1.size
      · have hzI : (1 : Int) < (s1.size : Int) := by omega
        have hz0 : 0 < s1.size := by omega
        have hz0I : (0 : Int) < (s1.size : Int) := by omega
        have hp := hp_two s1 hz
        rw [HB3.out] at hp
        have hb0 := byte_le s1[0]
        have hb1 := byte_le s1[1]
        by_cases g0 : (s1[0].toNat : Int) = 47
        · have g0b : ((s1[0].toNat : Int) == 47) = true := beq_iff_eq.2 g0
          by_cases g1 : (s1[1].toNat : Int) = 47
          · have g1b : ((s1[1].toNat : Int) == 47) = true := beq_iff_eq.2 g1
            have hbt : b2 = true := by rw [hp, Bool.and_eq_true]; exact ⟨(u8_eq (n := 47) (by omega)).2 g0, (u8_eq (n := 47) (by omega)).2 g1⟩
            subst hbt
            clear hp g0 g1
            go_wp2_with fail
            go_meet
            case rel => exact ⟨rfl, HSP1.out⟩
          · have g1b : ((s1[1].toNat : Int) == 47) = false := beq_eq_false_iff_ne.2 g1
            have hbt : b2 = false := by
              cases b2 with
              | false => rfl
              | true =>
                rw [eq_comm, Bool.and_eq_true] at hp
                exact absurd ((u8_eq (n := 47) (by omega)).1 hp.2) g1
            subst hbt
            clear hp g0 g1
            go_wp2_with fail
            go_meet
            case rel => exact ⟨rfl, HSP1.out⟩
        · have g0b : ((s1[0].toNat : Int) == 47) = false := beq_eq_false_iff_ne.2 g0
          have hbt : b2 = false := by
            cases b2 with
            | false => rfl
            | true =>
              rw [eq_comm, Bool.and_eq_true] at hp
              exact absurd ((u8_eq (n := 47) (by omega)).1 hp.1) g0
          subst hbt
          clear hp g0
          go_wp2_with fail
          go_meet
          case rel => exact ⟨rfl, HSP1.out⟩
      · have hzI : ¬ (1 : Int) < (s1.size : Int) := by omega
        have hp := hp_none s1 hz
        rw [HB3.out] at hp
        subst hp
        go_wp2_with fail
        go_meet
        case rel => exact ⟨rfl, HSP1.out⟩
    case rest =>
    obtain ⟨rfl, hsp⟩ := hcut
    have HSP1' := Lib.hid hsp
    clear hsp HSP1
    have HSP1 := HSP1'
    clear HSP1'
    go_upto_if 37 with fail
    go_cut [3] (fun s wx => s = .string ⟨(sp2 S1).toArray⟩ ∧ SpAt w wx L (linkRow (spScheme S) (spHost S1) [] [] [] bb b2 false false))
    case first =>
      cases b2
      · go_wp2_with fail
        go_meet
        case rel =>
          refine ⟨?_, ?_⟩
          · have e1 : sp2 S1 = S1 := by unfold sp2; rw [HB2.out]; rfl
            rw [e1, HS1.out]
          · unfold spHost; rw [HB2.out]; exact HSP1.out
      · have h2l : 2 ≤ s1.size := by
          have := prefix_len (p := [47, 47]) HB2.out
          rw [size_eq, HSD1.out]; simpa using this
        have hclI : (2 : Int) ≤ (s1.size : Int) := by omega
        have hx : (s1.extract 2 s1.size).data.toList = S1.drop 2 := by rw [drop_mk, HSD1.out]
        have h3 := fun w => rupTo_below (s1.extract 2 s1.size) ⟨#[47, 63, 35]⟩ w (by rw [ByteArray.size_extract]; omega) (by decide)
        rw [hx] at h3
        have hule := upTo_le (S1.drop 2) spSlash
        rw [List.length_drop, ← HSD1.out, ← size_eq, HSD1.out] at hule
        obtain ⟨u, hu⟩ : ∃ u, upTo (S1.drop 2) spSlash = u := ⟨_, rfl⟩
        have h3' : ∀ w, Calls Try.prog 24 #[.string (s1.extract 2 s1.size), .string ⟨#[47, 63, 35]⟩] w fun e w' => e = .returned (.int .i64 u) ∧ Below w.heap.size w w' := by rw [← hu]; exact h3
        rw [hu] at hule
        have HU := Lib.hid hu
        clear hu h3 hx
        have huI : (2 : Int) + (u : Int) ≤ (s1.size : Int) := by omega
        go_wp2_with fail
        refine (h3' _).mono ?_
        clear h3'
        rintro e w3 ⟨rfl, hb3⟩
        have hsp := HSP1.out.later hb3
        have c1 := hsp.1.cell (j := 1) rfl
        have f1 := hsp.1.frozen (j := 1) (by simp [linkRow])
        have c6 := hsp.1.cell (j := 6) rfl
        have f6 := hsp.1.frozen (j := 6) (by simp [linkRow])
        have HSR := Lib.hid hsp
        clear hsp hb3
        go_wp2_with fail
        go_meet
        case rel =>
          refine ⟨?_, ?_⟩
          · have e1 : sp2 S1 = untilB (S1.drop 2) spSlash := by unfold sp2; rw [HB2.out]; rfl
            rw [e1, drop_mk, HSD1.out]; unfold untilB; rw [HU.out, List.drop_drop]
          · unfold spHost; rw [HB2.out]
            have e2 : s1.extract 2 (2 + u) = ⟨(untilA (S1.drop 2) spSlash).toArray⟩ := by
              rw [mid_mk, HSD1.out]; unfold untilA; rw [HU.out, show 2 + u - 2 = u by omega]
            rw [e2]
            exact (HSR.out.set (by omega) 1 _).set (by omega) 6 _
    case rest =>
      obtain ⟨rfl, hsp⟩ := hcut
      clear HB3
      have hl2 := sp2_len S1
      obtain ⟨S2, hS2⟩ : ∃ S2, sp2 S1 = S2 := ⟨_, rfl⟩
      have E2 := Lib.hid hS2
      rw [hS2] at hl2 ⊢
      clear hS2
      obtain ⟨s2, hs2⟩ : ∃ s2 : ByteArray, (⟨S2.toArray⟩ : ByteArray) = s2 := ⟨_, rfl⟩
      have hsd2 : s2.data.toList = S2 := by rw [← hs2]
      have hss2 : s2.size ≤ 2000000000 := by rw [size_eq, hsd2]; omega
      rw [hs2]
      have h5 := fun w => rupTo_below s2 ⟨#[63, 35]⟩ w (by omega) (by decide)
      rw [hsd2] at h5
      have hule := upTo_le S2 spQuest
      rw [← hsd2, ← size_eq, hsd2] at hule
      obtain ⟨u, hu⟩ : ∃ u, upTo S2 spQuest = u := ⟨_, rfl⟩
      have h5b : ∀ w, Calls Try.prog 24 #[.string s2, .string ⟨#[63, 35]⟩] w fun e w' => e = .returned (.int .i64 u) ∧ Below w.heap.size w w' := by rw [← hu]; exact h5
      rw [hu] at hule
      have HSP2 := Lib.hid hsp
      have hl3 := sp3_len S2
      have HSD2 := Lib.hid hsd2
      have HU := Lib.hid hu
      clear hs2 hsd2 hsp HSP1 h5 hu
      have huI : (u : Int) ≤ (s2.size : Int) := by omega
      obtain ⟨S3, hS3⟩ : ∃ S3, sp3 S2 = S3 := ⟨_, rfl⟩
      have E3 := Lib.hid hS3
      rw [hS3] at hl3
      obtain ⟨s3, hs3⟩ : ∃ s3 : ByteArray, (⟨S3.toArray⟩ : ByteArray) = s3 := ⟨_, rfl⟩
      have hsd3 : s3.data.toList = S3 := by rw [← hs3]
      have hss3 : s3.size ≤ 2000000000 := by rw [size_eq, hsd3]; omega
      have HX3 : Hid (s2.extract u s2.size = s3) := by
        show _ = _
        rw [drop_mk, HSD2.out, ← hs3, ← hS3]; unfold sp3 untilB; rw [HU.out]
      have HX2 : Hid (s2.extract 0 u = ⟨(spPath S2).toArray⟩) := by
        show _ = _
        rw [take_mk, HSD2.out]; unfold spPath untilA; rw [HU.out]
      clear hS3
      obtain ⟨b3, hb3⟩ : ∃ b3, spHQ S3 = b3 := ⟨_, rfl⟩
      have hB3 : Lib.hasPrefix s3.data.toList [63] = b3 := by rw [hsd3]; exact hb3
      have HB3 := Lib.hid hb3
      have HC3 := Lib.hid hB3
      have HS3 := Lib.hid hs3
      have HSD3 := Lib.hid hsd3
      clear hb3 hs3 hsd3 hB3
      go_wp2_with fail
      refine (h5b _).mono ?_
      clear h5b
      rintro e w5 ⟨rfl, hb5⟩
      have hsp := HSP2.out.later hb5
      have c2 := hsp.1.cell (j := 2) rfl
      have f2 := hsp.1.frozen (j := 2) (by simp [linkRow])
      have hsp3 := hsp.set (by omega) 2 (.string ⟨(spPath S2).toArray⟩)
      have HSP3 := Lib.hid hsp3
      clear hsp hb5 HSP2 hsp3
      go_upto_region 14 with fail
      rw [HX3.out, HX2.out]
      go_cut [65] (fun c wx => c = .bool b3 ∧ SpAt w wx L (linkRow (spScheme S) (spHost S1) (spPath S2) [] [] bb b2 false false))
      case first =>
        by_cases hz : s3.size = 0
        · have hp := hp_one0 s3 hz
          rw [HC3.out] at hp
          subst hp
          have he := empty_true s3 hz
          clear hz
          go_wp2_with fail
          go_meet
          case rel => exact ⟨rfl, HSP3.out⟩
        · have hz0 : 0 < s3.size := by omega
          have he := empty_false s3 hz0
          have hz0I : (0 : Int) < (s3.size : Int) := by omega
          have hp := hp_one s3 hz0
          rw [HC3.out] at hp
          have hb0 := byte_le s3[0]
          by_cases g0 : (s3[0].toNat : Int) = 63
          · have g0b : ((s3[0].toNat : Int) == 63) = true := beq_iff_eq.2 g0
            have hbt : b3 = true := by rw [hp]; exact (u8_eq (n := 63) (by omega)).2 g0
            subst hbt
            clear hp g0
            go_wp2_with fail
            go_meet
            case rel => exact ⟨rfl, HSP3.out⟩
          · have g0b : ((s3[0].toNat : Int) == 63) = false := beq_eq_false_iff_ne.2 g0
            have hbt : b3 = false := by
              cases b3 with
              | false => rfl
              | true => exact absurd ((u8_eq (n := 63) (by omega)).1 hp.symm) g0
            subst hbt
            clear hp g0
            go_wp2_with fail
            go_meet
            case rel => exact ⟨rfl, HSP3.out⟩
      case rest =>
      obtain ⟨rfl, hsp⟩ := hcut
      have HSP3' := Lib.hid hsp
      clear hsp HSP3
      have HSP3 := HSP3'
      clear HSP3'
      go_upto_if 65 with fail
      go_cut [3] (fun s wx => s = .string ⟨(sp4 S3).toArray⟩ ∧ SpAt w wx L (linkRow (spScheme S) (spHost S1) (spPath S2) (spQuery S3) [] bb b2 b3 false))
      case first =>
        cases b3
        · go_wp2_with fail
          go_meet
          case rel =>
            refine ⟨?_, ?_⟩
            · have e1 : sp4 S3 = S3 := by unfold sp4; rw [HB3.out]; rfl
              rw [e1, HS3.out]
            · unfold spQuery; rw [HB3.out]; exact HSP3.out
        · have hz0 : 0 < s3.size := by
            have h := prefix_len (p := [63]) HB3.out
            rw [size_eq, HSD3.out]; simp at h; omega
          have g0 : (s3[0].toNat : Int) = 63 := (u8_eq (n := 63) (by omega)).1 (by show ((63 : UInt8) == s3[0]) = true; rw [← hp_one s3 hz0]; exact HC3.out)
          have HD3 : Hid (S3 = s3[0] :: S3.drop 1) := by
            show _ = _
            have := drop_at s3 0 hz0
            rw [List.drop_zero, HSD3.out] at this
            exact this
          have hup : upTo S3 spHash = upTo (S3.drop 1) spHash + 1 := by
            conv => lhs; rw [HD3.out]
            refine upTo_skip ?_
            have : s3[0] = 63 := UInt8.toNat_inj.1 (by show s3[0].toNat = 63; omega)
            rw [this]; decide
          clear g0
          have h3 := fun w => rupTo_below s3 ⟨#[35]⟩ w (by omega) (by decide)
          rw [HSD3.out] at h3
          have hule := upTo_le (S3.drop 1) spHash
          rw [List.length_drop, ← HSD3.out, ← size_eq, HSD3.out] at hule
          obtain ⟨q, hq⟩ : ∃ q, upTo (S3.drop 1) spHash = q := ⟨_, rfl⟩
          obtain ⟨q1, hq1⟩ : ∃ q1, q + 1 = q1 := ⟨_, rfl⟩
          have h3' : ∀ w, Calls Try.prog 24 #[.string s3, .string ⟨#[35]⟩] w fun e w' => e = .returned (.int .i64 q1) ∧ Below w.heap.size w w' := by rw [← hq1, ← hq, ← hup]; exact h3
          rw [hq] at hule
          have hq1s : q1 ≤ s3.size := by omega
          have hq1I : (q1 : Int) ≤ (s3.size : Int) := by omega
          have hq1J : (1 : Int) ≤ (q1 : Int) := by omega
          have hq1K : 1 ≤ q1 := by omega
          have HQ := Lib.hid hq
          have HQ1 := Lib.hid hq1
          clear hq h3 hup hq1
          go_wp2_with fail
          refine (h3' _).mono ?_
          clear h3'
          rintro e w3 ⟨rfl, hb3⟩
          have hsp := HSP3.out.later hb3
          have c3 := hsp.1.cell (j := 3) rfl
          have f3 := hsp.1.frozen (j := 3) (by simp [linkRow])
          have c7 := hsp.1.cell (j := 7) rfl
          have f7 := hsp.1.frozen (j := 7) (by simp [linkRow])
          have HSR := Lib.hid hsp
          clear hsp hb3
          go_wp2_with fail
          go_meet
          case rel =>
            refine ⟨?_, ?_⟩
            · have e1 : sp4 S3 = untilB (S3.drop 1) spHash := by unfold sp4; rw [HB3.out]; rfl
              rw [e1, drop_mk, HSD3.out]; unfold untilB; rw [HQ.out, List.drop_drop, ← HQ1.out, Nat.add_comm]
            · unfold spQuery; rw [HB3.out]
              have e2 : s3.extract 1 q1 = ⟨(untilA (S3.drop 1) spHash).toArray⟩ := by
                rw [mid_mk, HSD3.out]; unfold untilA; rw [HQ.out, ← HQ1.out, show q + 1 - 1 = q by omega]
              rw [e2]
              exact (HSR.out.set (by omega) 3 _).set (by omega) 7 _
      case rest =>
        obtain ⟨rfl, hsp⟩ := hcut
        have hl4 := sp4_len S3
        obtain ⟨S4, hS4⟩ : ∃ S4, sp4 S3 = S4 := ⟨_, rfl⟩
        have E4 := Lib.hid hS4
        rw [hS4] at hl4 ⊢
        clear hS4
        obtain ⟨s4, hs4⟩ : ∃ s4 : ByteArray, (⟨S4.toArray⟩ : ByteArray) = s4 := ⟨_, rfl⟩
        have hsd4 : s4.data.toList = S4 := by rw [← hs4]
        have hss4 : s4.size ≤ 2000000000 := by rw [size_eq, hsd4]; omega
        rw [hs4]
        have HS4 := Lib.hid hs4
        have HSD4 := Lib.hid hsd4
        have HSP4 := Lib.hid hsp
        have c4 := hsp.1.cell (j := 4) rfl
        have f4 := hsp.1.frozen (j := 4) (by simp [linkRow])
        have c8 := hsp.1.cell (j := 8) rfl
        have f8 := hsp.1.frozen (j := 8) (by simp [linkRow])
        clear hs4 hsd4 hsp
        go_upto_if 77 with fail
        obtain ⟨q, hq⟩ : ∃ q, (!s4.toList.isEmpty) = q := ⟨_, rfl⟩
        rw [hq]
        have HQ := Lib.hid hq
        clear hq
        go_cut [] (fun wx => SpAt w wx L (linkRow (spScheme S) (spHost S1) (spPath S2) (spQuery S3) (spFrag S4) bb b2 b3 (spHF S4)))
        case first =>
          cases q
          · have h0 : s4.size = 0 := by
              apply Decidable.byContradiction
              intro h
              have := HQ.out
              rw [empty_false s4 (by omega)] at this
              cases this
            have hn := nil_of_size s4 h0
            rw [HSD4.out] at hn
            have HN := Lib.hid hn
            clear hn h0
            go_wp2_with fail
            go_meet
            case rel =>
              show SpAt _ _ _ _
              rw [HN.out]
              exact HSP4.out
          · have h0 : ¬ s4.size = 0 := by
              intro h
              have := HQ.out
              rw [empty_true s4 h] at this
              cases this
            have h1I : (1 : Int) ≤ (s4.size : Int) := by omega
            have hne : Hid (spHF S4 = true) := by
              show _ = _
              unfold spHF
              rw [← HSD4.out]
              cases h : s4.data.toList with
              | nil => rw [size_eq, h] at h0; simp at h0
              | cons => rfl
            go_wp2_with fail
            go_meet
            case rel =>
              show SpAt _ _ _ _
              have e : s4.extract 1 s4.size = ⟨(spFrag S4).toArray⟩ := by rw [drop_mk, HSD4.out]; rfl
              rw [hne.out, e]
              exact (HSP4.out.set (by omega) 4 _).set (by omega) 8 _
        case rest =>
          have hsp := hcut
          have HSP5 := Lib.hid hsp
          have c0 := hsp.1.cell (j := 0) rfl
          have c1 := hsp.1.cell (j := 1) rfl
          have c2 := hsp.1.cell (j := 2) rfl
          have c3 := hsp.1.cell (j := 3) rfl
          have c4 := hsp.1.cell (j := 4) rfl
          have c5 := hsp.1.cell (j := 5) rfl
          have c6 := hsp.1.cell (j := 6) rfl
          have c7 := hsp.1.cell (j := 7) rfl
          have c8 := hsp.1.cell (j := 8) rfl
          have d0 := hsp.2.1.cell (j := 0) rfl
          have d1 := hsp.2.1.cell (j := 1) rfl
          have d2 := hsp.2.1.cell (j := 2) rfl
          have d3 := hsp.2.1.cell (j := 3) rfl
          have d4 := hsp.2.1.cell (j := 4) rfl
          have d5 := hsp.2.1.cell (j := 5) rfl
          have d6 := hsp.2.1.cell (j := 6) rfl
          have d7 := hsp.2.1.cell (j := 7) rfl
          have d8 := hsp.2.1.cell (j := 8) rfl
          have f0 := hsp.2.1.frozen (j := 0) (by decide)
          have f1 := hsp.2.1.frozen (j := 1) (by decide)
          have f2 := hsp.2.1.frozen (j := 2) (by decide)
          have f3 := hsp.2.1.frozen (j := 3) (by decide)
          have f4 := hsp.2.1.frozen (j := 4) (by decide)
          have f5 := hsp.2.1.frozen (j := 5) (by decide)
          have f6 := hsp.2.1.frozen (j := 6) (by decide)
          have f7 := hsp.2.1.frozen (j := 7) (by decide)
          have f8 := hsp.2.1.frozen (j := 8) (by decide)
          clear hsp hcut HSP4 HSP3
          go_wp2_with fail
          have hfin : lkV (splitL S) = .agg #[.string ⟨(spScheme S).toArray⟩, .string ⟨(spHost S1).toArray⟩, .string ⟨(spPath S2).toArray⟩, .string ⟨(spQuery S3).toArray⟩, .string ⟨(spFrag S4).toArray⟩, .bool bb, .bool b2, .bool b3, .bool (spHF S4)] := by
            unfold lkV splitL
            simp only [E1.out, E2.out, E3.out, E4.out, HBB.out, HB2.out, HB3.out]
          rw [hfin]
          refine bodyPost_ret (v := .agg #[.string ⟨(spScheme S).toArray⟩, .string ⟨(spHost S1).toArray⟩, .string ⟨(spPath S2).toArray⟩, .string ⟨(spQuery S3).toArray⟩, .string ⟨(spFrag S4).toArray⟩, .bool bb, .bool b2, .bool b3, .bool (spHF S4)]) (by simp [results, Try.results8, go_sem, d0, d1, d2, d3, d4, d5, d6, d7, d8]) rfl ⟨rfl, ?_⟩
          iterate 9 (refine Below.setCell ?_ (by exact Nat.le_refl _) _)
          exact HSP5.out.2.2

end Go.Proofs.Ytabagfhnkdhjdaa
