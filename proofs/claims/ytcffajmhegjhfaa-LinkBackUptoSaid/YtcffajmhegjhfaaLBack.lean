/- sievelaw12.LinkBack: the walk. -/
import Derived.Test.YtcffajmhegjhfaaBw
set_option linter.unusedVariables false
namespace Go.Proofs.Ytcffajmhegjhfaa
open Go.RowKit Go.Lib Go.BigFrame

theorem lkV_parts (l : Lk) : lkV l = .agg #[.string ⟨l.scheme.toArray⟩, .string ⟨l.host.toArray⟩, .string ⟨l.path.toArray⟩, .string ⟨l.query.toArray⟩, .string ⟨l.frag.toArray⟩, .bool l.hs, .bool l.hh, .bool l.hq, .bool l.hf] := rfl

set_option maxRecDepth 100000 in
set_option maxHeartbeats 4000000 in
theorem linkBack_any (v : ByteArray) (w : World) (hv : v.size ≤ 1048576) :
    Calls Try.prog 4 #[.string v] w fun e w' => e = .returned (.bool true) ∧ Below w.heap.size w w' := by
  have h1 := strip_any v w (by omega)
  have h2 := fun w => split_any v w (by omega)
  have hl := strip_len v.data.toList
  rw [← size_eq] at hl
  have hcl := strip_clean v.data.toList
  have hsch := fun w => Scheme_any v w (by omega)
  obtain ⟨S, hS⟩ : ∃ S, strip v.data.toList = S := ⟨_, rfl⟩
  rw [hS] at h1 h2 hl hcl hsch
  clear hS
  have hSl : S.length ≤ 8000000 := by omega
  clear hl
  obtain ⟨s, hs⟩ : ∃ s : ByteArray, (⟨S.toArray⟩ : ByteArray) = s := ⟨_, rfl⟩
  have hsd : s.data.toList = S := by rw [← hs]
  have hss : s.size ≤ 8000000 := by rw [size_eq, hsd]; omega
  rw [hs] at h1
  obtain ⟨J, hJ⟩ : ∃ J, joinL (splitL S) = J := ⟨_, rfl⟩
  obtain ⟨j, hj⟩ : ∃ s : ByteArray, (⟨J.toArray⟩ : ByteArray) = s := ⟨_, rfl⟩
  have hjd : j.data.toList = J := by rw [← hj]
  have hval := (split_valid hcl.valid).1
  have hlkv := lkV_parts (splitL S)
  obtain ⟨A, hA⟩ : ∃ s : ByteArray, (⟨(splitL S).scheme.toArray⟩ : ByteArray) = s := ⟨_, rfl⟩
  obtain ⟨B, hB⟩ : ∃ s : ByteArray, (⟨(splitL S).host.toArray⟩ : ByteArray) = s := ⟨_, rfl⟩
  obtain ⟨C, hC⟩ : ∃ s : ByteArray, (⟨(splitL S).path.toArray⟩ : ByteArray) = s := ⟨_, rfl⟩
  obtain ⟨D, hD⟩ : ∃ s : ByteArray, (⟨(splitL S).query.toArray⟩ : ByteArray) = s := ⟨_, rfl⟩
  obtain ⟨F, hF⟩ : ∃ s : ByteArray, (⟨(splitL S).frag.toArray⟩ : ByteArray) = s := ⟨_, rfl⟩
  obtain ⟨bb, hbb⟩ : ∃ b, colB S = b := ⟨_, rfl⟩
  obtain ⟨b2, hb2⟩ : ∃ b, (splitL S).hh = b := ⟨_, rfl⟩
  obtain ⟨b3, hb3⟩ : ∃ b, (splitL S).hq = b := ⟨_, rfl⟩
  obtain ⟨b4, hb4⟩ : ∃ b, (splitL S).hf = b := ⟨_, rfl⟩
  have hbs : (splitL S).hs = bb := hbb
  rw [hA, hB, hC, hD, hF, hbs, hb2, hb3, hb4] at hlkv
  obtain ⟨l1, l2, l3, l4, l5⟩ := split_len S
  have hAl : A.size ≤ 8000000 := by rw [← hA, size_eq]; exact Nat.le_trans l1 hSl
  have hBl : B.size ≤ 8000000 := by rw [← hB, size_eq]; exact Nat.le_trans l2 hSl
  have hCl : C.size ≤ 8000000 := by rw [← hC, size_eq]; exact Nat.le_trans l3 hSl
  have hDl : D.size ≤ 8000000 := by rw [← hD, size_eq]; exact Nat.le_trans l4 hSl
  have hFl : F.size ≤ 8000000 := by rw [← hF, size_eq]; exact Nat.le_trans l5 hSl
  have hjl : j.size ≤ 8000000 := by rw [size_eq, hjd, ← hJ, joined_len hcl]; exact hSl
  have hjs : j.size = s.size := by rw [size_eq, size_eq, hjd, hsd, ← hJ, joined_len hcl]
  have hjoin : ∀ w, Calls Try.prog 9 #[.agg #[.string A, .string B, .string C, .string D, .string F, .bool bb, .bool b2, .bool b3, .bool b4]] w fun e w' => e = .returned (.string j) ∧ Below w.heap.size w w' := fun w => by
    have := join_any A B C D F bb b2 b3 b4 w (by
      intro s hs
      simp only [List.mem_cons, List.not_mem_nil, or_false] at hs
      rcases hs with rfl | rfl | rfl | rfl | rfl <;> omega)
    have e : (⟨mend A.data.toList, mend B.data.toList, mend C.data.toList, mend D.data.toList, mend F.data.toList, bb, b2, b3, b4⟩ : Lk) = splitL S := by
      rw [← hval]
      unfold mendLk
      rw [← hA, ← hB, ← hC, ← hD, ← hF, ← hbs, ← hb2, ← hb3, ← hb4]
    rw [e, hJ, hj] at this
    exact this
  have hagain : ∀ w, Calls Try.prog 6 #[.string j] w fun e w' => e = .returned (.agg #[.string A, .string B, .string C, .string D, .string F, .bool bb, .bool b2, .bool b3, .bool b4]) ∧ Below w.heap.size w w' := fun w => by
    have := split_any j w (by omega)
    rw [hjd, ← hJ, joined_back hcl, hlkv] at this
    exact this
  rw [hlkv] at h2
  have HH2 := Lib.hid h2
  have HJO := Lib.hid hjoin
  have HAG := Lib.hid hagain
  have HSC := Lib.hid hsch
  have HCL := Lib.hid hcl
  have HSD := Lib.hid hsd
  have HJD := Lib.hid hjd
  have HJ := Lib.hid hJ
  have HA := Lib.hid hA
  have HBB := Lib.hid hbb
  clear h2 hjoin hagain hsch hcl hsd hjd hJ hA hB hC hD hF hbs hb2 hb3 hb4 hlkv hval hbb l1 l2 l3 l4 l5
  cases bb
  · have hJS := (back_plain HCL.out HBB.out).1
    rw [HJ.out] at hJS
    obtain rfl : j = s := by rw [← hj, ← hs, hJS]
    clear hJS hj hs
    go_enter Try.func4, Try.ntmps4
    go_wp2_with fail
    refine h1.mono ?_
    clear h1
    rintro e w1 ⟨rfl, hb1⟩
    have HB1 := Lib.hid hb1
    clear hb1
    go_wp2_with fail
    refine (HH2.out _).mono ?_
    clear HH2
    rintro e w2 ⟨rfl, hb2⟩
    have HB2 : Hid (Below w.heap.size w w2) := HB1.out.trans (hb2.mono HB1.out.size)
    clear hb2 HB1
    have hr0 := RowAt.new w2 #[.string A, .string B, .string C, .string D, .string F, .bool false, .bool b2, .bool b3, .bool b4] 24 [.string A, .string B, .string C, .string D, .string F, .bool false, .bool b2, .bool b3, .bool b4] rfl
    have hb0 := HB2.out.alloc HB2.out.size (.cells #[.string A, .string B, .string C, .string D, .string F, .bool false, .bool b2, .bool b3, .bool b4] 24)
    have HR0 := Lib.hid hr0
    have HB0 := Lib.hid hb0
    clear hr0 hb0
    go_wp2_with fail
    refine (HJO.out _).mono ?_
    clear HJO
    rintro e w3 ⟨rfl, hb3⟩
    have hr3 := HR0.out.below hb3 (by simp)
    have HB3 : Hid (Below w.heap.size w w3) := HB0.out.trans (hb3.mono HB0.out.size)
    have HR3 := Lib.hid hr3
    have HS2 : Hid (w.heap.size ≤ w2.heap.size) := HB2.out.size
    clear hb3 HB0 HR0 HB2
    obtain ⟨L, hL⟩ : ∃ L, w2.heap.size = L := ⟨_, rfl⟩
    rw [hL] at hr3 HR3 HS2 ⊢
    clear hL
    have c0 := hr3.cell (j := 0) rfl
    have c1 := hr3.cell (j := 1) rfl
    have c2 := hr3.cell (j := 2) rfl
    have c3 := hr3.cell (j := 3) rfl
    have c4 := hr3.cell (j := 4) rfl
    have c5 := hr3.cell (j := 5) rfl
    have c6 := hr3.cell (j := 6) rfl
    have c7 := hr3.cell (j := 7) rfl
    have c8 := hr3.cell (j := 8) rfl
    have hlt := hr3.lt
    clear hr3
    go_wp2_with fail
    have d0 : ∀ x : BW w3, x.world.cell? ⟨L, 0, none⟩ = some _ := fun x => (x.ok.cell (p := ⟨L, 0, none⟩) hlt).trans c0
    have d1 : ∀ x : BW w3, x.world.cell? ⟨L, 1, none⟩ = some _ := fun x => (x.ok.cell (p := ⟨L, 1, none⟩) hlt).trans c1
    have d2 : ∀ x : BW w3, x.world.cell? ⟨L, 2, none⟩ = some _ := fun x => (x.ok.cell (p := ⟨L, 2, none⟩) hlt).trans c2
    have d3 : ∀ x : BW w3, x.world.cell? ⟨L, 3, none⟩ = some _ := fun x => (x.ok.cell (p := ⟨L, 3, none⟩) hlt).trans c3
    have d4 : ∀ x : BW w3, x.world.cell? ⟨L, 4, none⟩ = some _ := fun x => (x.ok.cell (p := ⟨L, 4, none⟩) hlt).trans c4
    have d5 : ∀ x : BW w3, x.world.cell? ⟨L, 5, none⟩ = some _ := fun x => (x.ok.cell (p := ⟨L, 5, none⟩) hlt).trans c5
    have d6 : ∀ x : BW w3, x.world.cell? ⟨L, 6, none⟩ = some _ := fun x => (x.ok.cell (p := ⟨L, 6, none⟩) hlt).trans c6
    have d7 : ∀ x : BW w3, x.world.cell? ⟨L, 7, none⟩ = some _ := fun x => (x.ok.cell (p := ⟨L, 7, none⟩) hlt).trans c7
    have d8 : ∀ x : BW w3, x.world.cell? ⟨L, 8, none⟩ = some _ := fun x => (x.ok.cell (p := ⟨L, 8, none⟩) hlt).trans c8
    clear c0 c1 c2 c3 c4 c5 c6 c7 c8
    refine wp_region_bw (by kernel_rfl) (by kernel_rfl) ?_
    repeat (go_big_quiet_step (first | (go_at_call 6; exact bw_call (HAG.out _)) | (go_at_call 12; exact bw_call (awake_any _))))
    refine wpQuiet_nil ?_
    intro _ hw'
    obtain ⟨nx, hw''⟩ := hw'
    subst hw''
    clear d0 d1 d2 d3 d4 d5 d6 d7 d8
    go_wp2_with fail
    go_ret
    exact ⟨rfl, HB3.out.trans (nx.ok.mono HB3.out.size)⟩
  · obtain ⟨q1, q2, q3, q4, q5, q6, q7⟩ := back_scheme HCL.out HBB.out
    rw [HJ.out] at q1 q3 q4
    have hAd : A.data.toList = spScheme S := by rw [← HA.out]; rfl
    have hAz : A.size = (spScheme S).length := by rw [size_eq, hAd]
    have hAs : (A.size : Int) ≤ (s.size : Int) := by rw [hAz, size_eq s, HSD.out]; omega
    have hA0 : (0 : Int) ≤ (A.size : Int) := Int.natCast_nonneg _
    have hx1 : j.extract 0 A.size = A := by
      rw [take_mk, HJD.out, hAz, q3, ← hAd, mk_data]
    have hx2 : j.extract A.size s.size = s.extract A.size s.size := by
      have h1 := drop_mk j A.size
      rw [hjs] at h1
      rw [h1, drop_mk, HJD.out, HSD.out, hAz, q4]
    have hlow : ∀ w, Calls Try.prog 15 #[.string (s.extract 0 A.size)] w fun e w' => e = .returned (.string A) ∧ Below w.heap.size w w' := fun w => by
      have := lower_any (s.extract 0 A.size) w (by rw [ByteArray.size_extract]; omega)
      have e : lower (s.extract 0 A.size).data.toList = A.data.toList := by rw [take_mk, HSD.out, hAz, q2, hAd]
      rw [e, mk_data] at this
      exact this
    have hsc : ∀ w, Calls Try.prog 14 #[.string v] w fun e w' => e = .returned (.tuple #[.string A, .bool true]) ∧ Below w.heap.size w w' := fun w => by
      have := HSC.out w
      rw [HBB.out] at this
      have e : (⟨(schemeS S).toArray⟩ : ByteArray) = A := by rw [← q7, ← hAd, mk_data]
      rw [e] at this
      exact this
    have HLOW := Lib.hid hlow
    have HSCH := Lib.hid hsc
    clear q1 q2 q3 q4 q5 q6 q7 hAd hAz hj hs hlow hsc
    go_enter Try.func4, Try.ntmps4
    go_wp2_with fail
    refine h1.mono ?_
    clear h1
    rintro e w1 ⟨rfl, hb1⟩
    have HB1 := Lib.hid hb1
    clear hb1
    go_wp2_with fail
    refine (HH2.out _).mono ?_
    clear HH2
    rintro e w2 ⟨rfl, hb2⟩
    have HB2 : Hid (Below w.heap.size w w2) := HB1.out.trans (hb2.mono HB1.out.size)
    clear hb2 HB1
    have hr0 := RowAt.new w2 #[.string A, .string B, .string C, .string D, .string F, .bool true, .bool b2, .bool b3, .bool b4] 24 [.string A, .string B, .string C, .string D, .string F, .bool true, .bool b2, .bool b3, .bool b4] rfl
    have hb0 := HB2.out.alloc HB2.out.size (.cells #[.string A, .string B, .string C, .string D, .string F, .bool true, .bool b2, .bool b3, .bool b4] 24)
    have HR0 := Lib.hid hr0
    have HB0 := Lib.hid hb0
    clear hr0 hb0
    go_wp2_with fail
    refine (HJO.out _).mono ?_
    clear HJO
    rintro e w3 ⟨rfl, hb3⟩
    have hr3 := HR0.out.below hb3 (by simp)
    have HB3 : Hid (Below w.heap.size w w3) := HB0.out.trans (hb3.mono HB0.out.size)
    have HR3 := Lib.hid hr3
    have HS2 : Hid (w.heap.size ≤ w2.heap.size) := HB2.out.size
    clear hb3 HB0 HR0 HB2
    obtain ⟨L, hL⟩ : ∃ L, w2.heap.size = L := ⟨_, rfl⟩
    rw [hL] at hr3 HR3 HS2 ⊢
    clear hL
    have c0 := hr3.cell (j := 0) rfl
    have c1 := hr3.cell (j := 1) rfl
    have c2 := hr3.cell (j := 2) rfl
    have c3 := hr3.cell (j := 3) rfl
    have c4 := hr3.cell (j := 4) rfl
    have c5 := hr3.cell (j := 5) rfl
    have c6 := hr3.cell (j := 6) rfl
    have c7 := hr3.cell (j := 7) rfl
    have c8 := hr3.cell (j := 8) rfl
    have hlt := hr3.lt
    clear hr3
    go_wp2_with fail
    refine (HSCH.out _).mono ?_
    clear HSCH
    rintro e w4 ⟨rfl, hb4⟩
    have e0 := (hb4.cell (p := ⟨L, 0, none⟩) hlt).trans c0
    have e1 := (hb4.cell (p := ⟨L, 1, none⟩) hlt).trans c1
    have e2 := (hb4.cell (p := ⟨L, 2, none⟩) hlt).trans c2
    have e3 := (hb4.cell (p := ⟨L, 3, none⟩) hlt).trans c3
    have e4 := (hb4.cell (p := ⟨L, 4, none⟩) hlt).trans c4
    have e5 := (hb4.cell (p := ⟨L, 5, none⟩) hlt).trans c5
    have e6 := (hb4.cell (p := ⟨L, 6, none⟩) hlt).trans c6
    have e7 := (hb4.cell (p := ⟨L, 7, none⟩) hlt).trans c7
    have e8 := (hb4.cell (p := ⟨L, 8, none⟩) hlt).trans c8
    have HB4 : Hid (Below w.heap.size w w4) := HB3.out.trans (hb4.mono HB3.out.size)
    have hlt4 := Nat.lt_of_lt_of_le hlt hb4.size
    clear c0 c1 c2 c3 c4 c5 c6 c7 c8 hb4 HB3
    go_wp2_with fail
    have d0 : ∀ x : BW w4, x.world.cell? ⟨L, 0, none⟩ = some _ := fun x => (x.ok.cell (p := ⟨L, 0, none⟩) hlt4).trans e0
    have d1 : ∀ x : BW w4, x.world.cell? ⟨L, 1, none⟩ = some _ := fun x => (x.ok.cell (p := ⟨L, 1, none⟩) hlt4).trans e1
    have d2 : ∀ x : BW w4, x.world.cell? ⟨L, 2, none⟩ = some _ := fun x => (x.ok.cell (p := ⟨L, 2, none⟩) hlt4).trans e2
    have d3 : ∀ x : BW w4, x.world.cell? ⟨L, 3, none⟩ = some _ := fun x => (x.ok.cell (p := ⟨L, 3, none⟩) hlt4).trans e3
    have d4 : ∀ x : BW w4, x.world.cell? ⟨L, 4, none⟩ = some _ := fun x => (x.ok.cell (p := ⟨L, 4, none⟩) hlt4).trans e4
    have d5 : ∀ x : BW w4, x.world.cell? ⟨L, 5, none⟩ = some _ := fun x => (x.ok.cell (p := ⟨L, 5, none⟩) hlt4).trans e5
    have d6 : ∀ x : BW w4, x.world.cell? ⟨L, 6, none⟩ = some _ := fun x => (x.ok.cell (p := ⟨L, 6, none⟩) hlt4).trans e6
    have d7 : ∀ x : BW w4, x.world.cell? ⟨L, 7, none⟩ = some _ := fun x => (x.ok.cell (p := ⟨L, 7, none⟩) hlt4).trans e7
    have d8 : ∀ x : BW w4, x.world.cell? ⟨L, 8, none⟩ = some _ := fun x => (x.ok.cell (p := ⟨L, 8, none⟩) hlt4).trans e8
    clear e0 e1 e2 e3 e4 e5 e6 e7 e8
    refine wp_region_bw (by kernel_rfl) (by kernel_rfl) ?_
    repeat (go_big_quiet_step (first | (go_at_call 15; exact bw_call (HLOW.out _)) | (go_at_call 6; exact bw_call (HAG.out _)) | (go_at_call 12; exact bw_call (awake_any _))))
    refine wpQuiet_nil ?_
    intro _ hw'
    obtain ⟨nx, hw''⟩ := hw'
    subst hw''
    clear d0 d1 d2 d3 d4 d5 d6 d7 d8
    go_wp2_with fail
    go_ret
    exact ⟨rfl, HB4.out.trans (nx.ok.mono HB4.out.size)⟩
end Go.Proofs.Ytcffajmhegjhfaa
