/- sievelaw12.LinkStays: the walk. -/
import Derived.Test.YtabagfhnkdhjdaaDoorTidyW
import Derived.Test.YtabagfhnkdhjdaaDoorKind
import Derived.Test.YtabagfhnkdhjdaaDoorNf
set_option linter.unusedVariables false
set_option maxRecDepth 100000
namespace Go.Proofs.YtabagfhnkdhjdaaDoor
open Go.RowKit Go.Lib

theorem num_any (n : Int) (w : World) : Calls Tryd.prog 9 #[.int .i64 n] w fun e w' => e = .returned (.int .i64 n) ∧ w = w' := by
  go_enter Tryd.func9, Tryd.ntmps9
  go_wp2
  go_ret
  exact ⟨rfl, rfl⟩

theorem tidy_facts {S : List UInt8} (hc : Clean S) : ∃ T : List UInt8, encode (tidyX S) = T ∧ strip T = T ∧ encode (tidyX T) = T ∧ colB T = colB S ∧ schemeS T = schemeS S ∧ kindN T = kindN S ∧ T.length ≤ 3 * S.length := by
  obtain ⟨h1, h2, h3⟩ := tidy_scheme hc
  refine ⟨encodeF (tidyX S), tidy_enc hc, clean_strip (encodeF_clean _), ?_, h1, h2, tidy_kind hc, ?_⟩
  · rw [tidyX_same h3 (fun b hb e => by
      have := (fine_of (encodeF_out _ b hb)).2.2
      subst e; exact absurd this (by decide))]
    unfold encode
    rw [mend_of_valid (encodeF_ascii _), encodeF_again]
  · refine Nat.le_trans (encodeF_len _) ?_
    have : (tidyX S).length = S.length := by
      unfold tidyX turn
      split
      · unfold untilA untilB
        rw [List.length_append, List.length_map, List.length_take, List.length_drop, lowS_len]; omega
      · exact lowS_len _
    omega

theorem dotsF_size : ∀ (n : Nat) (i o : List UInt8), (dotsF n i o).length ≤ i.length + o.length
  | 0, i, o => by simp [dotsF]
  | n + 1, i, o => by
    rw [dotsF]
    cases i with
    | nil => simp
    | cons c t =>
      have h := dotStep_len (c :: t) o (by simp)
      have h2 := dotsF_size n (dotStep (c :: t) o).1 (dotStep (c :: t) o).2
      show (dotsF n _ _).length ≤ _
      omega
theorem dots_size (v : List UInt8) : (dots v).length ≤ 4 * v.length := by
  have := mend_len v
  refine Nat.le_trans (dotsF_size _ _ _) ?_
  simpa using this

set_option maxHeartbeats 8000000 in
theorem linkStays_any (v : ByteArray) (l : List ByteArray) (sv : Value) (rel : Bool) (w : World) (hv : v.size ≤ 1048576) (hl : l.length ≤ 1048576) (hsz : ∀ s ∈ l, s.size ≤ 1048576)
    (hs : StrsAt w sv l) (hg : Glob w) :
    Calls Tryd.prog 4 #[.string v, sv, .bool rel] w fun e w' => e = .returned (.bool true) ∧ Below w.heap.size w w' := by
  have h1 := fun w => strip_any v w (by omega)
  have h2 := fun w => encode_any v w (by omega)
  have h3 := fun w => dots_any v w (by omega)
  have hlen := strip_len v.data.toList
  have hle := encodeF_len (mend v.data.toList)
  have hlm := mend_len v.data.toList
  have hld := dots_size v.data.toList
  rw [← size_eq] at hlen hlm hld
  have g1 := strip_strip v.data.toList
  have g2 := encode_encode v.data.toList
  have g3 := dots_dots v.data.toList
  have htd := fun w hs hg => tidy_any v l sv rel w (by omega) (by omega) (fun s h => by have := hsz s h; omega) hs hg
  have hsc := fun w => Scheme_any v w (by omega)
  have hki := fun w => kind_any v w (by omega)
  have hcl := strip_clean v.data.toList
  obtain ⟨S, hS⟩ : ∃ S, strip v.data.toList = S := ⟨_, rfl⟩
  obtain ⟨E, hE⟩ : ∃ S, encode v.data.toList = S := ⟨_, rfl⟩
  obtain ⟨D, hD⟩ : ∃ S, dots v.data.toList = S := ⟨_, rfl⟩
  have hEl : E.length ≤ 20000000 := by rw [← hE]; unfold encode; omega
  rw [hS] at h1 g1 htd hsc hki hcl hlen
  rw [hE] at h2 g2
  rw [hD] at h3 g3 hld
  clear hS hE hD hle hlm
  obtain ⟨s, hs'⟩ : ∃ s : ByteArray, (⟨S.toArray⟩ : ByteArray) = s := ⟨_, rfl⟩
  obtain ⟨e, he'⟩ : ∃ s : ByteArray, (⟨E.toArray⟩ : ByteArray) = s := ⟨_, rfl⟩
  obtain ⟨d, hd'⟩ : ∃ s : ByteArray, (⟨D.toArray⟩ : ByteArray) = s := ⟨_, rfl⟩
  rw [hs'] at h1
  rw [he'] at h2
  rw [hd'] at h3
  have k1 : ∀ w, Calls Tryd.prog 11 #[.string s] w fun x w' => x = .returned (.string s) ∧ Below w.heap.size w w' := fun w => by
    have := strip_any s w (by rw [size_eq, ← hs']; show S.length ≤ _; omega)
    rw [← hs'] at this ⊢
    rw [show (⟨S.toArray⟩ : ByteArray).data.toList = S from rfl, g1] at this
    exact this
  have k2 : ∀ w, Calls Tryd.prog 12 #[.string e] w fun x w' => x = .returned (.string e) ∧ Below w.heap.size w w' := fun w => by
    have := encode_any e w (by rw [size_eq, ← he']; show E.length ≤ _; omega)
    rw [← he'] at this ⊢
    rw [show (⟨E.toArray⟩ : ByteArray).data.toList = E from rfl, g2] at this
    exact this
  have k3 : ∀ w, Calls Tryd.prog 13 #[.string d] w fun x w' => x = .returned (.string d) ∧ Below w.heap.size w w' := fun w => by
    have := dots_any d w (by rw [size_eq, ← hd']; show D.length ≤ _; omega)
    rw [← hd'] at this ⊢
    rw [show (⟨D.toArray⟩ : ByteArray).data.toList = D from rfl, g3] at this
    exact this
  obtain ⟨T, t1, t2, t3, t4, t5, t6, t7⟩ := tidy_facts hcl
  obtain ⟨t, ht⟩ : ∃ s : ByteArray, (⟨T.toArray⟩ : ByteArray) = s := ⟨_, rfl⟩
  have htt : t.data.toList = T := by rw [← ht]
  have hts : t.size ≤ 40000000 := by rw [size_eq, htt]; omega
  have H1 := Lib.hid h1
  have H2 := Lib.hid h2
  have H3 := Lib.hid h3
  have K1 := Lib.hid k1
  have K2 := Lib.hid k2
  have K3 := Lib.hid k3
  have HST := Lib.hid hs
  have HG := Lib.hid hg
  clear h1 h2 h3 k1 k2 k3 g1 g2 g3 hs' he' hd' hlen hEl hld hcl hs hg
  obtain ⟨nn, hnn⟩ : ∃ n, allowN l = n := ⟨_, rfl⟩
  have hn2 : nn = 0 ∨ nn = 120 := by rw [← hnn]; unfold allowN; split <;> simp
  cases hok : allowB l S rel
  · have hV : tidyV l S rel = .tuple #[.string ⟨#[]⟩, .bool false, .int .i64 nn] := by unfold tidyV; rw [hok, hnn]; rfl
    rw [hV] at htd
    have HTD := Lib.hid htd
    clear htd hV hok hnn hsc hki t1 t2 t3 t4 t5 t6 t7 ht htt hts hsz
    rcases hn2 with rfl | rfl
    all_goals
      go_enter Tryd.func4, Tryd.ntmps4
      go_wp2_with fail
      refine (H1.out _).mono ?_
      rintro x w1 ⟨rfl, hb1⟩
      have HB1 := Lib.hid hb1
      clear hb1
      go_wp2_with fail
      refine (H2.out _).mono ?_
      rintro x w2 ⟨rfl, hb2⟩
      have HB2 : Hid (Below w.heap.size w w2) := HB1.out.trans (hb2.mono HB1.out.size)
      clear hb2
      go_wp2_with fail
      refine (H3.out _).mono ?_
      rintro x w3 ⟨rfl, hb3⟩
      have HB3 : Hid (Below w.heap.size w w3) := HB2.out.trans (hb3.mono HB2.out.size)
      clear hb3
      go_wp2_with fail
      refine (K1.out _).mono ?_
      rintro x w4 ⟨rfl, hb4⟩
      have HB4 : Hid (Below w.heap.size w w4) := HB3.out.trans (hb4.mono HB3.out.size)
      clear hb4
      go_wp2_with fail
      refine (K2.out _).mono ?_
      rintro x w5 ⟨rfl, hb5⟩
      have HB5 : Hid (Below w.heap.size w w5) := HB4.out.trans (hb5.mono HB4.out.size)
      clear hb5
      go_wp2_with fail
      refine (K3.out _).mono ?_
      rintro x w6 ⟨rfl, hb6⟩
      have HB6 : Hid (Below w.heap.size w w6) := HB5.out.trans (hb6.mono HB5.out.size)
      clear hb6
      go_wp2_with fail
      refine (HTD.out _ (HST.out.below HB6.out) (HG.out.below HB6.out)).mono ?_
      rintro x w7 ⟨rfl, hb7⟩
      have HB7 : Hid (Below w.heap.size w w7) := HB6.out.trans (hb7.mono HB6.out.size)
      clear hb7
      go_wp2_with (go_at_call 9; refine (num_any _ _).mono ?_; rintro x w8 ⟨rfl, rfl⟩)
      refine (awake_any _).mono ?_
      rintro x w8 ⟨rfl, hb8⟩
      have HB8 : Hid (Below w.heap.size w w8) := HB7.out.trans (hb8.mono HB7.out.size)
      clear hb8
      go_wp2_with fail
      go_ret
      exact ⟨rfl, HB8.out⟩
  · have hag : allG l = true := by
      have h := hok
      unfold allowB at h
      simp only [Bool.and_eq_true] at h
      exact h.1
    obtain rfl : nn = 0 := by rw [← hnn]; unfold allowN; rw [hag]; rfl
    have hV : tidyV l S rel = .tuple #[.string t, .bool true, .int .i64 0] := by unfold tidyV; rw [hok, hnn, ← ht, ← t1]; rfl
    rw [hV] at htd
    have hok2 : allowB l T rel = true := by rw [← hok]; unfold allowB; rw [t4, t5]
    have hag2 : ∀ w, StrsAt w sv l → Glob w → Calls Tryd.prog 7 #[.string t, sv, .bool rel] w fun x w' => x = .returned (.tuple #[.string t, .bool true, .int .i64 0]) ∧ Below w.heap.size w w' := fun w hs hg => by
      have := tidy_any t l sv rel w (by omega) (by omega) (fun s h => by have := hsz s h; omega) hs hg
      have e : tidyV l (strip t.data.toList) rel = .tuple #[.string t, .bool true, .int .i64 0] := by
        unfold tidyV
        rw [htt, t2, hok2, hnn, if_pos rfl, t3, ht]
      rw [e] at this
      exact this
    have hal : ∀ w, StrsAt w sv l → Glob w → Calls Tryd.prog 5 #[.string t, sv, .bool rel] w fun x w' => x = .returned (.tuple #[.bool true, .int .i64 0]) ∧ Below w.heap.size w w' := fun w hs hg => by
      have := allowed_any t l sv rel w (by omega) (by omega) (fun s h => by have := hsz s h; omega) hs hg.1
      have e : allowV l (strip t.data.toList) rel = .tuple #[.bool true, .int .i64 0] := by
        unfold allowV
        rw [htt, t2, hok2, hnn]
      rw [e] at this
      exact this
    obtain ⟨p, hp⟩ : ∃ p : ByteArray, (⟨(schemeS S).toArray⟩ : ByteArray) = p := ⟨_, rfl⟩
    obtain ⟨bb, hbb⟩ : ∃ b, colB S = b := ⟨_, rfl⟩
    obtain ⟨kk, hkk⟩ : ∃ b, kindN S = b := ⟨_, rfl⟩
    rw [hp, hbb] at hsc
    rw [hkk] at hki
    have hsc2 : ∀ w, Calls Tryd.prog 14 #[.string t] w fun x w' => x = .returned (.tuple #[.string p, .bool bb]) ∧ Below w.heap.size w w' := fun w => by
      have := Scheme_any t w (by omega)
      rw [htt, t2, t5, t4, hp, hbb] at this
      exact this
    have hki2 : ∀ w, Calls Tryd.prog 15 #[.string t] w fun x w' => x = .returned (.int .i64 kk) ∧ Below w.heap.size w w' := fun w => by
      have := kind_any t w (by omega)
      rw [htt, t2, t6, hkk] at this
      exact this
    have HTD := Lib.hid htd
    have HAG := Lib.hid hag2
    have HAL := Lib.hid hal
    have HSC := Lib.hid hsc
    have HSC2 := Lib.hid hsc2
    have HKI := Lib.hid hki
    have HKI2 := Lib.hid hki2
    clear htd hag2 hal hsc hsc2 hki hki2 hV hok hok2 hag hnn hn2 t1 t2 t3 t4 t5 t6 t7 ht htt hts hsz hp hbb hkk
    cases bb
    all_goals
      go_enter Tryd.func4, Tryd.ntmps4
      go_wp2_with fail
      refine (H1.out _).mono ?_
      rintro x w1 ⟨rfl, hb1⟩
      have HB1 := Lib.hid hb1
      clear hb1
      go_wp2_with fail
      refine (H2.out _).mono ?_
      rintro x w2 ⟨rfl, hb2⟩
      have HB2 : Hid (Below w.heap.size w w2) := HB1.out.trans (hb2.mono HB1.out.size)
      clear hb2
      go_wp2_with fail
      refine (H3.out _).mono ?_
      rintro x w3 ⟨rfl, hb3⟩
      have HB3 : Hid (Below w.heap.size w w3) := HB2.out.trans (hb3.mono HB2.out.size)
      clear hb3
      go_wp2_with fail
      refine (K1.out _).mono ?_
      rintro x w4 ⟨rfl, hb4⟩
      have HB4 : Hid (Below w.heap.size w w4) := HB3.out.trans (hb4.mono HB3.out.size)
      clear hb4
      go_wp2_with fail
      refine (K2.out _).mono ?_
      rintro x w5 ⟨rfl, hb5⟩
      have HB5 : Hid (Below w.heap.size w w5) := HB4.out.trans (hb5.mono HB4.out.size)
      clear hb5
      go_wp2_with fail
      refine (K3.out _).mono ?_
      rintro x w6 ⟨rfl, hb6⟩
      have HB6 : Hid (Below w.heap.size w w6) := HB5.out.trans (hb6.mono HB5.out.size)
      clear hb6
      go_wp2_with fail
      refine (HTD.out _ (HST.out.below HB6.out) (HG.out.below HB6.out)).mono ?_
      rintro x w7 ⟨rfl, hb7⟩
      have HB7 : Hid (Below w.heap.size w w7) := HB6.out.trans (hb7.mono HB6.out.size)
      clear hb7
      go_wp2_with (go_at_call 9; refine (num_any _ _).mono ?_; rintro x w8 ⟨rfl, rfl⟩)
      refine (HAG.out _ (HST.out.below HB7.out) (HG.out.below HB7.out)).mono ?_
      rintro x w8 ⟨rfl, hb8⟩
      have HB8 : Hid (Below w.heap.size w w8) := HB7.out.trans (hb8.mono HB7.out.size)
      clear hb8
      go_wp2_with fail
      refine (HAL.out _ (HST.out.below HB8.out) (HG.out.below HB8.out)).mono ?_
      rintro x w9 ⟨rfl, hb9⟩
      have HB9 : Hid (Below w.heap.size w w9) := HB8.out.trans (hb9.mono HB8.out.size)
      clear hb9
      go_wp2_with fail
      refine (HSC.out _).mono ?_
      rintro x w10 ⟨rfl, hb10⟩
      have HB10 : Hid (Below w.heap.size w w10) := HB9.out.trans (hb10.mono HB9.out.size)
      clear hb10
      go_wp2_with fail
      refine (HSC2.out _).mono ?_
      rintro x w11 ⟨rfl, hb11⟩
      have HB11 : Hid (Below w.heap.size w w11) := HB10.out.trans (hb11.mono HB10.out.size)
      clear hb11
      go_wp2_with fail
      refine (HKI2.out _).mono ?_
      rintro x w12 ⟨rfl, hb12⟩
      have HB12 : Hid (Below w.heap.size w w12) := HB11.out.trans (hb12.mono HB11.out.size)
      clear hb12
      go_wp2_with fail
      refine (HKI.out _).mono ?_
      rintro x w13 ⟨rfl, hb13⟩
      have HB13 : Hid (Below w.heap.size w w13) := HB12.out.trans (hb13.mono HB12.out.size)
      clear hb13
      go_wp2_with fail
      refine (awake_any _).mono ?_
      rintro x w14 ⟨rfl, hb14⟩
      have HB14 : Hid (Below w.heap.size w w14) := HB13.out.trans (hb14.mono HB13.out.size)
      clear hb14
      go_wp2_with fail
      go_ret
      exact ⟨rfl, HB14.out⟩

end Go.Proofs.YtabagfhnkdhjdaaDoor
