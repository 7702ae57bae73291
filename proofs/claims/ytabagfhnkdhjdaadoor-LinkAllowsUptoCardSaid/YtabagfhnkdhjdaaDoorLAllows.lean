/- sievelaw12.LinkAllows: the walk. -/
import Derived.Test.YtabagfhnkdhjdaaDoorRefO
import Derived.Deep.DeepCutAuto
import Derived.Laws.AppendOwnNone
set_option linter.unusedVariables false
set_option maxRecDepth 100000
namespace Go.Proofs.YtabagfhnkdhjdaaDoor
open Go.RowKit Go.Lib

theorem infoStr : (Tryd.prog.info? 9).map (fun i => (i.zero, i.size, i.bytes)) = some (some (.string ⟨#[]⟩), 1, 16) := by kernel_rfl

theorem num_one (n : Int) (w : World) : Calls Tryd.prog 9 #[.int .i64 n] w fun e w' => e = .returned (.int .i64 n) ∧ w = w' := by
  go_enter Tryd.func9, Tryd.ntmps9
  go_wp2
  go_ret
  exact ⟨rfl, rfl⟩

theorem StrsAt.form {w : World} {v : Value} {l : List ByteArray} (h : StrsAt w v l) : ∃ (a0 : Option Addr) (cap : Nat), v = .slice a0 l.length cap ∧ l.length ≤ cap ∧ ∀ (i : Nat) (s : ByteArray), l[i]? = some s → ∃ a, a0 = some a ∧ w.cell? (a.add i) = some (.string s) := by
  rcases h with ⟨rfl, rfl⟩ | ⟨a, cap, rfl, h2, h3⟩
  · exact ⟨none, 0, rfl, Nat.le_refl _, fun i s hi => by simp at hi⟩
  · exact ⟨some a, cap, rfl, h2, fun i s hi => ⟨a, rfl, h3 i s hi⟩⟩

theorem strs_own {w : World} {base : Nat} {v : Value} {l : List ByteArray} (h : w.ownsRow base 9 1 v l.length (l.map Value.string)) : StrsAt w v l := by
  rcases h.2 with ⟨rfl, h0⟩ | ⟨g, cap, cur, rfl, _, hh, hn, _, _, ht⟩
  · exact .inl ⟨rfl, List.length_eq_zero_iff.1 h0⟩
  · refine .inr ⟨⟨g, 0, none⟩, cap, rfl, hn, fun i s hi => ?_⟩
    have hr : RowAt w g (l.map Value.string) := RowAt.owned h
    rw [add_at]
    exact hr.cell (by rw [List.getElem?_map, hi]; rfl)

set_option maxHeartbeats 8000000 in
theorem linkAllows_any (v : ByteArray) (l : List ByteArray) (sv : Value) (rel : Bool) (w : World) (hv : v.size ≤ 1048576) (hl : l.length ≤ 1048576) (hsz : ∀ s ∈ l, s.size ≤ 1048576)
    (hs : StrsAt w sv l) (hg : Glob w) :
    Calls Tryd.prog 3 #[.string v, sv, .bool rel] w fun e w' => e = .returned (.bool true) ∧ Below w.heap.size w w' := by
  have h1 := fun gv w hs hg => allowed_any v l gv rel w (by omega) (by omega) (fun s h => by have := hsz s h; omega) hs hg
  have h2 := fun gv w hs => rallows_any v l gv rel w (by omega) (by omega) (fun s h => by have := hsz s h; omega) hs
  have h3 := fun gv w hs hg => tidy_any v l gv rel w (by omega) (by omega) (fun s h => by have := hsz s h; omega) hs hg
  have h4 := fun gv w hs => rtidy_any v l gv rel w (by omega) (by omega) (fun s h => by have := hsz s h; omega) hs
  obtain ⟨b, hb⟩ : ∃ b, allowB l (strip v.data.toList) rel = b := ⟨_, rfl⟩
  obtain ⟨n, hn⟩ : ∃ n, allowN l = n := ⟨_, rfl⟩
  obtain ⟨t, ht⟩ : ∃ t : ByteArray, (⟨(if b then encode (tidyX (strip v.data.toList)) else []).toArray⟩ : ByteArray) = t := ⟨_, rfl⟩
  have e1 : allowV l (strip v.data.toList) rel = .tuple #[.bool b, .int .i64 n] := by unfold allowV; rw [hb, hn]
  have e2 : tidyV l (strip v.data.toList) rel = .tuple #[.string t, .bool b, .int .i64 n] := by unfold tidyV; rw [hb, hn, ht]
  rw [e1] at h1 h2
  rw [e2] at h3 h4
  have hn2 : n = 0 ∨ n = 120 := by rw [← hn]; unfold allowN; split <;> simp
  have H1 := Lib.hid h1
  have H2 := Lib.hid h2
  have H3 := Lib.hid h3
  have H4 := Lib.hid h4
  have HG := Lib.hid hg
  have HS := Lib.hid hs
  clear h1 h2 h3 h4 e1 e2 ht hn hb hg hsz
  obtain ⟨i0, hi, hz0, hz1, hz2⟩ := info_parts infoStr
  have hown0 : (w.alloc (.cells #[] 9)).ownsRow w.heap.size 9 1 (.slice (some ⟨w.heap.size, 0, none⟩) 0 0) 0 [] :=
    ⟨rfl, .inr ⟨w.heap.size, 0, #[], rfl, Nat.le_refl _, heap_alloc_new _ _, Nat.le_refl _, Nat.zero_le _, rfl, rfl⟩⟩
  have hb0 := (Below.refl w.heap.size w).alloc (Nat.le_refl _) (.cells #[] 9)
  have HO0 := Lib.hid hown0
  have HB0 := Lib.hid hb0
  clear hown0 hb0
  go_enter Tryd.func3, Tryd.ntmps3
  go_upto_region 1 with fail
  go_cut [7] (fun g wx => StrsAt wx g l ∧ Below w.heap.size w wx)
  case first =>
    rcases hs with ⟨rfl, rfl⟩ | ⟨a, cap, rfl, hcap, hc⟩
    · go_wp2_with (at_builtin; refine wpList_append_own_none rfl _ _ 22 rfl w.heap.size 9 i0 1 Tryd.underlying22 hi _ 0 [] rfl HO0.out rfl ?_)
      go_meet
      case rel => exact ⟨strs_own (l := []) HO0.out, HB0.out⟩
    · have hsrc : ∀ (j : Nat) (u : Value), (l.map Value.string)[j]? = some u → (w.alloc (.cells #[] 9)).cell? (a.add j) = some u := fun j u hj => by
        rw [List.getElem?_map] at hj
        cases hlj : l[j]? with
        | none => rw [hlj] at hj; cases hj
        | some s =>
          rw [hlj] at hj
          obtain rfl := Option.some.inj hj
          exact (HB0.out.cell (p := a.add j) (cell_blk (hc j s hlj))).trans (hc j s hlj)
      have hone : ∀ u ∈ l.map Value.string, u.oneCell' = true := fun u hu => by
        obtain ⟨s, _, rfl⟩ := List.mem_map.1 hu; rfl
      have HSR := Lib.hid hsrc
      have HONE := Lib.hid hone
      clear hsrc hone hc HS
      go_wp2_with (at_builtin; refine wpList_append_own _ rfl _ _ 22 rfl w.heap.size 9 i0 (.string ⟨#[]⟩) 1 16 Tryd.underlying22 hi hz0 hz1 hz2 rfl (by decide) _ 0 [] rfl HO0.out a l.length cap (l.map Value.string) rfl (by simp) HSR.out HONE.out (by unfold maxLen; omega) (by omega) (by simp) ?_; intro v' w4 hown' hgrow _)
      have HS4 : Hid (StrsAt w4 v' l) := strs_own (by simpa using hown')
      have HB4 : Hid (Below w.heap.size w w4) := HB0.out.grown hgrow (by simp) (fun j ej => (HO0.out.lt j ej).1)
      clear hown' hgrow
      go_wp2_with fail
      go_meet
      case rel => exact ⟨HS4.out, HB4.out⟩
  case rest =>
    obtain ⟨hgv, hbw⟩ := hcut
    have HSV := Lib.hid (HS.out.below hbw)
    have HGV := Lib.hid hgv
    have HB := Lib.hid hbw
    have HGW := Lib.hid (HG.out.below hbw)
    obtain ⟨a0, cap0, rfl, hcap0, hc0⟩ := hs.form
    clear hgv hbw hs hc0
    go_wp2_with fail
    refine (H1.out _ _ HGV.out HGW.out.1).mono ?_
    rintro e w1 ⟨rfl, hb1⟩
    have HB1 : Hid (Below w.heap.size w w1) := HB.out.trans (hb1.mono HB.out.size)
    have HGV1 := Lib.hid (HGV.out.below hb1)
    have HSV1 := Lib.hid (HSV.out.below hb1)
    have HGW1 := Lib.hid (HGW.out.below hb1)
    clear hb1
    go_wp2_with fail
    refine (H2.out _ _ HSV1.out).mono ?_
    rintro e w2 ⟨rfl, hb2⟩
    have HB2 : Hid (Below w.heap.size w w2) := HB1.out.trans (hb2.mono HB1.out.size)
    have HGV2 := Lib.hid (HGV1.out.below hb2)
    have HSV2 := Lib.hid (HSV1.out.below hb2)
    have HGW2 := Lib.hid (HGW1.out.below hb2)
    clear hb2
    go_wp2_with fail
    refine (H3.out _ _ HGV2.out HGW2.out).mono ?_
    rintro e w3 ⟨rfl, hb3⟩
    have HB3 : Hid (Below w.heap.size w w3) := HB2.out.trans (hb3.mono HB2.out.size)
    have HGV3 := Lib.hid (HGV2.out.below hb3)
    have HSV3 := Lib.hid (HSV2.out.below hb3)
    clear hb3
    go_wp2_with fail
    refine (H4.out _ _ HSV3.out).mono ?_
    rintro e w4 ⟨rfl, hb4⟩
    have HB4 : Hid (Below w.heap.size w w4) := HB3.out.trans (hb4.mono HB3.out.size)
    have hgv4 := HGV3.out.below hb4
    have hsv4 := HSV3.out.below hb4
    clear hb4 HB HB1 HB2 HB3 HGV HGV1 HGV2 HGV3 HSV HSV1 HSV2 HSV3 HGW HGW1 HGW2 H1 H2 H3 H4 HO0 HB0 HG HS
    obtain ⟨a1, cap1, rfl, hcap1, hc1⟩ := hgv4.form
    obtain ⟨a0', cap', e0, _, hc0⟩ := hsv4.form
    simp only [Value.slice.injEq] at e0
    obtain ⟨rfl, _, rfl⟩ := e0
    have HC0 := Lib.hid hc0
    have HC1 := Lib.hid hc1
    clear hc0 hc1 hgv4 hsv4
    go_wp2_with fail
    go_loopw [54, 18] (fun i _ wr => ∃ (k nq : Nat), k ≤ l.length ∧ i = .int .i64 k ∧ wr = w4.drewN nq) (fun i _ _ => l.length - (RowKit.intOf i).toNat)
    case atStart => exact ⟨0, 0, Nat.zero_le _, rfl, rfl⟩
    case round =>
      obtain ⟨k, nq, hk, rfl, rfl⟩ := hrel
      by_cases hlt : k < l.length
      · have hltI : (k : Int) < (l.length : Int) := by omega
        have hlk : l[k]? = some l[k] := List.getElem?_eq_getElem hlt
        obtain ⟨a, rfl, hx0⟩ := HC0.out k l[k] hlk
        obtain ⟨a', rfl, hx1⟩ := HC1.out k l[k] hlk
        generalize l[k] = x at hx0 hx1
        clear hlk HC0 HC1
        go_wp2_with fail
        go_quiet (fail)
        go_wp2_with fail
        go_roundw
        case rel => exact ⟨k + 1, _, by omega, by go_num, rfl⟩
        case measure => simp [RowKit.intOf]; omega
      · obtain rfl : k = l.length := by omega
        have HBQ : Hid (Below w.heap.size w (w4.drewN nq)) := Below.drewN HB4.out _
        clear HC0 HC1
        rcases hn2 with rfl | rfl <;> cases b
        all_goals
          go_wp2_with (go_at_call 9; refine (num_one _ _).mono ?_; rintro e w5 ⟨rfl, rfl⟩)
          refine (awake_any _).mono ?_
          rintro e w6 ⟨rfl, hb6⟩
          have HB6 : Hid (Below w.heap.size w w6) := HBQ.out.trans (hb6.mono HBQ.out.size)
          clear hb6
          go_wp2_with fail
          go_ret
          exact ⟨rfl, HB6.out⟩

end Go.Proofs.YtabagfhnkdhjdaaDoor
