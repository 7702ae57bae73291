/- link.Tidy: a link as it is written. -/
import Derived.Test.YtabagfhnkdhjdaaDoorAllow
import Derived.Test.YtabagfhnkdhjdaaDoorTidyP
import Derived.Test.YtabagfhnkdhjdaaDoorBw
set_option linter.unusedVariables false
set_option maxRecDepth 100000
namespace Go.Proofs.YtabagfhnkdhjdaaDoor
open Go.RowKit Go.Lib

/-! The words of the standard library. -/
theorem index92 : ∀ (s : List UInt8), (Lib.index s [92] = -1 ∧ ∀ b ∈ s, b ≠ 92) ∨ ∃ a b, s = a ++ 92 :: b ∧ (∀ x ∈ a, x ≠ 92) ∧ Lib.index s [92] = (a.length : Nat)
  | [] => .inl ⟨rfl, by simp⟩
  | c :: l => by
    by_cases hc : c = 92
    · subst hc
      exact .inr ⟨[], l, rfl, by simp, rfl⟩
    · have hp : List.isPrefixOf [92] (c :: l) = false := by simp [List.isPrefixOf, Ne.symm hc]
      have he : Lib.index (c :: l) [92] = if Lib.index l [92] == -1 then -1 else Lib.index l [92] + 1 := by
        conv => lhs; unfold Lib.index
        rw [if_neg (by rw [hp]; exact Bool.false_ne_true)]
      rcases index92 l with ⟨h1, h2⟩ | ⟨a, b, h1, h2, h3⟩
      · left
        refine ⟨by rw [he, h1]; rfl, fun x hx => ?_⟩
        rcases List.mem_cons.1 hx with rfl | hx
        · exact hc
        · exact h2 x hx
      · right
        refine ⟨c :: a, b, by rw [h1]; rfl, fun x hx => ?_, ?_⟩
        · rcases List.mem_cons.1 hx with rfl | hx
          · exact hc
          · exact h2 x hx
        · rw [he, h3, if_neg (by rw [beq_iff_eq]; omega)]
          simp
theorem turnB_map {l : List UInt8} (h : ∀ b ∈ l, b ≠ 92) : l.map turnB = l := by
  conv => rhs; rw [← List.map_id l]
  apply List.map_congr_left
  intro b hb
  unfold turnB
  rw [if_neg (h b hb)]; rfl
theorem replace92 : ∀ (k : Nat) (s : List UInt8), s.count 92 ≤ k → Lib.replaceK [92] [47] k s = s.map turnB
  | 0, s, h => by
    have : 92 ∉ s := by rw [← List.count_eq_zero]; omega
    rw [turnB_map (fun b hb e => this (e ▸ hb))]; rfl
  | k + 1, s, h => by
    rcases index92 s with ⟨h1, h2⟩ | ⟨a, b, h1, h2, h3⟩
    · rw [turnB_map h2, Lib.replaceK, if_pos (by rw [h1]; rfl)]
    · rw [Lib.replaceK_hit _ _ _ _ _ h3, h1]
      have e1 : (a ++ 92 :: b).take a.length = a := by simp
      have e2 : (a ++ 92 :: b).drop (a.length + [(92 : UInt8)].length) = b := by simp
      rw [e1, e2, replace92 k b (by rw [h1, List.count_append, List.count_cons_self] at h; omega), List.map_append, turnB_map h2]
      simp [turnB]
theorem replaceAll92 (s : List UInt8) : Lib.replaceAll s [92] [47] = s.map turnB := by
  unfold Lib.replaceAll Lib.replace
  rw [if_neg (by decide)]
  exact replace92 _ s (by unfold Lib.replaceNum; rw [if_pos (.inl (by decide)), Lib.count_one]; exact Nat.le_refl _)

theorem contains_step (b : UInt8) (l sub : List UInt8) : Lib.contains (b :: l) sub = (sub.isPrefixOf (b :: l) || Lib.contains l sub) := by
  have hg := Lib.index_ge l sub
  unfold Lib.contains
  conv => lhs; unfold Lib.index
  cases sub.isPrefixOf (b :: l)
  · rw [if_neg Bool.false_ne_true, Bool.false_or]
    by_cases h : Lib.index l sub = -1
    · rw [if_pos (by rw [h]; rfl), h]
    · rw [if_neg (by rw [beq_iff_eq]; exact h)]
      apply decide_eq_decide.2
      omega
  · rw [if_pos rfl]; simp
theorem contains_skip : ∀ (w : List UInt8) {l t : List UInt8}, (∀ b ∈ w, b ≠ 32) → Lib.contains (w ++ l) (32 :: t) = Lib.contains l (32 :: t)
  | [], _, _, _ => rfl
  | b :: w, l, t, h => by
    rw [List.cons_append, contains_step]
    have hp : List.isPrefixOf (32 :: t) (b :: (w ++ l)) = false := by simp [List.isPrefixOf, Ne.symm (h b (by simp))]
    rw [hp, Bool.false_or, contains_skip w (fun x hx => h x (by simp [hx]))]
theorem prefix_word : ∀ (n w : List UInt8) {r : List UInt8}, (∀ b ∈ n, b ≠ 32) → (∀ b ∈ w, b ≠ 32) → List.isPrefixOf (n ++ [32]) (w ++ 32 :: r) = (n == w)
  | [], [], _, _, _ => by simp [List.isPrefixOf]
  | [], b :: w, _, _, h => by
    have := h b (by simp)
    simp [List.isPrefixOf, Ne.symm this]
  | a :: n, [], r, h, _ => by
    have := h a (by simp)
    simp [List.isPrefixOf, this]
  | a :: n, b :: w, r, h1, h2 => by
    have ih := prefix_word n w (r := r) (fun x hx => h1 x (by simp [hx])) (fun x hx => h2 x (by simp [hx]))
    rw [List.cons_append, List.cons_append]
    show ((a == b) && List.isPrefixOf (n ++ [32]) (w ++ 32 :: r)) = ((a == b) && (n == w))
    rw [ih]
theorem contains_word {n w r : List UInt8} (hn : ∀ b ∈ n, b ≠ 32) (hw : ∀ b ∈ w, b ≠ 32) : Lib.contains (32 :: (w ++ 32 :: r)) (32 :: (n ++ [32])) = ((n == w) || Lib.contains (32 :: r) (32 :: (n ++ [32]))) := by
  rw [contains_step, contains_skip w hw]
  congr 1
  show (((32 : UInt8) == 32) && List.isPrefixOf (n ++ [32]) (w ++ 32 :: r)) = (n == w)
  rw [prefix_word n w hn hw]; simp
def webText : List UInt8 := [32, 104, 116, 116, 112, 32, 104, 116, 116, 112, 115, 32, 102, 116, 112, 32, 119, 115, 32, 119, 115, 115, 32]
theorem web_has {n : List UInt8} (hn : ∀ b ∈ n, b ≠ 32) : Lib.contains webText (32 :: (n ++ [32])) = webL n := by
  have e : webText = 32 :: (sHttp ++ 32 :: (sHttps ++ 32 :: (sFtp ++ 32 :: (sWs ++ 32 :: (sWss ++ 32 :: []))))) := rfl
  rw [e, contains_word hn (by decide), contains_word hn (by decide), contains_word hn (by decide), contains_word hn (by decide), contains_word hn (by decide)]
  have e2 : Lib.contains [32] (32 :: (n ++ [32])) = false := by
    rw [contains_step]
    cases n <;> simp [List.isPrefixOf, Lib.contains, Lib.index]
  rw [e2]
  unfold webL
  simp [Bool.or_assoc]

/-! The walk. -/
/-- The package variables hold what they must. -/
def Glob (w : World) : Prop := NvAt w ∧ 1 < w.heap.size ∧ ∃ m : Int, w.cell? ⟨1, 0, none⟩ = some (.int .i64 m)
theorem Glob.below {w w' : World} (h : Glob w) (hb : Below w.heap.size w w') : Glob w' := by
  obtain ⟨h1, h2, m, h3⟩ := h
  exact ⟨h1.below hb, Nat.lt_of_lt_of_le h2 hb.size, m, (hb.cell (p := ⟨1, 0, none⟩) h2).trans h3⟩

def tidyV (l : List ByteArray) (S : List UInt8) (rel : Bool) : Value := .tuple #[.string ⟨(if allowB l S rel then encode (tidyX S) else []).toArray⟩, .bool (allowB l S rel), .int .i64 (allowN l)]

theorem ret_sbi {a b : ByteArray} {c d : Bool} {n m : Int} (h : a = b) (h1 : c = d) (h2 : n = m) : Ending.returned (.tuple #[.string a, .bool c, .int .i64 n]) = Ending.returned (.tuple #[.string b, .bool d, .int .i64 m]) := by rw [h, h1, h2]

theorem lowS_len (s : List UInt8) : (lowS s).length = s.length := by
  have := colN_le s
  unfold lowS schemeS lower
  rw [List.length_append, List.length_map, List.length_take, List.length_drop]
  omega

set_option maxHeartbeats 8000000 in
theorem tidy_any (v : ByteArray) (l : List ByteArray) (sv : Value) (rel : Bool) (w : World) (hv : v.size ≤ 50000000) (hl : l.length ≤ 140737488355328) (hsz : ∀ s ∈ l, s.size ≤ 140737488355328)
    (hs : StrsAt w sv l) (hg : Glob w) :
    Calls Tryd.prog 7 #[.string v, sv, .bool rel] w fun e w' => e = .returned (tidyV l (strip v.data.toList) rel) ∧ Below w.heap.size w w' := by
  have h0 := allowed_any v l sv rel w (by omega) hl hsz hs hg.1
  have h1 := fun w => strip_any v w (by omega)
  have hlen := strip_len v.data.toList
  rw [← size_eq] at hlen
  obtain ⟨S, hS⟩ : ∃ S, strip v.data.toList = S := ⟨_, rfl⟩
  rw [hS] at h0 h1 hlen ⊢
  clear hS hsz hs
  have hSl : S.length ≤ 200000000 := by omega
  clear hlen
  have HG := Lib.hid hg
  clear hg
  cases hok : allowB l S rel
  · have HV : Hid (allowV l S rel = .tuple #[.bool false, .int .i64 (allowN l)]) := by
      show _ = _
      unfold allowV; rw [hok]
    have HW : Hid (tidyV l S rel = .tuple #[.string ⟨#[]⟩, .bool false, .int .i64 (allowN l)]) := by
      show _ = _
      unfold tidyV; rw [hok]; rfl
    rw [HV.out] at h0
    have hn : allowN l = 0 ∨ allowN l = 120 := by unfold allowN; split <;> simp
    generalize allowN l = n at *
    have HW2 := Lib.hid HW.out
    clear h1 hok HV HW
    rcases hn with rfl | rfl
    all_goals
      go_enter Tryd.func7, Tryd.ntmps7
      go_wp2_with fail
      refine h0.mono ?_
      clear h0
      rintro e w1 ⟨rfl, hb1⟩
      have HB1 := Lib.hid hb1
      clear hb1
      go_wp2_with fail
      go_ret3
      exact ⟨by rw [HW2.out]; rfl, HB1.out⟩
  · have hag : allG l = true := by
      unfold allowB at hok
      simp only [Bool.and_eq_true] at hok
      exact hok.1
    have hn : allowN l = 0 := by unfold allowN; rw [hag]; rfl
    have HV : Hid (allowV l S rel = .tuple #[.bool true, .int .i64 0]) := by
      show _ = _
      unfold allowV; rw [hok, hn]
    have HW : Hid (tidyV l S rel = .tuple #[.string ⟨(encode (tidyX S)).toArray⟩, .bool true, .int .i64 0]) := by
      show _ = _
      unfold tidyV; rw [hok, hn]; rfl
    rw [HV.out] at h0
    rw [HW.out]
    clear hok hag hn HV HW
    obtain ⟨s, hs⟩ : ∃ s : ByteArray, (⟨S.toArray⟩ : ByteArray) = s := ⟨_, rfl⟩
    have hsd : s.data.toList = S := by rw [← hs]
    have hss : s.size ≤ 200000000 := by rw [size_eq, hsd]; exact hSl
    rw [hs] at h1
    have h2 := fun w => scheme_any s w (by omega)
    have hcn := colN_le S
    have hcI : (colN S : Int) ≤ (s.size : Int) := by rw [size_eq, hsd]; omega
    rw [hsd] at h2
    have h3 := fun w => lower_any (s.extract 0 (colN S)) w (by rw [ByteArray.size_extract]; omega)
    have hx : (s.extract 0 (colN S)).data.toList = S.take (colN S) := by rw [take_mk, hsd]
    rw [hx] at h3
    obtain ⟨t, ht⟩ : ∃ t : ByteArray, (⟨(lower (S.take (colN S))).toArray⟩ : ByteArray) = t := ⟨_, rfl⟩
    have htd : t.data.toList = schemeS S := by rw [← ht]; rfl
    rw [ht] at h3
    have hts : t.size ≤ 200000000 := by
      rw [size_eq, htd]; unfold schemeS lower
      rw [List.length_map, List.length_take]; omega
    obtain ⟨q, hq⟩ : ∃ q : ByteArray, (⟨(lowS S).toArray⟩ : ByteArray) = q := ⟨_, rfl⟩
    have hqd : q.data.toList = lowS S := by rw [← hq]
    have hqs : q.size ≤ 200000000 := by rw [size_eq, hqd, lowS_len]; exact hSl
    have hadd : t ++ s.extract (colN S) s.size = q := by
      apply ByteArray.ext
      rw [← hq, drop_mk, hsd]
      apply Array.toList_inj.1
      simp [htd, lowS]
    obtain ⟨b, hb⟩ : ∃ b, webN S = b := ⟨_, rfl⟩
    obtain ⟨bb, hbb⟩ : ∃ bb, colB S = bb := ⟨_, rfl⟩
    rw [hbb] at h2
    have hcon : ∀ (w : World), Glob w → bb = true → Calls Tryd.prog 22 #[.string ⟨#[32, 104, 116, 116, 112, 32, 104, 116, 116, 112, 115, 32, 102, 116, 112, 32, 119, 115, 32, 119, 115, 115, 32]⟩, .string ((⟨#[32]⟩ : ByteArray) ++ t ++ (⟨#[32]⟩ : ByteArray))] w fun e w' => e = .returned (.bool b) ∧ w' = w := fun w hg hbt => by
      obtain ⟨_, _, m, hm⟩ := hg
      have := Tryd.strings_Contains ⟨#[32, 104, 116, 116, 112, 32, 104, 116, 116, 112, 115, 32, 102, 116, 112, 32, 119, 115, 32, 119, 115, 115, 32]⟩ ((⟨#[32]⟩ : ByteArray) ++ t ++ (⟨#[32]⟩ : ByteArray)) m w (by decide) hm
      have e : Lib.contains (⟨#[32, 104, 116, 116, 112, 32, 104, 116, 116, 112, 115, 32, 102, 116, 112, 32, 119, 115, 32, 119, 115, 115, 32]⟩ : ByteArray).data.toList ((⟨#[32]⟩ : ByteArray) ++ t ++ (⟨#[32]⟩ : ByteArray)).data.toList = b := by
        have e1 : ((⟨#[32]⟩ : ByteArray) ++ t ++ (⟨#[32]⟩ : ByteArray)).data.toList = 32 :: (t.data.toList ++ [32]) := by simp
        rw [e1, htd]
        show Lib.contains webText _ = b
        rw [web_has, ← hb]
        · unfold webN; rw [hbb, hbt]; rfl
        · rw [hbt] at hbb
          obtain ⟨A, B, e, hA, hSc⟩ := colon_split (colB_some hbb)
          have : schemeS S = lower A := by unfold schemeS; rw [← hA, e]; simp
          rw [this]
          intro x hx
          have := (sch_range x (hSc.lower.all x hx)).1
          intro e2; subst e2; simp at this
      rw [e] at this
      exact this
    have hbf : bb = false → b = true := fun h => by rw [← hb]; unfold webN; rw [hbb, h]; rfl
    -- the tail
    have hun := fun w => until_any q ⟨#[63, 35]⟩ w (by decide) (by decide) (by omega) ascii2
    rw [hqd] at hun
    obtain ⟨H, hH⟩ : ∃ H : ByteArray, (⟨(untilA (lowS S) spQuest).toArray⟩ : ByteArray) = H := ⟨_, rfl⟩
    obtain ⟨T, hT⟩ : ∃ T : ByteArray, (⟨(untilB (lowS S) spQuest).toArray⟩ : ByteArray) = T := ⟨_, rfl⟩
    have hHd : H.data.toList = untilA (lowS S) spQuest := by rw [← hH]
    have hTd : T.data.toList = untilB (lowS S) spQuest := by rw [← hT]
    have hun' : ∀ w, Calls Tryd.prog 23 #[.string q, .string ⟨#[63, 35]⟩] w fun e w' => e = .returned (.tuple #[.string H, .string T]) ∧ Below w.heap.size w w' := by rw [← hH, ← hT]; exact hun
    have hHs : H.size ≤ 200000000 := by
      rw [size_eq, hHd]; unfold untilA; rw [List.length_take, lowS_len]; omega
    have hTs : T.size ≤ 200000000 := by
      rw [size_eq, hTd]; unfold untilB; rw [List.length_drop, lowS_len]; omega
    obtain ⟨R, hR⟩ : ∃ R : ByteArray, (⟨((untilA (lowS S) spQuest).map turnB).toArray⟩ : ByteArray) = R := ⟨_, rfl⟩
    have hRd : R.data.toList = (untilA (lowS S) spQuest).map turnB := by rw [← hR]
    have hRs : R.size ≤ 200000000 := by
      rw [size_eq, hRd, List.length_map]; unfold untilA; rw [List.length_take, lowS_len]; omega
    have hrep : ∀ w, Glob w → Calls Tryd.prog 24 #[.string H, .string ⟨#[92]⟩, .string ⟨#[47]⟩] w fun e w' => e = .returned (.string R) ∧ Below w.heap.size w w' := fun w hg => by
      obtain ⟨_, _, m, hm⟩ := hg
      have hc : Lib.countB H ⟨#[92]⟩ ≤ H.size + 1 := by
        have := Lib.count_le H.data.toList [92]
        rw [← size_eq] at this
        exact this
      have := Tryd.strings_ReplaceAll H ⟨#[92]⟩ ⟨#[47]⟩ m w (by omega) hm (by decide) (by
        show H.size + Lib.countB H ⟨#[92]⟩ * 1 ≤ _
        omega)
      have e : Lib.replaceAll H.data.toList (⟨#[92]⟩ : ByteArray).data.toList (⟨#[47]⟩ : ByteArray).data.toList = (untilA (lowS S) spQuest).map turnB := by
        rw [hHd]; exact replaceAll92 _
      rw [e, hR] at this
      exact this
    obtain ⟨X, hX⟩ : ∃ X : ByteArray, (⟨(tidyX S).toArray⟩ : ByteArray) = X := ⟨_, rfl⟩
    have hXd : X.data.toList = tidyX S := by rw [← hX]
    have hXs : X.size ≤ 400000000 := by
      rw [size_eq, hXd]; unfold tidyX turn
      split
      · unfold untilA untilB
        rw [List.length_append, List.length_map, List.length_take, List.length_drop, lowS_len]; omega
      · rw [lowS_len]; omega
    have HX1 : Hid (b = true → R ++ T = X) := fun h => by
      rw [← hX, ← hR, ← hT]
      apply ByteArray.ext
      apply Array.toList_inj.1
      unfold tidyX
      rw [hb, h]
      simp [turn]
    have HX2 : Hid (b = false → q = X) := fun h => by
      rw [← hX, ← hq]
      unfold tidyX
      rw [hb, h]; rfl
    have hen := fun w => encode_any X w (by omega)
    rw [hXd] at hen
    generalize hcz : colN S = n at *
    have HCON := Lib.hid hcon
    have HREP := Lib.hid hrep
    have HBF := Lib.hid hbf
    have HADD := Lib.hid hadd
    clear hcon hrep hbf hadd hun hX hXd hR hRd hH hT hHd hTd hq hqd ht htd hx hs hsd hb hbb hcz hcn hSl hHs
    go_enter Tryd.func7, Tryd.ntmps7
    go_wp2_with fail
    refine h0.mono ?_
    clear h0
    rintro e w1 ⟨rfl, hb1⟩
    have HB1 := Lib.hid hb1
    clear hb1
    go_wp2_with fail
    refine (h1 _).mono ?_
    clear h1
    rintro e w2 ⟨rfl, hb2⟩
    have HB2 : Hid (Below w.heap.size w w2) := HB1.out.trans (hb2.mono HB1.out.size)
    clear hb2
    go_wp2_with (go_at_call 20; refine (h2 _).mono ?_; clear h2; rintro e w3 ⟨rfl, rfl⟩)
    refine (h3 _).mono ?_
    clear h3
    rintro e w3 ⟨rfl, hb3⟩
    have HB3 : Hid (Below w.heap.size w w3) := HB2.out.trans (hb3.mono HB2.out.size)
    clear hb3
    go_upto_region 9 with fail
    rw [HADD.out]
    have HG3 : Hid (Glob w3) := HG.out.below HB3.out
    go_cut [56] (fun c wx => c = .bool b ∧ wx = w3)
    case first =>
      cases bb
      · obtain rfl := HBF.out rfl
        go_wp2_with fail
        go_meet
        case rel => exact ⟨rfl, rfl⟩
      · go_wp2_with fail
        refine (HCON.out _ HG3.out trivial).mono ?_
        rintro e w4 ⟨rfl, rfl⟩
        go_wp2_with fail
        go_meet
        case rel => exact ⟨rfl, rfl⟩
    case rest =>
      obtain ⟨rfl, rfl⟩ := hcut
      cases b
      · obtain rfl := HX2.out rfl
        go_wp2_with fail
        refine (hen _).mono ?_
        rintro e w5 ⟨rfl, hb5⟩
        have HB5 : Hid (Below w.heap.size w w5) := HB3.out.trans (hb5.mono HB3.out.size)
        clear hb5
        go_wp2_with fail
        go_ret3
        exact ⟨rfl, HB5.out⟩
      · obtain rfl := HX1.out rfl
        go_wp2_with fail
        refine (hun' _).mono ?_
        rintro e w4 ⟨rfl, hb4⟩
        have HB4 : Hid (Below w.heap.size w w4) := HB3.out.trans (hb4.mono HB3.out.size)
        have HG4 : Hid (Glob w4) := HG3.out.below hb4
        clear hb4
        go_wp2_with fail
        refine (HREP.out _ HG4.out).mono ?_
        rintro e w5 ⟨rfl, hb5⟩
        have HB5 : Hid (Below w.heap.size w w5) := HB4.out.trans (hb5.mono HB4.out.size)
        clear hb5
        go_wp2_with fail
        refine (hen _).mono ?_
        rintro e w6 ⟨rfl, hb6⟩
        have HB6 : Hid (Below w.heap.size w w6) := HB5.out.trans (hb6.mono HB5.out.size)
        clear hb6
        go_wp2_with fail
        go_ret3
        exact ⟨rfl, HB6.out⟩

end Go.Proofs.YtabagfhnkdhjdaaDoor
