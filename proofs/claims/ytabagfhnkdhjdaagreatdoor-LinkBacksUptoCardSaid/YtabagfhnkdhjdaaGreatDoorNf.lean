/- link.Dots leaves nothing to do: the plain law. -/
import Derived.Test.YtabagfhnkdhjdaaGreatDoorColon
set_option linter.unusedVariables false
set_option maxRecDepth 100000
namespace Go.Proofs.YtabagfhnkdhjdaaGreatDoor
open Go.RowKit Go.Lib

/-- No slash in it. -/
def NoSl (s : List UInt8) : Prop := ∀ b ∈ s, b ≠ 47
/-- Nothing, or it begins with a slash. -/
def AtSl (r : List UInt8) : Prop := r = [] ∨ ∃ t, r = 47 :: t
def Good (s : List UInt8) : Prop := NoSl s ∧ s ≠ [46] ∧ s ≠ [46, 46]

theorem seg_eq : ∀ {s p r t : List UInt8}, NoSl s → NoSl p → AtSl r → s ++ r = p ++ 47 :: t → s = p ∧ r = 47 :: t
  | [], [], r, t, _, _, _, h => ⟨rfl, h⟩
  | [], c :: p, r, t, _, hp, hr, h => by
    rcases hr with rfl | ⟨u, rfl⟩
    · simp at h
    · simp at h
      exact absurd h.1.symm (hp c (by simp))
  | c :: s, [], r, t, hs, _, _, h => by
    simp at h
    exact absurd h.1 (hs c (by simp))
  | c :: s, d :: p, r, t, hs, hp, hr, h => by
    simp at h
    obtain ⟨h1, h2⟩ := seg_eq (s := s) (p := p) (fun b hb => hs b (by simp [hb])) (fun b hb => hp b (by simp [hb])) hr h.2
    exact ⟨by rw [h.1, h1], h2⟩

theorem seg_all {s p r : List UInt8} (hp : NoSl p) (hr : AtSl r) (h : s ++ r = p) : s = p ∧ r = [] := by
  rcases hr with rfl | ⟨u, rfl⟩
  · exact ⟨by simpa using h, rfl⟩
  · exact absurd rfl (hp 47 (by rw [← h]; simp))

theorem pre_iff (l p : List UInt8) : Lib.hasPrefix l p = true ↔ ∃ t, l = p ++ t := by
  unfold Lib.hasPrefix
  rw [List.isPrefixOf_iff_prefix]
  exact ⟨fun ⟨t, h⟩ => ⟨t, h.symm⟩, fun ⟨t, h⟩ => ⟨t, h.symm⟩⟩
theorem pre_false {l p : List UInt8} (h : ∀ t, l ≠ p ++ t) : Lib.hasPrefix l p = false := by
  cases e : Lib.hasPrefix l p with
  | false => rfl
  | true => obtain ⟨t, ht⟩ := (pre_iff l p).1 e; exact absurd ht (h t)

theorem noSl1 : NoSl [46] := by unfold NoSl; decide
theorem noSl2 : NoSl [46, 46] := by unfold NoSl; decide

theorem upTo_seg : ∀ {s r : List UInt8}, NoSl s → AtSl r → upTo (s ++ r) [47] = s.length
  | [], r, _, hr => by
    rcases hr with rfl | ⟨u, rfl⟩
    · rfl
    · simp [upTo]
  | c :: s, r, hs, hr => by
    have hc := hs c (by simp)
    have e : List.contains [(47 : UInt8)] c = false := by simp [hc]
    rw [List.cons_append, upTo, e]
    simp [upTo_seg (s := s) (fun b hb => hs b (by simp [hb])) hr]

/-- A segment behind a slash. -/
theorem step_seg {s r : List UInt8} (o : List UInt8) (hs : Good s) (hr : AtSl r) : dotStep (47 :: (s ++ r)) o = (r, o ++ 47 :: s) := by
  obtain ⟨h1, h2, h3⟩ := hs
  have e1 : Lib.hasPrefix (47 :: (s ++ r)) [46, 46, 47] = false := pre_false fun t h => by simp at h
  have e2 : Lib.hasPrefix (47 :: (s ++ r)) [46, 47] = false := pre_false fun t h => by simp at h
  have e3 : Lib.hasPrefix (47 :: (s ++ r)) [47, 46, 47] = false := pre_false fun t h => by
    simp at h
    exact h2 (seg_eq (p := [46]) h1 noSl1 hr h).1
  have e4 : ((47 :: (s ++ r)) == [47, 46]) = false := beq_eq_false_iff_ne.2 fun h => by
    simp only [List.cons.injEq, true_and] at h
    exact h2 (seg_all noSl1 hr h).1
  have e5 : Lib.hasPrefix (47 :: (s ++ r)) [47, 46, 46, 47] = false := pre_false fun t h => by
    simp at h
    exact h3 (seg_eq (p := [46, 46]) h1 noSl2 hr h).1
  have e6 : ((47 :: (s ++ r)) == [47, 46, 46]) = false := beq_eq_false_iff_ne.2 fun h => by
    simp only [List.cons.injEq, true_and] at h
    exact h3 (seg_all noSl2 hr h).1
  have e7 : ((47 :: (s ++ r)) == [46]) = false := beq_eq_false_iff_ne.2 fun h => by simp at h
  have e8 : ((47 :: (s ++ r)) == [46, 46]) = false := beq_eq_false_iff_ne.2 fun h => by simp at h
  unfold dotStep
  simp only [e1, e2, e3, e4, e5, e6, e7, e8, Bool.false_eq_true, if_false, Bool.or_self]
  have hu : upTo ((47 :: (s ++ r)).drop 1) [47] = s.length := upTo_seg h1 hr
  rw [hu]
  simp

/-- A first segment. -/
theorem step_first {f r : List UInt8} (o : List UInt8) (hf : Good f) (hne : f ≠ []) (hr : AtSl r) : dotStep (f ++ r) o = (r, o ++ f) := by
  obtain ⟨h1, h2, h3⟩ := hf
  cases f with
  | nil => exact absurd rfl hne
  | cons c u =>
    have hc := h1 c (by simp)
    have e1 : Lib.hasPrefix (c :: u ++ r) [46, 46, 47] = false := pre_false fun t h => h3 (seg_eq (p := [46, 46]) h1 noSl2 hr h).1
    have e2 : Lib.hasPrefix (c :: u ++ r) [46, 47] = false := pre_false fun t h => h2 (seg_eq (p := [46]) h1 noSl1 hr h).1
    have e3 : Lib.hasPrefix (c :: u ++ r) [47, 46, 47] = false := pre_false fun t h => by simp at h; exact hc h.1
    have e4 : ((c :: u ++ r) == [47, 46]) = false := beq_eq_false_iff_ne.2 fun h => by simp at h; exact hc h.1
    have e5 : Lib.hasPrefix (c :: u ++ r) [47, 46, 46, 47] = false := pre_false fun t h => by simp at h; exact hc h.1
    have e6 : ((c :: u ++ r) == [47, 46, 46]) = false := beq_eq_false_iff_ne.2 fun h => by simp at h; exact hc h.1
    have e7 : ((c :: u ++ r) == [46]) = false := beq_eq_false_iff_ne.2 fun h => h2 (seg_all noSl1 hr h).1
    have e8 : ((c :: u ++ r) == [46, 46]) = false := beq_eq_false_iff_ne.2 fun h => h3 (seg_all noSl2 hr h).1
    unfold dotStep
    simp only [e1, e2, e3, e4, e5, e6, e7, e8, Bool.false_eq_true, if_false, Bool.or_self]
    have hu : upTo ((c :: u ++ r).drop 1) [47] = u.length := upTo_seg (fun b hb => h1 b (by simp [hb])) hr
    rw [hu]
    simp

def flat (ss : List (List UInt8)) : List UInt8 := ss.flatMap fun s => 47 :: s
theorem flat_cons (s : List UInt8) (ss : List (List UInt8)) : flat (s :: ss) = 47 :: s ++ flat ss := by simp [flat]
theorem flat_append (a b : List (List UInt8)) : flat (a ++ b) = flat a ++ flat b := by simp [flat]
theorem flat_at (ss : List (List UInt8)) : AtSl (flat ss) := by
  cases ss with
  | nil => exact .inl rfl
  | cons s t => exact .inr ⟨_, by rw [flat_cons]; rfl⟩

/-- What Dots leaves: a first segment, and segments behind slashes, none of them a dot segment. -/
def Nf (o : List UInt8) : Prop := ∃ f ss, o = f ++ flat ss ∧ Good f ∧ ∀ s ∈ ss, Good s

theorem good_nil : Good [] := ⟨fun b hb => by simp at hb, by simp, by simp⟩
theorem Nf.nil : Nf [] := ⟨[], [], rfl, good_nil, by simp⟩
theorem Nf.first {f : List UInt8} (h : Good f) : Nf f := ⟨f, [], by simp [flat], h, by simp⟩
theorem Nf.push {o s : List UInt8} (h : Nf o) (hs : Good s) : Nf (o ++ 47 :: s) := by
  obtain ⟨f, ss, rfl, hf, hss⟩ := h
  refine ⟨f, ss ++ [s], ?_, hf, fun x hx => ?_⟩
  · rw [flat_append]; simp [flat]
  · rcases List.mem_append.1 hx with hx | hx
    · exact hss x hx
    · simp at hx; rw [hx]; exact hs

theorem lastSlash_none : ∀ {l : List UInt8}, NoSl l → lastSlash l = none
  | [], _ => rfl
  | c :: t, h => by
    rw [lastSlash, lastSlash_none (l := t) (fun b hb => h b (by simp [hb]))]
    simp [h c (by simp)]
theorem lastSlash_at : ∀ (a : List UInt8) {b : List UInt8}, NoSl b → lastSlash (a ++ 47 :: b) = some a.length
  | [], b, h => by rw [List.nil_append, lastSlash, lastSlash_none h]; rfl
  | c :: a, b, h => by rw [List.cons_append, lastSlash, lastSlash_at a h]; rfl

theorem Nf.parent {o : List UInt8} (h : Nf o) : Nf (parentL o) := by
  obtain ⟨f, ss, rfl, hf, hss⟩ := h
  rcases List.eq_nil_or_concat ss with rfl | ⟨ys, y, rfl⟩
  · have : parentL (f ++ flat []) = [] := by
      unfold parentL
      rw [show f ++ flat [] = f by simp [flat], lastSlash_none hf.1]
    rw [this]; exact Nf.nil
  · rw [List.concat_eq_append] at *
    have hy := hss y (by simp)
    have e : f ++ flat (ys ++ [y]) = (f ++ flat ys) ++ 47 :: y := by rw [flat_append]; simp [flat]
    have : parentL (f ++ flat (ys ++ [y])) = f ++ flat ys := by
      unfold parentL
      rw [e, lastSlash_at _ hy.1]
      exact List.take_left' rfl
    rw [this]
    exact ⟨f, ys, rfl, hf, fun s hs => hss s (by simp [hs])⟩

theorem parent_valid {o : List UInt8} (h : Valid o) : Valid (parentL o) := by
  unfold parentL
  rcases lastSlash_spec o with ⟨h1, _⟩ | ⟨n, h1, h2, _⟩
  · rw [h1]; exact Valid.nil
  · rw [h1]
    obtain ⟨hn, h3⟩ := List.getElem?_eq_some_iff.1 h2
    have : o = o.take n ++ 47 :: o.drop (n + 1) := by
      rw [← h3, ← List.drop_eq_getElem_cons hn, List.take_append_drop]
    rw [this] at h
    exact (Valid.part (by decide) h).1

/-- A text, parted at its first slash. -/
theorem part_slash (i : List UInt8) : ∃ s r, i = s ++ r ∧ NoSl s ∧ AtSl r := by
  induction i with
  | nil => exact ⟨[], [], rfl, good_nil.1, .inl rfl⟩
  | cons c t ih =>
    by_cases hc : c = 47
    · exact ⟨[], c :: t, rfl, good_nil.1, .inr ⟨t, by rw [hc]⟩⟩
    · obtain ⟨s, r, rfl, hs, hr⟩ := ih
      refine ⟨c :: s, r, rfl, fun b hb => ?_, hr⟩
      rcases List.mem_cons.1 hb with rfl | hb
      · exact hc
      · exact hs b hb

theorem at_valid {a r : List UInt8} (hr : AtSl r) (h : Valid (a ++ r)) : Valid a ∧ Valid r := by
  rcases hr with rfl | ⟨t, rfl⟩
  · exact ⟨by simpa using h, Valid.nil⟩
  · have := Valid.part (by decide) h
    exact ⟨this.1, Valid.append (Valid.ascii (c := 47) (by decide)) this.2⟩

/-- What the loop keeps. -/
structure DotInv (i o : List UInt8) : Prop where
  nf : Nf o
  at_ : o = [] ∨ AtSl i
  vi : Valid i
  vo : Valid o

theorem v47 : Valid [47] := Valid.ascii (c := 47) (by decide)

theorem step_inv {i o : List UInt8} (h : DotInv i o) (hi : i ≠ []) : DotInv (dotStep i o).1 (dotStep i o).2 := by
  obtain ⟨hn, ha, hvi, hvo⟩ := h
  cases i with
  | nil => exact absurd rfl hi
  | cons c t =>
    by_cases hc : c = 47
    · subst hc
      obtain ⟨s, r, rfl, hs, hr⟩ := part_slash t
      have hv : Valid (47 :: s) ∧ Valid r := at_valid hr (by simpa using hvi)
      by_cases h1 : s = [46]
      · subst h1
        rcases hr with rfl | ⟨u, rfl⟩
        · exact ⟨hn, .inr (.inr ⟨[], rfl⟩), v47, hvo⟩
        · have e : dotStep (47 :: ([46] ++ 47 :: u)) o = (47 :: u, o) := by
            unfold dotStep
            have e1 : Lib.hasPrefix (47 :: ([46] ++ 47 :: u)) [46, 46, 47] = false := pre_false fun t h => by simp at h
            have e2 : Lib.hasPrefix (47 :: ([46] ++ 47 :: u)) [46, 47] = false := pre_false fun t h => by simp at h
            have e3 : Lib.hasPrefix (47 :: ([46] ++ 47 :: u)) [47, 46, 47] = true := (pre_iff _ _).2 ⟨u, rfl⟩
            simp only [e1, e2, e3, Bool.false_eq_true, if_false, if_true]
            rfl
          rw [e]
          exact ⟨hn, .inr (.inr ⟨u, rfl⟩), hv.2, hvo⟩
      · by_cases h2 : s = [46, 46]
        · subst h2
          rcases hr with rfl | ⟨u, rfl⟩
          · exact ⟨hn.parent, .inr (.inr ⟨[], rfl⟩), v47, parent_valid hvo⟩
          · have e : dotStep (47 :: ([46, 46] ++ 47 :: u)) o = (47 :: u, parentL o) := by
              unfold dotStep
              have e1 : Lib.hasPrefix (47 :: ([46, 46] ++ 47 :: u)) [46, 46, 47] = false := pre_false fun t h => by simp at h
              have e2 : Lib.hasPrefix (47 :: ([46, 46] ++ 47 :: u)) [46, 47] = false := pre_false fun t h => by simp at h
              have e3 : Lib.hasPrefix (47 :: ([46, 46] ++ 47 :: u)) [47, 46, 47] = false := pre_false fun t h => by simp at h
              have e4 : ((47 :: ([46, 46] ++ 47 :: u)) == [47, 46]) = false := beq_eq_false_iff_ne.2 fun h => by simp at h
              have e5 : Lib.hasPrefix (47 :: ([46, 46] ++ 47 :: u)) [47, 46, 46, 47] = true := (pre_iff _ _).2 ⟨u, rfl⟩
              simp only [e1, e2, e3, e4, e5, Bool.false_eq_true, if_false, if_true]
              rfl
            rw [e]
            exact ⟨hn.parent, .inr (.inr ⟨u, rfl⟩), hv.2, parent_valid hvo⟩
        · rw [step_seg o ⟨hs, h1, h2⟩ hr]
          exact ⟨hn.push ⟨hs, h1, h2⟩, .inr hr, hv.2, hvo.append hv.1⟩
    · obtain rfl : o = [] := by
        rcases ha with h | h | ⟨u, h⟩
        · exact h
        · cases h
        · simp at h; exact absurd h.1 hc
      obtain ⟨s, r, he, hs, hr⟩ := part_slash (c :: t)
      have hsn : s ≠ [] := by
        rintro rfl
        rcases hr with rfl | ⟨u, rfl⟩
        · cases he
        · simp at he; exact hc he.1
      rw [he] at hvi ⊢
      have hv := at_valid hr hvi
      by_cases h1 : s = [46]
      · subst h1
        rcases hr with rfl | ⟨u, rfl⟩
        · exact ⟨hn, .inl rfl, Valid.nil, hvo⟩
        · have e : dotStep ([46] ++ 47 :: u) [] = (u, []) := by
            unfold dotStep
            have e1 : Lib.hasPrefix ([46] ++ 47 :: u) [46, 46, 47] = false := pre_false fun t h => by simp at h
            have e2 : Lib.hasPrefix ([46] ++ 47 :: u) [46, 47] = true := (pre_iff _ _).2 ⟨u, rfl⟩
            simp only [e1, e2, Bool.false_eq_true, if_false, if_true]
            rfl
          rw [e]
          exact ⟨hn, .inl rfl, (Valid.part (by decide) hvi).2, hvo⟩
      · by_cases h2 : s = [46, 46]
        · subst h2
          rcases hr with rfl | ⟨u, rfl⟩
          · exact ⟨hn, .inl rfl, Valid.nil, hvo⟩
          · have e : dotStep ([46, 46] ++ 47 :: u) [] = (u, []) := by
              unfold dotStep
              have e1 : Lib.hasPrefix ([46, 46] ++ 47 :: u) [46, 46, 47] = true := (pre_iff _ _).2 ⟨u, rfl⟩
              simp only [e1, if_true]
              rfl
            rw [e]
            exact ⟨hn, .inl rfl, (Valid.part (by decide) hvi).2, hvo⟩
        · rw [step_first [] ⟨hs, h1, h2⟩ hsn hr]
          exact ⟨Nf.first ⟨hs, h1, h2⟩, .inr hr, hv.2, by simpa using hv.1⟩

theorem dotsF_inv : ∀ (n : Nat) {i o : List UInt8}, DotInv i o → Nf (dotsF n i o) ∧ Valid (dotsF n i o)
  | 0, i, o, h => ⟨h.nf, h.vo⟩
  | n + 1, i, o, h => by
    rw [dotsF]
    cases i with
    | nil => exact ⟨h.nf, h.vo⟩
    | cons c t => exact dotsF_inv n (step_inv h (by simp))

theorem dots_nf (v : List UInt8) : Nf (dots v) ∧ Valid (dots v) := dotsF_inv _ ⟨Nf.nil, .inl rfl, mend_valid v, Valid.nil⟩

theorem dotsF_flat : ∀ (ss : List (List UInt8)) (n : Nat) (o : List UInt8), (∀ s ∈ ss, Good s) → (flat ss).length ≤ n → dotsF n (flat ss) o = o ++ flat ss
  | [], n, o, _, _ => by cases n <;> simp [flat, dotsF]
  | s :: ss, n, o, h, hn => by
    rw [flat_cons] at hn ⊢
    cases n with
    | zero => simp at hn
    | succ n =>
      rw [dotsF]
      have e := step_seg o (h s (by simp)) (flat_at ss)
      rw [List.cons_append]
      rw [e]
      show dotsF n (flat ss) (o ++ 47 :: s) = _
      rw [dotsF_flat ss n _ (fun x hx => h x (by simp [hx])) (by simp at hn; omega)]
      simp

theorem dots_of_nf {v : List UInt8} (h : Nf v) (hv : Valid v) : dots v = v := by
  unfold dots
  rw [mend_of_valid hv]
  obtain ⟨f, ss, rfl, hf, hss⟩ := h
  by_cases hne : f = []
  · subst hne
    have := dotsF_flat ss (flat ss).length [] hss (Nat.le_refl _)
    simpa using this
  · have e := step_first [] hf hne (flat_at ss)
    cases f with
    | nil => exact absurd rfl hne
    | cons c t =>
      rw [show (c :: t ++ flat ss).length = (t ++ flat ss).length + 1 from rfl, dotsF, e]
      show dotsF _ (flat ss) ([] ++ c :: t) = _
      rw [dotsF_flat ss _ _ hss (by simp)]
      simp

theorem dots_dots (v : List UInt8) : dots (dots v) = dots v := dots_of_nf (dots_nf v).1 (dots_nf v).2
end Go.Proofs.YtabagfhnkdhjdaaGreatDoor
