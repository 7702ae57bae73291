/- What 'strip' hands back: the texts that it leaves alone. -/
import Derived.Test.YtabagfhnkdhjdaaGreatDoorAwake
set_option linter.unusedVariables false
set_option maxRecDepth 100000
namespace Go.Proofs.YtabagfhnkdhjdaaGreatDoor
open Go.RowKit Go.Lib

/-- A text that 'strip' leaves alone. -/
structure Clean (x : List UInt8) : Prop where
  valid : Valid x
  mid : ∀ b ∈ x, b.toNat ≠ 9 ∧ b.toNat ≠ 10 ∧ b.toNat ≠ 13
  head : ∀ b, x.head? = some b → 32 < b.toNat
  last : ∀ b, x.getLast? = some b → 32 < b.toNat

theorem encAll_cons (r : Nat) (rs : List Nat) : encAll (r :: rs) = enc r ++ encAll rs := by simp [encAll]
theorem encAll_append (a b : List Nat) : encAll (a ++ b) = encAll a ++ encAll b := by simp [encAll]

theorem enc_mem_low {r : Nat} (h : isCh r) {b : UInt8} (hb : b ∈ enc r) (hl : b.toNat < 128) : r = b.toNat := by
  by_cases h128 : 128 ≤ r
  · have := enc_high h h128 b hb; omega
  · rw [enc_low (by omega)] at hb
    simp at hb
    rw [hb, bt_toNat _ (by omega)]

theorem enc_head_low {r : Nat} (h : isCh r) (hr : r ≤ 32) (t : List UInt8) : (enc r ++ t).head? = some (bt r) := by
  rw [enc_low (by omega)]; rfl

theorem trimLN_keep {rs : List Nat} (h : ∀ r, rs.head? = some r → 32 < r) : trimLN rs = rs := by
  cases rs with
  | nil => rfl
  | cons r t =>
    have := h r rfl
    unfold trimLN
    rw [if_neg (by omega)]

theorem trimRN_keep {rs : List Nat} (h : ∀ r, rs.getLast? = some r → 32 < r) : trimRN rs = rs := by
  unfold trimRN
  rw [trimLN_keep (fun r hr => h r (by rwa [List.head?_reverse] at hr)), List.reverse_reverse]

theorem filter_keep {rs : List Nat} (h : ∀ r ∈ rs, r ≠ 9 ∧ r ≠ 10 ∧ r ≠ 13) : rs.filter keepN = rs := by
  rw [List.filter_eq_self]
  intro r hr
  have := h r hr
  simp [keepN]; omega

theorem stripN_keep {rs : List Nat} (h1 : ∀ r, rs.head? = some r → 32 < r) (h2 : ∀ r, rs.getLast? = some r → 32 < r) (h3 : ∀ r ∈ rs, r ≠ 9 ∧ r ≠ 10 ∧ r ≠ 13) : stripN rs = rs := by
  unfold stripN
  rw [trimLN_keep h1, trimRN_keep h2, filter_keep h3]

theorem getLast?_append_ne {α} (a : List α) {b : List α} (hb : b ≠ []) : (a ++ b).getLast? = b.getLast? := by
  rw [List.getLast?_append]
  cases h : b.getLast? with
  | none => rw [List.getLast?_eq_none_iff] at h; exact absurd h hb
  | some x => rfl

theorem clean_strip {x : List UInt8} (h : Clean x) : strip x = x := by
  obtain ⟨rs, hrs, rfl⟩ := h.valid
  have hr : runes (encAll rs) = rs := by
    have := runes_encAll rs hrs []
    rwa [List.append_nil, runes_nil, List.append_nil] at this
  unfold strip
  rw [hr, stripN_keep]
  · intro r hh
    cases rs with
    | nil => simp at hh
    | cons a t =>
      simp at hh; subst hh
      apply Classical.byContradiction
      intro hlow
      have := h.head (bt a) (by rw [encAll_cons]; exact enc_head_low (hrs a (by simp)) (by omega) _)
      rw [bt_toNat _ (by omega)] at this
      omega
  · intro r hh
    obtain ⟨ys, rfl⟩ : ∃ ys, rs = ys ++ [r] := by
      rcases List.eq_nil_or_concat rs with h | ⟨ys, y, h⟩
      · rw [h] at hh; simp at hh
      · rw [h] at hh; simp at hh; subst hh; exact ⟨ys, by rw [h]; simp⟩
    apply Classical.byContradiction
    intro hlow
    have := h.last (bt r) (by
      rw [encAll_append, getLast?_append_ne _ (by simp [encAll]; exact enc_ne r)]
      simp [encAll, enc_low (show r < 128 by omega)])
    rw [bt_toNat _ (by omega)] at this
    omega
  · intro r hh
    by_cases hb : r < 128
    · have := h.mid (bt r) (by
        unfold encAll
        rw [List.mem_flatMap]
        exact ⟨r, hh, by rw [enc_low hb]; simp⟩)
      rw [bt_toNat _ (by omega)] at this
      exact this
    · omega

theorem trimLN_head : ∀ (l : List Nat) (r : Nat), (trimLN l).head? = some r → 32 < r
  | [], r, h => by simp [trimLN] at h
  | a :: t, r, h => by
    unfold trimLN at h
    split at h
    · exact trimLN_head t r h
    · simp at h; omega

theorem trimRN_last (l : List Nat) (r : Nat) (h : (trimRN l).getLast? = some r) : 32 < r := by
  unfold trimRN at h
  rw [List.getLast?_reverse] at h
  exact trimLN_head _ r h

theorem trimRN_head' : ∀ (n : Nat) (l : List Nat), l.length = n → (∀ r, l.head? = some r → 32 < r) → ∀ r, (trimRN l).head? = some r → 32 < r := by
  intro n
  induction n with
  | zero =>
    intro l hn hl r h
    obtain rfl := List.length_eq_zero_iff.1 hn
    simp [trimRN, trimLN] at h
  | succ n ih =>
    intro l hn hl r h
    rcases List.eq_nil_or_concat l with rfl | ⟨ys, y, rfl⟩
    · simp at hn
    · rw [List.concat_eq_append] at *
      by_cases hy : y ≤ 32
      · rw [trimRN_low _ _ hy] at h
        refine ih ys (by simpa using hn) (fun a ha => hl a ?_) r h
        cases ys with
        | nil => simp at ha
        | cons b t => simpa using ha
      · rw [trimRN_high _ _ hy] at h
        exact hl r h
theorem trimRN_head (l : List Nat) (hl : ∀ r, l.head? = some r → 32 < r) (r : Nat) (h : (trimRN l).head? = some r) : 32 < r := trimRN_head' _ l rfl hl r h

theorem filter_head {l : List Nat} {p : Nat → Bool} (h : ∀ r, l.head? = some r → p r = true) (r : Nat) (hr : (l.filter p).head? = some r) : l.head? = some r := by
  cases l with
  | nil => simp at hr
  | cons a t =>
    have := h a rfl
    rw [List.filter_cons, if_pos this] at hr
    simpa using hr

theorem filter_last {l : List Nat} {p : Nat → Bool} (h : ∀ r, l.getLast? = some r → p r = true) (r : Nat) (hr : (l.filter p).getLast? = some r) : l.getLast? = some r := by
  rcases List.eq_nil_or_concat l with rfl | ⟨ys, y, rfl⟩
  · simp at hr
  · have := h y (by simp)
    rw [List.concat_eq_append, List.filter_append] at hr
    simp [this] at hr
    simp [hr]

theorem stripN_facts (l : List Nat) : (∀ r, (stripN l).head? = some r → 32 < r) ∧ (∀ r, (stripN l).getLast? = some r → 32 < r) ∧ ∀ r ∈ stripN l, r ≠ 9 ∧ r ≠ 10 ∧ r ≠ 13 := by
  have hk : ∀ r, 32 < r → keepN r = true := fun r h => by simp [keepN]; omega
  have h1 := trimRN_head (trimLN l) (trimLN_head l)
  have h2 := trimRN_last (trimLN l)
  refine ⟨fun r h => h1 r (filter_head (fun r h => hk r (h1 r h)) r h), fun r h => h2 r (filter_last (fun r h => hk r (h2 r h)) r h), fun r h => ?_⟩
  have := (List.mem_filter.1 h).2
  simp [keepN] at this
  omega

theorem strip_clean (l : List UInt8) : Clean (strip l) := by
  obtain ⟨h1, h2, h3⟩ := stripN_facts (runes l)
  have hc : ∀ r ∈ stripN (runes l), isCh r := fun r h => runes_ch l r (stripN_sub _ r h)
  unfold strip
  generalize stripN (runes l) = rs at *
  refine ⟨⟨rs, hc, rfl⟩, fun b hb => ?_, fun b hb => ?_, fun b hb => ?_⟩
  · unfold encAll at hb
    obtain ⟨r, hr, hbr⟩ := List.mem_flatMap.1 hb
    by_cases hl : b.toNat < 128
    · have := h3 r hr
      rwa [enc_mem_low (hc r hr) hbr hl] at this
    · omega
  · cases rs with
    | nil => simp [encAll] at hb
    | cons r t =>
      have hr := h1 r rfl
      by_cases hl : b.toNat < 128
      · have : b ∈ enc r := by
          obtain ⟨c, u, hcu⟩ := enc_cons r
          rw [encAll_cons, hcu] at hb
          simp at hb
          rw [hcu, hb]; simp
        rwa [enc_mem_low (hc r (by simp)) this hl] at hr
      · omega
  · rcases List.eq_nil_or_concat rs with rfl | ⟨ys, r, rfl⟩
    · simp [encAll] at hb
    · have hr := h2 r (by simp)
      by_cases hl : b.toNat < 128
      · have : b ∈ enc r := by
          rw [List.concat_eq_append, encAll_append, getLast?_append_ne _ (by simp [encAll]; exact enc_ne r)] at hb
          simp [encAll] at hb
          exact List.mem_of_getLast? hb
        rwa [enc_mem_low (hc r (by simp)) this hl] at hr
      · omega

theorem strip_strip (l : List UInt8) : strip (strip l) = strip l := clean_strip (strip_clean l)
end Go.Proofs.YtabagfhnkdhjdaaGreatDoor
