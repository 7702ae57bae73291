/- Merged: SetP, Val, BacksP, PartsV. -/
import Derived.Test.YtabagfhnkdhjdaaGreatDoorSet
import Derived.Test.YtabagfhnkdhjdaaGreatDoorColon
import Derived.Test.YtabagfhnkdhjdaaGreatDoorRefs
import Derived.Test.YtabagfhnkdhjdaaGreatDoorSrcW
import Derived.BigQuiet
import Derived.Test.YtabagfhnkdhjdaaGreatDoorRel
/- A srcset of good candidates says them: the plain law. -/
set_option linter.unusedVariables false
set_option maxRecDepth 100000
namespace Go.Proofs.YtabagfhnkdhjdaaGreatDoor
open Go.RowKit Go.Lib

theorem plB_range (b : UInt8) (h : plB b = true) : 32 < b.toNat ∧ b.toNat < 128 ∧ b.toNat ≠ 40 ∧ b.toNat ≠ 41 ∧ b.toNat ≠ 44 ∧ whB b = false := by
  have := all_bytes (fun b => !plB b || (decide (32 < b.toNat) && decide (b.toNat < 128) && decide (b.toNat ≠ 40) && decide (b.toNat ≠ 41) && decide (b.toNat ≠ 44) && !whB b)) (by decide +kernel) b
  rw [h] at this
  simp at this
  refine ⟨this.1.1.1.1.1, this.1.1.1.1.2, this.1.1.1.2, this.1.1.2, this.1.2, this.2⟩

/-! squeeze of a space and a plain text. -/
theorem spans_plain (s : ByteArray) (st : Nat) : ∀ (f pos : Nat), pos + f = s.size → (∀ i (h : i < s.size), pos ≤ i → s[i].toNat < 128 ∧ whB s[i] = false) → (Lib.spansFromP whR s f pos (some st) []) = ([], some st)
  | 0, pos, h, _ => rfl
  | f + 1, pos, h, ha => by
    have hp : pos < s.size := by omega
    obtain ⟨h1, h2⟩ := ha pos hp (Nat.le_refl _)
    have hd := decode_ascii s pos hp h1
    unfold Lib.spansFromP
    rw [if_pos hp, hd]
    have hw : whR s[pos].toNat = false := by unfold whR; rw [decide_eq_true h1, Bool.true_and]; exact h2
    simp only [hw]
    rw [if_neg Bool.false_ne_true]
    exact spans_plain s st f (pos + 1) (by omega) (fun i hi hle => ha i hi (by omega))
theorem squeeze_plain {d : List UInt8} (hd : d ≠ []) (hp : d.all plB = true) : squeezeS (mkB (32 :: d)) = mkB d := by
  obtain ⟨s, hs⟩ : ∃ s, mkB (32 :: d) = s := ⟨_, rfl⟩
  have hsd : s.data.toList = 32 :: d := by rw [← hs]; rfl
  have hsz : s.size = d.length + 1 := by rw [size_eq, hsd]; rfl
  have hdl : 0 < d.length := List.length_pos_iff.2 hd
  have hget : ∀ i (h : i < s.size), 1 ≤ i → s[i].toNat < 128 ∧ whB s[i] = false := fun i h h1 => by
    have hm : s[i] ∈ d := by
      have := at_list s i h
      rw [hsd] at this
      obtain ⟨j, rfl⟩ : ∃ j, i = j + 1 := ⟨i - 1, by omega⟩
      rw [List.getElem?_cons_succ] at this
      exact List.mem_of_getElem? this
    obtain ⟨_, r2, _, _, _, r6⟩ := plB_range _ (List.all_eq_true.1 hp _ hm)
    exact ⟨r2, r6⟩
  have h0 : s[0]'(by omega) = 32 := by
    have := at_list s 0 (by omega)
    rw [hsd] at this
    exact (Option.some.inj this).symm
  have hsp : Lib.goFieldsP whR s = [s.extract 1 s.size] := by
    have e1 : Lib.spansFromP whR s s.size 0 none [] = ([], some 1) := by
      obtain ⟨n, hn⟩ : ∃ n, s.size = n + 1 + 1 := ⟨d.length - 1, by omega⟩
      have hf : Lib.spansFromP whR s s.size 0 none [] = Lib.spansFromP whR s (n + 1) 1 none [] := by
        conv => lhs; rw [hn]
        unfold Lib.spansFromP
        rw [if_pos (by omega), decode_ascii s 0 (by omega) (by rw [h0]; decide)]
        have hw : whR (s[0]'(by omega)).toNat = true := by rw [h0]; decide
        simp only [hw]
        rfl
      rw [hf]
      obtain ⟨g1, g2⟩ := hget 1 (by omega) (Nat.le_refl _)
      unfold Lib.spansFromP
      rw [if_pos (by omega), decode_ascii s 1 (by omega) g1]
      have hw : whR (s[1]'(by omega)).toNat = false := by unfold whR; rw [decide_eq_true g1, Bool.true_and]; exact g2
      simp only [hw]
      rw [if_neg Bool.false_ne_true]
      exact spans_plain s 1 n 2 (by omega) (fun i hi hle => hget i hi (by omega))
    unfold Lib.goFieldsP Lib.spansOfP Lib.closeSpans
    rw [e1]; rfl
  rw [hs]
  unfold squeezeS
  rw [hsp]
  show mkB (Lib.join [(s.extract 1 s.size).data.toList] [32]) = mkB d
  rw [Lib.join_one, drop_ext, hsd]; rfl

theorem squeeze_nil : squeezeS (mkB []) = mkB [] := rfl

theorem dPos_plain : ∀ (d t : List UInt8), d.all plB = true → dPos (d ++ t) false = (dPos t false).map (· + d.length)
  | [], t, _ => by simp
  | c :: d, t, h => by
    rw [List.all_cons, Bool.and_eq_true] at h
    obtain ⟨_, _, r3, r4, r5, _⟩ := plB_range c h.1
    rw [List.cons_append, dPos, if_neg r3, if_neg r4, if_neg (fun e => r5 e.1), dPos_plain d t h.2, dPos_map, List.length_cons]
theorem dPos_space (d t : List UInt8) (h : d.all plB = true) : dPos (32 :: d ++ t) false = (dPos t false).map (· + (d.length + 1)) := by
  rw [List.cons_append, dPos, if_neg (by decide), if_neg (by decide), if_neg (fun e => absurd e.1 (by decide)), dPos_plain d t h, dPos_map]

/-! Words. -/
theorem skip_stop {c : UInt8} {t : List UInt8} (h1 : whB c = false) (h2 : c.toNat ≠ 44) : skipW (c :: t) = c :: t := by
  rw [skipW, if_neg]
  rw [h1, Bool.false_or, beq_iff_eq]; exact h2
theorem skip_space (t : List UInt8) : skipW (32 :: t) = skipW t := by rw [skipW, if_pos (by decide)]
theorem srcF_space (f : Nat) (t : List UInt8) : srcF f (32 :: t) = srcF f t := by
  cases f with
  | zero => rfl
  | succ f => rw [srcF, srcF, skip_space]
theorem word_of (a t : List UInt8) (ha : ∀ b ∈ a, whB b = false) (ht : ∀ x, t.head? = some x → whB x = true) : wordN (a ++ t) = a.length := by
  refine wordN_stop _ _ ?_ ?_ (by simp)
  · intro x hx
    rw [List.take_left] at hx
    exact ha x hx
  · intro x hx
    rw [List.getElem?_append_right (Nat.le_refl _), Nat.sub_self] at hx
    exact ht x (by rw [List.head?_eq_getElem?]; exact hx)

structure GoodC (a d : List UInt8) : Prop where
  ne : a ≠ []
  head : ∀ c, a.head? = some c → c.toNat ≠ 44
  last : ∀ c, a.getLast? = some c → c.toNat ≠ 44
  dark : ∀ b ∈ a, whB b = false
  desc : d.all plB = true
  fits : goodD d = true

def oneL (a d : List UInt8) : List UInt8 := a ++ (if d = [] then [] else 32 :: d)
def textL : List (List UInt8 × List UInt8) → List UInt8
  | [] => []
  | [p] => oneL p.1 p.2
  | p :: q :: r => oneL p.1 p.2 ++ 44 :: 32 :: textL (q :: r)
def pk (p : List UInt8 × List UInt8) : ByteArray × ByteArray := (mkB p.1, mkB p.2)

/-- One round of the reading, of a word that ends with no comma. -/
theorem srcF_word {a t : List UInt8} {f : Nat} (hne : a ≠ []) (hh : ∀ c, a.head? = some c → c.toNat ≠ 44) (hl : ∀ c, a.getLast? = some c → c.toNat ≠ 44) (hd : ∀ b ∈ a, whB b = false) (ht : ∀ x, t.head? = some x → whB x = true) :
    srcF (f + 1) (a ++ t) = (mkB a, descS (mkB t)) :: srcF f (t.drop (descN (mkB t))) := by
  have hs : skipW (a ++ t) = a ++ t := by
    cases a with
    | nil => exact absurd rfl hne
    | cons c u => rw [List.cons_append]; exact skip_stop (hd c (by simp)) (hh c rfl)
  have hn : ¬ (a ++ t).isEmpty = true := by
    cases a with
    | nil => exact absurd rfl hne
    | cons c u => simp
  have hsf : Lib.hasSuffix a [44] = false := by
    cases h : Lib.hasSuffix a [44] with
    | false => rfl
    | true => exact absurd rfl (hl 44 (hasSuffix_byte a 44 h))
  rw [srcF, hs, if_neg hn, word_of a t hd ht, List.take_left, List.drop_left, if_neg (by rw [hsf]; exact Bool.false_ne_true)]
theorem srcF_comma {a t : List UInt8} {f : Nat} (hne : a ≠ []) (hh : ∀ c, a.head? = some c → c.toNat ≠ 44) (hl : ∀ c, a.getLast? = some c → c.toNat ≠ 44) (hd : ∀ b ∈ a, whB b = false) (ht : ∀ x, t.head? = some x → whB x = true) :
    srcF (f + 1) (a ++ 44 :: t) = (mkB a, mkB []) :: srcF f t := by
  have hs : skipW (a ++ 44 :: t) = a ++ 44 :: t := by
    cases a with
    | nil => exact absurd rfl hne
    | cons c u => rw [List.cons_append]; exact skip_stop (hd c (by simp)) (hh c rfl)
  have hn : ¬ (a ++ 44 :: t).isEmpty = true := by
    cases a with
    | nil => exact absurd rfl hne
    | cons c u => simp
  have e : a ++ 44 :: t = (a ++ [44]) ++ t := by simp
  have hw : wordN ((a ++ [44]) ++ t) = (a ++ [44]).length := word_of _ _ (fun b hb => by
    rcases List.mem_append.1 hb with h | h
    · exact hd b h
    · simp at h; subst h; decide) ht
  have hsf : Lib.hasSuffix (a ++ [44]) [44] = true := by
    unfold Lib.hasSuffix
    rw [List.isSuffixOf_iff_suffix]
    exact ⟨a, rfl⟩
  have htr : Lib.trimRightB (a ++ [44]) 44 = a := by
    unfold Lib.trimRightB
    rw [List.reverse_append]
    cases hr : a.reverse with
    | nil => exact absurd (List.reverse_eq_nil_iff.1 hr) hne
    | cons x u =>
      have hx := hl x (by rw [List.getLast?_eq_head?_reverse, hr]; rfl)
      have hx2 : (x == 44) = false := by
        rw [beq_eq_false_iff_ne]; intro e2; subst e2; exact hx rfl
      have hd1 : ([(44 : UInt8)].reverse ++ x :: u).dropWhile (· == 44) = x :: u := by
        show ((44 : UInt8) :: x :: u).dropWhile (· == 44) = x :: u
        rw [List.dropWhile_cons_of_pos (by decide), List.dropWhile_cons_of_neg (by rw [hx2]; exact Bool.false_ne_true)]
      rw [hd1, ← hr, List.reverse_reverse]
  rw [srcF, hs, if_neg hn, e, hw, List.take_left, List.drop_left, if_pos hsf, htr]

theorem desc_end {d : List UInt8} (hd : d ≠ []) (hp : d.all plB = true) : descS (mkB (32 :: d)) = mkB d ∧ descN (mkB (32 :: d)) = d.length + 1 := by
  have h : dPos (mkB (32 :: d)).data.toList false = none := by
    have := dPos_space d [] hp
    rw [List.append_nil] at this
    rw [mkB_data, this]; rfl
  unfold descS descN
  rw [h]
  exact ⟨squeeze_plain hd hp, rfl⟩
theorem desc_mid {d t : List UInt8} (hd : d ≠ []) (hp : d.all plB = true) : descS (mkB (32 :: d ++ 44 :: t)) = mkB d ∧ descN (mkB (32 :: d ++ 44 :: t)) = d.length + 2 := by
  have h : dPos (mkB (32 :: d ++ 44 :: t)).data.toList false = some (d.length + 1) := by
    rw [mkB_data, dPos_space d _ hp, dPos, if_neg (by decide), if_neg (by decide), if_pos ⟨by decide, rfl⟩]; simp
  unfold descS descN
  rw [h]
  refine ⟨?_, rfl⟩
  show squeezeS ((mkB (32 :: d ++ 44 :: t)).extract 0 (d.length + 1)) = mkB d
  rw [take_mk, mkB_data]
  have e : (32 :: d ++ 44 :: t).take (d.length + 1) = 32 :: d := by simp
  rw [e]
  exact squeeze_plain hd hp

theorem textL_space (l : List (List UInt8 × List UInt8)) : ∀ x, ((32 : UInt8) :: textL l).head? = some x → whB x = true := fun x hx => by
  simp at hx; subst hx; decide

theorem src_text : ∀ (l : List (List UInt8 × List UInt8)) (f : Nat), (∀ p ∈ l, GoodC p.1 p.2) → l.length < f → srcF f (textL l) = l.map pk
  | [], f, _, hf => by
    cases f with
    | zero => omega
    | succ f => rw [textL, srcF]; rfl
  | [p], f, h, hf => by
    obtain ⟨a, d⟩ := p
    have hg := h (a, d) (by simp)
    cases f with
    | zero => omega
    | succ f =>
      cases f with
      | zero => simp at hf
      | succ f =>
      have hz : srcF (f + 1) [] = [] := by rw [srcF]; rfl
      show srcF (f + 1 + 1) (oneL a d) = [pk (a, d)]
      unfold oneL
      by_cases hd : d = []
      · rw [if_pos hd, srcF_word hg.ne hg.head hg.last hg.dark (fun x hx => by simp at hx)]
        subst hd
        have e : descS (mkB []) = mkB [] := rfl
        rw [e, List.drop_nil, hz]; rfl
      · obtain ⟨e1, e2⟩ := desc_end hd hg.desc
        rw [if_neg hd, srcF_word hg.ne hg.head hg.last hg.dark (fun x hx => by simp at hx; subst hx; decide), e1, e2, List.drop_of_length_le (by simp), hz]; rfl
  | p :: q :: r, f, h, hf => by
    obtain ⟨a, d⟩ := p
    have hg := h (a, d) (by simp)
    cases f with
    | zero => omega
    | succ f =>
      have ih := src_text (q :: r) f (fun x hx => h x (by simp at hx ⊢; exact .inr hx)) (by simp at hf ⊢; omega)
      show srcF (f + 1) (oneL a d ++ 44 :: 32 :: textL (q :: r)) = pk (a, d) :: (q :: r).map pk
      unfold oneL
      by_cases hd : d = []
      · rw [if_pos hd, List.append_nil, srcF_comma hg.ne hg.head hg.last hg.dark (textL_space _), srcF_space, ih]
        subst hd; rfl
      · have e : a ++ (if d = [] then [] else 32 :: d) ++ 44 :: 32 :: textL (q :: r) = a ++ (32 :: d ++ 44 :: (32 :: textL (q :: r))) := by rw [if_neg hd]; simp
        obtain ⟨e1, e2⟩ := desc_mid (t := 32 :: textL (q :: r)) hd hg.desc
        rw [e, srcF_word hg.ne hg.head hg.last hg.dark (fun x hx => by simp at hx; subst hx; decide), e1, e2]
        have e3 : (32 :: d ++ 44 :: (32 :: textL (q :: r))).drop (d.length + 2) = 32 :: textL (q :: r) := by
          have : (32 :: d ++ 44 :: (32 :: textL (q :: r))) = (32 :: d ++ [44]) ++ (32 :: textL (q :: r)) := by simp
          rw [this, List.drop_append_of_le_length (by simp), List.drop_of_length_le (by simp)]; rfl
        rw [e3, srcF_space, ih]; rfl

theorem textL_long : ∀ (l : List (List UInt8 × List UInt8)), (∀ p ∈ l, GoodC p.1 p.2) → l.length ≤ (textL l).length
  | [], _ => Nat.le_refl _
  | [p], h => by
    have := List.length_pos_iff.2 (h p (by simp)).ne
    show 1 ≤ (oneL p.1 p.2).length
    unfold oneL
    rw [List.length_append]; omega
  | p :: q :: r, h => by
    have ih := textL_long (q :: r) (fun x hx => h x (by simp at hx ⊢; exact .inr hx))
    show (q :: r).length + 1 ≤ (oneL p.1 p.2 ++ 44 :: 32 :: textL (q :: r)).length
    rw [List.length_append, List.length_cons (a := (44 : UInt8)), List.length_cons (a := (32 : UInt8))]; omega
theorem src_back (l : List (List UInt8 × List UInt8)) (h : ∀ p ∈ l, GoodC p.1 p.2) : srcL (textL l) = l.map pk := by
  unfold srcL
  exact src_text l _ h (by have := textL_long l h; omega)

theorem textL_join : ∀ (l : List (List UInt8 × List UInt8)), Lib.join (l.map fun p => oneL p.1 p.2) [44, 32] = textL l
  | [] => rfl
  | [p] => by rw [List.map_cons, List.map_nil, Lib.join_one]; rfl
  | p :: q :: r => by
    have ih := textL_join (q :: r)
    rw [List.map_cons, Lib.join_cons]
    show oneL p.1 p.2 ++ Lib.joinTail [44, 32] ((q :: r).map fun p => oneL p.1 p.2) = oneL p.1 p.2 ++ 44 :: 32 :: textL (q :: r)
    rw [← ih]
    rw [List.map_cons, Lib.join_cons]
    simp [Lib.joinTail]

/-- The reading of "a " and a plain descriptor. -/
theorem src_probe {d : List UInt8} (hp : d.all plB = true) (hd : d ≠ []) : okAll (srcL (97 :: 32 :: d)) = goodD d := by
  have h : srcL (97 :: 32 :: d) = [(mkB [97], mkB d)] := by
    obtain ⟨e1, e2⟩ := desc_end hd hp
    unfold srcL
    have := srcF_word (a := [97]) (t := 32 :: d) (f := (97 :: 32 :: d).length) (by simp) (fun c hc => by simp at hc; subst hc; decide) (fun c hc => by simp at hc; subst hc; decide) (fun b hb => by simp at hb; subst hb; decide) (fun x hx => by simp at hx; subst hx; decide)
    rw [e1, e2, List.drop_of_length_le (by simp)] at this
    have hz : srcF (97 :: 32 :: d).length [] = [] := by rw [List.length_cons, srcF]; rfl
    rw [hz] at this
    exact this
  rw [h]
  unfold okAll badAny
  simp [mkB_data]

end Go.Proofs.YtabagfhnkdhjdaaGreatDoor
/- sieveref01.Valid; sievelaw12.candidates, sievelaw12.attrs at lists that are the same. -/
set_option linter.unusedVariables false
set_option maxRecDepth 100000
namespace Go.Proofs.YtabagfhnkdhjdaaGreatDoor
open Go.RowKit Go.Lib

def validB (l : List UInt8) : Bool := (pcs 0 l).all fun p => p.2.2.2

theorem valid_mend : ∀ (n i : Nat) (l : List UInt8), l.length ≤ n → (pcs i l).all (fun p => p.2.2.2) = true → mend l = l := by
  intro n
  induction n with
  | zero =>
    intro i l hl _
    cases l with
    | nil => rfl
    | cons => simp at hl
  | succ n ih =>
    intro i l hl h
    cases l with
    | nil => rfl
    | cons c t =>
      rw [pcs_cons, List.all_cons, Bool.and_eq_true] at h
      obtain ⟨h1, h2⟩ := h
      have hs := piece_size c t
      have h0 : (piece (c :: t)).2.2 = 0 := by
        have h1' : gdB (c :: t) = true := h1
        unfold gdB at h1'
        exact beq_iff_eq.1 h1'
      obtain ⟨hch, hpc⟩ := piece_ch c t
      obtain ⟨u, hu⟩ := hpc h0
      obtain ⟨r, hr⟩ : ∃ r, (piece (c :: t)).1 = r := ⟨_, rfl⟩
      rw [hr] at hch hu
      have hd : (c :: t).drop (piece (c :: t)).2.1 = u := by
        have hp := piece_enc r hch u
        rw [← hu] at hp
        have hp2 : (piece (c :: t)).2.1 = (enc r).length := by rw [hp]
        rw [hp2, hu]
        simp
      have ih2 := ih (i + (piece (c :: t)).2.1) u (by rw [← hd, List.length_drop]; simp only [List.length_cons] at hl ⊢; omega) (by rw [← hd]; exact h2)
      have ih3 : encAll (runes u) = u := ih2
      show encAll (runes (c :: t)) = c :: t
      rw [runes_cons, hd, encAll_cons, ih3, hr]
      exact hu.symm
theorem validB_mend {l : List UInt8} (h : validB l = true) : mend l = l := valid_mend l.length 0 l (Nat.le_refl _) h

set_option maxHeartbeats 2000000 in
theorem valid_any (B cap : Nat) (l : List UInt8) (w : World) (hl : l.length ≤ 2199023255552) (hcap : l.length ≤ cap) (hrow : RowAt w B (byteCells l)) :
    Calls Tryz.prog 4 #[.slice (some ⟨B, 0, none⟩) l.length cap] w fun e w' => e = .returned (.bool (validB l)) ∧ Below w.heap.size w w' := by
  have hpc := pieces_any B cap l w hl hcap hrow
  have hpr := pcs_runes l.length 0 l (Nat.le_refl _)
  have hrl := runes_len_le l.length l (Nat.le_refl _)
  have hvb : validB l = (pcs 0 l).all fun p => p.2.2.2 := rfl
  obtain ⟨ps, hps⟩ : ∃ ps, pcs 0 l = ps := ⟨_, rfl⟩
  rw [hps] at hpc hpr hvb
  have hpl : ps.length = (runes l).length := by rw [← hpr, List.length_map]
  have hpl2 : ps.length ≤ 2199023255552 := by omega
  have HV := Lib.hid hvb
  obtain ⟨R, hR⟩ : ∃ R, validB l = R := ⟨_, rfl⟩
  rw [hR] at HV ⊢
  clear hps hpr hrow hpl hrl hvb hR
  go_enter Tryz.func4, Tryz.ntmps4
  go_wp2_with fail
  refine hpc.mono ?_
  clear hpc
  rintro e w1 ⟨v, rfl, hown, hb⟩
  have HB := Lib.hid hb
  have hsh : (v = .slice none 0 0 ∧ ps = []) ∨ ∃ g cap', v = .slice (some ⟨g, 0, none⟩) ps.length cap' ∧ g < w1.heap.size ∧ RowAt w1 g (pcCells ps) := by
    rcases hown.2 with ⟨h1, h2⟩ | ⟨g, cap', cur, h1, h2, h4, _, _, _, h8⟩
    · exact .inl ⟨h1, List.length_eq_zero_iff.1 h2⟩
    · subst h1
      have h5 : RowAt w1 g (pcCells ps) := ⟨cur, _, (0, 0), h4, by rw [hown.1]; exact h8, .inl rfl⟩
      exact .inr ⟨g, cap', rfl, h5.lt, h5⟩
  clear hown hb
  rcases hsh with ⟨rfl, hnil⟩ | ⟨g, cap', rfl, hg, hrw⟩
  · subst hnil
    go_wp2_with fail
    go_loopw [8, 4] (fun i _ wr => i = .int .i64 0 ∧ wr = w1) (fun _ _ _ => 0)
    case atStart => exact ⟨rfl, rfl⟩
    case round =>
      obtain ⟨rfl, rfl⟩ := hrel
      go_wp2_with fail
      go_ret
      exact ⟨by rw [HV.out]; rfl, HB.out⟩
  · have HW := Lib.hid hrw
    clear hrw
    go_wp2_with fail
    go_loopw [8, 4] (fun i _ wr => ∃ k : Nat, k ≤ ps.length ∧ i = .int .i64 k ∧ ((ps.take k).all fun p => p.2.2.2) = true ∧ Below w1.heap.size w1 wr) (fun i _ _ => ps.length - (RowKit.intOf i).toNat)
    case atStart => exact ⟨0, Nat.zero_le _, rfl, by simp, Below.refl _ _⟩
    case round =>
      obtain ⟨k, hk, rfl, hall, hbel⟩ := hrel
      have HA := Lib.hid hall
      have HBl := Lib.hid hbel
      have hsz2 := hbel.size
      clear hall hbel
      by_cases hlt : k < ps.length
      · obtain ⟨⟨r, a1, s1, b1⟩, hp⟩ : ∃ p, ps[k]? = some p := ⟨_, List.getElem?_eq_getElem hlt⟩
        have hltI : (k : Int) < (ps.length : Int) := by omega
        have hrw2 := HW.out.below HBl.out hg
        have c0 := hrw2.cell (pcCells_at hp 0 _ rfl)
        rw [Nat.add_zero] at c0
        have c1 := hrw2.cell (pcCells_at hp 1 _ rfl)
        have c2 := hrw2.cell (pcCells_at hp 2 _ rfl)
        have c3 := hrw2.cell (pcCells_at hp 3 _ rfl)
        simp only at c0 c1 c2 c3
        have HM : Hid ((r, a1, s1, b1) ∈ ps) := List.mem_of_getElem? hp
        have HT : Hid (ps.take (k + 1) = ps.take k ++ [(r, a1, s1, b1)]) := by
          show _ = _
          rw [List.take_add_one, hp]; rfl
        have HB2 : Hid (Below w1.heap.size w1 (wr.alloc (.cells #[.int .i32 (r : Nat), .int .i64 (a1 : Nat), .int .i64 (s1 : Nat), .bool b1] 50))) := HBl.out.alloc hsz2 _
        clear hrw2 hp
        cases b1
        · have HC : Hid (R = false) := by
            show _ = _
            rw [HV.out, List.all_eq_false]
            exact ⟨_, HM.out, Bool.false_ne_true⟩
          go_wp2_with fail
          go_ret
          exact ⟨by rw [HC.out]; rfl, HB.out.trans (HB2.out.mono HB.out.size)⟩
        · have HN : Hid (((ps.take (k + 1)).all fun p => p.2.2.2) = true) := by show _ = _; rw [HT.out, List.all_append, HA.out]; rfl
          go_wp2_with fail
          go_roundw
          case rel => exact ⟨k + 1, by omega, by go_num, HN.out, HB2.out⟩
          case measure => simp [RowKit.intOf]; omega
      · obtain rfl : k = ps.length := by omega
        have HC : Hid (R = true) := by
          have := HA.out
          rw [List.take_length] at this
          rw [HV.out]; exact this
        go_wp2_with fail
        go_ret
        exact ⟨by rw [HC.out]; rfl, HB.out.trans (HBl.out.mono HB.out.size)⟩

set_option maxHeartbeats 2000000 in
theorem candidates_same (u v : Value) (l : List (ByteArray × ByteArray)) (w : World) (hl : l.length ≤ 140737488355328) (hu : PairsAt w u l) (hv : PairsAt w v l) :
    Calls Tryz.prog 8 #[u, v] w fun e w' => e = .returned (.bool true) ∧ Below w.heap.size w w' := by
  obtain ⟨a0, cap0, rfl, hcap0, hc0⟩ := hu
  obtain ⟨a1, cap1, rfl, hcap1, hc1⟩ := hv
  have HC0 := Lib.hid hc0
  have HC1 := Lib.hid hc1
  clear hc0 hc1
  go_enter Tryz.func8, Tryz.ntmps8
  go_wp2_with fail
  go_loopw [13, 5] (fun i _ wr => ∃ (k nq : Nat), k ≤ l.length ∧ i = .int .i64 k ∧ wr = w.drewN nq) (fun i _ _ => l.length - (RowKit.intOf i).toNat)
  case atStart => exact ⟨0, 0, Nat.zero_le _, rfl, rfl⟩
  case round =>
    obtain ⟨k, nq, hk, rfl, rfl⟩ := hrel
    by_cases hlt : k < l.length
    · have hltI : (k : Int) < (l.length : Int) := by omega
      have hlk : l[k]? = some l[k] := List.getElem?_eq_getElem hlt
      obtain ⟨a, rfl, x0, x1⟩ := HC0.out k l[k] hlk
      obtain ⟨a', rfl, y0, y1⟩ := HC1.out k l[k] hlk
      generalize l[k] = p at x0 x1 y0 y1
      obtain ⟨pa, pb⟩ := p
      simp only at x0 x1 y0 y1
      clear hlk HC0 HC1
      go_wp2_with fail
      go_quiet (fail)
      go_wp2_with fail
      go_roundw
      case rel => exact ⟨k + 1, _, by omega, by go_num, rfl⟩
      case measure => simp [RowKit.intOf]; omega
    · obtain rfl : k = l.length := by omega
      have HBQ : Hid (Below w.heap.size w (w.drewN nq)) := Below.drewN (Below.refl _ _) _
      clear HC0 HC1
      go_wp2_with fail
      go_ret
      exact ⟨rfl, HBQ.out⟩

set_option maxHeartbeats 2000000 in
theorem attrs_same (u v : Value) (l : List (ByteArray × ByteArray)) (w : World) (hl : l.length ≤ 140737488355328) (hu : PairsAt w u l) (hv : PairsAt w v l) :
    Calls Tryz.prog 10 #[u, v] w fun e w' => e = .returned (.bool true) ∧ Below w.heap.size w w' := by
  obtain ⟨a0, cap0, rfl, hcap0, hc0⟩ := hu
  obtain ⟨a1, cap1, rfl, hcap1, hc1⟩ := hv
  have HC0 := Lib.hid hc0
  have HC1 := Lib.hid hc1
  clear hc0 hc1
  go_enter Tryz.func10, Tryz.ntmps10
  go_wp2_with fail
  go_loopw [13, 5] (fun i _ wr => ∃ (k nq : Nat), k ≤ l.length ∧ i = .int .i64 k ∧ wr = w.drewN nq) (fun i _ _ => l.length - (RowKit.intOf i).toNat)
  case atStart => exact ⟨0, 0, Nat.zero_le _, rfl, rfl⟩
  case round =>
    obtain ⟨k, nq, hk, rfl, rfl⟩ := hrel
    by_cases hlt : k < l.length
    · have hltI : (k : Int) < (l.length : Int) := by omega
      have hlk : l[k]? = some l[k] := List.getElem?_eq_getElem hlt
      obtain ⟨a, rfl, x0, x1⟩ := HC0.out k l[k] hlk
      obtain ⟨a', rfl, y0, y1⟩ := HC1.out k l[k] hlk
      generalize l[k] = p at x0 x1 y0 y1
      obtain ⟨pa, pb⟩ := p
      simp only at x0 x1 y0 y1
      clear hlk HC0 HC1
      go_wp2_with fail
      go_quiet (fail)
      go_wp2_with fail
      go_roundw
      case rel => exact ⟨k + 1, _, by omega, by go_num, rfl⟩
      case measure => simp [RowKit.intOf]; omega
    · obtain rfl : k = l.length := by omega
      have HBQ : Hid (Below w.heap.size w (w.drewN nq)) := Below.drewN (Below.refl _ _) _
      clear HC0 HC1
      go_wp2_with fail
      go_ret
      exact ⟨rfl, HBQ.out⟩

end Go.Proofs.YtabagfhnkdhjdaaGreatDoor
/- sievelaw12.LinkBacks: the plain side: good candidates, written; sizes. -/
set_option linter.unusedVariables false
set_option maxRecDepth 100000
namespace Go.Proofs.YtabagfhnkdhjdaaGreatDoor
open Go.RowKit Go.Lib

def sumB : List (ByteArray × ByteArray) → Nat
  | [] => 0
  | p :: t => p.1.size + p.2.size + 3 + sumB t
theorem sumB_mem : ∀ (l : List (ByteArray × ByteArray)) (p : ByteArray × ByteArray), p ∈ l → p.1.size + p.2.size + 3 ≤ sumB l
  | x :: t, p, h => by
    unfold sumB
    rcases List.mem_cons.1 h with rfl | h
    · omega
    · have := sumB_mem t p h; omega
theorem sumB_len : ∀ (l : List (ByteArray × ByteArray)), l.length ≤ sumB l
  | [] => Nat.le_refl _
  | x :: t => by
    have := sumB_len t
    unfold sumB
    simp; omega

def dk (p : ByteArray × ByteArray) : List UInt8 × List UInt8 := (p.1.data.toList, p.2.data.toList)
theorem pk_dk (p : ByteArray × ByteArray) : pk (dk p) = p := by
  obtain ⟨a, b⟩ := p
  show (mkB a.data.toList, mkB b.data.toList) = _
  rw [mkB_of, mkB_of]
/-- A good candidate. -/
def GoodP (p : ByteArray × ByteArray) : Prop := GoodC p.1.data.toList p.2.data.toList ∧ validB p.1.data.toList = true

theorem plain_ascii {d : List UInt8} (h : d.all plB = true) : ∀ c ∈ d, c.toNat < 128 := fun c hc => (plB_range c (List.all_eq_true.1 h c hc)).2.1
theorem plain_valid {d : List UInt8} (h : d.all plB = true) : Valid d := Valid.asciis (plain_ascii h)
theorem valid_of_mend {l : List UInt8} (h : mend l = l) : Valid l := by rw [← h]; exact mend_valid l
theorem setB_good {p : ByteArray × ByteArray} (h : GoodP p) : (setB p).data.toList = oneL p.1.data.toList p.2.data.toList := by
  have h1 : mendS p.1 = p.1 := by unfold mendS; rw [validB_mend h.2]
  have h2 : mendS p.2 = p.2 := by unfold mendS; rw [mend_of_valid (plain_valid h.1.desc)]
  have ha : ∀ a b : ByteArray, (a ++ b).data.toList = a.data.toList ++ b.data.toList := fun a b => by rw [ByteArray.data_append, Array.toList_append]
  unfold setB oneL
  rw [h1, h2]
  by_cases h0 : p.2.size = 0
  · have e : p.2.data.toList = [] := nil_of_size p.2 h0
    rw [if_pos h0, if_pos e]; simp
  · have e : ¬ p.2.data.toList = [] := by
      intro e
      rw [size_eq, e] at h0
      exact h0 rfl
    rw [if_neg h0, if_neg e, ha, ha]; rfl
theorem setS_good {l : List (ByteArray × ByteArray)} (h : ∀ p ∈ l, GoodP p) : (setS l).data.toList = textL (l.map dk) := by
  show Lib.join ((l.map setB).map (·.data.toList)) [44, 32] = _
  rw [← textL_join, List.map_map, List.map_map]
  congr 1
  exact List.map_congr_left (fun p hp => setB_good (h p hp))
theorem oneL_valid {p : ByteArray × ByteArray} (h : GoodP p) : Valid (oneL p.1.data.toList p.2.data.toList) := by
  have h1 : Valid p.1.data.toList := valid_of_mend (validB_mend h.2)
  unfold oneL
  refine h1.append ?_
  split
  · exact Valid.nil
  · exact (Valid.ascii (c := 32) (by decide)).append (plain_valid h.1.desc)
theorem textL_valid : ∀ (l : List (ByteArray × ByteArray)), (∀ p ∈ l, GoodP p) → Valid (textL (l.map dk))
  | [], _ => Valid.nil
  | [p], h => oneL_valid (h p (by simp))
  | p :: q :: r, h => by
    have ih := textL_valid (q :: r) (fun x hx => h x (List.mem_cons_of_mem _ hx))
    show Valid (oneL p.1.data.toList p.2.data.toList ++ 44 :: 32 :: textL ((q :: r).map dk))
    have e : (44 : UInt8) :: 32 :: textL ((q :: r).map dk) = [44] ++ ([32] ++ textL ((q :: r).map dk)) := rfl
    rw [e]
    exact (oneL_valid (h p (by simp))).append ((Valid.ascii (c := 44) (by decide)).append ((Valid.ascii (c := 32) (by decide)).append ih))
theorem oneL_len (a d : List UInt8) : (oneL a d).length ≤ a.length + d.length + 1 := by
  unfold oneL
  rw [List.length_append]
  split
  · simp; omega
  · simp; omega
theorem textL_len : ∀ (l : List (ByteArray × ByteArray)), (textL (l.map dk)).length ≤ sumB l
  | [] => Nat.le_refl _
  | [p] => by
    have h := oneL_len p.1.data.toList p.2.data.toList
    rw [← size_eq, ← size_eq] at h
    show (oneL p.1.data.toList p.2.data.toList).length ≤ _
    unfold sumB sumB; omega
  | p :: q :: r => by
    have ih := textL_len (q :: r)
    have h := oneL_len p.1.data.toList p.2.data.toList
    rw [← size_eq, ← size_eq] at h
    show (oneL p.1.data.toList p.2.data.toList ++ 44 :: 32 :: textL ((q :: r).map dk)).length ≤ _
    rw [List.length_append, List.length_cons, List.length_cons]
    unfold sumB; omega
theorem setS_size {l : List (ByteArray × ByteArray)} (h : ∀ p ∈ l, GoodP p) : (setS l).size ≤ sumB l := by
  rw [size_eq, setS_good h]
  exact textL_len l
/-- What Srcset reads out of what Set writes. -/
theorem set_back {l : List (ByteArray × ByteArray)} (h : ∀ p ∈ l, GoodP p) : srcL (mend (setS l).data.toList) = l := by
  rw [setS_good h, mend_of_valid (textL_valid l h), src_back _ (fun p hp => by
    obtain ⟨x, hx, rfl⟩ := List.mem_map.1 hp
    exact (h x hx).1), List.map_map]
  have e : (pk ∘ dk) = id := funext pk_dk
  rw [e, List.map_id]
theorem okAll_good {l : List (ByteArray × ByteArray)} (h : ∀ p ∈ l, GoodP p) : okAll l = true := by
  have h2 : badAny l = false := by
    unfold badAny
    rw [List.any_eq_false]
    intro p hp
    have := (h p hp).1.fits
    simp [this]
  unfold okAll
  rw [h2]; rfl

theorem qryS_size (q : List (ByteArray × ByteArray)) : (qryS q).size ≤ 12 * sumB q := by
  have h : ∀ (q : List (ByteArray × ByteArray)), (Lib.join ((q.map qryB).map (·.data.toList)) [38]).length ≤ 12 * sumB q := by
    intro q
    induction q with
    | nil => simp [Lib.join_nil]
    | cons p t ih =>
      have hp : (qryB p).data.toList.length ≤ 12 * p.1.size + 12 * p.2.size + 1 := by
        have a := formB_le p.1
        have b := formB_le p.2
        rw [← size_eq]
        unfold qryB
        rw [ByteArray.size_append, ByteArray.size_append]
        show (formB p.1).size + 1 + (formB p.2).size ≤ _
        omega
      cases t with
      | nil =>
        rw [List.map_cons, List.map_nil, List.map_cons, List.map_nil, Lib.join_one]
        unfold sumB sumB; omega
      | cons p2 r =>
        rw [List.map_cons, List.map_cons, List.map_cons, List.map_cons, join_two, List.length_append, List.length_append]
        rw [List.map_cons, List.map_cons] at ih
        unfold sumB
        simp only [List.length_cons, List.length_nil]
        omega
  rw [size_eq]
  exact h q

end Go.Proofs.YtabagfhnkdhjdaaGreatDoor
/- What Split gives, its texts being texts; rows that lie in a world laid out by hand. -/
set_option linter.unusedVariables false
set_option maxRecDepth 100000
namespace Go.Proofs.YtabagfhnkdhjdaaGreatDoor
open Go.RowKit Go.Lib

theorem partsV_any (v : ByteArray) (hv : v.size ≤ 1048576) : ∃ A B C D F x y z u, Parts v A B C D F x y z u ∧ Vk A ∧ Vk B ∧ Vk C ∧ Vk D ∧ Vk F := by
  have h2 := fun w => split_any v w (by omega)
  have hl := strip_len v.data.toList
  rw [← size_eq] at hl
  have hcl := strip_clean v.data.toList
  obtain ⟨S, hS⟩ : ∃ S, strip v.data.toList = S := ⟨_, rfl⟩
  rw [hS] at h2 hl hcl
  have hSl : S.length ≤ 8000000 := by omega
  obtain ⟨l1, l2, l3, l4, l5⟩ := split_len S
  obtain ⟨hval, v2, v4, v6, v8, v0⟩ := split_valid hcl.valid
  have hz : ∀ l : List UInt8, (⟨l.toArray⟩ : ByteArray).size = l.length := fun l => size_eq _
  have hm : ∀ l : List UInt8, Valid l → mendS ⟨l.toArray⟩ = ⟨l.toArray⟩ := fun l h => by
    unfold mendS
    rw [show (⟨l.toArray⟩ : ByteArray).data.toList = l from rfl, mend_of_valid h]
  refine ⟨⟨(splitL S).scheme.toArray⟩, ⟨(splitL S).host.toArray⟩, ⟨(splitL S).path.toArray⟩, ⟨(splitL S).query.toArray⟩, ⟨(splitL S).frag.toArray⟩, (splitL S).hs, (splitL S).hh, (splitL S).hq, (splitL S).hf, ⟨h2, fun w => ?_, ?_, fun h => ?_, fun h => ?_, fun h => ?_, fun h => ?_⟩, ⟨v0, ?_⟩, ⟨v2, ?_⟩, ⟨v4, ?_⟩, ⟨v6, ?_⟩, ⟨v8, ?_⟩⟩
  · have := mended_any ⟨(splitL S).scheme.toArray⟩ ⟨(splitL S).host.toArray⟩ ⟨(splitL S).path.toArray⟩ ⟨(splitL S).query.toArray⟩ ⟨(splitL S).frag.toArray⟩ (splitL S).hs (splitL S).hh (splitL S).hq (splitL S).hf w (by
      intro s hs
      simp only [List.mem_cons, List.not_mem_nil, or_false] at hs
      rcases hs with rfl | rfl | rfl | rfl | rfl <;> rw [hz] <;> omega)
    rw [hm (splitL S).scheme v0, hm (splitL S).host v2, hm (splitL S).path v4, hm (splitL S).query v6, hm (splitL S).frag v8] at this
    exact this
  · rw [hz, hz, hz, hz, hz]
    exact ⟨Nat.le_trans l1 hSl, Nat.le_trans l2 hSl, Nat.le_trans l3 hSl, Nat.le_trans l4 hSl, Nat.le_trans l5 hSl⟩
  · have : (splitL S).scheme = [] := by
      show spScheme S = []
      unfold spScheme
      rw [if_neg (by rw [show colB S = false from h]; exact Bool.false_ne_true)]
    rw [this]; rfl
  · have : (splitL S).host = [] := by
      show spHost _ = []
      unfold spHost
      rw [if_neg (by rw [show spHH (sp1 S) = false from h]; exact Bool.false_ne_true)]
    rw [this]; rfl
  · have : (splitL S).query = [] := by
      show spQuery _ = []
      unfold spQuery
      rw [if_neg (by rw [show spHQ (sp3 (sp2 (sp1 S))) = false from h]; exact Bool.false_ne_true)]
    rw [this]; rfl
  · have : (splitL S).frag = [] := by
      show spFrag _ = []
      have h' : spHF (sp4 (sp3 (sp2 (sp1 S)))) = false := h
      unfold spFrag
      unfold spHF at h'
      cases e : sp4 (sp3 (sp2 (sp1 S))) with
      | nil => rfl
      | cons b t => rw [e] at h'; cases h'
    rw [this]; rfl
  · rw [hz]; exact Nat.le_trans l1 hSl
  · rw [hz]; exact Nat.le_trans l2 hSl
  · rw [hz]; exact Nat.le_trans l3 hSl
  · rw [hz]; exact Nat.le_trans l4 hSl
  · rw [hz]; exact Nat.le_trans l5 hSl

/-! Rows in a world that is written out. -/
theorem RowAt.made {w : World} {C : Array Value} {e : TypeId} {xs : List Value} {B : Nat} (hB : B = w.heap.size) (h : C.toList.take xs.length = xs) : RowAt (w.alloc (.cells C e)) B xs := by
  subst hB
  exact RowAt.new w C e xs h
/-- The nine stores of a Link. -/
def set9 (w : World) (B : Nat) (a b c d f : ByteArray) (x y z u : Bool) : World :=
  ((((((((w.setCell ⟨B, 0, none⟩ (.string a)).setCell ⟨B, 1, none⟩ (.string b)).setCell ⟨B, 2, none⟩ (.string c)).setCell ⟨B, 3, none⟩ (.string d)).setCell ⟨B, 4, none⟩ (.string f)).setCell ⟨B, 5, none⟩ (.bool x)).setCell ⟨B, 6, none⟩ (.bool y)).setCell ⟨B, 7, none⟩ (.bool z)).setCell ⟨B, 8, none⟩ (.bool u)
theorem RowAt.set9 {w : World} {B : Nat} {row : List Value} (h : RowAt w B row) (hl : row.length = 9) (a b c d f : ByteArray) (x y z u : Bool) : RowAt (set9 w B a b c d f x y z u) B (row9 a b c d f x y z u) := by
  have := (((((((((h.set 0 (.string a)).set 1 (.string b)).set 2 (.string c)).set 3 (.string d)).set 4 (.string f)).set 5 (.bool x)).set 6 (.bool y)).set 7 (.bool z)).set 8 (.bool u))
  match row, hl with
  | [r0, r1, r2, r3, r4, r5, r6, r7, r8], _ => exact this
theorem RowAt.past9 {w : World} {b B : Nat} {xs : List Value} (h : RowAt w b xs) (hne : b ≠ B) (a c d e f : ByteArray) (x y z u : Bool) : RowAt (Go.Proofs.YtabagfhnkdhjdaaGreatDoor.set9 w B a c d e f x y z u) b xs :=
  ((((((((h.other hne _).other hne _).other hne _).other hne _).other hne _).other hne _).other hne _).other hne _).other hne _
theorem below9 {n : Nat} {w w' : World} {B : Nat} (h : Below n w w') (hB : n ≤ B) (a b c d f : ByteArray) (x y z u : Bool) : Below n w (set9 w' B a b c d f x y z u) := by
  unfold Go.Proofs.YtabagfhnkdhjdaaGreatDoor.set9
  iterate 9 (refine Below.setCell ?_ hB _)
  exact h

end Go.Proofs.YtabagfhnkdhjdaaGreatDoor
