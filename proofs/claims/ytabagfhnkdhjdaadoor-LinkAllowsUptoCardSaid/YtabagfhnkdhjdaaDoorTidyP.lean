/- What Tidy writes, plain: it stays as it is, and is of the same scheme and kind. -/
import Derived.Test.YtabagfhnkdhjdaaDoorColon
set_option linter.unusedVariables false
set_option maxRecDepth 100000
namespace Go.Proofs.YtabagfhnkdhjdaaDoor
open Go.RowKit Go.Lib

/-! A reverse slash turned, ahead of a question mark and a number sign. -/
def turnB (b : UInt8) : UInt8 := if b = 92 then 47 else b
def turn (l : List UInt8) : List UInt8 := (untilA l spQuest).map turnB ++ untilB l spQuest

theorem turn_nil : turn [] = [] := rfl
theorem turn_stop {c : UInt8} (t : List UInt8) (h : spQuest.contains c = true) : turn (c :: t) = c :: t := by
  have e : upTo (c :: t) spQuest = 0 := by unfold upTo; rw [if_pos h]
  unfold turn untilA untilB
  rw [e]; rfl
theorem turn_go {c : UInt8} (t : List UInt8) (h : spQuest.contains c = false) : turn (c :: t) = turnB c :: turn t := by
  have e : upTo (c :: t) spQuest = upTo t spQuest + 1 := by
    conv => lhs; unfold upTo
    rw [if_neg (by rw [h]; exact Bool.false_ne_true)]
  unfold turn untilA untilB
  rw [e]; rfl

theorem map_turn_valid {l : List UInt8} (h : Valid l) : Valid (l.map turnB) := by
  obtain ⟨rs, hrs, rfl⟩ := h
  refine ⟨rs.map fun r => if r = 92 then 47 else r, ?_, ?_⟩
  · intro r hr
    obtain ⟨q, hq, rfl⟩ := List.mem_map.1 hr
    have := hrs q hq
    by_cases h9 : q = 92
    · rw [if_pos h9]; left; omega
    · rw [if_neg h9]; exact this
  · induction rs with
    | nil => rfl
    | cons r rs ih =>
      rw [encAll_cons, List.map_append, ih (fun x hx => hrs x (by simp [hx])), List.map_cons, encAll_cons]
      congr 1
      by_cases h128 : r < 128
      · rw [enc_low h128]
        by_cases h9 : r = 92
        · subst h9; rfl
        · rw [if_neg h9, enc_low h128]
          show [turnB (bt r)] = [bt r]
          unfold turnB
          rw [if_neg]
          intro e
          have := congrArg UInt8.toNat e
          rw [bt_toNat _ (by omega)] at this
          exact h9 this
      · rw [if_neg (by omega)]
        have hi := enc_high (hrs r (by simp)) (by omega)
        conv => rhs; rw [← List.map_id (enc r)]
        apply List.map_congr_left
        intro b hb
        have := hi b hb
        unfold turnB
        rw [if_neg]; · rfl
        intro e; subst e; simp at this
theorem turn_valid {l : List UInt8} (h : Valid l) : Valid (turn l) := by
  obtain ⟨h1, h2⟩ := until_valid (c := spQuest) (by decide) h
  exact (map_turn_valid h1).append h2
theorem turn_same {l : List UInt8} (h : ∀ b ∈ l, b ≠ 92) : turn l = l := by
  have e : (untilA l spQuest).map turnB = untilA l spQuest := by
    conv => rhs; rw [← List.map_id (untilA l spQuest)]
    apply List.map_congr_left
    intro b hb
    unfold turnB
    rw [if_neg (h b (List.mem_of_mem_take hb))]; rfl
  unfold turn
  rw [e, until_join]

/-! The escapes. -/
theorem badB_any {c : UInt8} (h : c.toNat ≠ 37) (a b : List UInt8) : badB c a = badB c b := by
  unfold badB
  have : decide (c.toNat = 37) = false := decide_eq_false h
  rw [this]; simp
def fineB (b : UInt8) : Bool := decide (32 < b.toNat) && decide (b.toNat < 127) && !escSpec.contains b
theorem fine_of {b : UInt8} (h : fineB b = true) : 32 < b.toNat ∧ b.toNat < 127 ∧ escSpec.contains b = false := by
  unfold fineB at h
  simp only [Bool.and_eq_true, decide_eq_true_eq, Bool.not_eq_true'] at h
  exact ⟨h.1.1, h.1.2, h.2⟩
theorem fine_bad {b : UInt8} (t : List UInt8) (h : fineB b = true) (h37 : b.toNat ≠ 37) : badB b t = false := by
  obtain ⟨h1, h2, h3⟩ := fine_of h
  unfold badB
  rw [decide_eq_false (by omega), decide_eq_false (by omega), h3, decide_eq_false h37]; rfl
theorem bad_fine {b : UInt8} {t : List UInt8} (h : badB b t = false) : fineB b = true := by
  unfold badB at h
  simp only [Bool.or_eq_false_iff, decide_eq_false_iff_not] at h
  obtain ⟨⟨⟨h1, h2⟩, h3⟩, _⟩ := h
  unfold fineB
  rw [decide_eq_true (by omega), decide_eq_true (by omega), h3]; rfl
theorem sch_fine (b : UInt8) (h : schB b = true) : fineB b = true ∧ b.toNat ≠ 37 := by
  have := all_bytes (fun b => !schB b || (fineB b && decide (b.toNat ≠ 37))) (by decide +kernel) b
  rw [h] at this
  simpa using this
theorem hex_fine (b : UInt8) (h : hexB b = true) : fineB b = true ∧ b.toNat ≠ 37 := by
  have := all_bytes (fun b => !hexB b || (fineB b && decide (b.toNat ≠ 37))) (by decide +kernel) b
  rw [h] at this
  simpa using this
theorem hexd_hex (n : Nat) (h : n < 16) : hexB (hexd n) = true := by
  match n, h with
  | 0, _ => decide | 1, _ => decide | 2, _ => decide | 3, _ => decide | 4, _ => decide | 5, _ => decide | 6, _ => decide | 7, _ => decide
  | 8, _ => decide | 9, _ => decide | 10, _ => decide | 11, _ => decide | 12, _ => decide | 13, _ => decide | 14, _ => decide | 15, _ => decide
  | n + 16, h => exact absurd h (by omega)

theorem encodeF_keep {c : UInt8} {t : List UInt8} (h : badB c t = false) : encodeF (c :: t) = c :: encodeF t := by
  conv => lhs; unfold encodeF
  rw [if_neg (by rw [h]; exact Bool.false_ne_true)]; rfl
theorem encodeF_esc {c : UInt8} {t : List UInt8} (h : badB c t = true) : encodeF (c :: t) = 37 :: hexd (c.toNat / 16) :: hexd (c.toNat % 16) :: encodeF t := by
  conv => lhs; unfold encodeF
  rw [if_pos h]; rfl

theorem encodeF_out : ∀ (l : List UInt8), ∀ b ∈ encodeF l, fineB b = true
  | [], b, h => by simp [encodeF] at h
  | c :: t, b, h => by
    have hc := c.toNat_lt
    cases hb : badB c t
    · rw [encodeF_keep hb, List.mem_cons] at h
      rcases h with rfl | h
      · exact bad_fine hb
      · exact encodeF_out t b h
    · rw [encodeF_esc hb] at h
      simp only [List.mem_cons] at h
      rcases h with rfl | rfl | rfl | h
      · decide
      · exact (hex_fine _ (hexd_hex _ (by omega))).1
      · exact (hex_fine _ (hexd_hex _ (by omega))).1
      · exact encodeF_out t b h

theorem coded_kept {t : List UInt8} (h : coded2 t = true) : coded2 (encodeF t) = true := by
  match t, h with
  | x :: y :: r, h =>
    have h2 : hexB x = true ∧ hexB y = true := by
      have : (hexB x && hexB y) = true := h
      simpa using this
    obtain ⟨f1, n1⟩ := hex_fine x h2.1
    obtain ⟨f2, n2⟩ := hex_fine y h2.2
    rw [encodeF_keep (fine_bad _ f1 n1), encodeF_keep (fine_bad _ f2 n2)]
    exact h

theorem badB_pct {t : List UInt8} (h : coded2 t = true) : badB 37 t = false := by
  unfold badB; rw [h]; decide
theorem encodeF_again : ∀ (l : List UInt8), encodeF (encodeF l) = encodeF l
  | [] => rfl
  | c :: t => by
    have ih := encodeF_again t
    have hc := c.toNat_lt
    cases hb : badB c t
    · rw [encodeF_keep hb]
      have hb2 : badB c (encodeF t) = false := by
        by_cases h37 : c.toNat = 37
        · have h37' : c = 37 := UInt8.toNat_inj.1 h37
          subst h37'
          refine badB_pct (coded_kept ?_)
          unfold badB at hb
          cases hcd : coded2 t with
          | true => rfl
          | false => rw [hcd] at hb; exact absurd hb (by decide)
        · rw [badB_any h37 _ t]; exact hb
      rw [encodeF_keep hb2, ih]
    · rw [encodeF_esc hb]
      have h1 := hexd_hex (c.toNat / 16) (by omega)
      have h2 := hexd_hex (c.toNat % 16) (by omega)
      obtain ⟨f1, n1⟩ := hex_fine _ h1
      obtain ⟨f2, n2⟩ := hex_fine _ h2
      rw [encodeF_keep (badB_pct (by show (hexB _ && hexB _) = true; rw [h1, h2]; rfl)), encodeF_keep (fine_bad _ f1 n1), encodeF_keep (fine_bad _ f2 n2), ih]

theorem encodeF_ascii (l : List UInt8) : Valid (encodeF l) := Valid.asciis fun c hc => by
  have := (fine_of (encodeF_out l c hc)).2.1
  omega
theorem encode_encode (v : List UInt8) : encode (encode v) = encode v := by
  unfold encode
  rw [mend_of_valid (encodeF_ascii _), encodeF_again]
theorem encodeF_clean (l : List UInt8) : Clean (encodeF l) where
  valid := encodeF_ascii l
  mid := fun b hb => by have := (fine_of (encodeF_out l b hb)).1; omega
  head := fun b hb => (fine_of (encodeF_out l b (List.mem_of_head? hb))).1
  last := fun b hb => (fine_of (encodeF_out l b (List.mem_of_getLast? hb))).1

/-! A scheme at the beginning stands. -/
theorem encodeF_sch : ∀ (A : List UInt8) {r : List UInt8}, (∀ b ∈ A, schB b = true) → encodeF (A ++ r) = A ++ encodeF r
  | [], _, _ => rfl
  | c :: t, r, h => by
    obtain ⟨f, n⟩ := sch_fine c (h c (by simp))
    rw [List.cons_append, encodeF_keep (fine_bad _ f n), encodeF_sch t (fun b hb => h b (by simp [hb]))]; rfl
theorem encodeF_colon (r : List UInt8) : encodeF (58 :: r) = 58 :: encodeF r := encodeF_keep (fine_bad r (by decide) (by decide))
theorem sch_turn (b : UInt8) (h : schB b = true) : spQuest.contains b = false ∧ turnB b = b := by
  have := all_bytes (fun b => !schB b || (!spQuest.contains b && decide (turnB b = b))) (by decide +kernel) b
  rw [h] at this
  simpa using this
theorem turn_sch : ∀ (A : List UInt8) {r : List UInt8}, (∀ b ∈ A, schB b = true) → turn (A ++ r) = A ++ turn r
  | [], _, _ => rfl
  | c :: t, r, h => by
    obtain ⟨f, n⟩ := sch_turn c (h c (by simp))
    rw [List.cons_append, turn_go _ f, n, turn_sch t (fun b hb => h b (by simp [hb]))]; rfl
theorem turn_colon (r : List UInt8) : turn (58 :: r) = 58 :: turn r := turn_go r (by decide)

/-! Without a scheme there comes none. -/
theorem colonGo_enc : ∀ (l : List UInt8) (i : Nat), colonGo l i = none → colonGo (encodeF l) i = none
  | [], _, _ => rfl
  | c :: t, i, h => by
    unfold colonGo at h
    by_cases h58 : c.toNat = 58
    · rw [if_pos h58] at h; cases h
    · rw [if_neg h58] at h
      cases hs : schB c
      · cases hb : badB c t
        · rw [encodeF_keep hb]; unfold colonGo; rw [if_neg h58, if_neg (by rw [hs]; exact Bool.false_ne_true)]
        · rw [encodeF_esc hb]; rfl
      · rw [if_pos hs] at h
        obtain ⟨f, n⟩ := sch_fine c hs
        rw [encodeF_keep (fine_bad _ f n)]
        unfold colonGo
        rw [if_neg h58, if_pos hs]
        exact colonGo_enc t _ h
theorem colon_enc {l : List UInt8} (h : colon l = none) : colon (encodeF l) = none := by
  cases l with
  | nil => rfl
  | cons c t =>
    have e : colon (c :: t) = if letB c then colonGo t 1 else none := rfl
    rw [e] at h
    cases hl : letB c
    · cases hb : badB c t
      · rw [encodeF_keep hb]
        show (if letB c then colonGo (encodeF t) 1 else none) = none
        rw [hl]; rfl
      · rw [encodeF_esc hb]; rfl
    · rw [if_pos hl] at h
      obtain ⟨f, n⟩ := sch_fine c (let_sch c hl)
      rw [encodeF_keep (fine_bad _ f n)]
      show (if letB c then colonGo (encodeF t) 1 else none) = none
      rw [if_pos hl]
      exact colonGo_enc t 1 h
theorem colonGo_turn : ∀ (l : List UInt8) (i : Nat), colonGo l i = none → colonGo (turn l) i = none
  | [], _, _ => rfl
  | c :: t, i, h => by
    cases hq : spQuest.contains c
    · rw [turn_go t hq]
      unfold colonGo at h
      by_cases h58 : c.toNat = 58
      · rw [if_pos h58] at h; cases h
      · rw [if_neg h58] at h
        cases hs : schB c
        · by_cases h92 : c = 92
          · subst h92; rfl
          · have e : turnB c = c := if_neg h92
            rw [e]; unfold colonGo; rw [if_neg h58, if_neg (by rw [hs]; exact Bool.false_ne_true)]
        · rw [if_pos hs] at h
          rw [(sch_turn c hs).2]
          unfold colonGo
          rw [if_neg h58, if_pos hs]
          exact colonGo_turn t _ h
    · rw [turn_stop t hq]; exact h
theorem colon_turn {l : List UInt8} (h : colon l = none) : colon (turn l) = none := by
  cases l with
  | nil => rfl
  | cons c t =>
    have e : colon (c :: t) = if letB c then colonGo t 1 else none := rfl
    have h' := h
    rw [e] at h
    cases hq : spQuest.contains c
    · rw [turn_go t hq]
      cases hl : letB c
      · by_cases h92 : c = 92
        · subst h92; rfl
        · have e : turnB c = c := if_neg h92
          rw [e]
          show (if letB c then colonGo (turn t) 1 else none) = none
          rw [hl]; rfl
      · rw [if_pos hl] at h
        rw [(sch_turn c (let_sch c hl)).2]
        show (if letB c then colonGo (turn t) 1 else none) = none
        rw [if_pos hl]
        exact colonGo_turn t 1 h
    · rw [turn_stop t hq]; exact h'

/-! Tidy. -/
def sHttp : List UInt8 := [104, 116, 116, 112]
def sHttps : List UInt8 := [104, 116, 116, 112, 115]
def sFtp : List UInt8 := [102, 116, 112]
def sWs : List UInt8 := [119, 115]
def sWss : List UInt8 := [119, 115, 115]
def webL (n : List UInt8) : Bool := n == sHttp || n == sHttps || n == sFtp || n == sWs || n == sWss
def lowS (s : List UInt8) : List UInt8 := schemeS s ++ s.drop (colN s)
def webN (s : List UInt8) : Bool := !colB s || webL (schemeS s)
def tidyX (s : List UInt8) : List UInt8 := if webN s then turn (lowS s) else lowS s
def tidyL (v : List UInt8) : List UInt8 := encode (tidyX (strip v))

theorem colB_none {s : List UInt8} (h : colB s = false) : colon s = none := by
  unfold colB at h
  cases hc : colon s with
  | none => rfl
  | some n => rw [hc] at h; cases h
theorem colB_some {s : List UInt8} (h : colB s = true) : colon s = some (colN s) := by
  unfold colB at h
  unfold colN
  cases hc : colon s with
  | none => rw [hc] at h; cases h
  | some n => rfl
theorem lowS_plain {s : List UInt8} (h : colB s = false) : lowS s = s := by
  have := (colon_none (colB_none h)).1
  unfold lowS schemeS
  rw [this]; rfl

/-- What is known of the link that Tidy hands to Encode. -/
theorem tidyX_parts {s : List UInt8} (hc : Clean s) :
    (colB s = false ∧ tidyX s = turn s) ∨ (colB s = true ∧ ∃ A B C, Sch A ∧ s = A ++ 58 :: B ∧ schemeS s = lower A ∧ tidyX s = lower A ++ 58 :: C ∧ Valid C) := by
  cases hb : colB s
  · left
    refine ⟨rfl, ?_⟩
    unfold tidyX webN
    rw [lowS_plain hb, hb]; rfl
  · right
    obtain ⟨A, B, e, hA, hS⟩ := colon_split (colB_some hb)
    have hl : lowS s = lower A ++ 58 :: B := by
      unfold lowS schemeS
      rw [← hA, e]
      simp
    have hsc : schemeS s = lower A := by
      unfold schemeS
      rw [← hA, e]; simp
    have hvB : Valid B := by
      have := hc.valid
      rw [e] at this
      exact (this.part (by decide)).2
    refine ⟨rfl, A, B, if webN s then turn B else B, hS, e, hsc, ?_, ?_⟩
    · unfold tidyX
      rw [hl]
      cases webN s
      · rfl
      · rw [if_pos rfl, if_pos rfl, turn_sch _ (fun b hb => hS.lower.all b hb), turn_colon]
    · cases webN s
      · exact hvB
      · exact turn_valid hvB
theorem tidyX_valid {s : List UInt8} (hc : Clean s) : Valid (tidyX s) := by
  rcases tidyX_parts hc with ⟨_, e⟩ | ⟨_, A, B, C, hA, _, _, e, hC⟩
  · rw [e]; exact turn_valid hc.valid
  · rw [e]
    exact hA.lower.valid.append ((Valid.ascii (c := 58) (by decide)).append hC)
theorem tidy_enc {s : List UInt8} (hc : Clean s) : encode (tidyX s) = encodeF (tidyX s) := by
  unfold encode
  rw [mend_of_valid (tidyX_valid hc)]

theorem tidy_scheme {s : List UInt8} (hc : Clean s) : colB (encodeF (tidyX s)) = colB s ∧ schemeS (encodeF (tidyX s)) = schemeS s ∧ lowS (encodeF (tidyX s)) = encodeF (tidyX s) := by
  rcases tidyX_parts hc with ⟨hb, e⟩ | ⟨hb, A, B, C, hA, es, hsc, e, hC⟩
  · have h1 : colon (encodeF (tidyX s)) = none := by rw [e]; exact colon_enc (colon_turn (colB_none hb))
    have h2 := colon_none h1
    refine ⟨by rw [h2.2, hb], ?_, lowS_plain h2.2⟩
    unfold schemeS
    rw [h2.1, (colon_none (colB_none hb)).1]; rfl
  · have ht : encodeF (tidyX s) = lower A ++ 58 :: encodeF C := by
      rw [e, encodeF_sch _ (fun b hb => hA.lower.all b hb), encodeF_colon]
    obtain ⟨p1, p2, p3⟩ := split_scheme (encodeF C) hA.lower
    rw [lower_lower] at p3
    rw [ht]
    refine ⟨by rw [p1, hb], by rw [p3, hsc], ?_⟩
    unfold lowS
    rw [p3, (colon_some (colon_make (encodeF C) hA.lower)).1]
    simp

theorem tidyX_same {t : List UInt8} (h1 : lowS t = t) (h2 : ∀ b ∈ t, b ≠ 92) : tidyX t = t := by
  unfold tidyX
  rw [h1, turn_same h2, ite_self]
theorem tidy_again {v : List UInt8} : tidyL (tidyL v) = tidyL v := by
  have hc := strip_clean v
  unfold tidyL
  rw [tidy_enc hc, clean_strip (encodeF_clean _)]
  obtain ⟨h1, h2, h3⟩ := tidy_scheme hc
  rw [tidyX_same h3 (fun b hb e => by
    have := (fine_of (encodeF_out _ b hb)).2.2
    subst e; exact absurd this (by decide))]
  unfold encode
  rw [mend_of_valid (encodeF_ascii _), encodeF_again]

/-! The kind. -/
def slB (b : UInt8) : Bool := b == 47 || b == 92
def kindN (s : List UInt8) : Nat :=
  if colB s then 1 else match s with
  | [] => 0
  | c :: t => if slB c then (match t with | d :: _ => if slB d then 2 else 3 | [] => 3) else if c = 63 then 4 else if c = 35 then 5 else 6

theorem first_enc (c : UInt8) (t : List UInt8) : ∃ d r, encodeF (c :: t) = d :: r ∧ (d = c ∧ r = encodeF t ∨ badB c t = true ∧ d = 37) := by
  cases hb : badB c t
  · exact ⟨_, _, encodeF_keep hb, .inl ⟨rfl, rfl⟩⟩
  · exact ⟨_, _, encodeF_esc hb, .inr ⟨rfl, rfl⟩⟩
theorem slash_first {c : UInt8} (h : slB c = true) (t : List UInt8) : turn (c :: t) = 47 :: turn t ∧ encodeF (47 :: turn t) = 47 :: encodeF (turn t) := by
  refine ⟨?_, encodeF_keep (fine_bad _ (by decide) (by decide))⟩
  unfold slB at h
  simp only [Bool.or_eq_true, beq_iff_eq] at h
  rcases h with rfl | rfl
  · exact turn_go t (by decide)
  · exact turn_go t (by decide)
theorem plain_first {c : UInt8} (h : slB c = false) (t : List UInt8) : ∃ d r, encodeF (turn (c :: t)) = d :: r ∧ slB d = false ∧ ((c = 63 ∨ c = 35) → d = c) ∧ (¬ (c = 63 ∨ c = 35) → d ≠ 63 ∧ d ≠ 35) := by
  have h92 : c ≠ 92 := by intro e; subst e; exact absurd h (by decide)
  obtain ⟨r, hr⟩ : ∃ r, turn (c :: t) = c :: r := by
    cases hq : spQuest.contains c
    · exact ⟨_, by rw [turn_go t hq, show turnB c = c from if_neg h92]⟩
    · exact ⟨_, turn_stop t hq⟩
  rw [hr]
  obtain ⟨d, r', he, h2⟩ := first_enc c r
  refine ⟨d, r', he, ?_⟩
  rcases h2 with ⟨rfl, _⟩ | ⟨hb, rfl⟩
  · exact ⟨h, fun _ => rfl, fun hn => ⟨fun e => hn (.inl e), fun e => hn (.inr e)⟩⟩
  · refine ⟨by decide, ?_, fun _ => ⟨by decide, by decide⟩⟩
    rintro (rfl | rfl)
    · rw [fine_bad r (b := 63) (by decide) (by decide)] at hb; cases hb
    · rw [fine_bad r (b := 35) (by decide) (by decide)] at hb; cases hb

theorem tidy_kind {s : List UInt8} (hc : Clean s) : kindN (encodeF (tidyX s)) = kindN s := by
  have hcol := (tidy_scheme hc).1
  unfold kindN
  rw [hcol]
  rcases tidyX_parts hc with ⟨hb, e⟩ | ⟨hb, _⟩
  · rw [hb, if_neg Bool.false_ne_true, if_neg Bool.false_ne_true, e]
    cases s with
    | nil => rfl
    | cons c t =>
      cases hsl : slB c
      · obtain ⟨d, r, he, h1, h2, h3⟩ := plain_first hsl t
        rw [he]
        show (if slB d = true then _ else if d = 63 then 4 else if d = 35 then 5 else 6) = (if slB c = true then _ else if c = 63 then 4 else if c = 35 then 5 else 6)
        rw [h1, hsl, if_neg Bool.false_ne_true, if_neg Bool.false_ne_true]
        by_cases hq : c = 63 ∨ c = 35
        · rw [h2 hq]
        · obtain ⟨h4, h5⟩ := h3 hq
          rw [if_neg h4, if_neg h5, if_neg (fun e => hq (.inl e)), if_neg (fun e => hq (.inr e))]
      · obtain ⟨h1, h2⟩ := slash_first hsl t
        rw [h1, h2]
        show (if slB 47 = true then _ else _) = (if slB c = true then _ else _)
        rw [hsl, if_pos rfl, if_pos (by decide)]
        cases t with
        | nil => rfl
        | cons d t =>
          cases hs2 : slB d
          · obtain ⟨x, r, he, g1, _⟩ := plain_first hs2 t
            rw [he]
            show (if slB x = true then 2 else 3) = (if slB d = true then 2 else 3)
            rw [g1, hs2]
          · obtain ⟨g1, g2⟩ := slash_first hs2 t
            rw [g1, g2]
            show (if slB 47 = true then 2 else 3) = (if slB d = true then 2 else 3)
            rw [hs2]; rfl
  · rw [hb]; rfl

end Go.Proofs.YtabagfhnkdhjdaaDoor
