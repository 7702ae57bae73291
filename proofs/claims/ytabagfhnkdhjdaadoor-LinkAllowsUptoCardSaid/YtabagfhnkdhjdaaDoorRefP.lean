/- The reference's words on bytes and links, plain, held against ours. No program is walked here. -/
import Derived.Test.YtabagfhnkdhjdaaDoorClean
set_option linter.unusedVariables false
set_option maxRecDepth 100000
namespace Go.Proofs.YtabagfhnkdhjdaaDoor
open Go.RowKit Go.Lib

def foldR (r : Nat) (l : List UInt8) : Nat := l.foldl (fun r x => r * 64 + x.toNat % 64) r
theorem foldR_nil (r : Nat) : foldR r [] = r := rfl
theorem foldR_cons (r : Nat) (x : UInt8) (l : List UInt8) : foldR r (x :: l) = foldR (r * 64 + x.toNat % 64) l := rfl
theorem foldR_snoc (r : Nat) (l : List UInt8) (x : UInt8) : foldR r (l ++ [x]) = foldR r l * 64 + x.toNat % 64 := by simp [foldR]

theorem readGo_whole (n i r lo hi : Nat) (t : List UInt8) (h : (readGo n i r lo hi t).2.2 = 0) :
    n ≤ t.length ∧ (readGo n i r lo hi t).2.1 = i + n ∧ (readGo n i r lo hi t).1 = foldR r (t.take n) := by
  induction n generalizing i r lo hi t with
  | zero => simp [readGo, foldR]
  | succ n ih =>
    cases t with
    | nil => simp [readGo] at h
    | cons x t =>
      by_cases hb : x.toNat < lo ∨ hi < x.toNat
      · rw [readGo, if_pos hb] at h; simp at h
      · rw [readGo, if_neg hb] at h
        rw [readGo, if_neg hb]
        obtain ⟨h1, h2, h3⟩ := ih (i + 1) _ 128 191 t h
        refine ⟨by simp; omega, by omega, ?_⟩
        rw [h3]; rfl

theorem readGo_wrong (n i r lo hi : Nat) (t : List UInt8) (h : (readGo n i r lo hi t).2.2 ≠ 0) : (readGo n i r lo hi t).1 = 65533 := by
  induction n generalizing i r lo hi t with
  | zero => simp [readGo] at h
  | succ n ih =>
    cases t with
    | nil => rfl
    | cons x t =>
      by_cases hb : x.toNat < lo ∨ hi < x.toNat
      · rw [readGo, if_pos hb]
      · rw [readGo, if_neg hb] at h
        rw [readGo, if_neg hb]
        exact ih _ _ _ _ _ h

/-- What 'good' hands back. -/
def headN (l : List UInt8) : Nat := (l.headD 0).toNat
def gdN (l : List UInt8) : Nat := if moreN (headN l) = 9 then 0 else (piece l).2.1
def gdB (l : List UInt8) : Bool := (piece l).2.2 == 0
/-- The first byte's share of the rune. -/
def startR (c m : Nat) : Nat := if m = 0 then c else c % modN m

theorem piece_parts (c : UInt8) (t : List UInt8) :
    (moreN c.toNat = 9 ∧ gdN (c :: t) = 0 ∧ gdB (c :: t) = false ∧ piece (c :: t) = (65533, 1, 1)) ∨
    (moreN c.toNat ≤ 3 ∧ gdN (c :: t) = (piece (c :: t)).2.1 ∧ gdB (c :: t) = false ∧ (piece (c :: t)).1 = 65533) ∨
    (moreN c.toNat ≤ 3 ∧ gdB (c :: t) = true ∧ gdN (c :: t) = moreN c.toNat + 1 ∧ (piece (c :: t)).2.1 = moreN c.toNat + 1 ∧ moreN c.toNat ≤ t.length ∧ (piece (c :: t)).1 = foldR (startR c.toNat (moreN c.toNat)) (t.take (moreN c.toNat))) := by
  have hc := c.toNat_lt
  have hm : moreN c.toNat = 9 ∨ moreN c.toNat ≤ 3 := by
    rcases more_cases c.toNat (by omega) with h | h | h | h | h <;> omega
  have hh : headN (c :: t) = c.toNat := rfl
  rcases hm with h | h
  · left
    have hp : piece (c :: t) = (65533, 1, 1) := by rw [piece_cons, if_neg (by omega), if_pos h]
    refine ⟨h, ?_, ?_, hp⟩
    · unfold gdN; rw [hh, if_pos h]
    · unfold gdB; rw [hp]; rfl
  · right
    have hg : gdN (c :: t) = (piece (c :: t)).2.1 := by unfold gdN; rw [hh, if_neg (by omega)]
    by_cases h0 : moreN c.toNat = 0
    · right
      have hp : piece (c :: t) = (c.toNat, 1, 0) := by rw [piece_cons, if_pos h0]
      refine ⟨h, ?_, ?_, ?_, by omega, ?_⟩
      · unfold gdB; rw [hp]; rfl
      · rw [hg, hp, h0]
      · rw [hp, h0]
      · rw [hp, h0]; rfl
    · have hp : piece (c :: t) = readGo (moreN c.toNat) 1 (c.toNat % modN (moreN c.toNat)) (loN c.toNat) (hiN c.toNat) t := by rw [piece_cons, if_neg h0, if_neg (by omega)]
      by_cases hw : (piece (c :: t)).2.2 = 0
      · right
        have hw2 := hw
        rw [hp] at hw2
        obtain ⟨h1, h2, h3⟩ := readGo_whole _ _ _ _ _ _ hw2
        rw [← hp] at h2 h3
        refine ⟨h, ?_, by omega, by omega, h1, ?_⟩
        · unfold gdB; rw [hw]; rfl
        · rw [h3]; unfold startR; rw [if_neg h0]
      · left
        have hw2 := hw
        rw [hp] at hw2
        have := readGo_wrong _ _ _ _ _ _ hw2
        rw [← hp] at this
        refine ⟨h, hg, ?_, this⟩
        unfold gdB
        exact beq_eq_false_iff_ne.2 hw

/-- The pieces: rune, place, size, whether right. -/
def pcsF : Nat → Nat → List UInt8 → List (Nat × Nat × Nat × Bool)
  | 0, _, _ => []
  | _ + 1, _, [] => []
  | n + 1, i, c :: t => ((piece (c :: t)).1, i, (piece (c :: t)).2.1, gdB (c :: t)) :: pcsF n (i + (piece (c :: t)).2.1) ((c :: t).drop (piece (c :: t)).2.1)
def pcs (i : Nat) (l : List UInt8) : List (Nat × Nat × Nat × Bool) := pcsF l.length i l

theorem pcsF_enough (n i : Nat) (l : List UInt8) (h : l.length ≤ n) : pcsF n i l = pcs i l := by
  unfold pcs
  induction n using Nat.strongRecOn generalizing l i with
  | ind n ih =>
    cases l with
    | nil => cases n <;> simp [pcsF]
    | cons c t =>
      cases n with
      | zero => simp at h
      | succ n =>
        have hs := piece_size c t
        simp only [List.length_cons] at h ⊢
        simp only [pcsF]
        congr 1
        have hl : ((c :: t).drop (piece (c :: t)).2.1).length ≤ t.length := by
          simp only [List.length_drop, List.length_cons]; omega
        rw [ih n (by omega) _ _ (by omega)]
        by_cases e : t.length < n + 1
        · rw [ih t.length (by omega) _ _ hl]
        · omega
theorem pcs_nil (i : Nat) : pcs i [] = [] := rfl
theorem pcs_cons (i : Nat) (c : UInt8) (t : List UInt8) : pcs i (c :: t) = ((piece (c :: t)).1, i, (piece (c :: t)).2.1, gdB (c :: t)) :: pcs (i + (piece (c :: t)).2.1) ((c :: t).drop (piece (c :: t)).2.1) := by
  have hs := piece_size c t
  rw [← pcsF_enough t.length _ ((c :: t).drop _) (by simp only [List.length_drop, List.length_cons]; omega)]
  rfl
theorem pcs_runes (n : Nat) : ∀ (i : Nat) (l : List UInt8), l.length ≤ n → (pcs i l).map (·.1) = runes l := by
  induction n with
  | zero => intro i l h; cases l with
    | nil => rfl
    | cons => simp at h
  | succ n ih =>
    intro i l h
    cases l with
    | nil => rfl
    | cons c t =>
      have hs := piece_size c t
      rw [pcs_cons, runes_cons, List.map_cons, ih _ _ (by simp only [List.length_drop, List.length_cons] at h ⊢; omega)]

/-! Strip, byte by byte. -/
def trimLB : List UInt8 → List UInt8
  | [] => []
  | b :: t => if b.toNat ≤ 32 then trimLB t else b :: t
def trimRB (l : List UInt8) : List UInt8 := (trimLB l.reverse).reverse
def keepB (b : UInt8) : Bool := !(b.toNat == 9 || b.toNat == 10 || b.toNat == 13)

theorem trimLB_low {x : UInt8} {xs : List UInt8} (h : x.toNat ≤ 32) : trimLB (x :: xs) = trimLB xs := by rw [trimLB, if_pos h]
theorem trimLB_high {x : UInt8} {xs : List UInt8} (h : ¬ x.toNat ≤ 32) : trimLB (x :: xs) = x :: xs := by rw [trimLB, if_neg h]
theorem trimRB_nil : trimRB [] = [] := rfl
theorem trimRB_low (l : List UInt8) (r : UInt8) (h : r.toNat ≤ 32) : trimRB (l ++ [r]) = trimRB l := by
  unfold trimRB
  rw [List.reverse_append]
  simp [trimLB, h]
theorem trimRB_high (l : List UInt8) (r : UInt8) (h : ¬ r.toNat ≤ 32) : trimRB (l ++ [r]) = l ++ [r] := by
  unfold trimRB
  rw [List.reverse_append]
  simp [trimLB, h]

theorem trimLB_enc : ∀ (rs : List Nat), (∀ r ∈ rs, isCh r) → trimLB (encAll rs) = encAll (trimLN rs)
  | [], _ => rfl
  | r :: rs, h => by
    have hr := h r (by simp)
    have ih := trimLB_enc rs (fun x hx => h x (by simp [hx]))
    rw [encAll_cons]
    by_cases h32 : r ≤ 32
    · rw [trimLN_low h32, ← ih, enc_low (by omega)]
      exact trimLB_low (by rw [bt_toNat _ (by omega)]; exact h32)
    · rw [trimLN_high h32, encAll_cons]
      by_cases h128 : r < 128
      · rw [enc_low h128]
        exact trimLB_high (by rw [bt_toNat _ (by omega)]; exact h32)
      · obtain ⟨c, u, hcu⟩ := enc_cons r
        have := enc_high hr (by omega) c (by rw [hcu]; simp)
        rw [hcu]
        exact trimLB_high (by omega)

theorem trimRB_enc (rs : List Nat) (h : ∀ r ∈ rs, isCh r) : trimRB (encAll rs) = encAll (trimRN rs) := by
  induction hn : rs.length generalizing rs with
  | zero => obtain rfl := List.length_eq_zero_iff.1 hn; rfl
  | succ n ih =>
    rcases List.eq_nil_or_concat rs with rfl | ⟨ys, r, rfl⟩
    · rfl
    · rw [List.concat_eq_append] at *
      have hr := h r (by simp)
      have hys : ys.length = n := by simpa using hn
      have ih2 := ih ys (fun x hx => h x (by simp [hx])) hys
      rw [encAll_append]
      have e1 : encAll [r] = enc r := by simp [encAll]
      rw [e1]
      by_cases h32 : r ≤ 32
      · rw [trimRN_low _ _ h32, ← ih2, enc_low (by omega)]
        exact trimRB_low _ _ (by rw [bt_toNat _ (by omega)]; exact h32)
      · rw [trimRN_high _ _ h32, encAll_append, e1]
        rcases List.eq_nil_or_concat (enc r) with he | ⟨u, b, hub⟩
        · exact absurd he (enc_ne r)
        · rw [List.concat_eq_append] at hub
          have hb : ¬ b.toNat ≤ 32 := by
            by_cases h128 : r < 128
            · have hb2 : b ∈ enc r := by rw [hub]; simp
              rw [enc_low h128] at hb2
              simp at hb2
              rw [hb2, bt_toNat _ (by omega)]; exact h32
            · have := enc_high hr (by omega) b (by rw [hub]; simp)
              omega
          rw [hub, ← List.append_assoc]
          exact trimRB_high _ _ hb

theorem keepB_enc (rs : List Nat) (h : ∀ r ∈ rs, isCh r) : (encAll rs).filter keepB = encAll (rs.filter keepN) := by
  induction rs with
  | nil => rfl
  | cons r rs ih =>
    have hr := h r (by simp)
    rw [encAll_cons, List.filter_append, ih (fun x hx => h x (by simp [hx])), List.filter_cons]
    by_cases h128 : r < 128
    · rw [enc_low h128]
      have hk : keepB (bt r) = keepN r := by unfold keepB keepN; rw [bt_toNat _ (by omega)]
      rw [List.filter_cons, hk]
      by_cases hk2 : keepN r = true
      · rw [if_pos hk2, if_pos hk2, encAll_cons, enc_low h128]; rfl
      · rw [if_neg hk2, if_neg hk2]; rfl
    · have hk2 : keepN r = true := by simp [keepN]; omega
      rw [if_pos hk2, encAll_cons]
      congr 1
      rw [List.filter_eq_self]
      intro b hb
      have := enc_high hr (by omega) b hb
      simp [keepB]; omega

theorem strip_bytes (l : List UInt8) : (trimRB (trimLB (mend l))).filter keepB = strip l := by
  unfold mend strip stripN
  have h := runes_ch l
  rw [trimLB_enc _ h, trimRB_enc _ (fun r hr => h r (trimLN_sub _ r hr)), keepB_enc _ (fun r hr => h r (trimLN_sub _ r (trimRN_sub _ r hr)))]

/-! The : of a scheme. -/
def colZ (l : List UInt8) : Int := match colon l with | some n => (n : Int) | none => -1
theorem rlet_sch {c : UInt8} (h : letB c = true) : c.toNat ≠ 58 ∧ schB c = true := by
  have h2 : letZ (c.toNat : Int) = true := h
  refine ⟨fun e => ?_, ?_⟩
  · rw [e] at h2; simp [letZ, upZ, loZ] at h2
  · show schZ (c.toNat : Int) = true
    unfold schZ; rw [h2]; rfl
theorem colon_zero {c : UInt8} {t : List UInt8} (h : letB c = true) : colon (c :: t) = colonGo (c :: t) 0 := by
  obtain ⟨h1, h2⟩ := rlet_sch h
  have e : colon (c :: t) = if letB c then colonGo t 1 else none := rfl
  rw [e, if_pos h, colonGo, if_neg h1, if_pos h2]
theorem colZ_some {l : List UInt8} {n : Nat} (h : colon l = some n) : colZ l = n := by unfold colZ; rw [h]
theorem colZ_none {l : List UInt8} (h : colon l = none) : colZ l = -1 := by unfold colZ; rw [h]
theorem colZ_ge (l : List UInt8) : (0 ≤ colZ l) ↔ colB l = true := by
  unfold colZ colB
  cases colon l with
  | none => simp
  | some n => simp
theorem colZ_is {l : List UInt8} (h : colB l = true) : colZ l = (colN l : Nat) := by
  unfold colB at h
  unfold colZ colN
  cases hc : colon l with
  | none => rw [hc] at h; cases h
  | some n => rfl
theorem colZ_not {l : List UInt8} (h : colB l = false) : colZ l = -1 := by
  unfold colB at h
  unfold colZ
  cases hc : colon l with
  | none => rfl
  | some n => rw [hc] at h; cases h

/-! Where the first of some bytes stands. -/
theorem upTo_hit {l c : List UInt8} {i : Nat} {b : UInt8} (hno : ∀ (j : Nat) (x : UInt8), j < i → l[j]? = some x → c.contains x = false) (hb : l[i]? = some b) (hc : c.contains b = true) : upTo l c = i := by
  induction l generalizing i with
  | nil => simp at hb
  | cons a l ih =>
    cases i with
    | zero => simp at hb; subst hb; unfold upTo; rw [if_pos hc]
    | succ i =>
      have h0 := hno 0 a (by omega) rfl
      unfold upTo
      rw [if_neg (by rw [h0]; exact Bool.false_ne_true)]
      rw [ih (i := i) (fun j x hj hx => hno (j + 1) x (by omega) (by simpa using hx)) (by simpa using hb)]
theorem upTo_miss {l c : List UInt8} (hno : ∀ (j : Nat) (x : UInt8), l[j]? = some x → c.contains x = false) : upTo l c = l.length := by
  induction l with
  | nil => rfl
  | cons a l ih =>
    have h0 := hno 0 a rfl
    unfold upTo
    rw [if_neg (by rw [h0]; exact Bool.false_ne_true), ih (fun j x hx => hno (j + 1) x (by simpa using hx))]
    rfl

end Go.Proofs.YtabagfhnkdhjdaaDoor
