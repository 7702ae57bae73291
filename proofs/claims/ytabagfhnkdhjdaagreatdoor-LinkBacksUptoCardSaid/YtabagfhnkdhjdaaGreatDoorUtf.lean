/- UTF-8, plain: the runes of bytes, piece by piece; their bytes; which bytes are valid; a text mended. No program. -/
import Derived.Lib.DecodeN
import Derived.Lib.Strings
set_option linter.unusedVariables false
set_option maxRecDepth 100000
namespace Go.Proofs.YtabagfhnkdhjdaaGreatDoor

def moreN (c : Nat) : Nat := if c < 128 then 0 else if 194 ≤ c ∧ c ≤ 223 then 1 else if 224 ≤ c ∧ c ≤ 239 then 2 else if 240 ≤ c ∧ c ≤ 244 then 3 else 9
def loN (c : Nat) : Nat := if c = 224 then 160 else if c = 240 then 144 else 128
def hiN (c : Nat) : Nat := if c = 237 then 159 else if c = 244 then 143 else 191
def modN (m : Nat) : Nat := if m = 1 then 32 else if m = 2 then 16 else 8

/-- The bytes behind the first one: the rune, how many bytes it takes, what it is (0: whole; 1: wrong; 2: begun). -/
def readGo : Nat → Nat → Nat → Nat → Nat → List UInt8 → Nat × Nat × Nat
  | 0, i, r, _, _, _ => (r, i, 0)
  | _ + 1, i, _, _, _, [] => (65533, i, 2)
  | n + 1, i, r, lo, hi, x :: t => if x.toNat < lo ∨ hi < x.toNat then (65533, i, 1) else readGo n (i + 1) (r * 64 + x.toNat % 64) 128 191 t

def piece : List UInt8 → Nat × Nat × Nat
  | [] => (0, 0, 0)
  | c :: t => if moreN c.toNat = 0 then (c.toNat, 1, 0) else if moreN c.toNat = 9 then (65533, 1, 1) else readGo (moreN c.toNat) 1 (c.toNat % modN (moreN c.toNat)) (loN c.toNat) (hiN c.toNat) t

theorem readGo_size (n i r lo hi : Nat) (t : List UInt8) : i ≤ (readGo n i r lo hi t).2.1 ∧ (readGo n i r lo hi t).2.1 ≤ i + t.length := by
  induction n generalizing i r lo hi t with
  | zero => simp [readGo]
  | succ n ih =>
    cases t with
    | nil => simp [readGo]
    | cons x t =>
      unfold readGo
      split
      · simp
      · have := ih (i + 1) (r * 64 + x.toNat % 64) 128 191 t
        simp only [List.length_cons]
        omega

theorem piece_cons (c : UInt8) (t : List UInt8) : piece (c :: t) = if moreN c.toNat = 0 then (c.toNat, 1, 0) else if moreN c.toNat = 9 then (65533, 1, 1) else readGo (moreN c.toNat) 1 (c.toNat % modN (moreN c.toNat)) (loN c.toNat) (hiN c.toNat) t := rfl

theorem piece_size (c : UInt8) (t : List UInt8) : 1 ≤ (piece (c :: t)).2.1 ∧ (piece (c :: t)).2.1 ≤ t.length + 1 := by
  rw [piece_cons]
  split
  · simp
  · split
    · simp
    · have := readGo_size (moreN c.toNat) 1 (c.toNat % modN (moreN c.toNat)) (loN c.toNat) (hiN c.toNat) t
      omega

/-- The runes of bytes. -/
def runesF : Nat → List UInt8 → List Nat
  | 0, _ => []
  | _ + 1, [] => []
  | n + 1, c :: t => (piece (c :: t)).1 :: runesF n ((c :: t).drop (piece (c :: t)).2.1)
def runes (l : List UInt8) : List Nat := runesF l.length l

theorem runesF_enough (n : Nat) (l : List UInt8) (h : l.length ≤ n) : runesF n l = runes l := by
  unfold runes
  induction n using Nat.strongRecOn generalizing l with
  | ind n ih =>
    cases l with
    | nil => cases n <;> simp [runesF]
    | cons c t =>
      cases n with
      | zero => simp at h
      | succ n =>
        have hs := piece_size c t
        simp only [List.length_cons] at h ⊢
        simp only [runesF]
        congr 1
        have hl : ((c :: t).drop (piece (c :: t)).2.1).length ≤ t.length := by
          simp only [List.length_drop, List.length_cons]; omega
        rw [ih n (by omega) _ (by omega)]
        by_cases e : t.length < n + 1
        · rw [ih t.length (by omega) _ hl]
        · omega

theorem runes_nil : runes [] = [] := rfl
theorem runes_cons (c : UInt8) (t : List UInt8) : runes (c :: t) = (piece (c :: t)).1 :: runes ((c :: t).drop (piece (c :: t)).2.1) := by
  have hs := piece_size c t
  rw [← runesF_enough t.length ((c :: t).drop _) (by simp only [List.length_drop, List.length_cons]; omega)]
  rfl

/-- The bytes of a rune, of runes. -/
def bt (n : Nat) : UInt8 := UInt8.ofNat n
def enc (r : Nat) : List UInt8 :=
  if r < 128 then [bt r] else if r < 2048 then [bt (192 + r / 64), bt (128 + r % 64)]
  else if r < 65536 then [bt (224 + r / 4096), bt (128 + r / 64 % 64), bt (128 + r % 64)]
  else [bt (240 + r / 262144), bt (128 + r / 4096 % 64), bt (128 + r / 64 % 64), bt (128 + r % 64)]
def encAll (l : List Nat) : List UInt8 := l.flatMap enc
def isCh (r : Nat) : Prop := r < 55296 ∨ (57344 ≤ r ∧ r ≤ 1114111)
/-- A text mended: the bytes of its runes. -/
def mend (l : List UInt8) : List UInt8 := encAll (runes l)
def Valid (l : List UInt8) : Prop := ∃ rs : List Nat, (∀ r ∈ rs, isCh r) ∧ l = encAll rs

theorem bt_toNat (n : Nat) (h : n < 256) : (bt n).toNat = n := by simp [bt]; omega

theorem more_cases (c : Nat) (hc : c < 256) : (moreN c = 0 ∧ c < 128) ∨ moreN c = 9 ∨ (moreN c = 1 ∧ 194 ≤ c ∧ c ≤ 223 ∧ loN c = 128 ∧ hiN c = 191) ∨
    (moreN c = 2 ∧ 224 ≤ c ∧ c ≤ 239) ∨ (moreN c = 3 ∧ 240 ≤ c ∧ c ≤ 244) := by
  have q1 : 194 ≤ c ∧ c ≤ 223 → loN c = 128 ∧ hiN c = 191 := fun h => ⟨by unfold loN; rw [if_neg (by omega), if_neg (by omega)], by unfold hiN; rw [if_neg (by omega), if_neg (by omega)]⟩
  unfold moreN
  by_cases h1 : c < 128
  · simp [h1]
  · by_cases h2 : 194 ≤ c ∧ c ≤ 223
    · obtain ⟨a, b⟩ := q1 h2
      rw [if_neg h1, if_pos h2]
      exact .inr (.inr (.inl ⟨rfl, h2.1, h2.2, a, b⟩))
    · by_cases h3 : 224 ≤ c ∧ c ≤ 239
      · simp [h1, h2, h3]
      · by_cases h4 : 240 ≤ c ∧ c ≤ 244
        · simp [h1, h2, h3, h4]
        · simp [h1, h2, h3, h4]

theorem lo_le {c x : Nat} (h : 128 ≤ x) (h1 : c = 224 → 160 ≤ x) (h2 : c = 240 → 144 ≤ x) : loN c ≤ x := by
  unfold loN
  split
  · exact h1 (by assumption)
  · split
    · exact h2 (by assumption)
    · exact h
theorem hi_ge {c x : Nat} (h : x ≤ 191) (h1 : c = 237 → x ≤ 159) (h2 : c = 244 → x ≤ 143) : x ≤ hiN c := by
  unfold hiN
  split
  · exact h1 (by assumption)
  · split
    · exact h2 (by assumption)
    · exact h

theorem lo_hi (c : Nat) : 128 ≤ loN c ∧ hiN c ≤ 191 := by
  unfold loN hiN
  repeat' split
  all_goals omega

/-- THE DECODER READS WHAT WAS ENCODED. -/
theorem piece_enc (r : Nat) (h : isCh r) (t : List UInt8) : piece (enc r ++ t) = (r, (enc r).length, 0) := by
  unfold isCh at h
  unfold enc
  by_cases h1 : r < 128
  · have b0 := bt_toNat r (by omega)
    simp only [h1, if_true, List.cons_append, List.nil_append, piece, b0, moreN, List.length_cons, List.length_nil]
  · by_cases h2 : r < 2048
    · have b0 := bt_toNat (192 + r / 64) (by omega)
      have b1 := bt_toNat (128 + r % 64) (by omega)
      have e1 : moreN (192 + r / 64) = 1 := by unfold moreN; rw [if_neg (by omega), if_pos (by omega)]
      have e2 : loN (192 + r / 64) = 128 := by unfold loN; rw [if_neg (by omega), if_neg (by omega)]
      have e3 : hiN (192 + r / 64) = 191 := by unfold hiN; rw [if_neg (by omega), if_neg (by omega)]
      simp only [h1, h2, if_true, if_false, List.cons_append, List.nil_append, piece, b0, e1, e2, e3, readGo, b1, modN, List.length_cons, List.length_nil]
      rw [if_neg (by decide), if_neg (by decide), if_neg (by omega)]
      refine Prod.ext ?_ rfl
      show (192 + r / 64) % 32 * 64 + (128 + r % 64) % 64 = r
      omega
    · by_cases h3 : r < 65536
      · have b0 := bt_toNat (224 + r / 4096) (by omega)
        have b1 := bt_toNat (128 + r / 64 % 64) (by omega)
        have b2 := bt_toNat (128 + r % 64) (by omega)
        have e1 : moreN (224 + r / 4096) = 2 := by unfold moreN; rw [if_neg (by omega), if_neg (by omega), if_pos (by omega)]
        have e2 : loN (224 + r / 4096) ≤ 128 + r / 64 % 64 := lo_le (by omega) (by omega) (by omega)
        have e3 : 128 + r / 64 % 64 ≤ hiN (224 + r / 4096) := hi_ge (by omega) (by omega) (by omega)
        simp only [h1, h2, h3, if_true, if_false, List.cons_append, List.nil_append, piece, b0, e1, readGo, b1, b2, modN, List.length_cons, List.length_nil]
        rw [if_neg (by decide), if_neg (by decide), if_neg (by omega), if_neg (by omega)]
        refine Prod.ext ?_ rfl
        show ((224 + r / 4096) % 16 * 64 + (128 + r / 64 % 64) % 64) * 64 + (128 + r % 64) % 64 = r
        omega
      · have b0 := bt_toNat (240 + r / 262144) (by omega)
        have b1 := bt_toNat (128 + r / 4096 % 64) (by omega)
        have b2 := bt_toNat (128 + r / 64 % 64) (by omega)
        have b3 := bt_toNat (128 + r % 64) (by omega)
        have e1 : moreN (240 + r / 262144) = 3 := by unfold moreN; rw [if_neg (by omega), if_neg (by omega), if_neg (by omega), if_pos (by omega)]
        have e2 : loN (240 + r / 262144) ≤ 128 + r / 4096 % 64 := lo_le (by omega) (by omega) (by omega)
        have e3 : 128 + r / 4096 % 64 ≤ hiN (240 + r / 262144) := hi_ge (by omega) (by omega) (by omega)
        simp only [h1, h2, h3, if_false, List.cons_append, List.nil_append, piece, b0, e1, readGo, b1, b2, b3, modN, List.length_cons, List.length_nil]
        rw [if_neg (by decide), if_neg (by decide), if_neg (by omega), if_neg (by omega), if_neg (by omega)]
        refine Prod.ext ?_ rfl
        show (((240 + r / 262144) % 8 * 64 + (128 + r / 4096 % 64) % 64) * 64 + (128 + r / 64 % 64) % 64) * 64 + (128 + r % 64) % 64 = r
        omega

theorem enc_ne (r : Nat) : enc r ≠ [] := by
  unfold enc
  repeat' split
  all_goals simp
theorem enc_cons (r : Nat) : ∃ c t, enc r = c :: t := by
  cases h : enc r with
  | nil => exact absurd h (enc_ne r)
  | cons c t => exact ⟨c, t, rfl⟩

theorem runes_enc (r : Nat) (h : isCh r) (t : List UInt8) : runes (enc r ++ t) = r :: runes t := by
  obtain ⟨c, u, e⟩ := enc_cons r
  have hp := piece_enc r h t
  have hd : (enc r ++ t).drop (enc r).length = t := by simp
  rw [e] at hp hd ⊢
  rw [List.cons_append] at hp hd ⊢
  rw [runes_cons, hp]
  show r :: runes ((c :: (u ++ t)).drop (c :: u).length) = _
  rw [hd]

theorem runes_encAll (rs : List Nat) (h : ∀ r ∈ rs, isCh r) (t : List UInt8) : runes (encAll rs ++ t) = rs ++ runes t := by
  induction rs with
  | nil => rfl
  | cons r rs ih =>
    have : encAll (r :: rs) ++ t = enc r ++ (encAll rs ++ t) := by simp [encAll]
    rw [this, runes_enc r (h r (by simp)), ih (fun x hx => h x (by simp [hx]))]
    rfl

/-- What comes of pieces is characters. -/
theorem readGo_ch (m c : Nat) (t : List UInt8) (hm : (m = 1 ∧ 194 ≤ c ∧ c ≤ 223) ∨ (m = 2 ∧ 224 ≤ c ∧ c ≤ 239) ∨ (m = 3 ∧ 240 ≤ c ∧ c ≤ 244)) :
    isCh (readGo m 1 (c % modN m) (loN c) (hiN c) t).1 ∧ ((readGo m 1 (c % modN m) (loN c) (hiN c) t).2.2 = 0 → ∃ u, bt c :: t = enc (readGo m 1 (c % modN m) (loN c) (hiN c) t).1 ++ u) := by
  have hch : isCh 65533 := by unfold isCh; omega
  have bk : ∀ x : UInt8, bt x.toNat = x := fun x => by simp [bt]
  rcases hm with ⟨rfl, h1, h2⟩ | ⟨rfl, h1, h2⟩ | ⟨rfl, h1, h2⟩
  · cases t with
    | nil => exact ⟨hch, fun h => by simp [readGo] at h⟩
    | cons x t =>
      have hx := x.toNat_lt
      have e2 : loN c = 128 := by unfold loN; rw [if_neg (by omega), if_neg (by omega)]
      have e3 : hiN c = 191 := by unfold hiN; rw [if_neg (by omega), if_neg (by omega)]
      simp only [readGo, e2, e3, modN, if_true]
      by_cases hb : x.toNat < 128 ∨ 191 < x.toNat
      · rw [if_pos hb]; exact ⟨hch, fun h => by simp at h⟩
      · rw [if_neg hb]
        refine ⟨by unfold isCh; simp only; omega, fun _ => ⟨t, ?_⟩⟩
        show bt c :: x :: t = enc (c % 32 * 64 + x.toNat % 64) ++ t
        unfold enc
        rw [if_neg (by omega), if_pos (by omega)]
        rw [show 192 + (c % 32 * 64 + x.toNat % 64) / 64 = c by omega, show 128 + (c % 32 * 64 + x.toNat % 64) % 64 = x.toNat by omega, bk]
        rfl
  · cases t with
    | nil => exact ⟨hch, fun h => by simp [readGo] at h⟩
    | cons x t =>
      have hx := x.toNat_lt
      by_cases hb : x.toNat < loN c ∨ hiN c < x.toNat
      · simp only [readGo]; rw [if_pos hb]; exact ⟨hch, fun h => by simp at h⟩
      · cases t with
        | nil => simp only [readGo]; rw [if_neg hb]; exact ⟨hch, fun h => by simp at h⟩
        | cons y t =>
          have hy := y.toNat_lt
          by_cases hb2 : y.toNat < 128 ∨ 191 < y.toNat
          · simp only [readGo]; rw [if_neg hb, if_pos hb2]; exact ⟨hch, fun h => by simp at h⟩
          · simp only [readGo]; rw [if_neg hb, if_neg hb2]
            have hl := lo_hi c
            have hlo : c = 224 → 160 ≤ x.toNat := fun e => by subst e; have : loN 224 = 160 := rfl; omega
            have hhi : c = 237 → x.toNat ≤ 159 := fun e => by subst e; have : hiN 237 = 159 := rfl; omega
            refine ⟨by unfold isCh modN; simp only; simp only [Nat.reduceEqDiff, if_true, if_false]; omega, fun _ => ⟨t, ?_⟩⟩
            show bt c :: x :: y :: t = enc ((c % 16 * 64 + x.toNat % 64) * 64 + y.toNat % 64) ++ t
            unfold enc
            rw [if_neg (by omega), if_neg (by omega), if_pos (by omega)]
            rw [show 224 + ((c % 16 * 64 + x.toNat % 64) * 64 + y.toNat % 64) / 4096 = c by omega, show 128 + ((c % 16 * 64 + x.toNat % 64) * 64 + y.toNat % 64) / 64 % 64 = x.toNat by omega, show 128 + ((c % 16 * 64 + x.toNat % 64) * 64 + y.toNat % 64) % 64 = y.toNat by omega, bk, bk]
            rfl
  · cases t with
    | nil => exact ⟨hch, fun h => by simp [readGo] at h⟩
    | cons x t =>
      have hx := x.toNat_lt
      by_cases hb : x.toNat < loN c ∨ hiN c < x.toNat
      · simp only [readGo]; rw [if_pos hb]; exact ⟨hch, fun h => by simp at h⟩
      · cases t with
        | nil => simp only [readGo]; rw [if_neg hb]; exact ⟨hch, fun h => by simp at h⟩
        | cons y t =>
          have hy := y.toNat_lt
          by_cases hb2 : y.toNat < 128 ∨ 191 < y.toNat
          · simp only [readGo]; rw [if_neg hb, if_pos hb2]; exact ⟨hch, fun h => by simp at h⟩
          · cases t with
            | nil => simp only [readGo]; rw [if_neg hb, if_neg hb2]; exact ⟨hch, fun h => by simp at h⟩
            | cons z t =>
              have hz := z.toNat_lt
              by_cases hb3 : z.toNat < 128 ∨ 191 < z.toNat
              · simp only [readGo]; rw [if_neg hb, if_neg hb2, if_pos hb3]; exact ⟨hch, fun h => by simp at h⟩
              · simp only [readGo]; rw [if_neg hb, if_neg hb2, if_neg hb3]
                have hl := lo_hi c
                have hlo : c = 240 → 144 ≤ x.toNat := fun e => by subst e; have : loN 240 = 144 := rfl; omega
                have hhi : c = 244 → x.toNat ≤ 143 := fun e => by subst e; have : hiN 244 = 143 := rfl; omega
                refine ⟨by unfold isCh modN; simp only; simp only [Nat.reduceEqDiff, if_false]; omega, fun _ => ⟨t, ?_⟩⟩
                show bt c :: x :: y :: z :: t = enc (((c % 8 * 64 + x.toNat % 64) * 64 + y.toNat % 64) * 64 + z.toNat % 64) ++ t
                unfold enc
                rw [if_neg (by omega), if_neg (by omega), if_neg (by omega)]
                rw [show 240 + (((c % 8 * 64 + x.toNat % 64) * 64 + y.toNat % 64) * 64 + z.toNat % 64) / 262144 = c by omega, show 128 + (((c % 8 * 64 + x.toNat % 64) * 64 + y.toNat % 64) * 64 + z.toNat % 64) / 4096 % 64 = x.toNat by omega, show 128 + (((c % 8 * 64 + x.toNat % 64) * 64 + y.toNat % 64) * 64 + z.toNat % 64) / 64 % 64 = y.toNat by omega, show 128 + (((c % 8 * 64 + x.toNat % 64) * 64 + y.toNat % 64) * 64 + z.toNat % 64) % 64 = z.toNat by omega, bk, bk, bk]
                rfl

theorem piece_ch (c : UInt8) (t : List UInt8) : isCh (piece (c :: t)).1 ∧ ((piece (c :: t)).2.2 = 0 → ∃ u, c :: t = enc (piece (c :: t)).1 ++ u) := by
  have hc := c.toNat_lt
  have bk : bt c.toNat = c := by simp [bt]
  rw [piece_cons]
  rcases more_cases c.toNat (by omega) with ⟨h, h2⟩ | h | ⟨h, h1, h2, _⟩ | ⟨h, h1, h2⟩ | ⟨h, h1, h2⟩
  · rw [if_pos h]
    refine ⟨by unfold isCh; simp only; omega, fun _ => ⟨t, ?_⟩⟩
    simp only [enc, h2, if_true, bk, List.cons_append, List.nil_append]
  · rw [if_neg (by omega), if_pos h]
    exact ⟨by unfold isCh; simp only; omega, fun h => by simp at h⟩
  · rw [if_neg (by omega), if_neg (by omega), h]
    have := readGo_ch 1 c.toNat t (.inl ⟨rfl, h1, h2⟩)
    rw [bk] at this
    exact this
  · rw [if_neg (by omega), if_neg (by omega), h]
    have := readGo_ch 2 c.toNat t (.inr (.inl ⟨rfl, h1, h2⟩))
    rw [bk] at this
    exact this
  · rw [if_neg (by omega), if_neg (by omega), h]
    have := readGo_ch 3 c.toNat t (.inr (.inr ⟨rfl, h1, h2⟩))
    rw [bk] at this
    exact this

theorem runes_ch (l : List UInt8) : ∀ r ∈ runes l, isCh r := by
  suffices h : ∀ n (l : List UInt8), l.length ≤ n → ∀ r ∈ runes l, isCh r from h l.length l (Nat.le_refl _)
  intro n
  induction n with
  | zero => intro l h r hr; cases l with
    | nil => simp [runes_nil] at hr
    | cons => simp at h
  | succ n ih =>
    intro l h r hr
    cases l with
    | nil => simp [runes_nil] at hr
    | cons c t =>
      have hs := piece_size c t
      rw [runes_cons] at hr
      rcases List.mem_cons.1 hr with rfl | hr
      · exact (piece_ch c t).1
      · refine ih _ ?_ r hr
        simp only [List.length_drop, List.length_cons] at h ⊢
        omega

theorem mend_valid (l : List UInt8) : Valid (mend l) := ⟨runes l, runes_ch l, rfl⟩
theorem mend_of_valid {l : List UInt8} (h : Valid l) : mend l = l := by
  obtain ⟨rs, h1, rfl⟩ := h
  have := runes_encAll rs h1 []
  rw [List.append_nil, runes_nil, List.append_nil] at this
  unfold mend
  rw [this]
theorem mend_mend (l : List UInt8) : mend (mend l) = mend l := mend_of_valid (mend_valid l)
theorem runes_mend (l : List UInt8) : runes (mend l) = runes l := by
  have := runes_encAll (runes l) (runes_ch l) []
  rwa [List.append_nil, runes_nil, List.append_nil] at this

theorem Valid.nil : Valid [] := ⟨[], by simp, rfl⟩
theorem Valid.append {a b : List UInt8} (ha : Valid a) (hb : Valid b) : Valid (a ++ b) := by
  obtain ⟨r, h1, rfl⟩ := ha
  obtain ⟨s, h2, rfl⟩ := hb
  exact ⟨r ++ s, fun x hx => by rcases List.mem_append.1 hx with h | h; exact h1 x h; exact h2 x h, by simp [encAll]⟩
theorem Valid.ascii {c : UInt8} (h : c.toNat < 128) : Valid [c] := ⟨[c.toNat], by simp [isCh]; omega, by simp [encAll, enc, h, bt]⟩
theorem Valid.asciis {l : List UInt8} (h : ∀ c ∈ l, c.toNat < 128) : Valid l := by
  induction l with
  | nil => exact Valid.nil
  | cons c t ih => exact (Valid.ascii (h c (by simp))).append (ih fun x hx => h x (by simp [hx]))

/-- Every byte of a rune beyond ASCII is beyond ASCII. -/
theorem enc_high {r : Nat} (h : isCh r) (h128 : 128 ≤ r) : ∀ c ∈ enc r, 128 ≤ c.toNat := by
  unfold isCh at h
  intro c hc
  unfold enc at hc
  have f : ∀ n, 128 ≤ n → n < 256 → 128 ≤ (bt n).toNat := fun n h1 h2 => by rw [bt_toNat n h2]; exact h1
  rw [if_neg (by omega)] at hc
  split at hc
  · simp at hc; rcases hc with rfl | rfl <;> (apply f <;> omega)
  · split at hc
    · simp at hc; rcases hc with rfl | rfl | rfl <;> (apply f <;> omega)
    · simp at hc; rcases hc with rfl | rfl | rfl | rfl <;> (apply f <;> omega)
theorem enc_low {r : Nat} (h : r < 128) : enc r = [bt r] := by unfold enc; rw [if_pos h]

/-- A valid text parts at a byte of ASCII. -/
theorem Valid.part {a t : List UInt8} {c : UInt8} (hc : c.toNat < 128) (h : Valid (a ++ c :: t)) : Valid a ∧ Valid t := by
  obtain ⟨rs, hrs, he⟩ := h
  induction rs generalizing a with
  | nil => simp [encAll] at he
  | cons r rs ih =>
    have hr := hrs r (by simp)
    have hrs' : ∀ x ∈ rs, isCh x := fun x hx => hrs x (by simp [hx])
    have he' : a ++ c :: t = enc r ++ encAll rs := by rw [he]; simp [encAll]
    by_cases hlow : r < 128
    · rw [enc_low hlow] at he'
      cases a with
      | nil =>
        simp only [List.nil_append, List.cons_append, List.cons.injEq] at he'
        exact ⟨Valid.nil, ⟨rs, hrs', he'.2⟩⟩
      | cons x a =>
        simp only [List.nil_append, List.cons_append, List.cons.injEq] at he'
        obtain ⟨h1, h2⟩ := ih hrs' he'.2
        refine ⟨?_, h2⟩
        rw [he'.1]
        exact (Valid.ascii (by rw [bt_toNat _ (by omega)]; exact hlow) : Valid [bt r]).append h1
    · have hh := enc_high hr (by omega)
      have key : ∀ (e a : List UInt8), (∀ x ∈ e, 128 ≤ x.toNat) → a ++ c :: t = e ++ encAll rs → ∃ a', a = e ++ a' ∧ a' ++ c :: t = encAll rs := by
        intro e
        induction e with
        | nil => intro a _ h; exact ⟨a, rfl, h⟩
        | cons y e ih2 =>
          intro a hy h
          cases a with
          | nil =>
            simp only [List.nil_append, List.cons_append, List.cons.injEq] at h
            have := hy y (by simp)
            rw [← h.1] at this
            omega
          | cons x a =>
            simp only [List.cons_append, List.cons.injEq] at h
            obtain ⟨a', h1, h2⟩ := ih2 a (fun z hz => hy z (by simp [hz])) h.2
            exact ⟨a', by rw [h1, h.1]; rfl, h2⟩
      obtain ⟨a', h1, h2⟩ := key (enc r) a hh he'
      obtain ⟨h3, h4⟩ := ih hrs' h2
      rw [h1]
      exact ⟨Valid.append (⟨[r], by simpa using hr, by simp [encAll]⟩ : Valid (enc r)) h3, h4⟩

/-- Behind a valid beginning what is left is valid. -/
theorem Valid.rest {a b : List UInt8} (ha : Valid a) (h : Valid (a ++ b)) : Valid b := by
  obtain ⟨rs, hrs, rfl⟩ := ha
  have h1 := mend_of_valid h
  unfold mend at h1
  rw [runes_encAll rs hrs b] at h1
  have h2 : encAll (rs ++ runes b) = encAll rs ++ encAll (runes b) := by simp [encAll]
  rw [h2] at h1
  have := List.append_cancel_left h1
  exact ⟨runes b, runes_ch b, this.symm⟩

end Go.Proofs.YtabagfhnkdhjdaaGreatDoor
