/- Go's own decoder of a string (the model's), against the pieces; runes to a string. -/
import Derived.Test.YtabagfhnkdhjdaaGreatDoorAll
import Derived.Laws.Cover4
import Derived.Laws.RangeAny
set_option linter.unusedVariables false
set_option maxRecDepth 100000
namespace Go.Proofs.YtabagfhnkdhjdaaGreatDoor
open Go.RowKit Go.Lib

def dec (l : List UInt8) : Nat × Nat := decodeN l.length (l.getD 0 0).toNat (l.getD 1 0).toNat (l.getD 2 0).toNat (l.getD 3 0).toNat

theorem get!_drop (s : ByteArray) (k j : Nat) : s.get! (k + j) = (s.data.toList.drop k).getD j 0 := by
  rw [List.getD_eq_getElem?_getD, List.getElem?_drop]
  by_cases h : k + j < s.size
  · have h' : k + j < s.data.toList.length := by rw [← size_eq]; exact h
    have e : s.get! (k + j) = s[k + j]'h := by
      simp [ByteArray.get!, getElem!_pos, h]
      rfl
    rw [e, List.getElem?_eq_getElem h']
    rfl
  · have h' : s.data.toList.length ≤ k + j := by rw [← size_eq]; omega
    rw [List.getElem?_eq_none h']
    have h2 : ¬ (k + j < s.data.size) := h
    simp only [ByteArray.get!]
    exact getElem!_neg s.data (k + j) h2

theorem decode_dec (s : ByteArray) (k : Nat) : Utf8.decode s k = dec (s.data.toList.drop k) := by
  rw [decode_at]
  unfold dec
  have h0 := get!_drop s k 0
  rw [Nat.add_zero] at h0
  rw [h0, get!_drop s k 1, get!_drop s k 2, get!_drop s k 3, List.length_drop, size_eq]

theorem dec_enc (r : Nat) (h : isCh r) (t : List UInt8) : dec (enc r ++ t) = (r, (enc r).length) := by
  unfold isCh at h
  unfold enc
  by_cases h1 : r < 128
  · have b0 := bt_toNat r (by omega)
    simp [h1, dec, b0, decodeN]
  · by_cases h2 : r < 2048
    · have b0 := bt_toNat (192 + r / 64) (by omega)
      have b1 := bt_toNat (128 + r % 64) (by omega)
      simp only [h1, h2, if_true, if_false, dec, List.cons_append, List.nil_append, List.getD_cons_zero, List.getD_cons_succ, b0, b1, List.length_cons, List.length_nil, decodeN]
      rw [if_neg (by omega), if_pos ⟨by omega, by omega, by omega⟩, if_pos (by omega)]
      exact Prod.ext (by show (192 + r / 64) % 32 * 64 + (128 + r % 64) % 64 = r; omega) rfl
    · by_cases h3 : r < 65536
      · have b0 := bt_toNat (224 + r / 4096) (by omega)
        have b1 := bt_toNat (128 + r / 64 % 64) (by omega)
        have b2 := bt_toNat (128 + r % 64) (by omega)
        simp only [h1, h2, h3, if_true, if_false, dec, List.cons_append, List.nil_append, List.getD_cons_zero, List.getD_cons_succ, b0, b1, b2, List.length_cons, List.length_nil, decodeN]
        rw [if_neg (by omega), if_neg (by omega), if_pos ⟨by omega, ⟨by omega, by omega⟩, by omega, by omega⟩]
        rw [show (224 + r / 4096) % 16 * 4096 + (128 + r / 64 % 64) % 64 * 64 + (128 + r % 64) % 64 = r by omega]
        rw [if_pos (by omega)]
      · have b0 := bt_toNat (240 + r / 262144) (by omega)
        have b1 := bt_toNat (128 + r / 4096 % 64) (by omega)
        have b2 := bt_toNat (128 + r / 64 % 64) (by omega)
        have b3 := bt_toNat (128 + r % 64) (by omega)
        simp only [h1, h2, h3, if_false, dec, List.cons_append, List.nil_append, List.getD_cons_zero, List.getD_cons_succ, b0, b1, b2, b3, List.length_cons, List.length_nil, decodeN]
        rw [if_neg (by omega), if_neg (by omega), if_neg (by omega), if_pos ⟨by omega, ⟨by omega, by omega⟩, ⟨by omega, by omega⟩, by omega, by omega⟩]
        rw [show (240 + r / 262144) % 8 * 262144 + (128 + r / 4096 % 64) % 64 * 4096 + (128 + r / 64 % 64) % 64 * 64 + (128 + r % 64) % 64 = r by omega]
        rw [if_pos (by omega)]

theorem bk (x : UInt8) : bt x.toNat = x := by simp [bt]

/-- What is decoded is an error of one byte, or a rune's own bytes. -/
theorem dec_conv (c : UInt8) (t : List UInt8) : dec (c :: t) = (65533, 1) ∨ ∃ r u, isCh r ∧ c :: t = enc r ++ u := by
  have hc := c.toNat_lt
  by_cases h1 : c.toNat < 128
  · exact .inr ⟨c.toNat, t, by unfold isCh; omega, by rw [enc_low h1, bk]; rfl⟩
  · match t with
    | [] =>
      refine .inl ?_
      simp only [dec, List.length_cons, List.length_nil, List.getD_cons_zero, List.getD_cons_succ, List.getD_nil, decodeN]
      rw [if_neg h1, if_neg (by omega), if_neg (by omega), if_neg (by omega)]
    | [x] =>
      have hx := x.toNat_lt
      simp only [dec, List.length_cons, List.length_nil, List.getD_cons_zero, List.getD_cons_succ, List.getD_nil, decodeN]
      rw [if_neg h1]
      by_cases h2 : c.toNat / 32 = 6 ∧ (1 < 0 + 1 + 1 ∧ x.toNat / 64 = 2)
      · rw [if_pos h2]
        by_cases h3 : c.toNat % 32 * 64 + x.toNat % 64 ≥ 128
        · refine .inr ⟨c.toNat % 32 * 64 + x.toNat % 64, [], by unfold isCh; omega, ?_⟩
          unfold enc
          rw [if_neg (by omega), if_pos (by omega), show 192 + (c.toNat % 32 * 64 + x.toNat % 64) / 64 = c.toNat by omega, show 128 + (c.toNat % 32 * 64 + x.toNat % 64) % 64 = x.toNat by omega, bk, bk]
          rfl
        · rw [if_neg h3]; exact .inl rfl
      · rw [if_neg h2, if_neg (by omega), if_neg (by omega)]; exact .inl rfl
    | [x, y] =>
      have hx := x.toNat_lt
      have hy := y.toNat_lt
      simp only [dec, List.length_cons, List.length_nil, List.getD_cons_zero, List.getD_cons_succ, List.getD_nil, decodeN]
      rw [if_neg h1]
      by_cases h2 : c.toNat / 32 = 6 ∧ (1 < 0 + 1 + 1 + 1 ∧ x.toNat / 64 = 2)
      · rw [if_pos h2]
        by_cases h3 : c.toNat % 32 * 64 + x.toNat % 64 ≥ 128
        · refine .inr ⟨c.toNat % 32 * 64 + x.toNat % 64, [y], by unfold isCh; omega, ?_⟩
          unfold enc
          rw [if_neg (by omega), if_pos (by omega), show 192 + (c.toNat % 32 * 64 + x.toNat % 64) / 64 = c.toNat by omega, show 128 + (c.toNat % 32 * 64 + x.toNat % 64) % 64 = x.toNat by omega, bk, bk]
          rfl
        · rw [if_neg h3]; exact .inl rfl
      · rw [if_neg h2]
        by_cases h4 : c.toNat / 16 = 14 ∧ (1 < 0 + 1 + 1 + 1 ∧ x.toNat / 64 = 2) ∧ (2 < 0 + 1 + 1 + 1 ∧ y.toNat / 64 = 2)
        · rw [if_pos h4]
          generalize hv : c.toNat % 16 * 4096 + x.toNat % 64 * 64 + y.toNat % 64 = v
          by_cases h5 : v ≥ 2048 ∧ (v < 55296 ∨ (57344 ≤ v ∧ v ≤ 1114111))
          · refine .inr ⟨v, [], by unfold isCh; omega, ?_⟩
            unfold enc
            rw [if_neg (by omega), if_neg (by omega), if_pos (by omega), show 224 + v / 4096 = c.toNat by omega, show 128 + v / 64 % 64 = x.toNat by omega, show 128 + v % 64 = y.toNat by omega, bk, bk, bk]
            rfl
          · rw [if_neg h5]; exact .inl rfl
        · rw [if_neg h4, if_neg (by omega)]; exact .inl rfl
    | x :: y :: z :: t =>
      have hx := x.toNat_lt
      have hy := y.toNat_lt
      have hz := z.toNat_lt
      simp only [dec, List.length_cons, List.getD_cons_zero, List.getD_cons_succ, decodeN]
      rw [if_neg h1]
      by_cases h2 : c.toNat / 32 = 6 ∧ (1 < t.length + 1 + 1 + 1 + 1 ∧ x.toNat / 64 = 2)
      · rw [if_pos h2]
        by_cases h3 : c.toNat % 32 * 64 + x.toNat % 64 ≥ 128
        · refine .inr ⟨c.toNat % 32 * 64 + x.toNat % 64, y :: z :: t, by unfold isCh; omega, ?_⟩
          unfold enc
          rw [if_neg (by omega), if_pos (by omega), show 192 + (c.toNat % 32 * 64 + x.toNat % 64) / 64 = c.toNat by omega, show 128 + (c.toNat % 32 * 64 + x.toNat % 64) % 64 = x.toNat by omega, bk, bk]
          rfl
        · rw [if_neg h3]; exact .inl rfl
      · rw [if_neg h2]
        by_cases h4 : c.toNat / 16 = 14 ∧ (1 < t.length + 1 + 1 + 1 + 1 ∧ x.toNat / 64 = 2) ∧ (2 < t.length + 1 + 1 + 1 + 1 ∧ y.toNat / 64 = 2)
        · rw [if_pos h4]
          generalize hv : c.toNat % 16 * 4096 + x.toNat % 64 * 64 + y.toNat % 64 = v
          by_cases h5 : v ≥ 2048 ∧ (v < 55296 ∨ (57344 ≤ v ∧ v ≤ 1114111))
          · refine .inr ⟨v, z :: t, by unfold isCh; omega, ?_⟩
            unfold enc
            rw [if_neg (by omega), if_neg (by omega), if_pos (by omega), show 224 + v / 4096 = c.toNat by omega, show 128 + v / 64 % 64 = x.toNat by omega, show 128 + v % 64 = y.toNat by omega, bk, bk, bk]
            rfl
          · rw [if_neg h5]; exact .inl rfl
        · rw [if_neg h4]
          by_cases h6 : c.toNat / 8 = 30 ∧ (1 < t.length + 1 + 1 + 1 + 1 ∧ x.toNat / 64 = 2) ∧ (2 < t.length + 1 + 1 + 1 + 1 ∧ y.toNat / 64 = 2) ∧ (3 < t.length + 1 + 1 + 1 + 1 ∧ z.toNat / 64 = 2)
          · rw [if_pos h6]
            generalize hv : c.toNat % 8 * 262144 + x.toNat % 64 * 4096 + y.toNat % 64 * 64 + z.toNat % 64 = v
            by_cases h5 : v ≥ 65536 ∧ (v < 55296 ∨ (57344 ≤ v ∧ v ≤ 1114111))
            · refine .inr ⟨v, t, by unfold isCh; omega, ?_⟩
              unfold enc
              rw [if_neg (by omega), if_neg (by omega), if_neg (by omega), show 240 + v / 262144 = c.toNat by omega, show 128 + v / 4096 % 64 = x.toNat by omega, show 128 + v / 64 % 64 = y.toNat by omega, show 128 + v % 64 = z.toNat by omega, bk, bk, bk, bk]
              rfl
            · rw [if_neg h5]; exact .inl rfl
          · rw [if_neg h6]; exact .inl rfl

theorem enc_len (r : Nat) : 1 ≤ (enc r).length ∧ (enc r).length ≤ 4 := by
  unfold enc
  repeat' split
  all_goals simp

/-- Is the rune at the beginning the decoder's error? -/
def bad1 (l : List UInt8) : Bool := (dec l).1 == 65533 && (decide (l.length < 3) || l.take 3 != [239, 191, 189])

theorem bad1_good (r : Nat) (h : isCh r) (t : List UInt8) : bad1 (enc r ++ t) = false := by
  unfold bad1
  rw [dec_enc r h t]
  by_cases e : r = 65533
  · subst e
    have : enc 65533 = [239, 191, 189] := by decide
    rw [this]
    simp
  · simp [e]

theorem bad1_bad (c : UInt8) (t : List UInt8) (h : dec (c :: t) = (65533, 1)) : bad1 (c :: t) = true := by
  unfold bad1
  rw [h]
  simp only [beq_self_eq_true, Bool.true_and]
  by_cases hl : (c :: t).length < 3
  · rw [decide_eq_true hl]; rfl
  · by_cases ht : (c :: t).take 3 = [239, 191, 189]
    · exfalso
      have e : c :: t = enc 65533 ++ (c :: t).drop 3 := by
        have : enc 65533 = [239, 191, 189] := by decide
        rw [this, ← ht, List.take_append_drop]
      rw [e, dec_enc 65533 (by unfold isCh; omega)] at h
      have : (enc 65533).length = 3 := by decide
      rw [this] at h
      cases h
    · have : ((c :: t).take 3 != [239, 191, 189]) = true := by simpa using ht
      rw [this]; simp

theorem dec_size (c : UInt8) (t : List UInt8) : 1 ≤ (dec (c :: t)).2 ∧ (dec (c :: t)).2 ≤ t.length + 1 := by
  rcases dec_conv c t with h | ⟨r, u, hr, h⟩
  · rw [h]; simp
  · rw [h, dec_enc r hr]
    have h2 := congrArg List.length h
    have := enc_len r
    simp only [List.length_cons, List.length_append] at h2
    simp only
    omega

/-- No error in it. -/
def okF : Nat → List UInt8 → Bool
  | 0, _ => true
  | _ + 1, [] => true
  | n + 1, c :: t => !bad1 (c :: t) && okF n ((c :: t).drop (dec (c :: t)).2)
def okL (l : List UInt8) : Bool := okF l.length l

theorem okF_valid : ∀ (n : Nat) (l : List UInt8), l.length ≤ n → okF n l = true → Valid l := by
  intro n
  induction n with
  | zero => intro l h _; cases l with
    | nil => exact Valid.nil
    | cons => simp at h
  | succ n ih =>
    intro l h ho
    cases l with
    | nil => exact Valid.nil
    | cons c t =>
      simp only [okF, Bool.and_eq_true, Bool.not_eq_true'] at ho
      rcases dec_conv c t with hd | ⟨r, u, hr, he⟩
      · rw [bad1_bad c t hd] at ho; exact absurd ho.1 (by decide)
      · have hs := dec_size c t
        have ho2 := ih _ (by simp only [List.length_drop, List.length_cons] at h ⊢; omega) ho.2
        rw [he, dec_enc r hr] at ho2
        simp only [List.drop_left] at ho2
        rw [he]
        exact Valid.append (⟨[r], by simpa using hr, by simp [encAll]⟩ : Valid (enc r)) ho2

theorem okF_enough (n : Nat) (l : List UInt8) (h : l.length ≤ n) : okF n l = okL l := by
  unfold okL
  induction n using Nat.strongRecOn generalizing l with
  | ind n ih =>
    cases l with
    | nil => cases n <;> simp [okF]
    | cons c t =>
      cases n with
      | zero => simp at h
      | succ n =>
        have hs := dec_size c t
        simp only [List.length_cons] at h ⊢
        simp only [okF]
        congr 1
        have hl : ((c :: t).drop (dec (c :: t)).2).length ≤ t.length := by
          simp only [List.length_drop, List.length_cons]; omega
        rw [ih n (by omega) _ (by omega)]
        by_cases e : t.length < n + 1
        · rw [ih t.length (by omega) _ hl]
        · omega
theorem okL_nil : okL [] = true := rfl
theorem okL_cons (c : UInt8) (t : List UInt8) : okL (c :: t) = (!bad1 (c :: t) && okL ((c :: t).drop (dec (c :: t)).2)) := by
  have hs := dec_size c t
  rw [← okF_enough t.length ((c :: t).drop _) (by simp only [List.length_drop, List.length_cons]; omega)]
  rfl
theorem okL_mend {l : List UInt8} (h : okL l = true) : mend l = l := mend_of_valid (okF_valid _ l (Nat.le_refl _) h)

/-- Runes to a string. -/
theorem encode_enc (r : Nat) (h : isCh r) : Utf8.encode (r : Int) = ⟨(enc r).toArray⟩ := by
  have hv : Utf8.valid (r : Int) = true := by
    unfold isCh at h
    simp only [Utf8.valid, Bool.or_eq_true, Bool.and_eq_true, decide_eq_true_eq]
    omega
  unfold Utf8.encode
  rw [hv]
  simp only [if_true, Int.toNat_natCast]
  unfold enc bt
  repeat' split
  all_goals rfl

theorem runesBytes_encAll (rs : List Nat) (h : ∀ r ∈ rs, isCh r) : runesBytes (rs.map (fun r : Nat => (r : Int))) = ⟨(encAll rs).toArray⟩ := by
  suffices H : ∀ (rs : List Nat) (a : List UInt8), (∀ r ∈ rs, isCh r) → (rs.map (fun r : Nat => (r : Int))).foldl (fun r n => r ++ Utf8.encode n) (⟨a.toArray⟩ : ByteArray) = ⟨(a ++ encAll rs).toArray⟩ from H rs [] h
  intro rs
  induction rs with
  | nil => intro a _; simp [encAll]
  | cons r rs ih =>
    intro a h
    simp only [List.map_cons, List.foldl_cons]
    rw [encode_enc r (h r (by simp))]
    have e : (⟨a.toArray⟩ : ByteArray) ++ ⟨(enc r).toArray⟩ = ⟨(a ++ enc r).toArray⟩ := by
      apply ByteArray.ext
      simp
    rw [e, ih (a ++ enc r) (fun x hx => h x (by simp [hx]))]
    simp [encAll]

theorem runes_string {P : Program} (W : World) (src dst e : TypeId) (base : Nat) (v : Value) (rs : List Nat) (hrs : ∀ r ∈ rs, isCh r) (hs : P.underlying src = some (.slice e)) (he : P.underlying e = some (.int .i32)) (hd : P.underlying dst = some .string)
    (hown : W.ownsRow base e 1 v rs.length (runeCells rs)) : (convert src dst v).run P W = .ok (.string ⟨(encAll rs).toArray⟩) W := by
  rcases hown.2 with ⟨rfl, h0⟩ | ⟨g, cap, cur, rfl, _⟩
  · rw [run_convert_runes_nil W src dst e 0 0 hs he hd]
    have : rs = [] := List.length_eq_zero_iff.1 h0
    subst this
    rfl
  · have hrow := RowAt.owned hown
    have := run_convert_runes (P := P) W src dst e ⟨g, 0, none⟩ rs.length cap (rs.map (fun r : Nat => (r : Int))) (by simp) hs he hd (fun j hj => by
      rw [add_at]
      have hj2 : j < rs.length := by simpa using hj
      refine hrow.cell ?_
      simp [runeCells, List.getD, hj2])
    rw [this]
    congr 2
    rw [← runesBytes_encAll rs hrs, List.take_of_length_le (by simp)]

end Go.Proofs.YtabagfhnkdhjdaaGreatDoor
