/- link.Srcset: the candidates of a srcset: the walk. -/
import Derived.Test.YtabagfhnkdhjdaaGreatDoorSrcA
import Derived.Test.YtabagfhnkdhjdaaGreatDoorMend
set_option linter.unusedVariables false
set_option maxRecDepth 100000
namespace Go.Proofs.YtabagfhnkdhjdaaGreatDoor
open Go.RowKit Go.Lib

def mkB (l : List UInt8) : ByteArray := ⟨l.toArray⟩
theorem mkB_data (l : List UInt8) : (mkB l).data.toList = l := rfl
theorem mkB_of (s : ByteArray) : mkB s.data.toList = s := mk_data s
def skipW : List UInt8 → List UInt8
  | [] => []
  | c :: t => if whB c || c.toNat == 44 then skipW t else c :: t
def wordN : List UInt8 → Nat
  | [] => 0
  | c :: t => if whB c then 0 else wordN t + 1
def srcF : Nat → List UInt8 → List (ByteArray × ByteArray)
  | 0, _ => []
  | f + 1, s =>
    if (skipW s).isEmpty then []
    else if Lib.hasSuffix ((skipW s).take (wordN (skipW s))) [44] then
      (mkB (Lib.trimRightB ((skipW s).take (wordN (skipW s))) 44), mkB []) :: srcF f ((skipW s).drop (wordN (skipW s)))
    else (mkB ((skipW s).take (wordN (skipW s))), descS (mkB ((skipW s).drop (wordN (skipW s))))) :: srcF f (((skipW s).drop (wordN (skipW s))).drop (descN (mkB ((skipW s).drop (wordN (skipW s))))))
def srcL (s : List UInt8) : List (ByteArray × ByteArray) := srcF (s.length + 1) s

theorem skipW_len : ∀ (l : List UInt8), (skipW l).length ≤ l.length
  | [] => Nat.le_refl _
  | c :: t => by
    have := skipW_len t
    unfold skipW
    split
    · simp; omega
    · simp
theorem skipW_head : ∀ (l : List UInt8) (c : UInt8) (t : List UInt8), skipW l = c :: t → whB c = false
  | [], c, t, h => by simp [skipW] at h
  | d :: l, c, t, h => by
    unfold skipW at h
    by_cases hd : (whB d || d.toNat == 44) = true
    · rw [if_pos hd] at h; exact skipW_head l c t h
    · rw [if_neg hd] at h
      simp at h
      obtain ⟨rfl, _⟩ := h
      rw [Bool.or_eq_true] at hd
      cases hw : whB d
      · rfl
      · exact absurd (.inl hw) hd
theorem wordN_le : ∀ (l : List UInt8), wordN l ≤ l.length
  | [] => Nat.le_refl _
  | c :: t => by
    have := wordN_le t
    unfold wordN
    split
    · simp
    · simp; omega
theorem wordN_stop : ∀ (l : List UInt8) (k : Nat), (∀ x ∈ l.take k, whB x = false) → (∀ x, l[k]? = some x → whB x = true) → k ≤ l.length → wordN l = k
  | [], k, _, _, hk => by simp at hk; subst hk; rfl
  | c :: t, 0, _, h, _ => by
    have := h c rfl
    unfold wordN
    rw [if_pos this]
  | c :: t, k + 1, ha, h, hk => by
    have hc := ha c (by simp)
    unfold wordN
    rw [if_neg (by rw [hc]; exact Bool.false_ne_true), wordN_stop t k (fun x hx => ha x (by simp [hx])) (fun x hx => h x (by simpa using hx)) (by simpa using hk)]

def szV : Value → Nat
  | .string s => s.size
  | _ => 0

def okAll (l : List (ByteArray × ByteArray)) : Bool := !badAny l

theorem at_list (s : ByteArray) (i : Nat) (h : i < s.size) : s.data.toList[i]? = some s[i] := by
  rw [List.getElem?_eq_getElem (by rw [← size_eq]; exact h)]; rfl
theorem own_below {w w' : World} {base size n : Nat} {e : TypeId} {v : Value} {xs : List Value} (h : w.ownsRow base e size v n xs) (hb : Below w.heap.size w w') : w'.ownsRow base e size v n xs := by
  refine ⟨h.1, ?_⟩
  rcases h.2 with h0 | ⟨g, cap, cur, hv, hg, hh, r⟩
  · exact .inl h0
  · refine .inr ⟨g, cap, cur, hv, hg, ?_, r⟩
    rw [hb.block g (by
      apply Classical.byContradiction
      intro hn
      rw [Array.getElem?_eq_none (by omega)] at hh
      cases hh)]
    exact hh
theorem cd_new (w : World) (p : ByteArray × ByteArray) (e : TypeId) : ∀ (j : Nat) (u : Value), (cdRow p)[j]? = some u → (w.alloc (.cells #[.string p.1, .string p.2] e)).cell? ((⟨w.heap.size, 0, none⟩ : Addr).add j) = some u := fun j u hj => by
  have := RowAt.new w #[.string p.1, .string p.2] e (cdRow p) rfl
  rw [add_at]
  exact this.cell hj
theorem hasSuffix_byte (l : List UInt8) (c : UInt8) (h : Lib.hasSuffix l [c] = true) : l.getLast? = some c := by
  unfold Lib.hasSuffix at h
  obtain ⟨t, rfl⟩ := List.isSuffixOf_iff_suffix.1 h
  simp
theorem descN_le (s : ByteArray) : descN s ≤ s.size := by
  have h : ∀ (l : List UInt8) (b : Bool) (i : Nat), dPos l b = some i → i < l.length := by
    intro l
    induction l with
    | nil => intro b i h; simp [dPos] at h
    | cons c t ih =>
      intro b i h
      unfold dPos at h
      split at h
      · cases hd : dPos t true with
        | none => rw [hd] at h; cases h
        | some j => rw [hd] at h; have := ih _ _ hd; simp at h; simp; omega
      · split at h
        · cases hd : dPos t false with
          | none => rw [hd] at h; cases h
          | some j => rw [hd] at h; have := ih _ _ hd; simp at h; simp; omega
        · split at h
          · simp at h; simp; omega
          · cases hd : dPos t b with
            | none => rw [hd] at h; cases h
            | some j => rw [hd] at h; have := ih _ _ hd; simp at h; simp; omega
  unfold descN
  cases hd : dPos s.data.toList false with
  | none => exact Nat.le_refl _
  | some i => have := h _ _ _ hd; rw [← size_eq] at this; exact this
theorem descS_le {s : ByteArray} (hs : s.size ≤ 8000000) : (descS s).size ≤ 140737488355328 := by
  have h : ∀ z : ByteArray, z.size ≤ 8000000 → (squeezeS z).size ≤ 140737488355328 := fun z hz => by
    have := squeeze_join hz
    rw [size_eq]; exact this
  unfold descS
  cases dPos s.data.toList false with
  | none => exact h s hs
  | some i => exact h _ (by rw [ByteArray.size_extract]; omega)

set_option maxHeartbeats 8000000 in
theorem srcset_any (v : ByteArray) (w : World) (hv : v.size ≤ 2000000) :
    Calls Tryz.prog 5 #[.string v] w fun e w' => ∃ g, e = .returned (.tuple #[g, .bool (okAll (srcL (mend v.data.toList)))]) ∧ w'.ownsRow w.heap.size 27 2 g (srcL (mend v.data.toList)).length (cdCells (srcL (mend v.data.toList))) ∧ Below w.heap.size w w' := by
  have h1 := mend_any v w (by omega)
  have hml := mend_len v.data.toList
  rw [← size_eq] at hml
  obtain ⟨M, hM⟩ : ∃ M, mend v.data.toList = M := ⟨_, rfl⟩
  rw [hM] at h1 hml ⊢
  clear hM
  obtain ⟨m, hm⟩ : ∃ m : ByteArray, (⟨M.toArray⟩ : ByteArray) = m := ⟨_, rfl⟩
  have hmd : m.data.toList = M := by rw [← hm]
  have hms : m.size ≤ 8000000 := by rw [size_eq, hmd]; omega
  rw [hm] at h1
  have HMD := Lib.hid hmd
  obtain ⟨i0, hi, hz0, hz1, hz2⟩ := info_parts infoCd
  clear hm hmd hml
  go_enter Tryz.func5, Tryz.ntmps5
  go_wp2_with fail
  refine h1.mono ?_
  clear h1
  rintro e w1 ⟨rfl, hb1⟩
  have HB1 := Lib.hid hb1
  clear hb1
  go_wp2_with fail
  go_loopw [4, 5, 6, 7] (fun s v _ _ wr => ∃ (S : ByteArray) (pre : List (ByteArray × ByteArray)) (f : Nat), s = .string S ∧ srcL M = pre ++ srcF f S.data.toList ∧ S.size < f ∧ pre.length + S.size ≤ m.size ∧ (∀ p ∈ pre, p.2.size ≤ 140737488355328) ∧ wr.ownsRow w.heap.size 27 2 v pre.length (cdCells pre) ∧ Below w.heap.size w wr) (fun s _ _ _ _ => szV s)
  case atStart => exact ⟨m, [], M.length + 1, rfl, by rw [HMD.out]; rfl, by rw [size_eq, HMD.out]; omega, by simp, by simp, World.ownsRow_nil _ _ _ _, HB1.out⟩
  case round =>
    obtain ⟨S, pre, f, rfl, hsrc, hf, hpl, hpz, hown, hbw⟩ := hrel
    have HSRC := Lib.hid hsrc
    have HOWN := Lib.hid hown
    have HBW := Lib.hid hbw
    have HPZ := Lib.hid hpz
    clear hsrc hown hbw hpz
    go_upto_block 2 with fail
    go_cut [4] (fun s wx => ∃ x : ByteArray, s = .string x ∧ x.data.toList = skipW S.data.toList ∧ x.size ≤ S.size ∧ wx = wr)
    case first =>
      go_wp2
      go_loop [4] (fun s => ∃ x : ByteArray, s = .string x ∧ skipW S.data.toList = skipW x.data.toList ∧ x.size ≤ S.size) (fun s => szV s)
      case atStart => exact ⟨S, rfl, rfl, Nat.le_refl _⟩
      case round =>
        obtain ⟨x, rfl, hsk, hxl⟩ := hrel
        have HSK := Lib.hid hsk
        clear hsk
        by_cases h0 : x.size = 0
        · have he := empty_true x h0
          have hn := Lib.hid (nil_of_size x h0)
          go_wp2_with fail
          go_meet
          case rel => exact ⟨x, rfl, by rw [HSK.out, hn.out]; rfl, hxl, rfl⟩
        · have hpos : 0 < x.size := by omega
          have hposI : (0 : Int) < (x.size : Int) := by omega
          have h1I : (1 : Int) ≤ (x.size : Int) := by omega
          have he := empty_false x hpos
          have hd := drop_at x 0 hpos
          rw [List.drop_zero] at hd
          have hby := byte_le x[0]
          have hwh := fun w => white_any x[0] w
          have HD := Lib.hid hd
          clear hd
          cases hw : whB x[0]
          · rw [hw] at hwh
            have HW := Lib.hid hw
            clear hw
            cases hq : ((x[0].toNat : Int) == 44)
            · have HX : Hid (skipW x.data.toList = x.data.toList) := by
                rw [beq_eq_false_iff_ne] at hq
                show _ = _
                rw [HD.out, skipW, if_neg]
                rw [HW.out, Bool.false_or, beq_iff_eq]; omega
              go_wp2_with (go_at_call 19; refine (hwh _).mono ?_; rintro e w2 ⟨rfl, rfl⟩)
              go_meet
              case rel => exact ⟨x, rfl, by rw [HSK.out, HX.out], hxl, rfl⟩
            · have HX : Hid (skipW x.data.toList = skipW (x.data.toList.drop 1)) := by
                rw [beq_iff_eq] at hq
                show _ = _
                conv => lhs; rw [HD.out]
                rw [skipW, if_pos]
                rw [HW.out, Bool.false_or, beq_iff_eq]; omega
              go_wp2_with (go_at_call 19; refine (hwh _).mono ?_; rintro e w2 ⟨rfl, rfl⟩)
              go_round
              case rel => exact ⟨_, rfl, by rw [drop_ext, HSK.out, HX.out], by rw [ByteArray.size_extract]; omega⟩
              case measure => simp [szV, ByteArray.size_extract]; omega
          · rw [hw] at hwh
            have HX : Hid (skipW x.data.toList = skipW (x.data.toList.drop 1)) := by
              show _ = _
              conv => lhs; rw [HD.out]
              rw [skipW, if_pos (by rw [hw]; rfl)]
            clear hw
            go_wp2_with (go_at_call 19; refine (hwh _).mono ?_; rintro e w2 ⟨rfl, rfl⟩)
            go_round
            case rel => exact ⟨_, rfl, by rw [drop_ext, HSK.out, HX.out], by rw [ByteArray.size_extract]; omega⟩
            case measure => simp [szV, ByteArray.size_extract]; omega
    case rest =>
      obtain ⟨r, rfl, hrd, hrl, hwx⟩ := hcut
      subst hwx
      cases f with
      | zero => omega
      | succ f =>
      have HRD := Lib.hid hrd
      by_cases h0 : r.size = 0
      · have he := empty_true r h0
        have HL : Hid (srcL M = pre) := by
          show _ = _
          rw [HSRC.out, srcF, if_pos (by rw [← hrd, nil_of_size r h0]; rfl)]; simp
        clear hrd
        have hcf := containsFunc_any u5 pre wc (by omega) HPZ.out (pairs_own HOWN.out)
        go_wp2_with fail
        refine hcf.mono ?_
        clear hcf
        rintro e w4 ⟨rfl, hb4⟩
        have HB4 : Hid (Below w.heap.size w w4) := HBW.out.trans (hb4.mono HBW.out.size)
        have HOWN4 := Lib.hid (own_below HOWN.out hb4)
        clear hb4
        go_wp2_with fail
        go_ret2
        exact ⟨_, by rw [HL.out]; rfl, by rw [HL.out]; exact HOWN4.out, HB4.out⟩
      · have hpos : 0 < r.size := by omega
        have he := empty_false r hpos
        have hd := drop_at r 0 hpos
        rw [List.drop_zero] at hd
        have hr0 := skipW_head S.data.toList r[0] _ (by rw [← hrd, hd])
        have hwn := wordN_le r.data.toList
        rw [← size_eq] at hwn
        have hw1 : 1 ≤ wordN r.data.toList := by
          rw [hd, wordN, if_neg (by rw [hr0]; exact Bool.false_ne_true)]; omega
        have HSF : Hid (srcF (f + 1) S.data.toList = if Lib.hasSuffix (r.data.toList.take (wordN r.data.toList)) [44] then
            (mkB (Lib.trimRightB (r.data.toList.take (wordN r.data.toList)) 44), mkB []) :: srcF f (r.data.toList.drop (wordN r.data.toList))
          else (mkB (r.data.toList.take (wordN r.data.toList)), descS (mkB (r.data.toList.drop (wordN r.data.toList)))) :: srcF f ((r.data.toList.drop (wordN r.data.toList)).drop (descN (mkB (r.data.toList.drop (wordN r.data.toList)))))) := by
          show _ = _
          rw [srcF, ← hrd, if_neg (by rw [hd]; simp)]
        clear hrd hd hr0
        go_upto_block 4 with fail
        go_cut [6] (fun n wx => n = .int .i64 (wordN r.data.toList : Nat) ∧ wx = wc)
        case first =>
          go_wp2
          go_loop [6] (fun n => ∃ k : Nat, k ≤ r.size ∧ n = .int .i64 k ∧ ∀ x ∈ r.data.toList.take k, whB x = false) (fun n => r.size - (RowKit.intOf n).toNat)
          case atStart => exact ⟨0, Nat.zero_le _, rfl, by simp⟩
          case round =>
            obtain ⟨k, hk, rfl, hall⟩ := hrel
            have HALL := Lib.hid hall
            clear hall
            by_cases hlt : k < r.size
            · have hltI : (k : Int) < (r.size : Int) := by omega
              have hby := byte_le r[k]
              have hwh := fun w => white_any r[k] w
              have HAT := Lib.hid (at_list r k hlt)
              cases hw : whB r[k]
              · rw [hw] at hwh
                have HN : Hid (∀ x ∈ r.data.toList.take (k + 1), whB x = false) := fun x hx => by
                  rw [List.take_add_one, HAT.out] at hx
                  simp at hx
                  rcases hx with hx | rfl
                  · exact HALL.out x hx
                  · exact hw
                go_wp2_with (go_at_call 19; refine (hwh _).mono ?_; rintro e w2 ⟨rfl, rfl⟩)
                go_round
                case rel => exact ⟨k + 1, by omega, by go_num, HN.out⟩
                case measure => simp [RowKit.intOf]; omega
              · rw [hw] at hwh
                have HC : Hid (wordN r.data.toList = k) := wordN_stop _ _ HALL.out (fun x hx => by rw [HAT.out] at hx; obtain rfl := Option.some.inj hx; exact hw) (by rw [← size_eq]; omega)
                go_wp2_with (go_at_call 19; refine (hwh _).mono ?_; rintro e w2 ⟨rfl, rfl⟩)
                go_meet
                case rel => exact ⟨by rw [HC.out], rfl⟩
            · obtain rfl : k = r.size := by omega
              have HC : Hid (wordN r.data.toList = r.size) := wordN_stop _ _ HALL.out (fun x hx => by rw [List.getElem?_eq_none (by rw [← size_eq]; exact Nat.le_refl _)] at hx; cases hx) (by rw [← size_eq]; exact Nat.le_refl _)
              go_wp2_with fail
              go_meet
              case rel => exact ⟨by rw [HC.out], rfl⟩
        case rest =>
          obtain ⟨rfl, hwx⟩ := hcut
          subst hwx
          obtain ⟨wz, hwz⟩ : ∃ wz, wz = wc := ⟨_, rfl⟩
          subst hwz
          obtain ⟨n, hn⟩ : ∃ n, wordN r.data.toList = n := ⟨_, rfl⟩
          rw [hn] at hwn hw1 HSF ⊢
          clear hn
          have hnI : (n : Int) ≤ (r.size : Int) := by omega
          obtain ⟨lk, hlk⟩ : ∃ lk, r.extract 0 n = lk := ⟨_, rfl⟩
          obtain ⟨rs, hrs⟩ : ∃ rs, r.extract n r.size = rs := ⟨_, rfl⟩
          have hlkd : lk.data.toList = r.data.toList.take n := by rw [← hlk, take_mk]
          have hrsd : rs.data.toList = r.data.toList.drop n := by rw [← hrs, drop_ext]
          have hrsz : rs.size + n = r.size := by rw [← hrs, ByteArray.size_extract]; omega
          have hsf := fun w => Tryz.strings_HasSuffix lk ⟨#[44]⟩ w (by rw [← hlk, ByteArray.size_extract]; omega)
          rw [hlkd] at hsf
          obtain ⟨b, hb⟩ : ∃ b, Lib.hasSuffix (r.data.toList.take n) [44] = b := ⟨_, rfl⟩
          have hsf' : ∀ w, Calls Tryz.prog 20 #[.string lk, .string ⟨#[44]⟩] w fun e w' => e = .returned (.bool b) ∧ w' = w := by rw [← hb]; exact hsf
          rw [hb, ← hlkd, ← hrsd, mkB_of, mkB_of] at HSF
          have HLK := Lib.hid hlk
          have HRS := Lib.hid hrs
          have hlks : lk.size ≤ 8000000 := by rw [← hlk, ByteArray.size_extract]; omega
          have htr := fun w => Tryz.strings_TrimRight_one lk 44 (by decide) w (by omega)
          obtain ⟨tr, htr'⟩ : ∃ tr, mkB (Lib.trimRightB lk.data.toList 44) = tr := ⟨_, rfl⟩
          rw [htr'] at HSF
          have htr2 : ∀ w, Calls Tryz.prog 21 #[.string lk, .string ⟨#[44]⟩] w fun e w' => e = .returned (.string tr) ∧ w' = w := by rw [← htr']; exact htr
          have hds := fun w => descriptor_any rs w (by omega)
          have hdl := descN_le rs
          have hdz := descS_le (s := rs) (by omega)
          generalize descS rs = ds at hds HSF hdz
          generalize descN rs = dn at hds HSF hdl
          have hdI : (dn : Int) ≤ (rs.size : Int) := by omega
          clear hsf hb hlk hrs htr htr' hlkd
          have hrow := RowAt.new wz #[.string lk, .string ⟨#[]⟩] 27 [.string lk, .string ⟨#[]⟩] rfl
          have hbel := (Below.refl wz.heap.size wz).alloc (Nat.le_refl _) (.cells #[.string lk, .string ⟨#[]⟩] 27)
          go_upto_region 11 with fail
          rw [HLK.out, HRS.out]
          obtain ⟨w2, hw2⟩ : ∃ w2, wz.alloc (.cells #[.string lk, .string ⟨#[]⟩] 27) = w2 := ⟨_, rfl⟩
          obtain ⟨B, hB⟩ : ∃ B, wz.heap.size = B := ⟨_, rfl⟩
          rw [hw2] at hrow hbel ⊢
          rw [hB] at hrow ⊢
          have HR := Lib.hid hrow
          have HBL := Lib.hid hbel
          have HBB := Lib.hid hB
          have c0 := hrow.cell (j := 0) rfl
          have c1 := hrow.cell (j := 1) rfl
          have f0 := hrow.frozen (j := 0) (by simp)
          have hlt2 := hrow.lt
          clear hrow hbel hw2 hB
          go_upto_if 48 with (go_at_call 20; refine (hsf' _).mono ?_; rintro e w3 ⟨rfl, h3⟩; rw [h3]; clear h3 w3)
          go_cut [4] (fun s wx => ∃ (S' : ByteArray) (p : ByteArray × ByteArray), s = .string S' ∧ srcF (f + 1) S.data.toList = p :: srcF f S'.data.toList ∧ S'.size ≤ rs.size ∧ p.2.size ≤ 140737488355328 ∧ RowAt wx B (cdRow p) ∧ Below wz.heap.size wz wx)
          case first =>
            cases b
            · have HX : Hid (srcF (f + 1) S.data.toList = (lk, ds) :: srcF f (rs.data.toList.drop dn)) := by
                show _ = _
                rw [HSF.out, if_neg Bool.false_ne_true]
              clear c0 c1 f0
              go_wp2_with fail
              refine (hds _).mono ?_
              clear hds
              rintro e w3 ⟨rfl, hb3⟩
              have hr3 := HR.out.below hb3 hlt2
              have c1 := hr3.cell (j := 1) rfl
              have f1 := hr3.frozen (j := 1) (by simp)
              have HR3 := Lib.hid (hr3.set 1 (.string ds))
              have HB3 : Hid (Below wz.heap.size wz (w3.setCell ⟨B, 1, none⟩ (.string ds))) := Below.setCell (p := ⟨B, 1, none⟩) (HBL.out.trans (hb3.mono HBL.out.size)) (by show wz.heap.size ≤ B; rw [HBB.out]; exact Nat.le_refl _) _
              clear hr3 hb3
              go_wp2_with fail
              go_meet
              case rel =>
                refine ⟨_, (lk, ds), rfl, ?_, ?_, hdz, HR3.out, HB3.out⟩
                · rw [HX.out, drop_ext]
                · rw [ByteArray.size_extract]; omega
            · have HX : Hid (srcF (f + 1) S.data.toList = (tr, ⟨#[]⟩) :: srcF f rs.data.toList) := by
                show _ = _
                rw [HSF.out, if_pos rfl]; rfl
              have HR3 := Lib.hid (HR.out.set 0 (.string tr))
              have HB3 : Hid (Below wz.heap.size wz (w2.setCell ⟨B, 0, none⟩ (.string tr))) := Below.setCell (p := ⟨B, 0, none⟩) HBL.out (by show wz.heap.size ≤ B; rw [HBB.out]; exact Nat.le_refl _) _
              go_wp2_with (go_at_call 21; refine (htr2 _).mono ?_; rintro e w3 ⟨rfl, h3⟩; rw [h3]; clear h3 w3)
              go_meet
              case rel => exact ⟨rs, (tr, ⟨#[]⟩), rfl, HX.out, Nat.le_refl _, Nat.zero_le _, HR3.out, HB3.out⟩
          case rest =>
            obtain ⟨S', p, rfl, hx, hsl, hpz, hr4, hb4⟩ := hcut
            obtain ⟨pa, pb⟩ := p
            simp only at hpz
            have HX : Hid (srcL M = (pre ++ [(pa, pb)]) ++ srcF f S'.data.toList) := by
              show _ = _
              rw [HSRC.out, hx]; simp
            have HPZ2 : Hid (∀ p ∈ pre ++ [(pa, pb)], p.2.size ≤ 140737488355328) := fun p hp => by
              rcases List.mem_append.1 hp with h | h
              · exact HPZ.out p h
              · simp at h; subst h; exact hpz
            have HO4 := Lib.hid (own_below HOWN.out hb4)
            have HB4 : Hid (Below w.heap.size w wc) := HBW.out.trans (hb4.mono HBW.out.size)
            have c0 := hr4.cell (j := 0) rfl
            have c1 := hr4.cell (j := 1) rfl
            have hnew := cd_new wc (pa, pb) 27
            have hal := HB4.out.alloc HB4.out.size (.cells #[.string pa, .string pb] 27)
            have HNEW := Lib.hid hnew
            have HAL := Lib.hid hal
            clear hx hr4 hb4 hnew hal
            go_wp2_with (at_builtin; refine wpList_append_own _ rfl _ _ 22 rfl w.heap.size 27 i0 (.agg #[.string ⟨#[]⟩, .string ⟨#[]⟩]) 2 32 Tryz.underlying22 hi hz0 hz1 hz2 rfl (by decide) _ pre.length (cdCells pre) rfl (HO4.out.alloc _) ⟨wc.heap.size, 0, none⟩ 1 1 (cdRow (pa, pb)) rfl rfl HNEW.out (by simp [cdRow, Value.oneCell']) (by unfold maxLen; omega) (by omega) (by simp; have := HB4.out.size; omega) ?_; intro v' w5 hown' hgrow _)
            have HO5 : Hid (w5.ownsRow w.heap.size 27 2 v' (pre ++ [(pa, pb)]).length (cdCells (pre ++ [(pa, pb)]))) := by
              show World.ownsRow _ _ _ _ _ _ _
              rw [cdCells_snoc, List.length_append]
              exact hown'
            have HB5 : Hid (Below w.heap.size w w5) := HAL.out.grown hgrow (by simp; have := HB4.out.size; omega) (fun j ej => (HO4.out.lt j ej).1)
            clear hown' hgrow
            go_wp2_with fail
            go_roundw
            case rel => exact ⟨S', pre ++ [(pa, pb)], f, rfl, HX.out, by omega, by rw [List.length_append]; simp; omega, HPZ2.out, HO5.out, HB5.out⟩
            case measure => simp [szV]; omega

end Go.Proofs.YtabagfhnkdhjdaaGreatDoor
