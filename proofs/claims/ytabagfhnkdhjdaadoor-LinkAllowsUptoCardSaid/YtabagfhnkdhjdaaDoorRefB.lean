/- The reference's 'good': the longest good beginning. -/
import Derived.Test.YtabagfhnkdhjdaaDoorRefA
import Derived.Test.YtabagfhnkdhjdaaDoorRefP
set_option linter.unusedVariables false
set_option maxRecDepth 100000
namespace Go.Proofs.YtabagfhnkdhjdaaDoor
open Go.RowKit Go.Lib

theorem gd_low {c : UInt8} {t : List UInt8} (h : moreN c.toNat = 0) : gdN (c :: t) = 1 ∧ gdB (c :: t) = true := by
  have hp : piece (c :: t) = (c.toNat, 1, 0) := by rw [piece_cons, if_pos h]
  have hh : headN (c :: t) = c.toNat := rfl
  unfold gdN gdB
  rw [hh, hp, h]
  exact ⟨rfl, rfl⟩
theorem gd_bad {c : UInt8} {t : List UInt8} (h : moreN c.toNat = 9) : gdN (c :: t) = 0 ∧ gdB (c :: t) = false := by
  have hp : piece (c :: t) = (65533, 1, 1) := by rw [piece_cons, if_neg (by omega), if_pos h]
  have hh : headN (c :: t) = c.toNat := rfl
  unfold gdN gdB
  rw [hh, hp, if_pos h]
  exact ⟨rfl, rfl⟩
theorem gd_of {c : UInt8} {t : List UInt8} {r k w : Nat} (h : moreN c.toNat ≠ 9) (hp : piece (c :: t) = (r, k, w)) : gdN (c :: t) = k ∧ gdB (c :: t) = (w == 0) := by
  have hh : headN (c :: t) = c.toNat := rfl
  unfold gdN gdB
  rw [hh, hp, if_neg h]
  exact ⟨rfl, rfl⟩

def goodV (l : List UInt8) : Value := .tuple #[.int .i64 (gdN l), .bool (gdB l)]
theorem goodV_is {l : List UInt8} {k : Nat} {b : Bool} (h : gdN l = k ∧ gdB l = b) : Ending.returned (.tuple #[.int .i64 k, .bool b]) = Ending.returned (goodV l) := by
  unfold goodV; rw [h.1, h.2]

theorem drewN_add (w : World) (a b : Nat) : (w.drewN a).drewN b = w.drewN (a + b) := World.drewN_drewN _ _ _

set_option maxRecDepth 100000 in
set_option maxHeartbeats 1000000 in
theorem good_any (B o n cap : Nat) (l : List UInt8) (w : World) (hl : l.length = n) (hn : 0 < n) (hn2 : n ≤ 140737488355328)
    (hcell : ∀ j x, l[j]? = some x → w.cell? ⟨B, o + j, none⟩ = some (.int .u8 x.toNat)) :
    Calls Tryd.prog 90 #[.slice (some ⟨B, o, none⟩) n cap] w fun e w' => e = .returned (goodV l) ∧ ∃ nq, w.drewN nq = w' := by
  cases l with
  | nil => simp at hl; omega
  | cons c t =>
    have hnI : (0 : Int) < (n : Int) := by omega
    have hc0 := hcell 0 c rfl
    rw [Nat.add_zero] at hc0
    have HC := Lib.hid hcell
    have HL := Lib.hid hl
    clear hcell hl
    have hc := c.toNat_lt
    have hsz := fun w => rsize_any c w
    rcases more_cases c.toNat (by omega) with ⟨h, h2⟩ | h | h
    · have e : sizeN c.toNat = 1 := by unfold sizeN; rw [h]; rfl
      rw [e] at hsz
      have HG := Lib.hid (gd_low (t := t) h)
      clear h e
      go_enter Tryd.func90, Tryd.ntmps90
      go_wp2_with (go_at_call 94; refine (hsz _).mono ?_; rintro e w' ⟨rfl, rfl⟩)
      go_loop [5] (fun k => k = .int .i64 1) (fun _ => 0)
      case atStart => rfl
      case round =>
        subst hrel
        go_wp2
        go_ret2
        exact ⟨goodV_is HG.out, 0, rfl⟩
    · have e : sizeN c.toNat = 0 := by unfold sizeN; rw [h]; rfl
      rw [e] at hsz
      have HG := Lib.hid (gd_bad (t := t) h)
      clear h e
      go_enter Tryd.func90, Tryd.ntmps90
      go_wp2_with (go_at_call 94; refine (hsz _).mono ?_; rintro e w' ⟨rfl, rfl⟩)
      go_ret2
      exact ⟨goodV_is HG.out, 0, rfl⟩
    · obtain ⟨m, lo, hi, hm, hlo, hhi⟩ : ∃ m lo hi, moreN c.toNat = m ∧ loN c.toNat = lo ∧ hiN c.toNat = hi := ⟨_, _, _, rfl, rfl, rfl⟩
      have hm13 : 1 ≤ m ∧ m ≤ 3 := by omega
      obtain ⟨z, hz⟩ : ∃ z, m + 1 = z := ⟨_, rfl⟩
      have e : sizeN c.toNat = z := by unfold sizeN; rw [if_neg (by omega), hm, hz]
      rw [e] at hsz
      have HM : Hid (moreN c.toNat ≠ 9) := by show _ ≠ _; omega
      have HP : Hid (piece (c :: t) = readGo m 1 (c.toNat % modN m) lo hi t) := by
        show _ = _
        rw [piece_cons, if_neg (by omega), if_neg (by omega), hm, hlo, hhi]
      have HLO := Lib.hid hlo
      have HHI := Lib.hid hhi
      have hz2 : 2 ≤ z ∧ z ≤ 4 := by omega
      obtain ⟨hz3, hz4⟩ := hz2
      have hz0 : ((z : Int) == 0) = false := beq_eq_false_iff_ne.2 (by omega)
      have HZ := Lib.hid hz
      clear h hm hlo hhi e hz hm13
      go_enter Tryd.func90, Tryd.ntmps90
      go_wp2_with (go_at_call 94; refine (hsz _).mono ?_; rintro e w' ⟨rfl, rfl⟩)
      clear hsz
      go_loopw [5] (fun k wr => ∃ kk q lo' hi' a : Nat, 1 ≤ kk ∧ kk ≤ z ∧ kk ≤ n ∧ k = .int .i64 kk ∧ (kk = 1 → lo' = lo ∧ hi' = hi) ∧ (1 < kk → lo' = 128 ∧ hi' = 191) ∧ piece (c :: t) = readGo (z - kk) kk q lo' hi' (t.drop (kk - 1)) ∧ wr = w.drewN a) (fun k _ => z - (RowKit.intOf k).toNat)
      case atStart => exact ⟨1, _, lo, hi, 0, Nat.le_refl _, by omega, by omega, rfl, fun _ => ⟨rfl, rfl⟩, fun h => by omega, by rw [HP.out]; congr 1; have := HZ.out; omega, rfl⟩
      case round =>
        obtain ⟨kk, q, lo', hi', a, hk1, hkz, hkn, rfl, hq1, hq2, hrel2, rfl⟩ := hrel
        have HR := Lib.hid hrel2
        have HQ1 := Lib.hid hq1
        have HQ2 := Lib.hid hq2
        clear hrel2 hq1 hq2 HP
        by_cases hlt : kk < z
        · have hltI : (kk : Int) < (z : Int) := by omega
          by_cases hkn2 : kk < n
          · have hknI : (kk : Int) < (n : Int) := by omega
            have hlt2 : kk - 1 < t.length := by have := HL.out; simp at this; omega
            obtain ⟨x, hx⟩ : ∃ x, t[kk - 1] = x := ⟨_, rfl⟩
            have hxk : (c :: t)[kk]? = some x := by
              rw [show kk = (kk - 1) + 1 by omega, List.getElem?_cons_succ, List.getElem?_eq_getElem hlt2, hx]
            have hcx := HC.out kk x hxk
            have HE : Hid (t.drop (kk - 1) = x :: t.drop kk) := by
              show _ = _
              rw [List.drop_eq_getElem_cons hlt2, hx, show kk - 1 + 1 = kk by omega]
            have hxb := byte_le x
            clear hx hxk hlt2
            by_cases hb : x.toNat < lo' ∨ hi' < x.toNat
            · -- it breaks off here
              have HX : Hid (gdN (c :: t) = kk ∧ gdB (c :: t) = false) := by
                have h := HR.out
                rw [HE.out, readGo_bad _ _ _ _ _ _ _ (by omega) hb] at h
                exact gd_of HM.out h
              have hkz0 : ((kk : Int) == (z : Int)) = false := beq_eq_false_iff_ne.2 (by omega)
              by_cases h1 : kk = 1
              · have hs : secB c.toNat x.toNat = false := secB_false (by rw [HLO.out, HHI.out]; obtain ⟨e1, e2⟩ := HQ1.out h1; rw [e1, e2] at hb; exact hb)
                have hsec := fun w => rsecond_any c x w
                rw [hs] at hsec
                have hk1b : ((kk : Int) == 1) = true := beq_iff_eq.2 (by omega)
                subst h1
                clear hs hb
                have hone : (1 : Int) < (n : Int) := by omega
                have hkz1 : ((1 : Int) == (z : Int)) = false := beq_eq_false_iff_ne.2 (by omega)
                go_wp2
                go_quiet ((go_at_call 95; exact quiet_add_same (hsec _)))
                go_wp2
                go_ret2
                exact ⟨goodV_is HX.out, _, rfl⟩
              · have h128 : x.toNat < 128 ∨ 191 < x.toNat := by obtain ⟨e1, e2⟩ := HQ2.out (by omega); omega
                have hk1b : ((kk : Int) == 1) = false := beq_eq_false_iff_ne.2 (by omega)
                have hk1c : (1 : Int) < (kk : Int) := by omega
                have hk1d : decide ((1 : Int) < (kk : Int)) = true := decide_eq_true hk1c
                by_cases h3 : (x.toNat : Int) < 128
                · have h3d : decide ((x.toNat : Int) < 128) = true := decide_eq_true h3
                  clear hb h128 h1
                  go_wp2
                  go_quiet (fail)
                  go_wp2
                  go_ret2
                  exact ⟨goodV_is HX.out, _, rfl⟩
                · have h4 : (191 : Int) < (x.toNat : Int) := by omega
                  have h3d : decide ((x.toNat : Int) < 128) = false := decide_eq_false h3
                  clear hb h128 h1
                  go_wp2
                  go_quiet (fail)
                  go_wp2
                  go_ret2
                  exact ⟨goodV_is HX.out, _, rfl⟩
            · have HX : Hid (piece (c :: t) = readGo (z - (kk + 1)) (kk + 1) (q * 64 + x.toNat % 64) 128 191 (t.drop (kk + 1 - 1))) := by
                show _ = _
                rw [HR.out, HE.out, readGo_good _ _ _ _ _ _ _ (by omega) hb, show z - kk - 1 = z - (kk + 1) by omega, show kk + 1 - 1 = kk by omega]
              by_cases h1 : kk = 1
              · have hs : secB c.toNat x.toNat = true := secB_true (by rw [HLO.out, HHI.out]; obtain ⟨e1, e2⟩ := HQ1.out h1; rw [e1, e2] at hb; exact hb)
                have hsec := fun w => rsecond_any c x w
                rw [hs] at hsec
                have hk1b : ((kk : Int) == 1) = true := beq_iff_eq.2 (by omega)
                subst h1
                clear hs hb
                have hone : (1 : Int) < (n : Int) := by omega
                go_wp2
                go_quiet ((go_at_call 95; exact quiet_add_same (hsec _)))
                go_wp2
                go_roundw
                case rel => exact ⟨1 + 1, _, 128, 191, _, by omega, by omega, by omega, by go_num, fun h => by omega, fun _ => ⟨rfl, rfl⟩, HX.out, rfl⟩
                case measure => simp [RowKit.intOf]; omega
              · have h128 : ¬ (x.toNat < 128 ∨ 191 < x.toNat) := by obtain ⟨e1, e2⟩ := HQ2.out (by omega); omega
                have hk1b : ((kk : Int) == 1) = false := beq_eq_false_iff_ne.2 (by omega)
                have hk1c : (1 : Int) < (kk : Int) := by omega
                have hk1d : decide ((1 : Int) < (kk : Int)) = true := decide_eq_true hk1c
                have h3 : ¬ (x.toNat : Int) < 128 := by omega
                have h4 : ¬ (191 : Int) < (x.toNat : Int) := by omega
                have h3d : decide ((x.toNat : Int) < 128) = false := decide_eq_false h3
                clear hb h128 h1
                go_wp2
                go_quiet (fail)
                go_wp2
                go_roundw
                case rel => exact ⟨kk + 1, _, 128, 191, _, by omega, by omega, by omega, by go_num, fun h => by omega, fun _ => ⟨rfl, rfl⟩, HX.out, rfl⟩
                case measure => simp [RowKit.intOf]; omega
          · obtain rfl : kk = n := by omega
            have hkz0 : ((kk : Int) == (z : Int)) = false := beq_eq_false_iff_ne.2 (by omega)
            have HX : Hid (gdN (c :: t) = kk ∧ gdB (c :: t) = false) := by
              have h := HR.out
              rw [List.drop_of_length_le (by have := HL.out; simp at this; omega), readGo_nil _ _ _ _ _ (by omega)] at h
              exact gd_of HM.out h
            go_wp2
            go_ret2
            exact ⟨goodV_is HX.out, _, rfl⟩
        · obtain rfl : kk = z := by omega
          have HX : Hid (gdN (c :: t) = kk ∧ gdB (c :: t) = true) := by
            have h := HR.out
            rw [Nat.sub_self] at h
            exact gd_of HM.out h
          go_wp2
          go_ret2
          exact ⟨goodV_is HX.out, _, rfl⟩

end Go.Proofs.YtabagfhnkdhjdaaDoor
