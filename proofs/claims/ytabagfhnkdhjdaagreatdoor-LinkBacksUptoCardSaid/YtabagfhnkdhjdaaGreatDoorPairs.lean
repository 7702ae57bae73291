/- link.Pairs: the names and values of a query: the walk. -/
import Derived.Test.YtabagfhnkdhjdaaGreatDoorDecode
import Derived.Lib.SplitLaws
import Derived.Lib.ReplaceLaws
set_option linter.unusedVariables false
set_option maxRecDepth 100000
namespace Go.Proofs.YtabagfhnkdhjdaaGreatDoor
open Go.RowKit Go.Lib

/-! The package variable that the standard library's searches read. -/
def MaxAt (w : World) : Prop := 0 < w.heap.size ∧ ∃ m : Int, w.cell? ⟨0, 0, none⟩ = some (.int .i64 m)
theorem MaxAt.below {w w' : World} (h : MaxAt w) (hb : Below w.heap.size w w') : MaxAt w' := by
  obtain ⟨h1, m, h2⟩ := h
  exact ⟨Nat.lt_of_lt_of_le h1 hb.size, m, (hb.cell (p := ⟨0, 0, none⟩) h1).trans h2⟩
theorem own_base {w : World} {b b' size n : Nat} {e : TypeId} {v : Value} {xs : List Value} (h : w.ownsRow b e size v n xs) (hb : b' ≤ b) : w.ownsRow b' e size v n xs := by
  refine ⟨h.1, ?_⟩
  rcases h.2 with h0 | ⟨g, cap, cur, hv, hg, r⟩
  · exact .inl h0
  · exact .inr ⟨g, cap, cur, hv, Nat.le_trans hb hg, r⟩

/-! + stands for a space. -/
def plusB (c : UInt8) : UInt8 := if c = 43 then 32 else c
theorem index_one (z : UInt8) : ∀ (s : List UInt8), (Lib.index s [z] = -1 ∧ ∀ b ∈ s, b ≠ z) ∨ ∃ a b, s = a ++ z :: b ∧ (∀ x ∈ a, x ≠ z) ∧ Lib.index s [z] = (a.length : Nat)
  | [] => .inl ⟨rfl, by simp⟩
  | c :: l => by
    by_cases hc : c = z
    · subst hc
      refine .inr ⟨[], l, rfl, by simp, ?_⟩
      unfold Lib.index
      rw [if_pos (by simp [List.isPrefixOf])]; rfl
    · have hp : List.isPrefixOf [z] (c :: l) = false := by simp [List.isPrefixOf, Ne.symm hc]
      have he : Lib.index (c :: l) [z] = if Lib.index l [z] == -1 then -1 else Lib.index l [z] + 1 := by
        conv => lhs; unfold Lib.index
        rw [if_neg (by rw [hp]; exact Bool.false_ne_true)]
      rcases index_one z l with ⟨h1, h2⟩ | ⟨a, b, h1, h2, h3⟩
      · left
        refine ⟨by rw [he, h1]; rfl, fun x hx => ?_⟩
        rcases List.mem_cons.1 hx with rfl | hx
        · exact hc
        · exact h2 x hx
      · right
        refine ⟨c :: a, b, by rw [h1]; rfl, fun x hx => ?_, ?_⟩
        · rcases List.mem_cons.1 hx with rfl | hx
          · exact hc
          · exact h2 x hx
        · rw [he, h3, if_neg (by rw [beq_iff_eq]; omega)]
          simp
theorem plusB_map {l : List UInt8} (h : ∀ b ∈ l, b ≠ 43) : l.map plusB = l := by
  conv => rhs; rw [← List.map_id l]
  apply List.map_congr_left
  intro b hb
  unfold plusB
  rw [if_neg (h b hb)]; rfl
theorem replace43 : ∀ (k : Nat) (s : List UInt8), s.count 43 ≤ k → Lib.replaceK [43] [32] k s = s.map plusB
  | 0, s, h => by
    have : 43 ∉ s := by rw [← List.count_eq_zero]; omega
    rw [plusB_map (fun b hb e => this (e ▸ hb))]; rfl
  | k + 1, s, h => by
    rcases index_one 43 s with ⟨h1, h2⟩ | ⟨a, b, h1, h2, h3⟩
    · rw [plusB_map h2, Lib.replaceK, if_pos (by rw [h1]; rfl)]
    · rw [Lib.replaceK_hit _ _ _ _ _ h3, h1]
      have e1 : (a ++ 43 :: b).take a.length = a := by simp
      have e2 : (a ++ 43 :: b).drop (a.length + [(43 : UInt8)].length) = b := by simp
      rw [e1, e2, replace43 k b (by rw [h1, List.count_append, List.count_cons_self] at h; omega), List.map_append, plusB_map h2]
      simp [plusB]
theorem replaceAll43 (s : List UInt8) : Lib.replaceAll s [43] [32] = s.map plusB := by
  unfold Lib.replaceAll Lib.replace
  rw [if_neg (by decide)]
  exact replace43 _ s (by unfold Lib.replaceNum; rw [if_pos (.inl (by decide)), Lib.count_one]; exact Nat.le_refl _)

/-! say. -/
def sayL (l : List UInt8) : List UInt8 := decL (l.map plusB)
def sayB (s : ByteArray) : ByteArray := mkB (sayL s.data.toList)
set_option maxHeartbeats 1000000 in
theorem say_any (s : ByteArray) (w : World) (hs : s.size ≤ 400000000) (hg : MaxAt w) :
    Calls Tryz.prog 29 #[.string s] w fun e w' => e = .returned (.string (sayB s)) ∧ Below w.heap.size w w' := by
  obtain ⟨_, m, hm⟩ := hg
  have hc : Lib.countB s ⟨#[43]⟩ ≤ s.size + 1 := by
    have := Lib.count_le s.data.toList [43]
    rw [← size_eq] at this
    exact this
  have hr := Tryz.strings_ReplaceAll s ⟨#[43]⟩ ⟨#[32]⟩ m w (by omega) hm (by decide) (by
    show s.size + Lib.countB s ⟨#[43]⟩ * 1 ≤ _
    omega)
  have e : Lib.replaceAll s.data.toList (⟨#[43]⟩ : ByteArray).data.toList (⟨#[32]⟩ : ByteArray).data.toList = s.data.toList.map plusB := replaceAll43 _
  rw [e] at hr
  obtain ⟨R, hR⟩ : ∃ R : ByteArray, (⟨(s.data.toList.map plusB).toArray⟩ : ByteArray) = R := ⟨_, rfl⟩
  have hRd : R.data.toList = s.data.toList.map plusB := by rw [← hR]
  have hRs : R.size ≤ 400000000 := by
    rw [size_eq, hRd, List.length_map, ← size_eq]; exact hs
  rw [hR] at hr
  have hd := fun w => decode_any R w (by omega)
  have HV : Hid ((⟨(decL R.data.toList).toArray⟩ : ByteArray) = sayB s) := by show _ = _; rw [hRd]; rfl
  clear hR hRd e hm hc
  go_enter Tryz.func29, Tryz.ntmps29
  go_wp2_with fail
  refine hr.mono ?_
  clear hr
  rintro e w1 ⟨rfl, hb1⟩
  have HB1 := Lib.hid hb1
  clear hb1
  go_wp2_with fail
  refine (hd _).mono ?_
  clear hd
  rintro e w2 ⟨rfl, hb2⟩
  have HB2 : Hid (Below w.heap.size w w2) := HB1.out.trans (hb2.mono HB1.out.size)
  clear hb2
  go_wp2_with fail
  go_ret
  exact ⟨by rw [HV.out]; rfl, HB2.out⟩

/-! Pairs. -/
def cutP (p : ByteArray) : ByteArray × ByteArray := (mkB (Lib.cut p.data.toList [61]).1, mkB (Lib.cut p.data.toList [61]).2.1)
def pairP (p : ByteArray) : ByteArray × ByteArray := (sayB (cutP p).1, sayB (cutP p).2)
def pairsL (ps : List ByteArray) : List (ByteArray × ByteArray) := (ps.filter (fun p => decide (0 < p.size))).map pairP
def piecesB (s : ByteArray) : List ByteArray := Lib.splitB ⟨#[38]⟩ 0 (Lib.countB s ⟨#[38]⟩) s

theorem split_mem (sep : ByteArray) : ∀ (k : Nat) (s p : ByteArray), p ∈ Lib.splitB sep 0 k s → p.size ≤ s.size
  | 0, s, p, h => by
    rw [Lib.splitB_zero] at h
    simp at h; subst h; exact Nat.le_refl _
  | k + 1, s, p, h => by
    unfold Lib.splitB at h
    split at h
    · simp at h; subst h; exact Nat.le_refl _
    · rcases List.mem_cons.1 h with rfl | h
      · rw [ByteArray.size_extract]; omega
      · have := split_mem sep k _ p h
        rw [ByteArray.size_extract] at this; omega
theorem cut_len (l sep : List UInt8) : (Lib.cut l sep).1.length ≤ l.length ∧ (Lib.cut l sep).2.1.length ≤ l.length := by
  unfold Lib.cut
  split
  · simp only [List.length_take, List.length_drop]; omega
  · simp
theorem cutP_le (p : ByteArray) : (cutP p).1.size ≤ p.size ∧ (cutP p).2.size ≤ p.size := by
  have := cut_len p.data.toList [61]
  rw [← size_eq] at this
  refine ⟨?_, ?_⟩
  · show (mkB _).size ≤ _
    rw [size_eq]; exact this.1
  · show (mkB _).size ≤ _
    rw [size_eq]; exact this.2

theorem infoAt : (Tryz.prog.info? 36).map (fun i => (i.zero, i.size, i.bytes)) = some (some (.agg #[.string ⟨#[]⟩, .string ⟨#[]⟩]), 2, 32) := by kernel_rfl

set_option maxHeartbeats 8000000 in
theorem pairs_any (v : ByteArray) (w : World) (hv : v.size ≤ 100000000) (hg : MaxAt w) :
    Calls Tryz.prog 11 #[.string v] w fun e w' => ∃ g, e = .returned g ∧ w'.ownsRow w.heap.size 36 2 g (pairsL (piecesB (mendS v))).length (cdCells (pairsL (piecesB (mendS v)))) ∧ Below w.heap.size w w' := by
  have h1 : Calls Tryz.prog 18 #[.string v] w fun e w' => e = .returned (.string (mendS v)) ∧ Below w.heap.size w w' := mend_any v w (by omega)
  have hml := mendS_le v
  generalize mendS v = m at h1 hml ⊢
  have hms : m.size ≤ 400000000 := by omega
  obtain ⟨i0, hi, hz0, hz1, hz2⟩ := info_parts infoAt
  have HG := Lib.hid hg
  have hsp0 := fun w mx hmx => Tryz.strings_Split m ⟨#[38]⟩ mx w (by omega) hmx (by decide)
  have hln := Lib.splitB_all ⟨#[38]⟩ (by decide) 0 _ m rfl
  have hpl := split_mem ⟨#[38]⟩ (Lib.countB m ⟨#[38]⟩) m
  have hcl := Lib.countB_le ⟨#[38]⟩ (by decide) m.size m (Nat.le_refl _)
  have HPS : piecesB m = Lib.splitB ⟨#[38]⟩ 0 (Lib.countB m ⟨#[38]⟩) m := rfl
  rw [HPS]
  rw [← hln] at hsp0
  generalize Lib.splitB ⟨#[38]⟩ 0 (Lib.countB m ⟨#[38]⟩) m = ps at hsp0 hln hpl ⊢
  have hpn : ps.length ≤ 400000001 := by omega
  have HSP := Lib.hid hsp0
  have HPL := Lib.hid hpl
  clear hg hml hln hcl HPS hsp0 hpl
  go_enter Tryz.func11, Tryz.ntmps11
  go_wp2_with fail
  refine h1.mono ?_
  clear h1
  rintro e w1 ⟨rfl, hb1⟩
  have hg1 := HG.out.below hb1
  obtain ⟨_, mx, hmx⟩ := id hg1
  have hsp := HSP.out w1 mx hmx
  clear HSP
  have hro := RowAt.new w1 (ps.map Value.string).toArray 9 (ps.map Value.string) (List.take_length)
  have hb2 := (Below.refl w1.heap.size w1).alloc (Nat.le_refl _) (.cells (ps.map Value.string).toArray 9)
  obtain ⟨W, hW⟩ : ∃ W, w1.alloc (.cells (ps.map Value.string).toArray 9) = W := ⟨_, rfl⟩
  obtain ⟨g, hgd⟩ : ∃ g, w1.heap.size = g := ⟨_, rfl⟩
  rw [hW] at hsp hro hb2
  have HGW := Lib.hid (hg1.below hb2)
  have HBW : Hid (Below w.heap.size w W) := hb1.trans (hb2.mono hb1.size)
  rw [hgd] at hsp hro
  have HRO := Lib.hid hro
  clear hmx hg1 hb1 hb2 hW hgd hro
  go_wp2_with fail
  refine hsp.mono ?_
  clear hsp
  rintro e w2 ⟨rfl, h2⟩
  rw [h2]
  clear h2 w2
  go_wp2_with fail
  go_loopw [14, 3, 6, 7, 8, 9] (fun i v _ _ _ _ wr => ∃ k : Nat, k ≤ ps.length ∧ i = .int .i64 k ∧ wr.ownsRow W.heap.size 36 2 v (pairsL (ps.take k)).length (cdCells (pairsL (ps.take k))) ∧ Below W.heap.size W wr) (fun i _ _ _ _ _ _ => ps.length - (RowKit.intOf i).toNat)
  case atStart => exact ⟨0, Nat.zero_le _, rfl, World.ownsRow_nil _ _ _ _, Below.refl _ _⟩
  case round =>
    obtain ⟨k, hk, rfl, hown, hbw⟩ := hrel
    have HOWN := Lib.hid hown
    have HB := Lib.hid hbw
    clear hown hbw
    by_cases hlt : k < ps.length
    · have hltI : (k : Int) < (ps.length : Int) := by omega
      have hcell : wr.cell? ⟨g, k, none⟩ = some (.string ps[k]) := ((HRO.out.below HB.out HRO.out.lt).cell (j := k) (by rw [List.getElem?_map, List.getElem?_eq_getElem hlt]; rfl))
      have hpz := HPL.out ps[k] (List.getElem_mem hlt)
      have HTK : Hid (ps.take (k + 1) = ps.take k ++ [ps[k]]) := by
        show _ = _
        rw [List.take_add_one, List.getElem?_eq_getElem hlt]; rfl
      have HFL : Hid ((pairsL (ps.take k)).length ≤ k) := by
        show (List.map _ _).length ≤ _
        rw [List.length_map]
        exact Nat.le_trans (List.length_filter_le _ _) (by rw [List.length_take]; omega)
      obtain ⟨p, hp⟩ : ∃ p, ps[k] = p := ⟨_, rfl⟩
      rw [hp] at hcell hpz HTK
      clear hp
      have HGr := Lib.hid (HGW.out.below HB.out)
      by_cases h0 : p.size = 0
      · have he := empty_true p h0
        have HF : Hid (pairsL (ps.take (k + 1)) = pairsL (ps.take k)) := by
          show _ = _
          rw [HTK.out]
          unfold pairsL
          rw [List.filter_append, List.filter_cons_of_neg (by simp [h0])]; simp
        go_wp2_with fail
        go_roundw
        case rel => exact ⟨k + 1, by omega, by go_num, by rw [HF.out]; exact HOWN.out, HB.out⟩
        case measure => simp [RowKit.intOf]; omega
      · have he := empty_false p (by omega)
        have HF : Hid (pairsL (ps.take (k + 1)) = pairsL (ps.take k) ++ [pairP p]) := by
          show _ = _
          rw [HTK.out]
          unfold pairsL
          rw [List.filter_append, List.filter_cons_of_pos (by simp; omega)]; simp
        obtain ⟨_, mx, hmx⟩ := HGr.out
        have hcut := Tryz.strings_Cut p ⟨#[61]⟩ mx wr (by omega) hmx
        have hcz := cutP_le p
        have HPP : Hid (pairP p = (sayB (cutP p).1, sayB (cutP p).2)) := rfl
        obtain ⟨n, hn⟩ : ∃ n, (cutP p).1 = n := ⟨_, rfl⟩
        obtain ⟨u, hu⟩ : ∃ u, (cutP p).2 = u := ⟨_, rfl⟩
        obtain ⟨q, hq⟩ : ∃ q, (Lib.cut p.data.toList (⟨#[61]⟩ : ByteArray).data.toList).2.2 = q := ⟨_, rfl⟩
        have hcut' : Calls Tryz.prog 33 #[.string p, .string ⟨#[61]⟩] wr fun e w' => e = .returned (.tuple #[.string n, .string u, .bool q]) ∧ ∃ j, w' = wr.drewN j := by
          rw [← hn, ← hu, ← hq]; exact hcut
        rw [hn, hu] at hcz HPP
        have hsn := fun w hw => say_any n w (by omega) hw
        have hsu := fun w hw => say_any u w (by omega) hw
        generalize sayB n = sn at hsn HPP
        generalize sayB u = su at hsu HPP
        clear hcut hn hu hq hmx
        go_wp2_with fail
        refine hcut'.mono ?_
        clear hcut'
        rintro e wz ⟨rfl, nq, hz⟩
        have hbz : Below wr.heap.size wr wz := by rw [hz]; exact Below.drewN (Below.refl _ _) _
        have HGz := Lib.hid (HGr.out.below hbz)
        have HOz := Lib.hid (own_below HOWN.out hbz)
        have HBz : Hid (Below W.heap.size W wz) := HB.out.trans (hbz.mono HB.out.size)
        clear hz hbz
        go_wp2_with fail
        refine (hsn _ HGz.out).mono ?_
        clear hsn
        rintro e w3 ⟨rfl, hb3⟩
        have HG3 := Lib.hid (HGz.out.below hb3)
        have HO3 := Lib.hid (own_below HOz.out hb3)
        have HB3 : Hid (Below W.heap.size W w3) := HBz.out.trans (hb3.mono HBz.out.size)
        clear hb3
        go_wp2_with fail
        refine (hsu _ HG3.out).mono ?_
        clear hsu
        rintro e w4 ⟨rfl, hb4⟩
        have HO4 := Lib.hid (own_below HO3.out hb4)
        have HB4 : Hid (Below W.heap.size W w4) := HB3.out.trans (hb4.mono HB3.out.size)
        clear hb4
        have hnew := cd_new w4 (sn, su) 36
        have hal := HB4.out.alloc HB4.out.size (.cells #[.string sn, .string su] 36)
        have HNEW := Lib.hid hnew
        have HAL := Lib.hid hal
        clear hnew hal
        go_wp2_with (at_builtin; refine wpList_append_own _ rfl _ _ 23 rfl W.heap.size 36 i0 (.agg #[.string ⟨#[]⟩, .string ⟨#[]⟩]) 2 32 Tryz.underlying23 hi hz0 hz1 hz2 rfl (by decide) _ (pairsL (ps.take k)).length (cdCells (pairsL (ps.take k))) rfl (HO4.out.alloc _) ⟨w4.heap.size, 0, none⟩ 1 1 (cdRow (sn, su)) rfl rfl HNEW.out (by simp [cdRow, Value.oneCell']) (by have := HFL.out; unfold maxLen; omega) (by have := HFL.out; omega) (by simp; have := HB4.out.size; omega) ?_; intro v' w5 hown' hgrow _)
        have HO5 : Hid (w5.ownsRow W.heap.size 36 2 v' (pairsL (ps.take k) ++ [(sn, su)]).length (cdCells (pairsL (ps.take k) ++ [(sn, su)]))) := by
          show World.ownsRow _ _ _ _ _ _ _
          rw [cdCells_snoc, List.length_append]
          exact hown'
        have HB5 : Hid (Below W.heap.size W w5) := HAL.out.grown hgrow (by simp; have := HB4.out.size; omega) (fun j ej => (HO4.out.lt j ej).1)
        clear hown' hgrow
        go_wp2_with fail
        go_roundw
        case rel => exact ⟨k + 1, by omega, by go_num, by rw [HF.out, HPP.out]; exact HO5.out, HB5.out⟩
        case measure => simp [RowKit.intOf]; omega
    · obtain rfl : k = ps.length := by omega
      have hown := HOWN.out
      rw [List.take_length] at hown
      go_wp2_with fail
      go_ret
      exact ⟨_, rfl, own_base hown HBW.out.size, HBW.out.trans (HB.out.mono HBW.out.size)⟩

end Go.Proofs.YtabagfhnkdhjdaaGreatDoor
