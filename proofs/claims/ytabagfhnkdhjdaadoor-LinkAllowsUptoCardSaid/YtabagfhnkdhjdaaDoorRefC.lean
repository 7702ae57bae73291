/- The reference's Pieces: the runes of bytes. -/
import Derived.Test.YtabagfhnkdhjdaaDoorRefB
set_option linter.unusedVariables false
set_option maxRecDepth 100000
namespace Go.Proofs.YtabagfhnkdhjdaaDoor
open Go.RowKit Go.Lib

theorem infoPc : (Tryd.prog.info? 92).map (fun i => (i.zero, i.size, i.bytes)) = some (some (.agg #[.int .i32 0, .int .i64 0, .int .i64 0, .bool false]), 4, 32) := by kernel_rfl

def pcRow (p : Nat × Nat × Nat × Bool) : List Value := [.int .i32 (p.1 : Nat), .int .i64 (p.2.1 : Nat), .int .i64 (p.2.2.1 : Nat), .bool p.2.2.2]
def pcCells (ps : List (Nat × Nat × Nat × Bool)) : List Value := ps.flatMap pcRow
theorem pcCells_snoc (ps : List (Nat × Nat × Nat × Bool)) (p : Nat × Nat × Nat × Bool) : pcCells (ps ++ [p]) = pcCells ps ++ pcRow p := by simp [pcCells]

theorem pcs_drop {l : List UInt8} {k : Nat} {c : UInt8} {t : List UInt8} (h : l.drop k = c :: t) :
    pcs k (l.drop k) = ((piece (l.drop k)).1, k, (piece (l.drop k)).2.1, gdB (l.drop k)) :: pcs (k + (piece (l.drop k)).2.1) (l.drop (k + (piece (l.drop k)).2.1)) := by
  conv => lhs; rw [h]
  rw [pcs_cons, ← h, List.drop_drop]

theorem pc_new (w : World) (o : Obj) (p : Nat × Nat × Nat × Bool) : ∀ (j : Nat) (u : Value), (pcRow p)[j]? = some u → ((w.alloc o).alloc (.cells #[.int .i32 (p.1 : Nat), .int .i64 (p.2.1 : Nat), .int .i64 (p.2.2.1 : Nat), .bool p.2.2.2] 92)).cell? ((⟨w.heap.size + 1, 0, none⟩ : Addr).add j) = some u := by
  intro j u hj
  have := RowAt.new (w.alloc o) #[.int .i32 (p.1 : Nat), .int .i64 (p.2.1 : Nat), .int .i64 (p.2.2.1 : Nat), .bool p.2.2.2] 92 (pcRow p) rfl
  rw [World.size_alloc] at this
  rw [add_at]
  exact this.cell hj

theorem pc_cell2 {w w2 : World} {base n : Nat} {v : Value} {xs : List Value} {o : Obj} {p : Nat × Nat × Nat × Bool} (hown : w.ownsRow base 92 4 v n xs)
    (hg : ((w.alloc (.cells #[.int .i32 (p.1 : Nat), .int .i64 (p.2.1 : Nat), .int .i64 (p.2.2.1 : Nat), .bool p.2.2.2] 92)).alloc o).grownBy w2 v.ownBlock) : w2.cell? ⟨w.heap.size, 2, none⟩ = some (.int .i64 (p.2.2.1 : Nat)) := by
  have h1 := RowAt.new w #[.int .i32 (p.1 : Nat), .int .i64 (p.2.1 : Nat), .int .i64 (p.2.2.1 : Nat), .bool p.2.2.2] 92 (pcRow p) rfl
  have h2 := h1.alloc o
  have h3 := h2.same (hg.block w.heap.size (by simp; omega) (fun e => by
    have := (hown.lt w.heap.size e.symm).2
    omega))
  exact h3.cell (j := 2) rfl

set_option maxRecDepth 100000 in
set_option maxHeartbeats 2000000 in
theorem pieces_any (B cap : Nat) (l : List UInt8) (w : World) (hl : l.length ≤ 2199023255552) (hcap : l.length ≤ cap) (hrow : RowAt w B (byteCells l)) :
    Calls Tryd.prog 83 #[.slice (some ⟨B, 0, none⟩) l.length cap] w fun e w' =>
      ∃ v, e = .returned v ∧ w'.ownsRow w.heap.size 92 4 v (pcs 0 l).length (pcCells (pcs 0 l)) ∧ Below w.heap.size w w' := by
  obtain ⟨i0, hi, hz0, hz1, hz2⟩ := info_parts infoPc
  have hB := hrow.lt
  have HR := Lib.hid hrow
  clear hrow
  go_enter Tryd.func83, Tryd.ntmps83
  go_wp2
  go_loopw [3, 4, 5, 6, 7, 8, 9] (fun v at_ _ _ _ _ _ wr => ∃ (k : Nat) (pre : List (Nat × Nat × Nat × Bool)), k ≤ l.length ∧ pre.length ≤ k ∧ at_ = .int .i64 k ∧ pcs 0 l = pre ++ pcs k (l.drop k) ∧ wr.ownsRow w.heap.size 92 4 v pre.length (pcCells pre) ∧ Below w.heap.size w wr)
    (fun _ at_ _ _ _ _ _ _ => l.length - (RowKit.intOf at_).toNat)
  case atStart => exact ⟨0, [], Nat.zero_le _, Nat.le_refl _, rfl, rfl, World.ownsRow_nil _ _ _ _, Below.refl _ _⟩
  case round =>
    obtain ⟨k, pre, hk, hpk, rfl, hst, hown, hbel⟩ := hrel
    have HS := Lib.hid hst
    have HO := Lib.hid hown
    have HB := Lib.hid hbel
    have HRw : Hid (RowAt wr B (byteCells l)) := HR.out.below hbel hB
    have hsz := hbel.size
    clear hst hown hbel
    by_cases hlt : k < l.length
    · obtain ⟨c, t, hct⟩ : ∃ c t, l.drop k = c :: t := by
        cases h : l.drop k with
        | nil => have := congrArg List.length h; simp at this; omega
        | cons c t => exact ⟨c, t, rfl⟩
      have hlen2 : (l.drop k).length = l.length - k := List.length_drop
      have hkI : (k : Int) < (l.length : Int) := by omega
      have hkc : (k : Int) ≤ (cap : Int) := by omega
      have HST := Lib.hid (pcs_drop hct)
      have hgd := good_any B k (l.length - k) (cap - k) (l.drop k) wr hlen2 (by omega) (by omega) (fun j x hj => HRw.out.cell (byteCells_at (by rw [List.getElem?_drop] at hj; exact hj)))
      have hpp := piece_parts c t
      have hps := piece_size c t
      rw [← hct] at hpp hps
      have hck : l[k]? = some c := by
        have := congrArg (fun x => x[0]?) hct
        simpa [List.getElem?_drop] using this
      have htk : ∀ j x, t[j]? = some x → l[k + (j + 1)]? = some x := fun j x hj => by
        have := congrArg (fun x => x[j + 1]?) hct
        simp only [List.getElem?_drop, List.getElem?_cons_succ] at this
        rw [this, hj]
      have hlt2 : t.length + 1 = l.length - k := by rw [← hlen2, hct]; rfl
      obtain ⟨r, sz, wh, hp⟩ : ∃ r sz wh, piece (l.drop k) = (r, sz, wh) := ⟨_, _, _, rfl⟩
      obtain ⟨gn, hgn⟩ : ∃ gn, gdN (l.drop k) = gn := ⟨_, rfl⟩
      obtain ⟨gb, hgb⟩ : ∃ gb, gdB (l.drop k) = gb := ⟨_, rfl⟩
      unfold goodV at hgd
      rw [hgn, hgb] at hgd
      rw [hp, hgb] at HST
      rw [hp, hgn, hgb] at hpp
      rw [hp] at hps
      simp only at hpp hps
      obtain ⟨hp1, hp2⟩ := hps
      have HCK := Lib.hid hck
      have HTK := Lib.hid htk
      clear hp hgn hgb hct hlen2 hck htk
      rcases hpp with ⟨hm, rfl, rfl, he⟩ | ⟨hm, rfl, rfl, rfl⟩ | ⟨hm, rfl, hgz, hsz2, htl, hr⟩
      · simp only [Prod.mk.injEq] at he
        obtain ⟨rfl, rfl, rfl⟩ := he
        clear hm
        go_wp2_with fail
        refine hgd.mono ?_
        clear hgd
        rintro e w1 ⟨rfl, nq, hq⟩
        have HO1 : Hid (w1.ownsRow w.heap.size 92 4 u3 pre.length (pcCells pre)) := by show World.ownsRow _ _ _ _ _ _ _; rw [← hq]; exact HO.out
        have HB1 : Hid (Below w.heap.size w w1) := by show Below _ _ _; rw [← hq]; exact Below.drewN HB.out _
        have HR1 : Hid (RowAt w1 B (byteCells l)) := by show RowAt _ _ _; rw [← hq]; exact HRw.out
        have hsz1 : w.heap.size ≤ w1.heap.size := HB1.out.size
        have hB1 : B < w1.heap.size := by omega
        clear hq
        go_wp2_with (at_builtin; refine wpList_append_own _ rfl _ _ 89 rfl w.heap.size 92 i0 (.agg #[.int .i32 0, .int .i64 0, .int .i64 0, .bool false]) 4 32 Tryd.underlying89 hi hz0 hz1 hz2 rfl (by decide) _ _ _ rfl ((HO1.out.alloc _).alloc _) ⟨w1.heap.size + 1, 0, none⟩ 1 1 (pcRow (65533, k, 1, false)) rfl rfl (by exact pc_new w1 _ (65533, k, 1, false)) (by simp [pcRow, Value.oneCell']) (by unfold maxLen; omega) (by omega) (by simp; omega) ?_; intro v' w2 hown' hgrow _; have hc2 : w2.cell? ⟨w1.heap.size, 2, none⟩ = some (.int .i64 1) := pc_cell2 (p := (65533, k, 1, false)) HO1.out hgrow)
        have HO2 := Lib.hid hown'
        have HB2 : Hid (Below w.heap.size w w2) := ((HB1.out.alloc hsz1 _).alloc (by simp; omega) _).grown hgrow (by simp; omega) (fun j ej => (HO1.out.lt j ej).1)
        clear hown' hgrow
        go_wp2
        go_roundw
        case rel =>
          refine ⟨k + 1, pre ++ [(65533, k, 1, false)], by omega, by simp; omega, by go_num, ?_, ?_, HB2.out⟩
          · rw [HS.out, HST.out]; simp
          · rw [pcCells_snoc, List.length_append]; exact HO2.out
        case measure => simp [RowKit.intOf]; omega
      · have hz : ((gn : Int) == 0) = false := beq_eq_false_iff_ne.2 (by omega)
        go_wp2_with fail
        refine hgd.mono ?_
        clear hgd
        rintro e w1 ⟨rfl, nq, hq⟩
        have HO1 : Hid (w1.ownsRow w.heap.size 92 4 u3 pre.length (pcCells pre)) := by show World.ownsRow _ _ _ _ _ _ _; rw [← hq]; exact HO.out
        have HB1 : Hid (Below w.heap.size w w1) := by show Below _ _ _; rw [← hq]; exact Below.drewN HB.out _
        have HR1 : Hid (RowAt w1 B (byteCells l)) := by show RowAt _ _ _; rw [← hq]; exact HRw.out
        have hsz1 : w.heap.size ≤ w1.heap.size := HB1.out.size
        have hB1 : B < w1.heap.size := by omega
        clear hq
        go_wp2_with (at_builtin; refine wpList_append_own _ rfl _ _ 89 rfl w.heap.size 92 i0 (.agg #[.int .i32 0, .int .i64 0, .int .i64 0, .bool false]) 4 32 Tryd.underlying89 hi hz0 hz1 hz2 rfl (by decide) _ _ _ rfl ((HO1.out.alloc _).alloc _) ⟨w1.heap.size + 1, 0, none⟩ 1 1 (pcRow (65533, k, gn, false)) rfl rfl (by exact pc_new w1 _ (65533, k, gn, false)) (by simp [pcRow, Value.oneCell']) (by unfold maxLen; omega) (by omega) (by simp; omega) ?_; intro v' w2 hown' hgrow _; have hc2 : w2.cell? ⟨w1.heap.size, 2, none⟩ = some (.int .i64 (gn : Nat)) := pc_cell2 (p := (65533, k, gn, false)) HO1.out hgrow)
        have HO2 := Lib.hid hown'
        have HB2 : Hid (Below w.heap.size w w2) := ((HB1.out.alloc hsz1 _).alloc (by simp; omega) _).grown hgrow (by simp; omega) (fun j ej => (HO1.out.lt j ej).1)
        clear hown' hgrow
        go_wp2
        go_roundw
        case rel =>
          refine ⟨k + gn, pre ++ [(65533, k, gn, false)], by omega, by simp; omega, by go_num, ?_, ?_, HB2.out⟩
          · rw [HS.out, HST.out]; simp
          · rw [pcCells_snoc, List.length_append]; exact HO2.out
        case measure => simp [RowKit.intOf]; omega
      · obtain ⟨m, hmm⟩ : ∃ m, moreN c.toNat = m := ⟨_, rfl⟩
        rw [hmm] at hm htl hr hgz hsz2
        have hc256 := c.toNat_lt
        have hcx := HRw.out.cell (byteCells_at HCK.out)
        have HMM := Lib.hid hmm
        have hc128 : m = 0 → c.toNat < 128 := fun h => by
          rcases more_cases c.toNat (by omega) with h' | h' | h' | h' | h' <;> omega
        have HC8 := Lib.hid hc128
        clear hmm hc128
        obtain ⟨z, hzz⟩ : ∃ z, m + 1 = z := ⟨_, rfl⟩
        obtain rfl : sz = z := by omega
        obtain rfl : gn = sz := by omega
        clear hgz hsz2
        have HRR := Lib.hid hr
        clear hr
        have hq0 : startR c.toNat m < 128 := by
          unfold startR
          split
          · exact HC8.out (by assumption)
          · have : c.toNat % modN m < modN m := Nat.mod_lt _ (by unfold modN; split <;> (try split) <;> omega)
            have : modN m ≤ 32 := by unfold modN; split <;> (try split) <;> omega
            omega
        have HQ0 := Lib.hid hq0
        clear hq0
        have hm4 : m = 0 ∨ m = 1 ∨ m = 2 ∨ m = 3 := by omega
        clear hm
        go_wp2_with fail
        refine hgd.mono ?_
        clear hgd
        rintro e w1 ⟨rfl, nq, hq⟩
        have HO1 : Hid (w1.ownsRow w.heap.size 92 4 u3 pre.length (pcCells pre)) := by show World.ownsRow _ _ _ _ _ _ _; rw [← hq]; exact HO.out
        have HB1 : Hid (Below w.heap.size w w1) := by show Below _ _ _; rw [← hq]; exact Below.drewN HB.out _
        have HR1 : Hid (RowAt w1 B (byteCells l)) := by show RowAt _ _ _; rw [← hq]; exact HRw.out
        have hsz1 : w.heap.size ≤ w1.heap.size := HB1.out.size
        have hB1 : B < w1.heap.size := by omega
        have hcx1 := HR1.out.cell (byteCells_at HCK.out)
        clear hq hcx
        rcases hm4 with rfl | rfl | rfl | rfl
        · subst hzz
          go_wp2_with fail
          go_loop [8, 9] (fun rv iv => ∃ i q : Nat, 1 ≤ i ∧ i ≤ 1 ∧ iv = .int .i64 i ∧ rv = .int .i32 q ∧ q < 128 * 64 ^ (i - 1) ∧ q = foldR (startR c.toNat 0) (t.take (i - 1))) (fun _ iv => 1 - (RowKit.intOf iv).toNat)
          case atStart => exact ⟨1, startR c.toNat 0, Nat.le_refl _, by omega, rfl, by simp [startR], by have := HQ0.out; omega, rfl⟩
          case round =>
            obtain ⟨i, q, hi1, hiz, rfl, rfl, hq, hqf⟩ := hrel
            have HQF := Lib.hid hqf
            clear hqf
            by_cases hiz2 : i < 1
            · exfalso; omega
            · obtain rfl : i = 1 := by omega
              have hrq : Hid (r = q) := by show r = q; rw [HRR.out, HQF.out]
              clear HQF HRR
              have hqr := hrq.out
              subst hqr
              clear hrq
              go_wp2_with (at_builtin; refine wpList_append_own _ rfl _ _ 89 rfl w.heap.size 92 i0 (.agg #[.int .i32 0, .int .i64 0, .int .i64 0, .bool false]) 4 32 Tryd.underlying89 hi hz0 hz1 hz2 rfl (by decide) _ _ _ rfl ((HO1.out.alloc _).alloc _) ⟨w1.heap.size + 1, 0, none⟩ 1 1 (pcRow (r, k, 1, true)) rfl rfl (by exact pc_new w1 _ (r, k, 1, true)) (by simp [pcRow, Value.oneCell']) (by unfold maxLen; omega) (by omega) (by simp; omega) ?_; intro v' w2 hown' hgrow _; have hc2 : w2.cell? ⟨w1.heap.size, 2, none⟩ = some (.int .i64 1) := pc_cell2 (p := (r, k, 1, true)) HO1.out hgrow)
              have HO2 := Lib.hid hown'
              have HB2 : Hid (Below w.heap.size w w2) := ((HB1.out.alloc hsz1 _).alloc (by simp; omega) _).grown hgrow (by simp; omega) (fun j ej => (HO1.out.lt j ej).1)
              clear hown' hgrow
              go_wp2
              go_roundw
              case rel =>
                refine ⟨k + 1, pre ++ [(r, k, 1, true)], by omega, by simp; omega, by go_num, ?_, ?_, HB2.out⟩
                · rw [HS.out, HST.out]; simp
                · rw [pcCells_snoc, List.length_append]; exact HO2.out
              case measure => simp [RowKit.intOf]; omega
        · subst hzz
          go_wp2_with fail
          go_loop [8, 9] (fun rv iv => ∃ i q : Nat, 1 ≤ i ∧ i ≤ 2 ∧ iv = .int .i64 i ∧ rv = .int .i32 q ∧ q < 128 * 64 ^ (i - 1) ∧ q = foldR (startR c.toNat 1) (t.take (i - 1))) (fun _ iv => 2 - (RowKit.intOf iv).toNat)
          case atStart => exact ⟨1, startR c.toNat 1, Nat.le_refl _, by omega, rfl, by simp [startR, modN], by have := HQ0.out; omega, rfl⟩
          case round =>
            obtain ⟨i, q, hi1, hiz, rfl, rfl, hq, hqf⟩ := hrel
            have HQF := Lib.hid hqf
            clear hqf
            by_cases hiz2 : i < 2
            · have hq2 : q < 600000 := by
                have h64 : 64 ^ (i - 1) ≤ 64 ^ 2 := Nat.pow_le_pow_right (by decide) (by omega)
                have : (64 : Nat) ^ 2 = 4096 := by decide
                omega
              have HQ := Lib.hid hq
              have hti : i - 1 < t.length := by omega
              obtain ⟨x, hx⟩ : ∃ x, t[i - 1] = x := ⟨_, rfl⟩
              have hx2 := HTK.out (i - 1) x (by rw [List.getElem?_eq_getElem hti, hx])
              rw [show k + (i - 1 + 1) = k + i by omega] at hx2
              have hcx2 := HR1.out.cell (byteCells_at hx2)
              have hxb := byte_le x
              have hki : (k : Int) + (i : Int) < (l.length : Int) := by omega
              have HTT : Hid (t.take i = t.take (i - 1) ++ [x]) := by
                show _ = _
                have := List.take_succ_eq_append_getElem hti
                rw [show i - 1 + 1 = i by omega] at this
                rw [this, hx]
              clear hx hx2 hq
              go_wp2_with fail
              go_round
              case rel =>
                refine ⟨i + 1, q * 64 + x.toNat % 64, by omega, by omega, by go_num, by go_num, ?_, ?_⟩
                · have h := HQ.out
                  have : 64 ^ (i + 1 - 1) = 64 ^ (i - 1) * 64 := by rw [← Nat.pow_succ]; congr 1; omega
                  omega
                · rw [show i + 1 - 1 = i by omega, HTT.out, foldR_snoc, HQF.out]
              case measure => simp [RowKit.intOf]; omega
            · obtain rfl : i = 2 := by omega
              have hrq : Hid (r = q) := by show r = q; rw [HRR.out, HQF.out]
              clear HQF HRR
              have hqr := hrq.out
              subst hqr
              clear hrq
              go_wp2_with (at_builtin; refine wpList_append_own _ rfl _ _ 89 rfl w.heap.size 92 i0 (.agg #[.int .i32 0, .int .i64 0, .int .i64 0, .bool false]) 4 32 Tryd.underlying89 hi hz0 hz1 hz2 rfl (by decide) _ _ _ rfl ((HO1.out.alloc _).alloc _) ⟨w1.heap.size + 1, 0, none⟩ 1 1 (pcRow (r, k, 2, true)) rfl rfl (by exact pc_new w1 _ (r, k, 2, true)) (by simp [pcRow, Value.oneCell']) (by unfold maxLen; omega) (by omega) (by simp; omega) ?_; intro v' w2 hown' hgrow _; have hc2 : w2.cell? ⟨w1.heap.size, 2, none⟩ = some (.int .i64 2) := pc_cell2 (p := (r, k, 2, true)) HO1.out hgrow)
              have HO2 := Lib.hid hown'
              have HB2 : Hid (Below w.heap.size w w2) := ((HB1.out.alloc hsz1 _).alloc (by simp; omega) _).grown hgrow (by simp; omega) (fun j ej => (HO1.out.lt j ej).1)
              clear hown' hgrow
              go_wp2
              go_roundw
              case rel =>
                refine ⟨k + 2, pre ++ [(r, k, 2, true)], by omega, by simp; omega, by go_num, ?_, ?_, HB2.out⟩
                · rw [HS.out, HST.out]; simp
                · rw [pcCells_snoc, List.length_append]; exact HO2.out
              case measure => simp [RowKit.intOf]; omega
        · subst hzz
          go_wp2_with fail
          go_loop [8, 9] (fun rv iv => ∃ i q : Nat, 1 ≤ i ∧ i ≤ 3 ∧ iv = .int .i64 i ∧ rv = .int .i32 q ∧ q < 128 * 64 ^ (i - 1) ∧ q = foldR (startR c.toNat 2) (t.take (i - 1))) (fun _ iv => 3 - (RowKit.intOf iv).toNat)
          case atStart => exact ⟨1, startR c.toNat 2, Nat.le_refl _, by omega, rfl, by simp [startR, modN], by have := HQ0.out; omega, rfl⟩
          case round =>
            obtain ⟨i, q, hi1, hiz, rfl, rfl, hq, hqf⟩ := hrel
            have HQF := Lib.hid hqf
            clear hqf
            by_cases hiz2 : i < 3
            · have hq2 : q < 600000 := by
                have h64 : 64 ^ (i - 1) ≤ 64 ^ 2 := Nat.pow_le_pow_right (by decide) (by omega)
                have : (64 : Nat) ^ 2 = 4096 := by decide
                omega
              have HQ := Lib.hid hq
              have hti : i - 1 < t.length := by omega
              obtain ⟨x, hx⟩ : ∃ x, t[i - 1] = x := ⟨_, rfl⟩
              have hx2 := HTK.out (i - 1) x (by rw [List.getElem?_eq_getElem hti, hx])
              rw [show k + (i - 1 + 1) = k + i by omega] at hx2
              have hcx2 := HR1.out.cell (byteCells_at hx2)
              have hxb := byte_le x
              have hki : (k : Int) + (i : Int) < (l.length : Int) := by omega
              have HTT : Hid (t.take i = t.take (i - 1) ++ [x]) := by
                show _ = _
                have := List.take_succ_eq_append_getElem hti
                rw [show i - 1 + 1 = i by omega] at this
                rw [this, hx]
              clear hx hx2 hq
              go_wp2_with fail
              go_round
              case rel =>
                refine ⟨i + 1, q * 64 + x.toNat % 64, by omega, by omega, by go_num, by go_num, ?_, ?_⟩
                · have h := HQ.out
                  have : 64 ^ (i + 1 - 1) = 64 ^ (i - 1) * 64 := by rw [← Nat.pow_succ]; congr 1; omega
                  omega
                · rw [show i + 1 - 1 = i by omega, HTT.out, foldR_snoc, HQF.out]
              case measure => simp [RowKit.intOf]; omega
            · obtain rfl : i = 3 := by omega
              have hrq : Hid (r = q) := by show r = q; rw [HRR.out, HQF.out]
              clear HQF HRR
              have hqr := hrq.out
              subst hqr
              clear hrq
              go_wp2_with (at_builtin; refine wpList_append_own _ rfl _ _ 89 rfl w.heap.size 92 i0 (.agg #[.int .i32 0, .int .i64 0, .int .i64 0, .bool false]) 4 32 Tryd.underlying89 hi hz0 hz1 hz2 rfl (by decide) _ _ _ rfl ((HO1.out.alloc _).alloc _) ⟨w1.heap.size + 1, 0, none⟩ 1 1 (pcRow (r, k, 3, true)) rfl rfl (by exact pc_new w1 _ (r, k, 3, true)) (by simp [pcRow, Value.oneCell']) (by unfold maxLen; omega) (by omega) (by simp; omega) ?_; intro v' w2 hown' hgrow _; have hc2 : w2.cell? ⟨w1.heap.size, 2, none⟩ = some (.int .i64 3) := pc_cell2 (p := (r, k, 3, true)) HO1.out hgrow)
              have HO2 := Lib.hid hown'
              have HB2 : Hid (Below w.heap.size w w2) := ((HB1.out.alloc hsz1 _).alloc (by simp; omega) _).grown hgrow (by simp; omega) (fun j ej => (HO1.out.lt j ej).1)
              clear hown' hgrow
              go_wp2
              go_roundw
              case rel =>
                refine ⟨k + 3, pre ++ [(r, k, 3, true)], by omega, by simp; omega, by go_num, ?_, ?_, HB2.out⟩
                · rw [HS.out, HST.out]; simp
                · rw [pcCells_snoc, List.length_append]; exact HO2.out
              case measure => simp [RowKit.intOf]; omega
        · subst hzz
          go_wp2_with fail
          go_loop [8, 9] (fun rv iv => ∃ i q : Nat, 1 ≤ i ∧ i ≤ 4 ∧ iv = .int .i64 i ∧ rv = .int .i32 q ∧ q < 128 * 64 ^ (i - 1) ∧ q = foldR (startR c.toNat 3) (t.take (i - 1))) (fun _ iv => 4 - (RowKit.intOf iv).toNat)
          case atStart => exact ⟨1, startR c.toNat 3, Nat.le_refl _, by omega, rfl, by simp [startR, modN], by have := HQ0.out; omega, rfl⟩
          case round =>
            obtain ⟨i, q, hi1, hiz, rfl, rfl, hq, hqf⟩ := hrel
            have HQF := Lib.hid hqf
            clear hqf
            by_cases hiz2 : i < 4
            · have hq2 : q < 600000 := by
                have h64 : 64 ^ (i - 1) ≤ 64 ^ 2 := Nat.pow_le_pow_right (by decide) (by omega)
                have : (64 : Nat) ^ 2 = 4096 := by decide
                omega
              have HQ := Lib.hid hq
              have hti : i - 1 < t.length := by omega
              obtain ⟨x, hx⟩ : ∃ x, t[i - 1] = x := ⟨_, rfl⟩
              have hx2 := HTK.out (i - 1) x (by rw [List.getElem?_eq_getElem hti, hx])
              rw [show k + (i - 1 + 1) = k + i by omega] at hx2
              have hcx2 := HR1.out.cell (byteCells_at hx2)
              have hxb := byte_le x
              have hki : (k : Int) + (i : Int) < (l.length : Int) := by omega
              have HTT : Hid (t.take i = t.take (i - 1) ++ [x]) := by
                show _ = _
                have := List.take_succ_eq_append_getElem hti
                rw [show i - 1 + 1 = i by omega] at this
                rw [this, hx]
              clear hx hx2 hq
              go_wp2_with fail
              go_round
              case rel =>
                refine ⟨i + 1, q * 64 + x.toNat % 64, by omega, by omega, by go_num, by go_num, ?_, ?_⟩
                · have h := HQ.out
                  have : 64 ^ (i + 1 - 1) = 64 ^ (i - 1) * 64 := by rw [← Nat.pow_succ]; congr 1; omega
                  omega
                · rw [show i + 1 - 1 = i by omega, HTT.out, foldR_snoc, HQF.out]
              case measure => simp [RowKit.intOf]; omega
            · obtain rfl : i = 4 := by omega
              have hrq : Hid (r = q) := by show r = q; rw [HRR.out, HQF.out]
              clear HQF HRR
              have hqr := hrq.out
              subst hqr
              clear hrq
              go_wp2_with (at_builtin; refine wpList_append_own _ rfl _ _ 89 rfl w.heap.size 92 i0 (.agg #[.int .i32 0, .int .i64 0, .int .i64 0, .bool false]) 4 32 Tryd.underlying89 hi hz0 hz1 hz2 rfl (by decide) _ _ _ rfl ((HO1.out.alloc _).alloc _) ⟨w1.heap.size + 1, 0, none⟩ 1 1 (pcRow (r, k, 4, true)) rfl rfl (by exact pc_new w1 _ (r, k, 4, true)) (by simp [pcRow, Value.oneCell']) (by unfold maxLen; omega) (by omega) (by simp; omega) ?_; intro v' w2 hown' hgrow _; have hc2 : w2.cell? ⟨w1.heap.size, 2, none⟩ = some (.int .i64 4) := pc_cell2 (p := (r, k, 4, true)) HO1.out hgrow)
              have HO2 := Lib.hid hown'
              have HB2 : Hid (Below w.heap.size w w2) := ((HB1.out.alloc hsz1 _).alloc (by simp; omega) _).grown hgrow (by simp; omega) (fun j ej => (HO1.out.lt j ej).1)
              clear hown' hgrow
              go_wp2
              go_roundw
              case rel =>
                refine ⟨k + 4, pre ++ [(r, k, 4, true)], by omega, by simp; omega, by go_num, ?_, ?_, HB2.out⟩
                · rw [HS.out, HST.out]; simp
                · rw [pcCells_snoc, List.length_append]; exact HO2.out
              case measure => simp [RowKit.intOf]; omega
    · obtain rfl : k = l.length := by omega
      go_wp2
      go_ret
      refine ⟨_, rfl, ?_, HB.out⟩
      rw [HS.out, List.drop_length, pcs_nil, List.append_nil]
      exact HO.out

end Go.Proofs.YtabagfhnkdhjdaaDoor
