/- utf.All: the runes of bytes with their places: the iterator's contract; utf.Runes. -/
import Derived.RangeFuncNested
import Derived.RangeFuncBound
import Derived.RangeFuncCalls
import Derived.RangeFuncLeaves
import Derived.RangeFuncBox
import Derived.Shelf.Abstract
import Derived.Shelf.RegionOpen
import Derived.OwnWalkIn
import Derived.TacticsInMore
import Derived.LoopNIn
import Derived.LoopIn
import Derived.Maps.AppendAt
import Derived.Test.YtabagfhnkdhjdaaGreatDoorRead
set_option linter.unusedVariables false
set_option maxRecDepth 100000
namespace Go.Proofs.YtabagfhnkdhjdaaGreatDoor
open Go.RowKit Go.Lib Go.Shelf

/-- The runes with their places, from place 'at' on. -/
def stepsF : Nat → Nat → List UInt8 → List (Nat × Nat)
  | 0, _, _ => []
  | _ + 1, _, [] => []
  | n + 1, i, c :: t => (i, (piece (c :: t)).1) :: stepsF n (i + (piece (c :: t)).2.1) ((c :: t).drop (piece (c :: t)).2.1)
def steps (i : Nat) (l : List UInt8) : List (Nat × Nat) := stepsF l.length i l

theorem stepsF_enough (n i : Nat) (l : List UInt8) (h : l.length ≤ n) : stepsF n i l = steps i l := by
  unfold steps
  induction n using Nat.strongRecOn generalizing l i with
  | ind n ih =>
    cases l with
    | nil => cases n <;> simp [stepsF]
    | cons c t =>
      cases n with
      | zero => simp at h
      | succ n =>
        have hs := piece_size c t
        simp only [List.length_cons] at h ⊢
        simp only [stepsF]
        congr 1
        have hl : ((c :: t).drop (piece (c :: t)).2.1).length ≤ t.length := by
          simp only [List.length_drop, List.length_cons]; omega
        rw [ih n (by omega) _ _ (by omega)]
        by_cases e : t.length < n + 1
        · rw [ih t.length (by omega) _ _ hl]
        · omega
theorem steps_nil (i : Nat) : steps i [] = [] := rfl
theorem steps_cons (i : Nat) (c : UInt8) (t : List UInt8) : steps i (c :: t) = (i, (piece (c :: t)).1) :: steps (i + (piece (c :: t)).2.1) ((c :: t).drop (piece (c :: t)).2.1) := by
  have hs := piece_size c t
  rw [← stepsF_enough t.length _ ((c :: t).drop _) (by simp only [List.length_drop, List.length_cons]; omega)]
  rfl
theorem steps_runes (n : Nat) : ∀ (i : Nat) (l : List UInt8), l.length ≤ n → (steps i l).map (·.2) = runes l := by
  induction n with
  | zero => intro i l h; cases l with
    | nil => rfl
    | cons => simp at h
  | succ n ih =>
    intro i l h
    cases l with
    | nil => rfl
    | cons c t =>
      have hs := piece_size c t
      rw [steps_cons, runes_cons, List.map_cons, ih _ _ (by simp only [List.length_drop, List.length_cons] at h ⊢; omega)]

/-- A slice value that holds bytes: nil (and there are none), or a row of its own. -/
def Holds8 (W : World) (n₀ : Nat) (v : Value) (l : List UInt8) : Prop :=
  (v = .slice none 0 0 ∧ l = []) ∨ ∃ g cap, v = .slice (some ⟨g, 0, none⟩) l.length cap ∧ n₀ ≤ g ∧ l.length ≤ cap ∧ RowAt W g (byteCells l)

theorem infoB : (Tryz.prog.info? 5).map (fun i => (i.zero, i.size, i.bytes)) = some (some (.int .u8 0), 1, 1) := by kernel_rfl
theorem infoR : (Tryz.prog.info? 21).map (fun i => (i.zero, i.size, i.bytes)) = some (some (.int .i32 0), 1, 4) := by kernel_rfl

theorem byteCells_one (l : List UInt8) : ∀ u ∈ byteCells l, u.oneCell' = true := by
  intro u hu
  simp only [byteCells, List.mem_map] at hu
  obtain ⟨b, _, rfl⟩ := hu
  rfl

set_option maxHeartbeats 1000000 in
theorem all_any (B cap : Nat) (l : List UInt8) (w : World) (hl : l.length ≤ 140737488355328) (hrow : RowAt w B (byteCells l)) :
    Calls Tryz.prog 82 #[.slice (some ⟨B, 0, none⟩) l.length cap] w fun e w' =>
      ∃ v, e = .returned (.func (.func 101) #[] #[.pointer (some ⟨w.heap.size, 0, none⟩)]) ∧ Boxed w' w.heap.size 29 v ∧ Holds8 w' w.heap.size v l ∧ Below w.heap.size w w' := by
  obtain ⟨i0, hi, hz0, hz1, hz2⟩ := info_parts infoB
  have hB := hrow.lt
  have HR : Hid (RowAt (w.alloc (.cells #[.slice (some ⟨B, 0, none⟩) l.length cap] 29)) B (byteCells l)) := hrow.alloc _
  have hbox : Hid (Boxed (w.alloc (.cells #[.slice (some ⟨B, 0, none⟩) l.length cap] 29)) w.heap.size 29 (.slice (some ⟨B, 0, none⟩) l.length cap)) := Boxed.new _ _ _
  clear hrow
  go_enter Tryz.func82, Tryz.ntmps82
  go_wp2_with (at_builtin; refine wpList_append_own _ rfl _ _ 29 rfl (w.heap.size + 1) 5 i0 (.int .u8 0) 1 1 Tryz.underlying29 hi hz0 hz1 hz2 rfl (by decide) (.slice none 0 0) 0 [] rfl (World.ownsRow_nil _ _ _ _) ⟨B, 0, none⟩ l.length cap (byteCells l) rfl (by rw [byteCells_len, Nat.mul_one]) ?c1 (byteCells_one l) ?c3 ?c4 ?c5 ?_)
  case c1 =>
    intro j u hj
    rw [add_at]
    exact HR.out.cell hj
  case c3 => unfold maxLen; omega
  case c4 => omega
  case c5 => simp
  intro v' w1 hown hgrow hnil
  have hbx : Boxed w1 w.heap.size 29 (.slice (some ⟨B, 0, none⟩) l.length cap) := hbox.out.kept hgrow (by simp [Value.ownBlock])
  have hbl : Hid (Below w.heap.size w w1) := ((Below.refl _ w).alloc (Nat.le_refl _) _).grown hgrow (by simp) (fun k e => by simp [Value.ownBlock] at e)
  have hc1 := hbx.cell
  have hf1 := hbx.frozen
  have HX := Lib.hid hbx
  try simp only [Nat.zero_add] at hown
  try simp only [List.nil_append] at hown
  have hsh : (v' = .slice none 0 0 ∧ l = []) ∨ ∃ g cap', v' = .slice (some ⟨g, 0, none⟩) l.length cap' ∧ w.heap.size + 1 ≤ g ∧ l.length ≤ cap' ∧ RowAt w1 g (byteCells l) := by
    rcases hown.2 with ⟨h1, h2⟩ | ⟨g, cap', cur, h1, h2, _, h3, _⟩
    · exact .inl ⟨h1, List.length_eq_zero_iff.1 h2⟩
    · subst h1
      exact .inr ⟨g, cap', rfl, h2, h3, RowAt.owned hown⟩
  clear hown hgrow hnil hbx hbox HR
  rcases hsh with ⟨rfl, h0⟩ | ⟨g, cap', rfl, hg, hcap, hrow⟩
  · have H0 := Lib.hid h0
    clear h0
    go_wp2
    go_ret
    exact ⟨_, rfl, HX.out.set _, .inl ⟨rfl, H0.out⟩, hbl.out.setCell (p := ⟨w.heap.size, 0, none⟩) (Nat.le_refl _) _⟩
  · have HW := Lib.hid hrow
    clear hrow
    go_wp2
    go_ret
    exact ⟨_, rfl, HX.out.set _, .inr ⟨g, cap', rfl, by omega, hcap, HW.out.other (by simp; omega) _⟩, hbl.out.setCell (p := ⟨w.heap.size, 0, none⟩) (Nat.le_refl _) _⟩

attribute [local go_sem] Oper.semAt_some

/-- Blocks from lo on, up to hi, lie as they lay. -/
def KeepIv (lo hi : Nat) (W W' : World) : Prop := ∀ k, lo ≤ k → k < hi → W'.heap[k]? = W.heap[k]?
theorem KeepIv.refl (lo hi : Nat) (W : World) : KeepIv lo hi W W := fun _ _ _ => rfl
theorem KeepIv.trans {lo hi : Nat} {A B C : World} (h : KeepIv lo hi A B) (k : KeepIv lo hi B C) : KeepIv lo hi A C := fun i h1 h2 => (k i h1 h2).trans (h i h1 h2)
theorem KeepIv.cell {lo hi : Nat} {A B : World} (h : KeepIv lo hi A B) {p : Addr} (h1 : lo ≤ p.block) (h2 : p.block < hi) : B.cell? p = A.cell? p := World.cell?_of_block (h p.block h1 h2)
theorem KeepIv.row {lo hi : Nat} {A B : World} (h : KeepIv lo hi A B) {g : Nat} {xs : List Value} (hr : RowAt A g xs) (h1 : lo ≤ g) (h2 : g < hi) : RowAt B g xs := hr.same (h g h1 h2)
theorem KeepIv.put {lo hi : Nat} (W : World) (l : Nat) (o o' : Obj) (hl : hi ≤ l) : KeepIv lo hi W (W.putObj l o') := fun k _ h2 => World.putObj_heap_other (by omega)
theorem KeepIv.of_below {lo hi B : Nat} {A C : World} (h : Below B A C) (hB : hi ≤ B) : KeepIv lo hi A C := fun k _ h2 => h.block k (by omega)

theorem wide_fn (k : Nat) : Fence.wide.fn k := trivial

set_option maxRecDepth 100000 in
set_option maxHeartbeats 2000000 in
/-- The closure of utf.All. -/
theorem all1_in (n : Nat) (hn : 1 ≤ n) (lp Bs lo hi g cap : Nat) (l : List UInt8) (hlen : l.length ≤ 140737488355328) (hcap : l.length ≤ cap) (hg : lo ≤ g ∧ g < hi) (hBs : lo ≤ Bs ∧ Bs < hi) (J Jx : List (Nat × Nat) → World → Prop)
    (hJ : ∀ s W k, J s W → J s (W.drewN k))
    (hY : ∀ pre x W, J pre W → pre.length < l.length → YieldAt Fence.wide (n - 1) Tryz.prog lp #[.int .i64 (x.1 : Nat), .int .i32 (x.2 : Nat)] W fun e W' =>
      (e = .returned (.bool true) ∧ J (pre ++ [x]) W' ∧ KeepIv lo hi W W') ∨ (e = .returned (.bool false) ∧ Jx (pre ++ [x]) W'))
    (W : World) (hbx : W.cell? ⟨Bs, 0, none⟩ = some (.slice (some ⟨g, 0, none⟩) l.length cap)) (hrow : RowAt W g (byteCells l)) (h0 : J [] W) :
    CallsIn Fence.wide n Tryz.prog 101 #[.func (.yield lp) #[] #[], .pointer (some ⟨Bs, 0, none⟩)] W fun e W' => (∃ v, e = .returned v) ∧
      ((∃ ys, ys = steps 0 l ∧ J ys W') ∨ (∃ pre, pre <+: steps 0 l ∧ Jx pre W')) := by
  refine callsIn_of_wp Tryz.func101 rfl (wide_fn _) ?_ rfl
  simp only [Tryz.ntmps101, List.size_toArray, List.length_cons, List.length_nil, Nat.reduceAdd, Nat.reduceSub, Array.replicate_succ, Array.replicate_zero, List.push_toArray, List.append_toArray, List.nil_append, List.cons_append]
  gi_wp2
  gi_loopw [3] (fun i wr => ∃ (k : Nat) (pre : List (Nat × Nat)), k ≤ l.length ∧ pre.length ≤ k ∧ i = .int .i64 k ∧ steps 0 l = pre ++ steps k (l.drop k) ∧ J pre wr ∧ KeepIv lo hi W wr)
    (fun i _ => l.length - (intOf i).toNat)
  case atStart => exact ⟨0, [], Nat.zero_le _, Nat.le_refl _, rfl, rfl, h0, KeepIv.refl _ _ _⟩
  case round =>
    obtain ⟨k, pre, hk, hpk, rfl, hst, hJs, hnx⟩ := hrel
    have hbxw : wr.cell? ⟨Bs, 0, none⟩ = some (.slice (some ⟨g, 0, none⟩) l.length cap) := (hnx.cell (p := ⟨Bs, 0, none⟩) hBs.1 hBs.2).trans hbx
    have HR : Hid (RowAt wr g (byteCells l)) := hnx.row hrow hg.1 hg.2
    have HS := Lib.hid hst
    have HJ := Lib.hid hJs
    have HN := Lib.hid hnx
    have HY := Lib.hid hY
    clear hst hJs hnx hbx hrow hY
    by_cases hlt : k < l.length
    · obtain ⟨c, t, hct⟩ : ∃ c t, l.drop k = c :: t := by
        cases h : l.drop k with
        | nil => have := congrArg List.length h; simp at this; omega
        | cons c t => exact ⟨c, t, rfl⟩
      have hlen2 : (l.drop k).length = l.length - k := List.length_drop
      have hkI : (k : Int) < (l.length : Int) := by omega
      have hkc : (k : Int) ≤ (cap : Int) := by omega
      have hpz := piece_size c t
      rw [← hct] at hpz
      have HC := Lib.hid hct
      have HST : Hid (steps k (l.drop k) = (k, (piece (l.drop k)).1) :: steps (k + (piece (l.drop k)).2.1) (l.drop (k + (piece (l.drop k)).2.1))) := by
        show _ = _
        conv => lhs; rw [hct]
        rw [steps_cons, ← hct, List.drop_drop]
      have hlt2 : t.length + 1 = l.length - k := by rw [← hlen2, hct]; rfl
      have hrd := read_any g k (l.length - k) (cap - k) (l.drop k) wr hlen2 (by omega) (by omega) (fun j x hj => HR.out.cell (byteCells_at (by rw [List.getElem?_drop] at hj; exact hj)))
      obtain ⟨r, sz, wh, hp⟩ : ∃ r sz wh, piece (l.drop k) = (r, sz, wh) := ⟨_, _, _, rfl⟩
      unfold pieceV at hrd
      rw [hp] at hrd hpz HST
      simp only at hpz
      obtain ⟨hp1, hp2⟩ := hpz
      have HL2 := Lib.hid hlen2
      clear hp hct hlen2 HR HC
      have hrd2 := callsIn_wide (n := n - 1) |>.2 hrd
      clear hrd
      gi_wp2_with fail
      refine ⟨trivial, ?_⟩
      refine hrd2.mono ?_
      rintro e w1 ⟨rfl, nq, rfl⟩
      clear hrd2
      have HYn := HY.out pre (k, r) (wr.drewN nq) (hJ _ _ _ HJ.out) (by omega)
      obtain ⟨fn, tmps, assign, body, hy, hR⟩ := HYn
      dsimp only at hy
      have hszI : 0 ≤ (sz : Int) := by omega
      gi_wp2
      refine hR.mono ?_
      rintro e W3 (⟨rfl, hJ3, hk3⟩ | ⟨rfl, hJx3⟩)
      · have hbx3 : W3.cell? ⟨Bs, 0, none⟩ = some (.slice (some ⟨g, 0, none⟩) l.length cap) := (hk3.cell (p := ⟨Bs, 0, none⟩) hBs.1 hBs.2).trans hbxw
        have HJ3 := Lib.hid hJ3
        have HK3 := Lib.hid hk3
        clear hJ3 hk3 hR hy
        gi_wp2
        go_roundw
        case rel =>
          refine ⟨k + sz, pre ++ [(k, r)], by omega, by simp; omega, by go_num, ?_, HJ3.out, HN.out.trans HK3.out⟩
          rw [HS.out, HST.out]; simp
        case measure => simp [intOf]; omega
      · gi_wp2
        refine bodyPost_ret (results_none rfl _ _ _) rfl ?_
        refine ⟨⟨_, rfl⟩, .inr ⟨pre ++ [(k, r)], ?_, hJx3⟩⟩
        rw [HS.out, HST.out]
        exact ⟨steps (k + sz) (l.drop (k + sz)), by simp⟩
    · obtain rfl : k = l.length := by omega
      gi_wp2
      go_end0
      refine ⟨⟨_, rfl⟩, .inl ⟨pre, ?_, HJ.out⟩⟩
      rw [HS.out, List.drop_length, steps_nil, List.append_nil]

set_option maxRecDepth 100000 in
set_option maxHeartbeats 1000000 in
/-- .. over no byte: no round. -/
theorem all1_nil (n : Nat) (lp Bs : Nat) (J : List (Nat × Nat) → World → Prop) (W : World) (hbx : W.cell? ⟨Bs, 0, none⟩ = some (.slice none 0 0)) (h0 : J [] W) :
    CallsIn Fence.wide n Tryz.prog 101 #[.func (.yield lp) #[] #[], .pointer (some ⟨Bs, 0, none⟩)] W fun e W' => (∃ v, e = .returned v) ∧ J [] W' := by
  refine callsIn_of_wp Tryz.func101 rfl (wide_fn _) ?_ rfl
  simp only [Tryz.ntmps101, List.size_toArray, List.length_cons, List.length_nil, Nat.reduceAdd, Nat.reduceSub, Array.replicate_succ, Array.replicate_zero, List.push_toArray, List.append_toArray, List.nil_append, List.cons_append]
  gi_wp2
  gi_loopw [3] (fun i wr => i = .int .i64 0 ∧ J [] wr ∧ wr.cell? ⟨Bs, 0, none⟩ = some (.slice none 0 0)) (fun _ _ => 0)
  case atStart => exact ⟨rfl, h0, hbx⟩
  case round =>
    obtain ⟨rfl, hJs, hbw⟩ := hrel
    gi_wp2
    go_end0
    exact ⟨⟨_, rfl⟩, hJs⟩

theorem grownBy_drewN (W : World) (k : Nat) (row : Option Nat) : W.grownBy (W.drewN k) row := ⟨rfl, rfl, rfl, Nat.le_refl _, fun _ _ _ => rfl⟩

/-- **utf.All's value stops.** -/
theorem all_stops (n : Nat) (hn : 1 ≤ n) (Bs lo hi : Nat) (v : Value) (l : List UInt8) (hlen : l.length ≤ 140737488355328) (w : World) (hBs : lo ≤ Bs ∧ Bs < hi) (hhi : hi ≤ w.heap.size)
    (hc : w.cell? ⟨Bs, 0, none⟩ = some v) (hv : (v = .slice none 0 0 ∧ l = []) ∨ ∃ g cap, v = .slice (some ⟨g, 0, none⟩) l.length cap ∧ (lo ≤ g ∧ g < hi) ∧ l.length ≤ cap ∧ RowAt w g (byteCells l)) :
    SeqStopsK Fence.wide n Tryz.prog 101 #[.pointer (some ⟨Bs, 0, none⟩)] (fun x : Nat × Nat => #[Value.int .i64 (x.1 : Nat), Value.int .i32 (x.2 : Nat)]) (KeepIv lo hi)
      (fun ys => ys = steps 0 l) (fun pre => pre <+: steps 0 l) l.length w := fun lp J Jx W hW hJ _ hY h0 => by
  have hc' := (hW.cell (p := ⟨Bs, 0, none⟩) (by simp; omega)).trans hc
  rcases hv with ⟨rfl, rfl⟩ | ⟨g, cap, rfl, hg, hcap, hrow⟩
  · exact (all1_nil n lp Bs J W hc' h0).mono fun e W' ⟨he, hj⟩ => ⟨he, .inl ⟨_, rfl, hj⟩⟩
  · exact all1_in n hn lp Bs lo hi g cap l hlen hcap hg hBs J Jx (fun s W k h => hJ s W _ none h (grownBy_drewN W k none) (fun r e => by cases e)) hY W hc' (hrow.below hW (by omega)) h0

def runeCells (rs : List Nat) : List Value := rs.map fun r => .int .i32 (r : Nat)

/-- 'Boxed.appended' where the variable's box lies below the row's base: what lies elsewhere is kept. -/
theorem Boxed.appended' {W w1 : World} {n₀ B : Nat} {t e : TypeId} {size : Nat} {v v' : Value} {k m : Nat} {xs ys : List Value} {tmp : Obj}
    (hv : Boxed W B t v) (hte : t ≠ e) (hrow : W.ownsRow n₀ e size v k xs) (hn₀ : n₀ ≤ W.heap.size) (hB : B < n₀)
    (hown' : w1.ownsRow n₀ e size v' m ys) (hgrow : (W.alloc tmp).grownBy w1 v.ownBlock) :
    Boxed w1 B t v ∧ Boxed (w1.setCell ⟨B, 0, none⟩ v') B t v' ∧ (w1.setCell ⟨B, 0, none⟩ v').ownsRow n₀ e size v' m ys ∧ KeepsOthers W (w1.setCell ⟨B, 0, none⟩ v') ∧ Below B W (w1.setCell ⟨B, 0, none⟩ v') ∧ KeepIv (B + 1) n₀ W (w1.setCell ⟨B, 0, none⟩ v') := by
  have hv1 : Boxed w1 B t v := (hv.alloc tmp).kept hgrow (hv.not_row hte hrow)
  have hb1 : Below B W w1 := ((Below.refl B W).alloc (by omega) tmp).grown hgrow (by simp; omega) fun j ej => by
    rcases hrow.2 with ⟨rfl, _⟩ | ⟨g, cap, cur, rfl, hb, _, _⟩
    · simp [Value.ownBlock] at ej
    · obtain rfl : g = j := by simpa [Value.ownBlock] using ej
      omega
  have hb2 : Below n₀ W w1 := ((Below.refl n₀ W).alloc hn₀ tmp).grown hgrow (by simp; omega) fun j ej => by
    rcases hrow.2 with ⟨rfl, _⟩ | ⟨g, cap, cur, rfl, hb, _, _⟩
    · simp [Value.ownBlock] at ej
    · obtain rfl : g = j := by simpa [Value.ownBlock] using ej
      exact hb
  refine ⟨hv1, hv1.set v', hown'.kept (grownBy_setCell' w1 B v') (.inr (hv1.not_row hte hown').symm), ?_, hb1.setCell (p := ⟨B, 0, none⟩) (Nat.le_refl _) v', ?_⟩
  · refine ((KeepsOthers.alloc W tmp).trans (KeepsOthers.of_grownBy hgrow fun j o ej hj => ?_)).trans (KeepsOthers.setCell _ _ _)
    rcases (hrow.alloc tmp).2 with ⟨rfl, _⟩ | ⟨g, cap, cur, rfl, _, hgb, _⟩
    · simp [Value.ownBlock] at ej
    · obtain rfl : g = j := by simpa [Value.ownBlock] using ej
      rw [hgb] at hj; cases hj; rfl
  · intro j h1 h2
    rw [Below.heap_setCell _ _ _ _ (by simp; omega)]
    exact hb2.block j h2

theorem ownsRow_base {W : World} {b b' : Nat} {e : TypeId} {size : Nat} {v : Value} {k : Nat} {xs : List Value} (h : W.ownsRow b e size v k xs) (hb : b' ≤ b) : W.ownsRow b' e size v k xs := by
  refine ⟨h.1, ?_⟩
  rcases h.2 with h2 | ⟨g, cap, cur, h1, h2, r⟩
  · exact .inl h2
  · exact .inr ⟨g, cap, cur, h1, by omega, r⟩

set_option maxRecDepth 100000 in
set_option maxHeartbeats 2000000 in
/-- utf.Runes, in the wide fence. -/
theorem runes_in (n : Nat) (hn : 3 ≤ n) (B cap : Nat) (l : List UInt8) (w : World) (hl : l.length ≤ 35184372088831) (hrow : RowAt w B (byteCells l)) :
    CallsIn Fence.wide n Tryz.prog 53 #[.slice (some ⟨B, 0, none⟩) l.length cap] w fun e W' =>
      ∃ v, e = .returned v ∧ W'.ownsRow w.heap.size 21 1 v (runes l).length (runeCells (runes l)) ∧ Below w.heap.size w W' := by
  have h1 : 1 ≤ n := by omega
  obtain ⟨i0, hi, hz0, hz1, hz2⟩ := info_parts infoR
  refine callsIn_of_wp_marks Tryz.func53 rfl (wide_fn _) ?_ rfl
  simp only [Tryz.ntmps53, List.size_toArray, List.length_cons, List.length_nil, Nat.reduceAdd, Nat.reduceSub, Array.replicate_succ, Array.replicate_zero, List.push_toArray, List.append_toArray, List.nil_append, List.cons_append]
  have hall := callsIn_wide (n := n - 1) |>.2 (all_any B cap l (w.alloc (.cells #[.slice none 0 0] 61)) (by omega) (hrow.alloc _))
  gi_wp2_with fail
  refine ⟨trivial, ?_⟩
  refine hall.mono ?_
  clear hall
  rintro e w1 ⟨v, rfl, hbx, hv, hb⟩
  rw [World.size_alloc] at hbx hv hb
  simp only [World.size_alloc]
  gi_wp2
  have hsz := hb.size
  rw [World.size_alloc] at hsz
  have hbO : Boxed w1 w.heap.size 61 (.slice none 0 0) := (hb.block w.heap.size (by omega)).trans (Boxed.new _ _ _)
  have hb0 : Below w.heap.size w w1 := ((Below.refl _ w).alloc (Nat.le_refl _) _).trans (hb.mono (by omega))
  have hv2 : (v = .slice none 0 0 ∧ l = []) ∨ ∃ g cap, v = .slice (some ⟨g, 0, none⟩) l.length cap ∧ (w.heap.size + 1 ≤ g ∧ g < w1.heap.size) ∧ l.length ≤ cap ∧ RowAt w1 g (byteCells l) := by
    rcases hv with h | ⟨g, cap, h1, h2, h3, h4⟩
    · exact .inl h
    · exact .inr ⟨g, cap, h1, ⟨h2, h4.lt⟩, h3, h4⟩
  have hbxl := hbx.lt
  refine wpIn_rangeFunc_ownG rfl h1 (gf := 101) (lb := #[.pointer (some ⟨w.heap.size + 1, 0, none⟩)]) rfl trivial (enters_of Tryz.func101 (by kernel_rfl) rfl)
    (all_stops (n - 1) (by omega) (w.heap.size + 1) (w.heap.size + 1) w1.heap.size v l (by omega) w1 ⟨Nat.le_refl _, hbxl⟩ (Nat.le_refl _) hbx.cell hv2) (fun h k => KeepIv.trans h k) (fun W k o o' hk _ _ _ => KeepIv.put W k o o' hk) (Below.refl _ _) (by intro x; rfl)
    (fun pre W => (∃ v, Boxed W w.heap.size 61 v ∧ W.ownsRow w1.heap.size 21 1 v pre.length (runeCells (pre.map (·.2))) ∧ True) ∧ (Below w.heap.size w W ∧ w1.heap.size ≤ W.heap.size))
    (fun _ _ _ => False)
    (OwnFrom.and (Own.from (holdsRow_own w1.heap.size w.heap.size 61 21 1 (fun pre : List (Nat × Nat) => pre.length) (fun pre => runeCells (pre.map (·.2))) (fun pre v => True)) _) (OwnFrom.and (ownFrom_below (Nat.le_refl _) (by omega)) (fun s X Y row hs hg hr => Nat.le_trans hs hg.size)))
    (fun _ _ _ _ _ hs _ _ => hs)
    ⟨⟨_, hbO, World.ownsRow_nil _ _ _ _, trivial⟩, hb0, Nat.le_refl _⟩
    (fun x => { tmps := #[.slice (some ⟨B, 0, none⟩) l.length cap, undef, .slice none 0 0, .pointer (some ⟨w.heap.size, 0, none⟩), undef, .int .i32 (x.2 : Nat), .slice (some ⟨B, 0, none⟩) l.length cap, .func (.func 101) #[] #[.pointer (some ⟨w.heap.size + 1, 0, none⟩)], .int .i64 (x.1 : Nat), .int .i32 (x.2 : Nat), undef, undef, undef, undef, undef], defers := [] }) ?assign ?body ?done ?stop
  case assign =>
    intro l x W K hK
    gi_wp2
    exact hK
  case body =>
    rintro lp pre x W ⟨⟨v, hv, hrow, _⟩, hB, hW1⟩ hlt
    have hc := hv.cell
    have e1 : Hid (runeCells ((pre ++ [x]).map (·.2)) = runeCells (pre.map (·.2)) ++ [.int .i32 (x.2 : Nat)]) := by show _ = _; simp [runeCells]
    gi_wp2_with (gi_at_builtin; refine wpListIn_append_own _ rfl _ _ 61 rfl w1.heap.size 21 i0 (.int .i32 0) 1 4 Tryz.underlying61 hi hz0 hz1 hz2 rfl (by decide) _ _ _ rfl (hrow.alloc _) ⟨W.heap.size, 0, none⟩ 1 1 [.int .i32 (x.2 : Nat)] rfl rfl (cell_one_new _ _ _) (by simp [Value.oneCell']) (by unfold maxLen; omega) (by omega) (by simp; omega) ?_; intro v' w2 hown' hgrow _; obtain ⟨g', cap', rfl⟩ := ownsRow_succ hown'; obtain ⟨hv1, hv2, hr2, hk2, hb2⟩ := Boxed.appended' hv (by decide) hrow hW1 (by omega) hown' hgrow; have hc1 := hv1.cell; have hf1 := hv1.frozen)
    obtain ⟨hb3, hb4⟩ := hb2
    refine ⟨hk2.from _, hb4, ⟨⟨_, hv2, ?_⟩, hB.trans hb3, ?_⟩⟩
    · rw [e1.out]
      rw [List.length_append]
      exact hr2
    · exact Nat.le_trans hW1 hk2.size
  case done =>
    rintro D ys W hD rfl ⟨⟨v, hv, hrow, _⟩, hB, _⟩ hK
    have hc := hv.cell
    gi_wp2
    refine ⟨by simp, .inl ⟨_, _, rfl, run_takeDeferred hK, ?_⟩⟩
    have hsl : (steps 0 l).length = (runes l).length := by rw [← steps_runes l.length 0 l (Nat.le_refl _), List.length_map]
    rw [steps_runes l.length 0 l (Nat.le_refl _), hsl] at hrow
    exact ⟨_, results_tmp rfl _ _ _, v, rfl, ownsRow_base (ownsRow_putObj hrow _ hK rfl) (by omega), hB.trans (belowK_b (w := w) (Nat.le_refl _) W D _ _ (by omega) hK rfl rfl)⟩
  case stop =>
    rintro D c pre W _ _ h _
    exact h.elim

/-- utf.Runes. -/
theorem runes_any (B cap : Nat) (l : List UInt8) (w : World) (hl : l.length ≤ 35184372088831) (hrow : RowAt w B (byteCells l)) :
    Calls Tryz.prog 53 #[.slice (some ⟨B, 0, none⟩) l.length cap] w fun e W' =>
      ∃ v, e = .returned v ∧ W'.ownsRow w.heap.size 21 1 v (runes l).length (runeCells (runes l)) ∧ Below w.heap.size w W' :=
  callsIn_wide (n := 3) |>.1 (runes_in 3 (Nat.le_refl _) B cap l w hl hrow)
end Go.Proofs.YtabagfhnkdhjdaaGreatDoor
