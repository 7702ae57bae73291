/- link.Allowed: may a link be? -/
import Derived.Test.YtabagfhnkdhjdaaDoorCheck
set_option linter.unusedVariables false
set_option maxRecDepth 100000
namespace Go.Proofs.YtabagfhnkdhjdaaDoor
open Go.RowKit Go.Lib

theorem cell_blk {w : World} {p : Addr} {v : Value} (h : w.cell? p = some v) : p.block < w.heap.size := by
  unfold World.cell? at h
  apply Classical.byContradiction
  intro hn
  rw [Array.getElem?_eq_none (by omega)] at h
  cases h
theorem blk_add (a : Addr) (i : Nat) : (a.add i).block = a.block := by unfold Addr.add; split <;> rfl

/-- A slice of strings, as it lies. -/
def StrsAt (w : World) (v : Value) (l : List ByteArray) : Prop :=
  (v = .slice none 0 0 ∧ l = []) ∨ ∃ (a : Addr) (cap : Nat), v = .slice (some a) l.length cap ∧ l.length ≤ cap ∧ ∀ (i : Nat) (s : ByteArray), l[i]? = some s → w.cell? (a.add i) = some (.string s)
theorem StrsAt.below {w w' : World} {v : Value} {l : List ByteArray} (h : StrsAt w v l) (hb : Below w.heap.size w w') : StrsAt w' v l := by
  rcases h with h | ⟨a, cap, h1, h3, h4⟩
  · exact .inl h
  · exact .inr ⟨a, cap, h1, h3, fun i s hi => (hb.cell (p := a.add i) (cell_blk (h4 i s hi))).trans (h4 i s hi)⟩
theorem StrsAt.drew {w : World} {v : Value} {l : List ByteArray} (h : StrsAt w v l) : StrsAt w.drew v l := h
theorem StrsAt.alloc {w : World} {v : Value} {l : List ByteArray} (h : StrsAt w v l) (o : Obj) : StrsAt (w.alloc o) v l := h.below ((Below.refl _ _).alloc (Nat.le_refl _) o)

/-- Does a list hold a text? -/
def hasS (l : List ByteArray) (s : ByteArray) : Bool := l.any fun x => x.toList == s.toList

set_option maxHeartbeats 2000000 in
theorem allowed1_any (l : List ByteArray) (v : Value) (B : Nat) (s : ByteArray) (w : World) (hl : l.length ≤ 140737488355328) (hv : StrsAt w v l) (hp : w.cell? ⟨B, 0, none⟩ = some (.string s)) :
    Calls Tryd.prog 17 #[v, .pointer (some ⟨B, 0, none⟩)] w fun e w' => e = .returned (.bool (hasS l s)) ∧ Below w.heap.size w w' := by
  rcases hv with ⟨rfl, rfl⟩ | ⟨a, cap, rfl, hcap, hc⟩
  · go_enter Tryd.func17, Tryd.ntmps17
    go_wp2_with fail
    go_loop [8, 5] (fun i _ => i = .int .i64 0) (fun _ _ => 0)
    case atStart => rfl
    case round =>
      subst hrel
      go_wp2_with fail
      go_ret
      exact ⟨rfl, Below.refl _ _⟩
  · have HC := Lib.hid hc
    clear hc
    go_enter Tryd.func17, Tryd.ntmps17
    go_wp2_with fail
    go_loop [8, 5] (fun i _ => ∃ k : Nat, k ≤ l.length ∧ i = .int .i64 k ∧ hasS (l.take k) s = false) (fun i _ => l.length - (RowKit.intOf i).toNat)
    case atStart => exact ⟨0, Nat.zero_le _, rfl, rfl⟩
    case round =>
      obtain ⟨k, hk, rfl, hno⟩ := hrel
      have HN := Lib.hid hno
      clear hno
      by_cases hlt : k < l.length
      · have hltI : (k : Int) < (l.length : Int) := by omega
        have hx := HC.out k l[k] (List.getElem?_eq_getElem hlt)
        have HTK : Hid (l.take (k + 1) = l.take k ++ [l[k]]) := List.take_succ_eq_append_getElem hlt
        have HM : Hid (l[k] ∈ l) := List.getElem_mem hlt
        obtain ⟨x, hxx⟩ : ∃ x, l[k] = x := ⟨_, rfl⟩
        rw [hxx] at hx HTK HM
        clear hxx
        cases hq : (x.toList == s.toList)
        · have HN2 : Hid (hasS (l.take (k + 1)) s = false) := by
            show _ = _
            rw [HTK.out]
            unfold hasS at *
            rw [List.any_append, HN.out]
            simp only [List.any_cons, List.any_nil, hq, Bool.or_false]
          go_wp2_with fail
          go_round
          case rel => exact ⟨k + 1, by omega, by go_num, HN2.out⟩
          case measure => simp [RowKit.intOf]; omega
        · have HY : Hid (hasS l s = true) := by
            show _ = _
            unfold hasS
            rw [List.any_eq_true]
            exact ⟨x, HM.out, hq⟩
          go_wp2_with fail
          go_ret
          exact ⟨by rw [HY.out]; rfl, Below.refl _ _⟩
      · obtain rfl : k = l.length := by omega
        have HY : Hid (hasS l s = false) := by
          have := HN.out
          rw [List.take_length] at this
          exact this
        go_wp2_with fail
        go_ret
        exact ⟨by rw [HY.out]; rfl, Below.refl _ _⟩

def allG (l : List ByteArray) : Bool := l.all fun s => chkG s.data.toList
/-- What Allowed hands back, of a stripped text. -/
def allowB (l : List ByteArray) (s : List UInt8) (rel : Bool) : Bool := allG l && (if colB s then hasS l ⟨(schemeS s).toArray⟩ else rel)
def allowN (l : List ByteArray) : Int := if allG l then 0 else 120
def allowV (l : List ByteArray) (s : List UInt8) (rel : Bool) : Value := .tuple #[.bool (allowB l s rel), .int .i64 (allowN l)]

theorem ret_bi {b c : Bool} {n m : Int} (h : b = c) (h2 : n = m) : Ending.returned (.tuple #[.bool b, .int .i64 n]) = Ending.returned (.tuple #[.bool c, .int .i64 m]) := by rw [h, h2]

set_option maxHeartbeats 4000000 in
theorem allowed_any (v : ByteArray) (l : List ByteArray) (sv : Value) (rel : Bool) (w : World) (hv : v.size ≤ 500000000) (hl : l.length ≤ 140737488355328) (hsz : ∀ s ∈ l, s.size ≤ 140737488355328)
    (hs : StrsAt w sv l) (hn : NvAt w) :
    Calls Tryd.prog 5 #[.string v, sv, .bool rel] w fun e w' => e = .returned (allowV l (strip v.data.toList) rel) ∧ Below w.heap.size w w' := by
  have hS := fun w => Scheme_any v w hv
  obtain ⟨S, hSS⟩ : ∃ S, strip v.data.toList = S := ⟨_, rfl⟩
  rw [hSS] at hS ⊢
  clear hSS
  obtain ⟨t, ht⟩ : ∃ t : ByteArray, (⟨(schemeS S).toArray⟩ : ByteArray) = t := ⟨_, rfl⟩
  obtain ⟨bb, hbb⟩ : ∃ bb, colB S = bb := ⟨_, rfl⟩
  rw [ht, hbb] at hS
  have HV : Hid (∀ n : Bool, allG l = true → allowV l S n = .tuple #[.bool (if bb then hasS l t else n), .int .i64 0]) := fun n h => by
    unfold allowV allowB allowN
    rw [h, ht, hbb]; rfl
  have HVN : Hid (allG l = false → allowV l S rel = .tuple #[.bool false, .int .i64 120]) := fun h => by
    unfold allowV allowB allowN
    rw [h]; rfl
  clear ht hbb
  have HN := Lib.hid hn
  have HSZ := Lib.hid hsz
  clear hn hsz
  have hs0 := hs
  rcases hs with ⟨rfl, rfl⟩ | ⟨a, cap, rfl, hcap, hc⟩
  · have HA := Lib.hid hs0
    clear hs0
    go_enter Tryd.func5, Tryd.ntmps5
    go_wp2_with fail
    go_loopw [16, 9, 10] (fun i _ _ wr => i = .int .i64 0 ∧ wr = w) (fun _ _ _ _ => 0)
    case atStart => exact ⟨rfl, rfl⟩
    case round =>
      obtain ⟨rfl, rfl⟩ := hrel
      have HB : Hid (Below wr.heap.size wr wr) := Below.refl _ _
      have HX : Hid (allG [] = true) := rfl
      go_wp2_with fail
      refine (hS _).mono ?_
      clear hS
      rintro e w1 ⟨rfl, hb1⟩
      have HB1 : Hid (Below wr.heap.size wr w1) := HB.out.trans (hb1.mono HB.out.size)
      clear hb1
      cases bb
      · have HF : Hid (allowV [] S rel = .tuple #[.bool rel, .int .i64 0]) := HV.out rel HX.out
        go_wp2_with fail
        go_ret2
        exact ⟨by rw [HF.out]; rfl, HB1.out.alloc HB1.out.size _⟩
      · have HF : Hid (allowV [] S rel = .tuple #[.bool (hasS [] t), .int .i64 0]) := HV.out rel HX.out
        have hclo := allowed1_any [] (.slice none 0 0) w1.heap.size t (w1.alloc (.cells #[.string t] 9)) hl ((HA.out.below HB1.out).alloc _) ((RowAt.new w1 #[.string t] 9 [.string t] rfl).cell (j := 0) rfl)
        rw [World.size_alloc] at hclo
        go_wp2_with fail
        refine hclo.mono ?_
        clear hclo
        rintro e w2 ⟨rfl, hb2⟩
        have HB2 : Hid (Below wr.heap.size wr w2) := (HB1.out.alloc HB1.out.size (.cells #[.string t] 9)).trans (hb2.mono (by have := HB1.out.size; omega))
        clear hb2
        go_wp2_with fail
        go_ret2
        exact ⟨by rw [HF.out]; rfl, HB2.out⟩
  · have HA := Lib.hid hs0
    have HC := Lib.hid hc
    clear hc hs0
    go_enter Tryd.func5, Tryd.ntmps5
    go_wp2_with fail
    go_loopw [16, 9, 10] (fun i _ _ wr => ∃ k : Nat, k ≤ l.length ∧ i = .int .i64 k ∧ allG (l.take k) = true ∧ Below w.heap.size w wr) (fun i _ _ _ => l.length - (RowKit.intOf i).toNat)
    case atStart => exact ⟨0, Nat.zero_le _, rfl, rfl, Below.refl _ _⟩
    case round =>
      obtain ⟨k, hk, rfl, hall, hbw⟩ := hrel
      have HALL := Lib.hid hall
      have HB := Lib.hid hbw
      clear hall
      by_cases hlt : k < l.length
      · have hltI : (k : Int) < (l.length : Int) := by omega
        have hx := (hbw.cell (p := a.add k) (cell_blk (HC.out k l[k] (List.getElem?_eq_getElem hlt)))).trans (HC.out k l[k] (List.getElem?_eq_getElem hlt))
        have HTK : Hid (l.take (k + 1) = l.take k ++ [l[k]]) := List.take_succ_eq_append_getElem hlt
        have HM : Hid (l[k] ∈ l) := List.getElem_mem hlt
        obtain ⟨x, hxx⟩ : ∃ x, l[k] = x := ⟨_, rfl⟩
        rw [hxx] at hx HTK HM
        clear hxx
        have hck := check_any x wr (HSZ.out x HM.out) (HN.out.below hbw)
        clear hbw
        cases hq : chkG x.data.toList
        · have hcn : chkN x.data.toList = 120 := chkN_bad hq
          rw [hcn] at hck
          have HX : Hid (allG l = false) := by
            show _ = _
            unfold allG
            rw [List.all_eq_false]
            exact ⟨x, HM.out, by rw [hq]; exact Bool.false_ne_true⟩
          clear hcn hq
          go_wp2_with fail
          refine hck.mono ?_
          clear hck
          rintro e w1 ⟨rfl, hb1⟩
          have HB1 : Hid (Below w.heap.size w w1) := HB.out.trans (hb1.mono HB.out.size)
          clear hb1
          go_wp2_with fail
          go_ret2
          exact ⟨by rw [HVN.out HX.out]; rfl, HB1.out⟩
        · have hcn : chkN x.data.toList = 0 := by unfold chkN; rw [hq]; rfl
          rw [hcn] at hck
          have HX : Hid (allG (l.take (k + 1)) = true) := by
            show _ = _
            rw [HTK.out]
            unfold allG at *
            rw [List.all_append, HALL.out]
            simp only [List.all_cons, List.all_nil, hq, Bool.and_true]
          clear hcn hq
          go_wp2_with fail
          refine hck.mono ?_
          clear hck
          rintro e w1 ⟨rfl, hb1⟩
          have HB1 : Hid (Below w.heap.size w w1) := HB.out.trans (hb1.mono HB.out.size)
          clear hb1
          go_wp2_with fail
          go_roundw
          case rel => exact ⟨k + 1, by omega, by go_num, HX.out, HB1.out⟩
          case measure => simp [RowKit.intOf]; omega
      · obtain rfl : k = l.length := by omega
        have HX : Hid (allG l = true) := by
          have := HALL.out
          rw [List.take_length] at this
          exact this
        clear hbw
        go_wp2_with fail
        refine (hS _).mono ?_
        clear hS
        rintro e w1 ⟨rfl, hb1⟩
        have HB1 : Hid (Below w.heap.size w w1) := HB.out.trans (hb1.mono HB.out.size)
        clear hb1
        cases bb
        · have HF : Hid (allowV l S rel = .tuple #[.bool rel, .int .i64 0]) := HV.out rel HX.out
          go_wp2_with fail
          go_ret2
          exact ⟨by rw [HF.out]; rfl, HB1.out.alloc HB1.out.size _⟩
        · have HF : Hid (allowV l S rel = .tuple #[.bool (hasS l t), .int .i64 0]) := HV.out rel HX.out
          have hclo := allowed1_any l (.slice (some a) l.length cap) w1.heap.size t (w1.alloc (.cells #[.string t] 9)) hl ((HA.out.below HB1.out).alloc _) ((RowAt.new w1 #[.string t] 9 [.string t] rfl).cell (j := 0) rfl)
          rw [World.size_alloc] at hclo
          go_wp2_with fail
          refine hclo.mono ?_
          clear hclo
          rintro e w2 ⟨rfl, hb2⟩
          have HB2 : Hid (Below w.heap.size w w2) := (HB1.out.alloc HB1.out.size (.cells #[.string t] 9)).trans (hb2.mono (by have := HB1.out.size; omega))
          clear hb2
          go_wp2_with fail
          go_ret2
          exact ⟨by rw [HF.out]; rfl, HB2.out⟩

end Go.Proofs.YtabagfhnkdhjdaaDoor
