/- link.Query: names and values as a query. -/
import Derived.Test.YtabagfhnkdhjdaaGreatDoorForm
import Derived.Test.YtabagfhnkdhjdaaGreatDoorSet
import Derived.Deep.RegionLawGrows
set_option linter.unusedVariables false
set_option maxRecDepth 100000
namespace Go.Proofs.YtabagfhnkdhjdaaGreatDoor
open Go.RowKit Go.Lib

/-- append to a row of the call's own, as one step of a region that draws. -/
theorem step_append_own {P : Program} {ops : Array Oper} {o : Oper} {a : Act} {w : World} {K : Act → World → Prop} {Q : Exit → Act → World → Prop} {E : Prop} (hgd : o.guard = none) (s x : Operand) (t : TypeId)
    (ho : o.op = .call { callee := .builtin .append, args := #[s, x], argTypes := #[t, t] })
    (base : Nat) (e : TypeId) (i : TypeInfo) (z : Value) (size bytes : Nat) (ht : P.underlying t = some (.slice e)) (hi : P.info? e = some i) (hz : i.zero = some z)
    (hsize : i.size = size) (hby : i.bytes = bytes) (hzs : z.cells.size = size) (hsz : 0 < size)
    (v : Value) (n : Nat) (xs : List Value) (hs : a.eval s = v) (hown : w.ownsRow base e size v n xs)
    (ad : Addr) (m c : Nat) (news : List Value) (hx : a.eval x = .slice (some ad) m c) (hl : news.length = m * size) (hnews : ∀ j u, news[j]? = some u → w.cell? (ad.add j) = some u) (h1 : ∀ u ∈ news, u.oneCell' = true)
    (h63 : n + m ≤ maxLen) (hbytes : (n + m) * bytes ≤ 140737488355328) (hbase : base ≤ w.heap.size)
    (h : ∀ v' w', w'.ownsRow base e size v' (n + m) (xs ++ news) → w.grownBy w' v.ownBlock → K (a.put o.dst v') w') : if Region.wanted o (yielded ops a.tmps) = true then Oper.wp P o a w K Q else E := by
  rw [if_pos (by simp [Region.wanted, hgd])]
  exact wp_append_own w s x t ho base e i z size bytes ht hi hz hsize hby hzs hsz v n xs hs hown ad m c news hx hl hnews h1 h63 hbytes hbase fun v' w' h2 h3 _ => h v' w' h2 h3

def formB (s : ByteArray) : ByteArray := ⟨(formL s.data.toList).toArray⟩
theorem formB_le (s : ByteArray) : (formB s).size ≤ 12 * s.size := by
  have h := mend_len s.data.toList
  have h2 := formF_len (mend s.data.toList)
  rw [← size_eq] at h
  show (⟨(formL s.data.toList).toArray⟩ : ByteArray).size ≤ _
  rw [size_eq]
  show (formF (mend s.data.toList)).length ≤ _
  omega
def qryB (p : ByteArray × ByteArray) : ByteArray := (formB p.1 ++ (⟨#[61]⟩ : ByteArray)) ++ formB p.2
def qryS (l : List (ByteArray × ByteArray)) : ByteArray := ⟨(Lib.join ((l.map qryB).map (·.data.toList)) [38]).toArray⟩
theorem qryB_le {p : ByteArray × ByteArray} (h1 : p.1.size ≤ 1048576) (h2 : p.2.size ≤ 1048576) : (qryB p).size ≤ 33554433 := by
  have a := formB_le p.1
  have b := formB_le p.2
  unfold qryB
  rw [ByteArray.size_append, ByteArray.size_append]
  show (formB p.1).size + 1 + (formB p.2).size ≤ _
  omega
theorem qry_join {l : List (ByteArray × ByteArray)} (hl : l.length ≤ 1048576) (h : ∀ p ∈ l, p.1.size ≤ 1048576 ∧ p.2.size ≤ 1048576) : (Lib.join ((l.map qryB).map (·.data.toList)) [38]).length ≤ 140737488355328 := by
  have h1 := join_len [38] 33554433 ((l.map qryB).map (·.data.toList)) (fun x hx => by
    obtain ⟨y, hy, rfl⟩ := List.mem_map.1 hx
    obtain ⟨p, hp, rfl⟩ := List.mem_map.1 hy
    rw [← size_eq]
    exact qryB_le (h p hp).1 (h p hp).2)
  rw [List.length_map, List.length_map] at h1
  refine Nat.le_trans h1 (Nat.le_trans (Nat.mul_le_mul hl (Nat.le_refl _)) ?_)
  decide

set_option maxHeartbeats 8000000 in
theorem qry_any (v : Value) (l : List (ByteArray × ByteArray)) (w : World) (hl : l.length ≤ 1048576) (hsz : ∀ p ∈ l, p.1.size ≤ 1048576 ∧ p.2.size ≤ 1048576) (hp : PairsAt w v l) :
    Calls Tryz.prog 12 #[v] w fun e w' => e = .returned (.string (qryS l)) ∧ Below w.heap.size w w' := by
  have hj := qry_join hl hsz
  have HJ := Lib.hid hj
  clear hj
  obtain ⟨R, hR⟩ : ∃ R, qryS l = R := ⟨_, rfl⟩
  rw [hR]
  have HRES := Lib.hid hR
  clear hR
  obtain ⟨a0, cap, rfl, hcap, hc⟩ := hp
  have HC := Lib.hid hc
  have HSZ := Lib.hid hsz
  obtain ⟨i0, hi, hz0, hz1, hz2⟩ := info_parts infoS1
  clear hc hsz
  go_enter Tryz.func12, Tryz.ntmps12
  go_wp2_with fail
  go_loopw [8, 3, 5] (fun i v _ wr => ∃ k : Nat, k ≤ l.length ∧ i = .int .i64 k ∧ wr.ownsRow w.heap.size 9 1 v k (((l.map qryB).take k).map Value.string) ∧ Below w.heap.size w wr) (fun i _ _ _ => l.length - (RowKit.intOf i).toNat)
  case atStart => exact ⟨0, Nat.zero_le _, rfl, World.ownsRow_nil _ _ _ _, Below.refl _ _⟩
  case round =>
    obtain ⟨k, hk, rfl, hown, hbw⟩ := hrel
    have HOWN := Lib.hid hown
    have HB := Lib.hid hbw
    clear hown
    by_cases hlt : k < l.length
    · have hltI : (k : Int) < (l.length : Int) := by omega
      obtain ⟨a, rfl, hx0, hx1⟩ := HC.out k l[k] (List.getElem?_eq_getElem hlt)
      have hy0 := (hbw.cell (p := a.add (k * 2)) (cell_in hx0)).trans hx0
      have hy1 := (hbw.cell (p := ⟨(a.add (k * 2)).block, (a.add (k * 2)).off + 1, none⟩) (cell_in hx1)).trans hx1
      have HTK : Hid ((l.map qryB).take (k + 1) = (l.map qryB).take k ++ [qryB l[k]]) := by
        show _ = _
        rw [List.take_add_one, List.getElem?_map, List.getElem?_eq_getElem hlt]; rfl
      have hpz := HSZ.out l[k] (List.getElem_mem hlt)
      obtain ⟨p, hpp⟩ : ∃ p, l[k] = p := ⟨_, rfl⟩
      rw [hpp] at hy0 hy1 HTK hpz
      clear hx0 hx1 hpp HC hbw
      obtain ⟨x, y⟩ := p
      simp only at hy0 hy1 hpz
      have hm1 := fun w => form_any x w (by omega)
      have hm2 := fun w => form_any y w (by omega)
      have hm1' : ∀ w, Calls Tryz.prog 34 #[.string x] w fun e w' => e = .returned (.string (formB x)) ∧ Below w.heap.size w w' := hm1
      have hm2' : ∀ w, Calls Tryz.prog 34 #[.string y] w fun e w' => e = .returned (.string (formB y)) ∧ Below w.heap.size w w' := hm2
      have hmx := formB_le x
      have hmy := formB_le y
      have HSB : Hid (qryB (x, y) = (formB x ++ (⟨#[61]⟩ : ByteArray)) ++ formB y) := by show _ = _; rfl
      generalize formB x = mx at hm1' hmx HSB
      generalize formB y = my at hm2' hmy HSB
      have hmxs : mx.size ≤ 12582912 := by omega
      have hmys : my.size ≤ 12582912 := by omega
      clear hm1 hm2 hmx hmy
      have hrow := RowAt.new wr #[.string x, .string y] 36 [.string x, .string y] rfl
      have hbel := HB.out.alloc HB.out.size (.cells #[.string x, .string y] 36)
      have hown1 := HOWN.out.alloc (.cells #[.string x, .string y] 36)
      have HROW := Lib.hid hrow
      have HBEL := Lib.hid hbel
      have HOWN1 := Lib.hid hown1
      clear hrow hbel hown1
      go_upto_region 5 with fail
      obtain ⟨w1, hw1⟩ : ∃ w1, wr.alloc (.cells #[.string x, .string y] 36) = w1 := ⟨_, rfl⟩
      obtain ⟨B, hB⟩ : ∃ B, wr.heap.size = B := ⟨_, rfl⟩
      have hr1 : RowAt w1.drew B [.string x, .string y] := by have := HROW.out; rw [hw1, hB] at this; exact this.drew
      have HO1 : Hid (w1.drew.ownsRow w.heap.size 9 1 u3 k (((l.map qryB).take k).map Value.string)) := by have := HOWN1.out; rw [hw1] at this; exact this
      have HB1 : Hid (Below w.heap.size w w1.drew) := by have := HBEL.out; rw [hw1] at this; exact this.drew
      rw [hw1, hB]
      clear hw1 hB HROW HBEL HOWN1
      have c0 := hr1.cell (j := 0) rfl
      have c1 := hr1.cell (j := 1) rfl
      have HR1 := Lib.hid hr1
      clear hr1
      have hyn : ∀ (W : World) (z : ByteArray) (j : Nat) (u : Value), [Value.string z][j]? = some u → (W.alloc (.cells #[.string z] 9)).cell? ((⟨W.heap.size, 0, none⟩ : Addr).add j) = some u := fun W z j u hj => by
        have := RowAt.new W #[.string z] 9 [.string z] rfl
        rw [add_at]
        exact this.cell hj
      have hsum1 : ¬ 9223372036854775807 < mx.size + 1 := by omega
      have hsum2 : ¬ 9223372036854775807 < mx.size + 1 + my.size := by omega
      have HYN := Lib.hid hyn
      clear hyn
      go_region_law (first
        | (go_simp; go_at_call_of 34 (Value.string x); refine (hm1' _).mono ?_; rintro e w2 ⟨rfl, hb2⟩; have hr2 := HR1.out.below hb2 HR1.out.lt; have HO2 := Lib.hid (own_below HO1.out hb2); have HB2 : Hid (Below w.heap.size w w2) := HB1.out.trans (hb2.mono HB1.out.size); have d1 := hr2.cell (j := 1) rfl; have HR2 := Lib.hid hr2; clear hr2 hb2)
        | (go_simp; go_at_call_of 34 (Value.string y); refine (hm2' _).mono ?_; rintro e w3 ⟨rfl, hb3⟩; have HO3 := Lib.hid (own_below HO2.out hb3); have HB3 : Hid (Below w.heap.size w w3) := HB2.out.trans (hb3.mono HB2.out.size); clear hb3)
        | (refine step_append_own rfl (.tmp 12) (.tmp 21) 58 rfl w.heap.size 9 i0 (.string ⟨#[]⟩) 1 16 Tryz.underlying58 hi hz0 hz1 hz2 rfl (by decide) u3 k (((l.map qryB).take k).map Value.string) (by simp [Act.eval]) (HO3.out.alloc _) ⟨w3.heap.size, 0, none⟩ 1 1 [Value.string ((mx ++ (⟨#[61]⟩ : ByteArray)) ++ my)] (by simp [Act.eval]) rfl (HYN.out _ _) (by simp [Value.oneCell']) (by unfold maxLen; omega) (by omega) (by simp; have := HB3.out.size; omega) ?_; intro v' w5 hown' hgrow; have HOW := Lib.hid hown'; have HGR := Lib.hid hgrow; clear hown' hgrow))
      all_goals
        have HO5 : Hid (w5.ownsRow w.heap.size 9 1 v' (k + 1) (((l.map qryB).take (k + 1)).map Value.string)) := by
          show World.ownsRow _ _ _ _ _ _ _
          rw [HTK.out, List.map_append, HSB.out]
          exact HOW.out
        have HB5 : Hid (Below w.heap.size w w5) := (HB3.out.alloc HB3.out.size (.cells #[.string ((mx ++ (⟨#[61]⟩ : ByteArray)) ++ my)] 9)).grown HGR.out (by simp; have := HB3.out.size; omega) (fun j ej => (HO3.out.lt j ej).1)
        go_wp2_with fail
        go_roundw
        case rel => exact ⟨k + 1, by omega, by go_num, HO5.out, HB5.out⟩
        case measure => simp [RowKit.intOf]; omega
    · obtain rfl : k = l.length := by omega
      have hown2 := HOWN.out
      rw [List.take_of_length_le (by rw [List.length_map]; exact Nat.le_refl _)] at hown2
      clear hbw HOWN
      rcases hown2.2 with ⟨rfl, h0⟩ | ⟨g, cap', cur, rfl, hg, hh, hn, hx, hy, ht⟩
      · have hjn := fun w => Tryz.strings_Join_none none 0 ⟨#[38]⟩ w
        have HV : Hid (R = ⟨#[]⟩) := by
          have := HRES.out
          obtain rfl := List.length_eq_zero_iff.1 h0
          exact this.symm
        clear hown2
        go_wp2_with (go_at_call 26; refine (hjn _).mono ?_; rintro e w3 ⟨rfl, h3⟩; rw [h3]; clear h3 w3)
        go_ret
        exact ⟨by rw [HV.out]; rfl, HB.out⟩
      · have hrow := RowAt.owned hown2
        have hjn := Tryz.strings_Join g 0 cap' (l.map qryB) ⟨#[38]⟩ wr (fun j x hx => by
          rw [Nat.zero_add]
          exact hrow.cell (by rw [List.getElem?_map, hx]; rfl)) hrow.lt (by rw [List.length_map]; omega) (by rw [List.length_map]; exact hn) HJ.out
        rw [List.length_map] at hjn
        have e : (⟨(Lib.join ((l.map qryB).map (·.data.toList)) (⟨#[38]⟩ : ByteArray).data.toList).toArray⟩ : ByteArray) = R := HRES.out
        rw [e] at hjn
        clear e
        clear hown2 hrow hh
        go_wp2_with fail
        refine hjn.mono ?_
        clear hjn
        rintro e w3 ⟨rfl, hb3⟩
        have HB3 : Hid (Below w.heap.size w w3) := HB.out.trans (hb3.mono HB.out.size)
        clear hb3
        go_wp2_with fail
        go_ret
        exact ⟨rfl, HB3.out⟩

end Go.Proofs.YtabagfhnkdhjdaaGreatDoor
