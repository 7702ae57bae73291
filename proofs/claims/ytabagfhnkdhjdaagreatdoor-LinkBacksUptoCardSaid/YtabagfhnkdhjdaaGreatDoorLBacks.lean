/- sievelaw12.LinkBacks: the walk. -/
import Derived.Test.YtabagfhnkdhjdaaGreatDoorBv
import Derived.Test.YtabagfhnkdhjdaaGreatDoorAwake
import Derived.Test.YtabagfhnkdhjdaaGreatDoorBw
import Derived.Test.YtabagfhnkdhjdaaGreatDoorRefs
import Derived.Test.YtabagfhnkdhjdaaGreatDoorPairsP
import Derived.Laws.NewBlocks
set_option linter.unusedVariables false
set_option maxRecDepth 100000
namespace Go.Proofs.YtabagfhnkdhjdaaGreatDoor
open Go.RowKit Go.Lib Go.BigFrame

/-- A Boolean that, where it is true, tells p. -/
def OkAt (v : Value) (p : Prop) : Prop := ∃ b : Bool, v = .bool b ∧ (b = true → p)
theorem OkAt.no (p : Prop) : OkAt (.bool false) p := ⟨false, rfl, fun h => by cases h⟩
theorem OkAt.yes {p : Prop} (b : Bool) (h : b = true → p) : OkAt (.bool b) p := ⟨b, rfl, h⟩

theorem dark_of {b : UInt8} (h9 : ¬ (b.toNat : Int) = 9) (h10 : ¬ (b.toNat : Int) = 10) (h12 : ¬ (b.toNat : Int) = 12) (h13 : ¬ (b.toNat : Int) = 13) (h32 : ¬ (b.toNat : Int) = 32) : whB b = false := by
  simp [whB, whZ, h9, h10, h12, h13, h32]
/-- What the first tests tell of a link. -/
structure Fine1 (a : List UInt8) : Prop where
  ne : a ≠ []
  head : ∀ c, a.head? = some c → c.toNat ≠ 44
  last : ∀ c, a.getLast? = some c → c.toNat ≠ 44
  valid : validB a = true
theorem fine1_of (a : ByteArray) (n : Nat) (h0 : 0 < a.size) (hnl : n < a.size) (hn : a.size = n + 1) (h1 : ¬ (a[0].toNat : Int) = 44) (h2 : ¬ (a[n].toNat : Int) = 44) (hv : validB a.data.toList = true) : Fine1 a.data.toList := by
  have hl : a.data.toList.length = n + 1 := by rw [← size_eq]; exact hn
  refine ⟨?_, ?_, ?_, hv⟩
  · intro e; rw [e] at hl; cases hl
  · intro c hc
    rw [List.head?_eq_getElem?, List.getElem?_eq_getElem (by omega)] at hc
    have e : a[0] = c := Option.some.inj hc
    rw [e] at h1; omega
  · intro c hc
    rw [List.getLast?_eq_getElem?, hl, List.getElem?_eq_getElem (by omega)] at hc
    have e : a[n] = c := Option.some.inj hc
    rw [e] at h2; omega

def mendP (p : ByteArray × ByteArray) : ByteArray × ByteArray := (mendS p.1, mendS p.2)
theorem goodP_of {a d : ByteArray} (h1 : Fine1 a.data.toList) (h2 : ∀ b ∈ a.data.toList, whB b = false) (h3 : d.data.toList.all plB = true) (h4 : goodD d.data.toList = true) : GoodP (a, d) := ⟨⟨h1.ne, h1.head, h1.last, h2, h3, h4⟩, h1.valid⟩
theorem good_next {l : List (ByteArray × ByteArray)} {p : ByteArray × ByteArray} (h1 : ∀ x ∈ l, GoodP x) (h2 : GoodP p) : ∀ x ∈ l ++ [p], GoodP x := fun x hx => by
  rcases List.mem_append.1 hx with h | h
  · exact h1 x h
  · simp at h; subst h; exact h2
theorem RowAt.later {w w' : World} {P : Nat} {xs : List Value} (h : RowAt w P xs) (hb : Below w.heap.size w w') : RowAt w' P xs := h.below hb h.lt
theorem Below.on {w W W' : World} (h : Below w.heap.size w W) (hb : Below W.heap.size W W') : Below w.heap.size w W' := h.trans (hb.mono h.size)
/-- Two links that lie in two blocks of the call's own. -/
def TwoLinks (w : World) (r0 r1 : List Value) (p r : Value) (wx : World) : Prop := ∃ Q R, p = .pointer (some ⟨Q, 0, none⟩) ∧ r = .pointer (some ⟨R, 0, none⟩) ∧ RowAt wx Q r0 ∧ RowAt wx R r1 ∧ Below w.heap.size w wx
section two
variable {w W : World} {a0 b0 c0 d0 f0 a1 b1 c1 d1 f1 : ByteArray} {x0 y0 z0 u0 x1 y1 z1 u1 : Bool} {t t' : TypeId}
theorem two_new (hb : Below w.heap.size w W) : TwoLinks w (row9 a0 b0 c0 d0 f0 x0 y0 z0 u0) (row9 a1 b1 c1 d1 f1 x1 y1 z1 u1) (.pointer (some ⟨W.heap.size, 0, none⟩)) (.pointer (some ⟨W.heap.size + 1, 0, none⟩))
    ((W.alloc (.cells #[.string a0, .string b0, .string c0, .string d0, .string f0, .bool x0, .bool y0, .bool z0, .bool u0] t)).alloc (.cells #[.string a1, .string b1, .string c1, .string d1, .string f1, .bool x1, .bool y1, .bool z1, .bool u1] t')) :=
  ⟨_, _, rfl, rfl, (RowAt.new W _ t _ rfl).alloc _, RowAt.made (by rw [World.size_alloc]) rfl, (hb.alloc hb.size _).alloc (hb.alloc hb.size _).size _⟩
theorem two_new' (hb : Below w.heap.size w W) : TwoLinks w (row9 a0 b0 c0 d0 f0 x0 y0 z0 u0) (row9 a1 b1 c1 d1 f1 x1 y1 z1 u1) (.pointer (some ⟨W.heap.size + 1, 0, none⟩)) (.pointer (some ⟨W.heap.size, 0, none⟩))
    ((W.alloc (.cells #[.string a1, .string b1, .string c1, .string d1, .string f1, .bool x1, .bool y1, .bool z1, .bool u1] t')).alloc (.cells #[.string a0, .string b0, .string c0, .string d0, .string f0, .bool x0, .bool y0, .bool z0, .bool u0] t)) :=
  ⟨_, _, rfl, rfl, RowAt.made (by rw [World.size_alloc]) rfl, (RowAt.new W _ t' _ rfl).alloc _, (hb.alloc hb.size _).alloc (hb.alloc hb.size _).size _⟩
theorem size9 {W : World} {B : Nat} : (set9 W B a0 b0 c0 d0 f0 x0 y0 z0 u0).heap.size = W.heap.size := by
  simp [Go.Proofs.YtabagfhnkdhjdaaGreatDoor.set9, World.setCell]
theorem two_set {Q : Nat} (hq : RowAt W Q zeroLk) (hQ : w.heap.size ≤ Q) (hb : Below w.heap.size w W) : TwoLinks w (row9 a0 b0 c0 d0 f0 x0 y0 z0 u0) (row9 a1 b1 c1 d1 f1 x1 y1 z1 u1) (.pointer (some ⟨Q, 0, none⟩)) (.pointer (some ⟨W.heap.size, 0, none⟩))
    ((((((((((W.setCell ⟨Q, 0, none⟩ (.string a0)).setCell ⟨Q, 1, none⟩ (.string b0)).setCell ⟨Q, 2, none⟩ (.string c0)).setCell ⟨Q, 3, none⟩ (.string d0)).setCell ⟨Q, 4, none⟩ (.string f0)).setCell ⟨Q, 5, none⟩ (.bool x0)).setCell ⟨Q, 6, none⟩ (.bool y0)).setCell ⟨Q, 7, none⟩ (.bool z0)).setCell ⟨Q, 8, none⟩ (.bool u0)).alloc (.cells #[.string a1, .string b1, .string c1, .string d1, .string f1, .bool x1, .bool y1, .bool z1, .bool u1] t')) :=
  ⟨_, _, rfl, rfl, (hq.set9 rfl _ _ _ _ _ _ _ _ _).alloc _, RowAt.made (size9 (W := W) (B := Q) (a0 := a0) (b0 := b0) (c0 := c0) (d0 := d0) (f0 := f0) (x0 := x0) (y0 := y0) (z0 := z0) (u0 := u0)).symm rfl, (below9 hb hQ _ _ _ _ _ _ _ _ _).alloc (by rw [size9]; exact hb.size) _⟩
theorem two_set' {R : Nat} (hr : RowAt W R zeroLk) (hR : w.heap.size ≤ R) (hb : Below w.heap.size w W) : TwoLinks w (row9 a0 b0 c0 d0 f0 x0 y0 z0 u0) (row9 a1 b1 c1 d1 f1 x1 y1 z1 u1) (.pointer (some ⟨W.heap.size, 0, none⟩)) (.pointer (some ⟨R, 0, none⟩))
    ((((((((((W.setCell ⟨R, 0, none⟩ (.string a1)).setCell ⟨R, 1, none⟩ (.string b1)).setCell ⟨R, 2, none⟩ (.string c1)).setCell ⟨R, 3, none⟩ (.string d1)).setCell ⟨R, 4, none⟩ (.string f1)).setCell ⟨R, 5, none⟩ (.bool x1)).setCell ⟨R, 6, none⟩ (.bool y1)).setCell ⟨R, 7, none⟩ (.bool z1)).setCell ⟨R, 8, none⟩ (.bool u1)).alloc (.cells #[.string a0, .string b0, .string c0, .string d0, .string f0, .bool x0, .bool y0, .bool z0, .bool u0] t)) :=
  ⟨_, _, rfl, rfl, RowAt.made (size9 (W := W) (B := R) (a0 := a1) (b0 := b1) (c0 := c1) (d0 := d1) (f0 := f1) (x0 := x1) (y0 := y1) (z0 := z1) (u0 := u1)).symm rfl, (hr.set9 rfl _ _ _ _ _ _ _ _ _).alloc _, (below9 hb hR _ _ _ _ _ _ _ _ _).alloc (by rw [size9]; exact hb.size) _⟩
theorem two_sets {Q R : Nat} (hq : RowAt W Q zeroLk) (hr : RowAt W R zeroLk) (hQR : Q ≠ R) (hQ : w.heap.size ≤ Q) (hR : w.heap.size ≤ R) (hb : Below w.heap.size w W) : TwoLinks w (row9 a0 b0 c0 d0 f0 x0 y0 z0 u0) (row9 a1 b1 c1 d1 f1 x1 y1 z1 u1) (.pointer (some ⟨Q, 0, none⟩)) (.pointer (some ⟨R, 0, none⟩))
    ((((((((((((((((((W.setCell ⟨Q, 0, none⟩ (.string a0)).setCell ⟨Q, 1, none⟩ (.string b0)).setCell ⟨Q, 2, none⟩ (.string c0)).setCell ⟨Q, 3, none⟩ (.string d0)).setCell ⟨Q, 4, none⟩ (.string f0)).setCell ⟨Q, 5, none⟩ (.bool x0)).setCell ⟨Q, 6, none⟩ (.bool y0)).setCell ⟨Q, 7, none⟩ (.bool z0)).setCell ⟨Q, 8, none⟩ (.bool u0)).setCell ⟨R, 0, none⟩ (.string a1)).setCell ⟨R, 1, none⟩ (.string b1)).setCell ⟨R, 2, none⟩ (.string c1)).setCell ⟨R, 3, none⟩ (.string d1)).setCell ⟨R, 4, none⟩ (.string f1)).setCell ⟨R, 5, none⟩ (.bool x1)).setCell ⟨R, 6, none⟩ (.bool y1)).setCell ⟨R, 7, none⟩ (.bool z1)).setCell ⟨R, 8, none⟩ (.bool u1)) :=
  ⟨_, _, rfl, rfl, (hq.set9 rfl _ _ _ _ _ _ _ _ _).past9 hQR _ _ _ _ _ _ _ _ _, (hr.past9 (Ne.symm hQR) _ _ _ _ _ _ _ _ _).set9 rfl _ _ _ _ _ _ _ _ _, below9 (below9 hb hQ _ _ _ _ _ _ _ _ _) hR _ _ _ _ _ _ _ _ _⟩
end two

theorem cmp9n (A2 B2 C2 D2 F2 a1 b1 c1 d1 f1 : ByteArray) (X2 Y2 Z2 U2 x1 y1 z1 u1 : Bool) : ∃ E : Bool, (E = true ↔ row9 A2 B2 C2 D2 F2 X2 Y2 Z2 U2 = row9 a1 b1 c1 d1 f1 x1 y1 z1 u1) ∧ (∀ w : World, ((if A2.toList = a1.toList then (if B2.toList = b1.toList then (if C2.toList = c1.toList then (if D2.toList = d1.toList then (if F2.toList = f1.toList then (if X2 = x1 then (if Y2 = y1 then (if Z2 = z1 then (if U2 = u1 then (Result.ok (Next.value (Value.bool true)) w) else Result.ok (Next.value (Value.bool false)) w) else Result.ok (Next.value (Value.bool false)) w) else Result.ok (Next.value (Value.bool false)) w) else Result.ok (Next.value (Value.bool false)) w) else Result.ok (Next.value (Value.bool false)) w) else Result.ok (Next.value (Value.bool false)) w) else Result.ok (Next.value (Value.bool false)) w) else Result.ok (Next.value (Value.bool false)) w) else Result.ok (Next.value (Value.bool false)) w) : Result Next) = Result.ok (Next.value (Value.bool E)) w) ∧ ∀ w : World, ((if A2.toList = a1.toList then (if B2.toList = b1.toList then (if C2.toList = c1.toList then (if D2.toList = d1.toList then (if F2.toList = f1.toList then (if X2 = x1 then (if Y2 = y1 then (if Z2 = z1 then (if U2 = u1 then (Result.ok (Next.value (Value.bool false)) w) else Result.ok (Next.value (Value.bool true)) w) else Result.ok (Next.value (Value.bool true)) w) else Result.ok (Next.value (Value.bool true)) w) else Result.ok (Next.value (Value.bool true)) w) else Result.ok (Next.value (Value.bool true)) w) else Result.ok (Next.value (Value.bool true)) w) else Result.ok (Next.value (Value.bool true)) w) else Result.ok (Next.value (Value.bool true)) w) else Result.ok (Next.value (Value.bool true)) w) : Result Next) = Result.ok (Next.value (Value.bool (!E))) w := by
  refine ⟨decide (A2.toList = a1.toList ∧ B2.toList = b1.toList ∧ C2.toList = c1.toList ∧ D2.toList = d1.toList ∧ F2.toList = f1.toList ∧ X2 = x1 ∧ Y2 = y1 ∧ Z2 = z1 ∧ U2 = u1), ?_, fun w => ?_, fun w => ?_⟩
  · rw [decide_eq_true_iff]
    constructor
    · rintro ⟨h1, h2, h3, h4, h5, rfl, rfl, rfl, rfl⟩
      rw [toList_inj h1, toList_inj h2, toList_inj h3, toList_inj h4, toList_inj h5]
    · intro h
      simp only [row9, List.cons.injEq, Value.string.injEq, Value.bool.injEq, and_true] at h
      obtain ⟨rfl, rfl, rfl, rfl, rfl, rfl, rfl, rfl, rfl⟩ := h
      simp
  · repeat' split
    all_goals simp_all
  · repeat' split
    all_goals simp_all
theorem probe_good {d : List UInt8} (hp : d.all plB = true) (hd : d ≠ []) (h : okAll (srcL (mend (97 :: 32 :: d))) = true) : goodD d = true := by
  rw [mend_of_valid (l := 97 :: 32 :: d) (Valid.asciis (fun c hc => by
    rcases List.mem_cons.1 hc with rfl | hc
    · decide
    · rcases List.mem_cons.1 hc with rfl | hc
      · decide
      · exact plain_ascii hp c hc)), src_probe hp hd] at h
  exact h

set_option maxRecDepth 100000 in
set_option maxHeartbeats 8000000 in
theorem linkBacks_any (v1 v2 : Value) (tx ty : ByteArray) (l q : List (ByteArray × ByteArray)) (w : World) (hl : sumB l ≤ 1048576) (hq : sumB q ≤ 1048576) (hx : tx.size ≤ 1048576) (hy : ty.size ≤ 1048576)
    (hp1 : PairsAt w v1 l) (hp2 : PairsAt w v2 q) (hg : MaxAt w) :
    Calls Tryz.prog 3 #[v1, v2, .agg #[.string tx, .string ty]] w fun e w' => e = .returned (.bool true) ∧ Below w.heap.size w w' := by
  have hln := sumB_len l
  have hqn := sumB_len q
  have HSL := Lib.hid hl
  have HSQ := Lib.hid hq
  have HX := Lib.hid hx
  have HY := Lib.hid hy
  have HP1 := Lib.hid hp1
  have HP2 := Lib.hid hp2
  have HG := Lib.hid hg
  have hln' : l.length ≤ 1048576 := by omega
  have hqn' : q.length ≤ 1048576 := by omega
  obtain ⟨a1, cap1, rfl, hcap1, hc1⟩ := id hp1
  obtain ⟨a2, cap2, rfl, hcap2, hc2⟩ := id hp2
  have HC1 := Lib.hid hc1
  have HC2 := Lib.hid hc2
  clear hl hq hx hy hp1 hp2 hg hln hqn hc1 hc2
  have hrow := RowAt.new w #[.string tx, .string ty] 25 [.string tx, .string ty] rfl
  have hb0 := (Below.refl w.heap.size w).alloc (Nat.le_refl _) (.cells #[.string tx, .string ty] 25)
  obtain ⟨w0, hw0⟩ : ∃ w0, w.alloc (.cells #[.string tx, .string ty] 25) = w0 := ⟨_, rfl⟩
  obtain ⟨P, hP⟩ : ∃ P, w.heap.size = P := ⟨_, rfl⟩
  rw [hw0, hP] at hrow
  rw [hw0] at hb0
  have HR0 := Lib.hid hrow
  have HB0 := Lib.hid hb0
  have HW0 := Lib.hid hw0
  have HPe := Lib.hid hP
  clear hrow hb0 hw0 hP
  go_enter Tryz.func3, Tryz.ntmps3
  go_upto_region 1 with fail
  rw [HW0.out, HPe.out]
  go_wp2_with fail
  go_loopw [24, 7, 9, 10, 11, 12, 13] (fun i ok _ _ _ _ _ wr => ∃ k : Nat, k ≤ l.length ∧ i = .int .i64 k ∧ OkAt ok (∀ p ∈ l.take k, GoodP p) ∧ RowAt wr P [.string tx, .string ty] ∧ Below w.heap.size w wr) (fun i _ _ _ _ _ _ _ => l.length - (RowKit.intOf i).toNat)
  case atStart => exact ⟨0, Nat.zero_le _, rfl, OkAt.yes true (fun _ => by simp), HR0.out, HB0.out⟩
  case round =>
    obtain ⟨k, hk, rfl, hok, hrp, hbw⟩ := hrel
    obtain ⟨ok, rfl, hok⟩ := hok
    have HOK := Lib.hid hok
    have HRP := Lib.hid hrp
    have HBW := Lib.hid hbw
    clear hok hrp
    by_cases hlt : k < l.length
    · have hltI : (k : Int) < (l.length : Int) := by omega
      obtain ⟨ad, rfl, hx0, hx1⟩ := HC1.out k l[k] (List.getElem?_eq_getElem hlt)
      have hy0 := (hbw.cell (p := ad.add (k * 2)) (cell_in hx0)).trans hx0
      have hy1 := (hbw.cell (p := ⟨(ad.add (k * 2)).block, (ad.add (k * 2)).off + 1, none⟩) (cell_in hx1)).trans hx1
      have HTK : Hid (l.take (k + 1) = l.take k ++ [l[k]]) := by
        show _ = _
        rw [List.take_add_one, List.getElem?_eq_getElem hlt]; rfl
      have hpz := sumB_mem l l[k] (List.getElem_mem hlt)
      have hsl := HSL.out
      obtain ⟨p, hpp⟩ : ∃ p, l[k] = p := ⟨_, rfl⟩
      rw [hpp] at hy0 hy1 HTK hpz
      clear hx0 hx1 hpp HC1 hbw
      obtain ⟨a, d⟩ := p
      simp only at hy0 hy1 hpz
      have has : a.size ≤ 1048576 := by omega
      have hds : d.size ≤ 1048576 := by omega
      clear hpz hsl
      have hr1 := RowAt.new wr #[.string a, .string d] 27 [.string a, .string d] rfl
      have hb1 := HBW.out.alloc HBW.out.size (.cells #[.string a, .string d] 27)
      have hrp1 := HRP.out.alloc (.cells #[.string a, .string d] 27)
      have HRo := Lib.hid hr1
      have HBo := Lib.hid hb1
      have HRPo := Lib.hid hrp1
      clear hr1 hb1 hrp1
      go_upto_region 5 with fail
      obtain ⟨w1, hw1⟩ : ∃ w1, wr.alloc (.cells #[.string a, .string d] 27) = w1 := ⟨_, rfl⟩
      obtain ⟨B, hB⟩ : ∃ B, wr.heap.size = B := ⟨_, rfl⟩
      have hr1 : RowAt w1 B [.string a, .string d] := by have := HRo.out; rw [hw1, hB] at this; exact this
      have HB1 : Hid (Below w.heap.size w w1) := by have := HBo.out; rw [hw1] at this; exact this
      have HRP1 : Hid (RowAt w1 P [.string tx, .string ty]) := by have := HRPo.out; rw [hw1] at this; exact this
      rw [hw1, hB]
      clear hw1 hB HRo HBo HRPo
      have c0 := hr1.cell (j := 0) rfl
      have c1 := hr1.cell (j := 1) rfl
      have HR1 := Lib.hid hr1
      clear hr1
      go_upto_region 6 with fail
      go_cut [7] (fun v wx => OkAt v ((∀ p ∈ l.take k, GoodP p) ∧ Fine1 a.data.toList) ∧ RowAt wx B [.string a, .string d] ∧ RowAt wx P [.string tx, .string ty] ∧ Below w.heap.size w wx)
      case first =>
        as_aux_lemma =>
          cases ok
          · go_wp2_with fail
            go_meet
            case rel => exact ⟨OkAt.no _, HR1.out, HRP1.out, HB1.out⟩
          · by_cases hsz : a.size = 0
            · have hz : ¬ (0 : Int) < (a.size : Int) := by omega
              clear hsz
              go_wp2_with fail
              go_meet
              case rel => exact ⟨OkAt.no _, HR1.out, HRP1.out, HB1.out⟩
            · obtain ⟨n, hn⟩ : ∃ n, a.size = n + 1 := ⟨a.size - 1, by omega⟩
              have hz : (0 : Int) < (a.size : Int) := by omega
              have hz' : 0 < a.size := by omega
              have hnl : n < a.size := by omega
              have hw1 : IntKind.i64.wrap ((a.size : Int) - 1) = (a.size : Int) - 1 := IntWalk.i64_in _ (by omega)
              have hn0 : (0 : Int) ≤ (a.size : Int) - 1 := by omega
              have hn1 : (a.size : Int) - 1 < (a.size : Int) := by omega
              have hnt : ((a.size : Int) - 1).toNat = n := by omega
              have hb1 := byte_le a[0]
              have hb2 := byte_le a[n]
              have HN := Lib.hid hn
              have hf1 := fine1_of a n hz' hnl hn
              clear hn hsz
              by_cases h1 : (a[0].toNat : Int) = 44
              · have h1b : ((a[0].toNat : Int) != 44) = false := by rw [h1]; rfl
                clear hf1
                go_wp2_with fail
                go_meet
                case rel => exact ⟨OkAt.no _, HR1.out, HRP1.out, HB1.out⟩
              · have h1b : ((a[0].toNat : Int) != 44) = true := bne_iff_ne.2 h1
                replace hf1 := hf1 h1
                have H1 := Lib.hid h1
                clear h1
                by_cases h2 : (a[n].toNat : Int) = 44
                · have h2b : ((a[n].toNat : Int) != 44) = false := by rw [h2]; rfl
                  clear hf1
                  go_wp2_with fail
                  go_meet
                  case rel => exact ⟨OkAt.no _, HR1.out, HRP1.out, HB1.out⟩
                · have h2b : ((a[n].toNat : Int) != 44) = true := bne_iff_ne.2 h2
                  replace hf1 := hf1 h2
                  clear h2
                  have hconv := run_bytes_of_string (P := Tryz.prog) w1 9 29 5 a Tryz.underlying9 Tryz.underlying29 Tryz.underlying5
                  have hrw := RowAt.bytes w1 a (grownCap w1 a.size 0 5) 5
                  have hcap := grownCap_ge w1 a.size 0 5
                  have hbz : Below w1.heap.size w1 (w1.alloc (.cells (bytesRow a (grownCap w1 a.size 0 5)) 5 ((bytesRow a (grownCap w1 a.size 0 5)).size, (bytesRow a (grownCap w1 a.size 0 5)).size + 1))).drew := ((Below.refl _ w1).alloc (Nat.le_refl _) _).drew
                  generalize grownCap w1 a.size 0 5 = cap at hconv hrw hcap hbz
                  generalize bytesRow a cap = C at hconv hrw hbz
                  obtain ⟨W1, hW1⟩ : ∃ W1, (w1.alloc (.cells C 5 (C.size, C.size + 1))).drew = W1 := ⟨_, rfl⟩
                  have hrw1 : RowAt W1 w1.heap.size (byteCells a.data.toList) := by rw [← hW1]; exact hrw.drew
                  rw [hW1] at hbz
                  have hvl := valid_any w1.heap.size cap a.data.toList W1 (by rw [← size_eq]; omega) (by rw [← size_eq]; exact hcap) hrw1
                  rw [← size_eq] at hvl
                  have hW2 : (w1.drew.alloc (.cells C 5 (C.size, C.size + 1))) = W1 := hW1
                  obtain ⟨vb, hvb⟩ : ∃ vb, validB a.data.toList = vb := ⟨_, rfl⟩
                  rw [hvb] at hvl hf1
                  have HBZ := Lib.hid hbz
                  have HF1 := Lib.hid hf1
                  clear hrw hrw1 hbz hvb hf1
                  go_wp2_with fail
                  refine hvl.mono ?_
                  clear hvl
                  rintro e w2 ⟨rfl, hb2⟩
                  have hb3 : Below w1.heap.size w1 w2 := HBZ.out.trans (hb2.mono HBZ.out.size)
                  have HR2 := Lib.hid (HR1.out.below hb3 HR1.out.lt)
                  have HRP2 := Lib.hid (HRP1.out.below hb3 HRP1.out.lt)
                  have HB2 : Hid (Below w.heap.size w w2) := HB1.out.trans (hb3.mono HB1.out.size)
                  clear hb2 hb3
                  go_wp2_with fail
                  go_meet
                  case rel => exact ⟨OkAt.yes _ (fun h => ⟨HOK.out (by trivial), HF1.out h⟩), HR2.out, HRP2.out, HB2.out⟩
      case rest =>
        obtain ⟨hok2, hr2, hrp2, hb2⟩ := hcut
        obtain ⟨ok2, rfl, hok2⟩ := hok2
        obtain ⟨wz, hwz⟩ : ∃ wz, wz = wc := ⟨_, rfl⟩
        subst hwz
        have HOK2 := Lib.hid hok2
        have HR2 := Lib.hid hr2
        have HRP2 := Lib.hid hrp2
        have HB2 := Lib.hid hb2
        have c0 := hr2.cell (j := 0) rfl
        have c1 := hr2.cell (j := 1) rfl
        clear hok2 hr2 hrp2 hb2
        go_upto_block 2 with fail
        go_cut [7, 11] (fun v _ wx => OkAt v (((∀ p ∈ l.take k, GoodP p) ∧ Fine1 a.data.toList) ∧ ∀ b ∈ a.data.toList, whB b = false) ∧ wx = wz)
        case first =>
          as_aux_lemma =>
            go_wp2_with fail
            go_loopw [57, 7, 11] (fun j v _ wx => ∃ i : Nat, i ≤ a.size ∧ j = .int .i64 i ∧ OkAt v (((∀ p ∈ l.take k, GoodP p) ∧ Fine1 a.data.toList) ∧ ∀ b ∈ a.data.toList.take i, whB b = false) ∧ wx = wz) (fun j _ _ _ => a.size - (RowKit.intOf j).toNat)
            case atStart => exact ⟨0, Nat.zero_le _, rfl, OkAt.yes _ (fun h => ⟨HOK2.out h, by simp⟩), rfl⟩
            case round =>
              obtain ⟨i, hi, rfl, hok3, rfl⟩ := hrel
              obtain ⟨ok3, rfl, hok3⟩ := hok3
              have HOK3 := Lib.hid hok3
              clear hok3
              by_cases hlt2 : i < a.size
              · have hltI2 : (i : Int) < (a.size : Int) := by omega
                have hbi := byte_le a[i]
                have HAT := Lib.hid (at_list a i hlt2)
                cases ok3
                · go_wp2_with fail
                  go_roundw
                  case rel => exact ⟨i + 1, by omega, by go_num, OkAt.no _, by trivial⟩
                  case measure => simp [RowKit.intOf]; omega
                · have HDK : Hid (∀ b ∈ a.data.toList.take i, whB b = false) := (HOK3.out (by trivial)).2
                  have HOK2 := Lib.hid (HOK3.out (by trivial)).1
                  clear HOK3
                  by_cases h9 : (a[i].toNat : Int) = 9
                  · have h9b : ((a[i].toNat : Int) != 9) = false := by rw [h9]; rfl
                    go_wp2_with fail
                    go_roundw
                    case rel => exact ⟨i + 1, by omega, by go_num, OkAt.no _, by trivial⟩
                    case measure => simp [RowKit.intOf]; omega
                  · have h9b : ((a[i].toNat : Int) != 9) = true := bne_iff_ne.2 h9
                    have H9 := Lib.hid h9
                    clear h9
                    by_cases h10 : (a[i].toNat : Int) = 10
                    · have h10b : ((a[i].toNat : Int) != 10) = false := by rw [h10]; rfl
                      go_wp2_with fail
                      go_roundw
                      case rel => exact ⟨i + 1, by omega, by go_num, OkAt.no _, by trivial⟩
                      case measure => simp [RowKit.intOf]; omega
                    · have h10b : ((a[i].toNat : Int) != 10) = true := bne_iff_ne.2 h10
                      have H10 := Lib.hid h10
                      clear h10
                      by_cases h12 : (a[i].toNat : Int) = 12
                      · have h12b : ((a[i].toNat : Int) != 12) = false := by rw [h12]; rfl
                        go_wp2_with fail
                        go_roundw
                        case rel => exact ⟨i + 1, by omega, by go_num, OkAt.no _, by trivial⟩
                        case measure => simp [RowKit.intOf]; omega
                      · have h12b : ((a[i].toNat : Int) != 12) = true := bne_iff_ne.2 h12
                        have H12 := Lib.hid h12
                        clear h12
                        by_cases h13 : (a[i].toNat : Int) = 13
                        · have h13b : ((a[i].toNat : Int) != 13) = false := by rw [h13]; rfl
                          go_wp2_with fail
                          go_roundw
                          case rel => exact ⟨i + 1, by omega, by go_num, OkAt.no _, by trivial⟩
                          case measure => simp [RowKit.intOf]; omega
                        · have h13b : ((a[i].toNat : Int) != 13) = true := bne_iff_ne.2 h13
                          have H13 := Lib.hid h13
                          clear h13
                          by_cases h32 : (a[i].toNat : Int) = 32
                          · have h32b : ((a[i].toNat : Int) != 32) = false := by rw [h32]; rfl
                            go_wp2_with fail
                            go_roundw
                            case rel => exact ⟨i + 1, by omega, by go_num, OkAt.no _, by trivial⟩
                            case measure => simp [RowKit.intOf]; omega
                          · have h32b : ((a[i].toNat : Int) != 32) = true := bne_iff_ne.2 h32
                            have H32 := Lib.hid h32
                            clear h32
                            have HD2 : Hid (∀ b ∈ a.data.toList.take (i + 1), whB b = false) := by
                              intro b hb
                              rw [List.take_add_one, HAT.out] at hb
                              simp at hb
                              rcases hb with hb | rfl
                              · exact HDK.out b hb
                              · exact dark_of H9.out H10.out H12.out H13.out H32.out
                            go_wp2_with fail
                            go_roundw
                            case rel => exact ⟨i + 1, by omega, by go_num, OkAt.yes true (fun _ => ⟨HOK2.out, HD2.out⟩), by trivial⟩
                            case measure => simp [RowKit.intOf]; omega
              · obtain rfl : i = a.size := by omega
                have HD3 : Hid (ok3 = true → ((∀ p ∈ l.take k, GoodP p) ∧ Fine1 a.data.toList) ∧ ∀ b ∈ a.data.toList, whB b = false) := fun h => by
                  have := HOK3.out h
                  have e : a.data.toList.take a.size = a.data.toList := List.take_of_length_le (by rw [← size_eq]; exact Nat.le_refl _)
                  rw [e] at this
                  exact this
                go_wp2_with fail
                go_meet
                case rel => exact ⟨OkAt.yes _ HD3.out, by trivial⟩
        case rest =>
          obtain ⟨hok3, hwx⟩ := hcut
          obtain ⟨ok3, rfl, hok3⟩ := hok3
          subst hwx
          have HOK3 := Lib.hid hok3
          clear hok3
          as_aux_lemma =>
            obtain ⟨wz, hwz⟩ : ∃ wz, wz = wc := ⟨_, rfl⟩
            subst hwz
            have c1 := HR2.out.cell (j := 1) rfl
            have hsr := fun w => srcset_any ((⟨#[97, 32]⟩ : ByteArray) ++ d) w (by rw [ByteArray.size_append]; show 2 + d.size ≤ _; omega)
            have hAd : ((⟨#[97, 32]⟩ : ByteArray) ++ d).data.toList = 97 :: 32 :: d.data.toList := by rw [ByteArray.data_append, Array.toList_append]; rfl
            rw [hAd] at hsr
            have hsum : ¬ 9223372036854775807 < 2 + d.size := by omega
            obtain ⟨sl, hsl⟩ : ∃ sl, srcL (mend (97 :: 32 :: d.data.toList)) = sl := ⟨_, rfl⟩
            rw [hsl] at hsr
            obtain ⟨ft, hft⟩ : ∃ ft, okAll sl = ft := ⟨_, rfl⟩
            rw [hft] at hsr
            rw [← hsl] at hft
            have HFT := Lib.hid hft
            clear hAd hsl hft
            go_wp2_with fail
            refine (hsr _).mono ?_
            clear hsr
            rintro e w5 ⟨g, rfl, _, hb5⟩
            have hr5 := HR2.out.below hb5 HR2.out.lt
            have HRP5 := Lib.hid (HRP2.out.below hb5 HRP2.out.lt)
            have HB5 : Hid (Below w.heap.size w w5) := HB2.out.trans (hb5.mono HB2.out.size)
            have c1 := hr5.cell (j := 1) rfl
            clear hr5 hb5
            go_upto_region 13 with fail
            cases ok3
            · go_wp2_with fail
              go_roundw
              case rel => exact ⟨k + 1, by omega, by go_num, OkAt.no _, HRP5.out, HB5.out⟩
              case measure => simp [RowKit.intOf]; omega
            · by_cases h0 : d.size = 0
              · have he := empty_true d h0
                have HN : Hid (∀ p ∈ l.take (k + 1), GoodP p) := by
                  have e := nil_of_size d h0
                  have h2 := goodP_of (d := d) (HOK3.out (by trivial)).1.2 (HOK3.out (by trivial)).2 (by rw [e]; rfl) (by rw [e]; rfl)
                  show ∀ p ∈ l.take (k + 1), GoodP p
                  rw [HTK.out]
                  exact good_next (HOK3.out (by trivial)).1.1 h2
                clear h0
                go_wp2_with fail
                go_roundw
                case rel => exact ⟨k + 1, by omega, by go_num, OkAt.yes true (fun _ => HN.out), HRP5.out, HB5.out⟩
                case measure => simp [RowKit.intOf]; omega
              · have he := empty_false d (by omega)
                have hpos : 0 < d.size := by omega
                have hposI : (0 : Int) < (d.size : Int) := by omega
                have hby := byte_le d[0]
                have HNE : Hid (d.data.toList ≠ []) := fun e => h0 (by rw [size_eq, e]; rfl)
                cases ft
                · go_wp2_with fail
                  go_roundw
                  case rel => exact ⟨k + 1, by omega, by go_num, OkAt.no _, HRP5.out, HB5.out⟩
                  case measure => simp [RowKit.intOf]; omega
                · by_cases hlen : (d.size : Int) < 30
                  · by_cases h32 : (d[0].toNat : Int) = 32
                    · have h32b : ((d[0].toNat : Int) != 32) = false := by rw [h32]; rfl
                      go_wp2_with fail
                      go_roundw
                      case rel => exact ⟨k + 1, by omega, by go_num, OkAt.no _, HRP5.out, HB5.out⟩
                      case measure => simp [RowKit.intOf]; omega
                    · have h32b : ((d[0].toNat : Int) != 32) = true := bne_iff_ne.2 h32
                      clear h32
                      by_cases h44 : (d[0].toNat : Int) = 44
                      · have h44b : ((d[0].toNat : Int) != 44) = false := by rw [h44]; rfl
                        go_wp2_with fail
                        go_roundw
                        case rel => exact ⟨k + 1, by omega, by go_num, OkAt.no _, HRP5.out, HB5.out⟩
                        case measure => simp [RowKit.intOf]; omega
                      · have h44b : ((d[0].toNat : Int) != 44) = true := bne_iff_ne.2 h44
                        clear h44
                        by_cases h48 : 48 ≤ (d[0].toNat : Int)
                        · by_cases h57 : (d[0].toNat : Int) ≤ 57
                          · have hpl := fun w => plain_any d w (by omega)
                            obtain ⟨pb, hpb⟩ : ∃ pb, d.data.toList.all plB = pb := ⟨_, rfl⟩
                            rw [hpb] at hpl
                            have HN : Hid (pb = true → ∀ p ∈ l.take (k + 1), GoodP p) := fun h => by
                              have h2 := goodP_of (HOK3.out (by trivial)).1.2 (HOK3.out (by trivial)).2 (hpb.trans h) (probe_good (hpb.trans h) HNE.out HFT.out)
                              rw [HTK.out]
                              exact good_next (HOK3.out (by trivial)).1.1 h2
                            clear hpb
                            go_wp2_with fail
                            refine (hpl _).mono ?_
                            clear hpl
                            rintro e w6 ⟨rfl, rfl⟩
                            go_wp2_with fail
                            go_roundw
                            case rel => exact ⟨k + 1, by omega, by go_num, OkAt.yes _ HN.out, HRP5.out, HB5.out⟩
                            case measure => simp [RowKit.intOf]; omega
                          · go_wp2_with fail
                            go_roundw
                            case rel => exact ⟨k + 1, by omega, by go_num, OkAt.no _, HRP5.out, HB5.out⟩
                            case measure => simp [RowKit.intOf]; omega
                        · go_wp2_with fail
                          go_roundw
                          case rel => exact ⟨k + 1, by omega, by go_num, OkAt.no _, HRP5.out, HB5.out⟩
                          case measure => simp [RowKit.intOf]; omega
                  · go_wp2_with fail
                    go_roundw
                    case rel => exact ⟨k + 1, by omega, by go_num, OkAt.no _, HRP5.out, HB5.out⟩
                    case measure => simp [RowKit.intOf]; omega
    · obtain rfl : k = l.length := by omega
      have HOKL : Hid (ok = true → ∀ p ∈ l, GoodP p) := fun h => by
        have := HOK.out h
        rw [List.take_length] at this
        exact this
      clear HOK hbw
      go_upto_if 149 with fail
      go_cut [14, 15] (fun _ _ wx => RowAt wx P [.string tx, .string ty] ∧ Below w.heap.size w wx)
      case first =>
        as_aux_lemma =>
          cases ok
          · go_wp2_with fail
            go_meet
            case rel => exact ⟨HRP.out, HBW.out⟩
          · have hgood := HOKL.out (by trivial)
            have hset := fun w' hw => set_any (.slice a1 l.length cap1) l w' hln' (fun p hp => by
              have := sumB_mem l p hp
              have := HSL.out
              omega) hw
            have hS := setS_size hgood
            have hsl := HSL.out
            have hbk := set_back hgood
            have hoa := okAll_good hgood
            obtain ⟨S, hSe⟩ : ∃ S, setS l = S := ⟨_, rfl⟩
            rw [hSe] at hset hS hbk
            have hsr := fun w => srcset_any S w (by omega)
            rw [hbk, hoa] at hsr
            clear hS hsl hbk hoa hSe hgood HOKL
            go_wp2_with fail
            refine (hset _ (HP1.out.below HBW.out)).mono ?_
            clear hset
            rintro e w3 ⟨rfl, hb3⟩
            have HRP3 := Lib.hid (HRP.out.below hb3 HRP.out.lt)
            have HB3 : Hid (Below w.heap.size w w3) := HBW.out.trans (hb3.mono HBW.out.size)
            clear hb3
            go_wp2_with fail
            refine (hsr _).mono ?_
            clear hsr
            rintro e w4 ⟨g, rfl, hown, hb4⟩
            have HRP4 := Lib.hid (HRP3.out.below hb4 HRP3.out.lt)
            have HB4 : Hid (Below w.heap.size w w4) := HB3.out.trans (hb4.mono HB3.out.size)
            have hsame := candidates_same g (.slice a1 l.length cap1) l w4 (by omega) (pairs_own hown) (HP1.out.below HB4.out)
            clear hb4 hown
            go_wp2_with fail
            refine hsame.mono ?_
            clear hsame
            rintro e w5 ⟨rfl, hb5⟩
            have HRP5 := Lib.hid (HRP4.out.below hb5 HRP4.out.lt)
            have HB5 : Hid (Below w.heap.size w w5) := HB4.out.trans (hb5.mono HB4.out.size)
            clear hb5
            go_wp2_with fail
            go_meet
            case rel => exact ⟨HRP5.out, HB5.out⟩
      case rest =>
        obtain ⟨hrp, hbw⟩ := hcut
        obtain ⟨W, hW⟩ : ∃ W, W = wc := ⟨_, rfl⟩
        subst hW
        have HRW := Lib.hid hrp
        have HBW2 := Lib.hid hbw
        have HGW := Lib.hid (HG.out.below hbw)
        clear hrp hbw HRP HBW HOKL
        obtain ⟨i0, hi, hz0, hz1, hz2⟩ := info_parts infoAt
        go_wp2_with fail
        go_loopw [166, 16, 18] (fun i v _ wr => ∃ k : Nat, k ≤ q.length ∧ i = .int .i64 k ∧ wr.ownsRow W.heap.size 36 2 v k (cdCells ((q.map mendP).take k)) ∧ Below W.heap.size W wr) (fun i _ _ _ => q.length - (RowKit.intOf i).toNat)
        case atStart => exact ⟨0, Nat.zero_le _, rfl, World.ownsRow_nil _ _ _ _, Below.refl _ _⟩
        case round =>
          obtain ⟨k, hk, rfl, hown, hbw⟩ := hrel
          have HOWN := Lib.hid hown
          have HB := Lib.hid hbw
          clear hown
          by_cases hlt : k < q.length
          · have hltI : (k : Int) < (q.length : Int) := by omega
            as_aux_lemma =>
              obtain ⟨a, rfl, hx0, hx1⟩ := HC2.out k q[k] (List.getElem?_eq_getElem hlt)
              have hbq := HBW2.out.trans (hbw.mono HBW2.out.size)
              have hy0 := (hbq.cell (p := a.add (k * 2)) (cell_in hx0)).trans hx0
              have hy1 := (hbq.cell (p := ⟨(a.add (k * 2)).block, (a.add (k * 2)).off + 1, none⟩) (cell_in hx1)).trans hx1
              have HTK : Hid ((q.map mendP).take (k + 1) = (q.map mendP).take k ++ [mendP q[k]]) := by
                show _ = _
                rw [List.take_add_one, List.getElem?_map, List.getElem?_eq_getElem hlt]; rfl
              have HKL : Hid (((q.map mendP).take k).length = k) := by show _ = _; rw [List.length_take, List.length_map]; omega
              have hpz := sumB_mem q q[k] (List.getElem_mem hlt)
              have hsq := HSQ.out
              obtain ⟨p, hpp⟩ : ∃ p, q[k] = p := ⟨_, rfl⟩
              rw [hpp] at hy0 hy1 HTK hpz
              clear hx0 hx1 hpp HC2 hbw hbq
              obtain ⟨x, y⟩ := p
              simp only at hy0 hy1 hpz
              have hm1 : ∀ w, Calls Tryz.prog 9 #[.string x] w fun e w' => e = .returned (.string (mendS x)) ∧ Below w.heap.size w w' := fun w => rmend_any x w (by omega)
              have hm2 : ∀ w, Calls Tryz.prog 9 #[.string y] w fun e w' => e = .returned (.string (mendS y)) ∧ Below w.heap.size w w' := fun w => rmend_any y w (by omega)
              have HSB : Hid (mendP (x, y) = (mendS x, mendS y)) := rfl
              generalize mendS x = mx at hm1 HSB
              generalize mendS y = my at hm2 HSB
              clear hpz hsq
              have hrow := RowAt.new wr #[.string x, .string y] 36 [.string x, .string y] rfl
              have hbel := HB.out.alloc HB.out.size (.cells #[.string x, .string y] 36)
              have hown1 := HOWN.out.alloc (.cells #[.string x, .string y] 36)
              have HROW := Lib.hid hrow
              have HBEL := Lib.hid hbel
              have HOWN1 := Lib.hid hown1
              clear hrow hbel hown1
              go_upto_region 23 with fail
              obtain ⟨w1, hw1⟩ : ∃ w1, wr.alloc (.cells #[.string x, .string y] 36) = w1 := ⟨_, rfl⟩
              obtain ⟨B, hB⟩ : ∃ B, wr.heap.size = B := ⟨_, rfl⟩
              have hr1 : RowAt w1.drew B [.string x, .string y] := by have := HROW.out; rw [hw1, hB] at this; exact this.drew
              have HO1 : Hid (w1.drew.ownsRow W.heap.size 36 2 u16 k (cdCells ((q.map mendP).take k))) := by have := HOWN1.out; rw [hw1] at this; exact this
              have HB1 : Hid (Below W.heap.size W w1.drew) := by have := HBEL.out; rw [hw1] at this; exact this.drew
              rw [hw1, hB]
              clear hw1 hB HROW HBEL HOWN1
              have c0 := hr1.cell (j := 0) rfl
              have c1 := hr1.cell (j := 1) rfl
              have HR1 := Lib.hid hr1
              have HYN := Lib.hid (fun (W : World) (p : ByteArray × ByteArray) => cd_new W p 36)
              clear hr1
              go_region_law (first
                | (go_simp; go_at_call_of 9 (Value.string x); refine (hm1 _).mono ?_; rintro e w2 ⟨rfl, hb2⟩; have hr2 := HR1.out.below hb2 HR1.out.lt; have HO2 := Lib.hid (own_below HO1.out hb2); have HB2 : Hid (Below W.heap.size W w2) := HB1.out.trans (hb2.mono HB1.out.size); have d1 := hr2.cell (j := 1) rfl; have HR2 := Lib.hid hr2; clear hr2 hb2)
                | (go_simp; go_at_call_of 9 (Value.string y); refine (hm2 _).mono ?_; rintro e w3 ⟨rfl, hb3⟩; have HO3 := Lib.hid (own_below HO2.out hb3); have HB3 : Hid (Below W.heap.size W w3) := HB2.out.trans (hb3.mono HB2.out.size); clear hb3)
                | (refine step_append_own rfl (.tmp 170) (.tmp 178) 23 rfl W.heap.size 36 i0 (.agg #[.string ⟨#[]⟩, .string ⟨#[]⟩]) 2 32 Tryz.underlying23 hi hz0 hz1 hz2 rfl (by decide) u16 k (cdCells ((q.map mendP).take k)) (by simp [Act.eval]) (HO3.out.alloc _) ⟨w3.heap.size, 0, none⟩ 1 1 (cdRow (mx, my)) (by simp [Act.eval]) rfl (HYN.out _ _) (by simp [cdRow, Value.oneCell']) (by unfold maxLen; omega) (by omega) (by simp; have := HB3.out.size; omega) ?_; intro v' w5 hown' hgrow; have HOW := Lib.hid hown'; have HGR := Lib.hid hgrow; clear hown' hgrow))
              all_goals
                have HO5 : Hid (w5.ownsRow W.heap.size 36 2 v' (k + 1) (cdCells ((q.map mendP).take (k + 1)))) := by
                  show World.ownsRow _ _ _ _ _ _ _
                  rw [HTK.out, cdCells_snoc, HSB.out]
                  exact HOW.out
                have HB5 : Hid (Below W.heap.size W w5) := (HB3.out.alloc HB3.out.size (.cells #[.string mx, .string my] 36)).grown HGR.out (by simp; have := HB3.out.size; omega) (fun j ej => (HO3.out.lt j ej).1)
                go_wp2_with fail
                go_roundw
                case rel => exact ⟨k + 1, by omega, by go_num, HO5.out, HB5.out⟩
                case measure => simp [RowKit.intOf]; omega
          · obtain rfl : k = q.length := by omega
            have hown := HOWN.out
            have e : (q.map mendP).take q.length = q.map mendP := List.take_of_length_le (by rw [List.length_map]; exact Nat.le_refl _)
            rw [e] at hown
            have HPA : Hid (PairsAt wr u16 (q.map mendP)) := pairs_own (by rw [List.length_map]; exact hown)
            have HBq : Hid (Below w.heap.size w wr) := HBW2.out.trans (hbw.mono HBW2.out.size)
            have HRq := Lib.hid (HRW.out.below hbw HRW.out.lt)
            have hqy := fun w' hw => qry_any (.slice a2 q.length cap2) q w' hqn' (fun p hp => by
              have := sumB_mem q p hp
              have := HSQ.out
              omega) hw
            have hqs := qryS_size q
            have hsq := HSQ.out
            have hpq := pairs_query q
            obtain ⟨S, hSe⟩ : ∃ S, qryS q = S := ⟨_, rfl⟩
            rw [hSe] at hqy hqs hpq
            have hpr := fun w hw => pairs_any S w (by omega) hw
            rw [hpq] at hpr
            have hpr' : ∀ w, MaxAt w → Calls Tryz.prog 11 #[.string S] w fun e w' => ∃ g, e = .returned g ∧ w'.ownsRow w.heap.size 36 2 g (q.map mendP).length (cdCells (q.map mendP)) ∧ Below w.heap.size w w' := hpr
            clear hown e hqs hsq hpq hpr hSe hbw HOWN HB
            go_wp2_with fail
            refine (hqy _ (HP2.out.below HBq.out)).mono ?_
            clear hqy
            rintro e w3 ⟨rfl, hb3⟩
            have HR3 := Lib.hid (HRq.out.below hb3 HRq.out.lt)
            have HB3 : Hid (Below w.heap.size w w3) := HBq.out.trans (hb3.mono HBq.out.size)
            have HPA3 := Lib.hid (HPA.out.below hb3)
            clear hb3
            go_wp2_with fail
            refine (hpr' _ (HG.out.below HB3.out)).mono ?_
            clear hpr'
            rintro e w4 ⟨g, rfl, hown, hb4⟩
            have HR4 := Lib.hid (HR3.out.below hb4 HR3.out.lt)
            have HB4 : Hid (Below w.heap.size w w4) := HB3.out.trans (hb4.mono HB3.out.size)
            have hsame := attrs_same g u16 (q.map mendP) w4 (by rw [List.length_map]; omega) (pairs_own hown) (HPA3.out.below hb4)
            clear hb4 hown
            go_wp2_with fail
            refine hsame.mono ?_
            clear hsame
            rintro e w5 ⟨rfl, hb5⟩
            have HR5 := Lib.hid (HR4.out.below hb5 HR4.out.lt)
            have HB5 : Hid (Below w.heap.size w w5) := HB4.out.trans (hb5.mono HB4.out.size)
            clear hb5
            go_upto_region 27 with fail
            obtain ⟨A0, B0, C0, D0, F0, X0, Y0, Z0, U0, hP0, kA0, kB0, kC0, kD0, kF0⟩ := partsV_any tx HX.out
            obtain ⟨A1, B1, C1, D1, F1, X1, Y1, Z1, U1, hP1, kA1, kB1, kC1, kD1, kF1⟩ := partsV_any ty HY.out
            have hs0 := hP0.split
            have hs1 := hP1.split
            have HK0 := Lib.hid (And.intro hP0 (And.intro kA0 (And.intro kB0 (And.intro kC0 (And.intro kD0 kF0)))))
            have HK1 := Lib.hid (And.intro hP1 (And.intro kA1 (And.intro kB1 (And.intro kC1 (And.intro kD1 kF1)))))
            clear hP0 kA0 kB0 kC0 kD0 kF0 hP1 kA1 kB1 kC1 kD1 kF1
            have c0 := HR5.out.cell (j := 0) rfl
            have c1 := HR5.out.cell (j := 1) rfl
            have hPlt := HR5.out.lt
            have n5 : w5.heap.size ≠ P := Nat.ne_of_gt hPlt
            have e5 : w5.heap.size ≠ w5.heap.size + 1 := (Nat.succ_ne_self _).symm
            have f5 : w5.heap.size + 1 ≠ w5.heap.size := Nat.succ_ne_self _
            have n5' : w5.heap.size + 1 ≠ P := Nat.ne_of_gt (Nat.lt_succ_of_lt hPlt)
            go_cut [19, 20] from 1000 (fun p r wx => TwoLinks w (row9 A0 B0 C0 D0 F0 X0 Y0 Z0 U0) (row9 A1 B1 C1 D1 F1 X1 Y1 Z1 U1) p r wx)
            case first =>
              go_region_held3 (fun w' => w'.cell? ⟨P, 0, none⟩ = some (.string tx) ∧ w'.cell? ⟨P, 1, none⟩ = some (.string ty)) (go_keep)
                (first
                | (go_at_call_of 13 (Value.string tx); refine (hs0 _).mono ?_; rintro e w6 ⟨rfl, hb6⟩; have hr6 : RowAt w6 P [.string tx, .string ty] := RowAt.later (by first | exact HR5.out | exact HR5.out.alloc _ | exact (HR5.out.alloc _).alloc _) hb6; have n6 : w6.heap.size ≠ P := Nat.ne_of_gt hr6.lt; have n6' : w6.heap.size + 1 ≠ P := Nat.ne_of_gt (Nat.lt_succ_of_lt hr6.lt); have k0 := hr6.cell (j := 0) rfl; have k1 := hr6.cell (j := 1) rfl; (try (have q6 : RowAt w6 (w5.heap.size) zeroLk := RowAt.later (by first | exact RowAt.made rfl rfl | exact (RowAt.made rfl rfl).alloc _) hb6; have q6n := q6.lt; have q6e := Nat.ne_of_lt q6.lt; have q6g := Nat.ne_of_gt q6.lt; have Hq6 := Lib.hid q6; clear q6)); (try (have r6 : RowAt w6 (w5.heap.size + 1) zeroLk := RowAt.later (by first | exact RowAt.made (by rw [World.size_alloc]) rfl | exact (RowAt.made (by rw [World.size_alloc]) rfl).drew) hb6; have r6n := r6.lt; have r6e := Nat.ne_of_lt r6.lt; have r6g := Nat.ne_of_gt r6.lt; have Hr6 := Lib.hid r6; clear r6)); have HW6 : Hid (Below w.heap.size w w6) := Below.on (by first | exact HB5.out | exact HB5.out.drew | exact (HB5.out.alloc HB5.out.size _).drew | exact ((HB5.out.alloc HB5.out.size _).alloc (HB5.out.alloc HB5.out.size _).size _).drew) hb6; have HR6 := Lib.hid hr6; clear hr6 hb6)
                | (go_at_call_of 13 (Value.string ty); refine (hs1 _).mono ?_; rintro e w7 ⟨rfl, hb7⟩; have hr7 : RowAt w7 P [.string tx, .string ty] := RowAt.later (by first | exact HR6.out | exact HR6.out.alloc _ | exact (HR6.out.alloc _).alloc _) hb7; have n7 : w7.heap.size ≠ P := Nat.ne_of_gt hr7.lt; have n7' : w7.heap.size + 1 ≠ P := Nat.ne_of_gt (Nat.lt_succ_of_lt hr7.lt); have m0 := hr7.cell (j := 0) rfl; have m1 := hr7.cell (j := 1) rfl; (try (have q7 : RowAt w7 (w5.heap.size) zeroLk := RowAt.later (by first | exact Hq6.out | exact Hq6.out.alloc _) hb7; have q7c0 := q7.cell (j := 0) rfl; have q7f0 := q7.frozen (j := 0) (by decide); have q7c1 := q7.cell (j := 1) rfl; have q7f1 := q7.frozen (j := 1) (by decide); have q7c2 := q7.cell (j := 2) rfl; have q7f2 := q7.frozen (j := 2) (by decide); have q7c3 := q7.cell (j := 3) rfl; have q7f3 := q7.frozen (j := 3) (by decide); have q7c4 := q7.cell (j := 4) rfl; have q7f4 := q7.frozen (j := 4) (by decide); have q7c5 := q7.cell (j := 5) rfl; have q7f5 := q7.frozen (j := 5) (by decide); have q7c6 := q7.cell (j := 6) rfl; have q7f6 := q7.frozen (j := 6) (by decide); have q7c7 := q7.cell (j := 7) rfl; have q7f7 := q7.frozen (j := 7) (by decide); have q7c8 := q7.cell (j := 8) rfl; have q7f8 := q7.frozen (j := 8) (by decide); have q7n := q7.lt; have q7e := Nat.ne_of_lt q7.lt; have q7g := Nat.ne_of_gt q7.lt; have Hq7 := Lib.hid q7; clear q7)); (try (have r7 : RowAt w7 (w5.heap.size + 1) zeroLk := RowAt.later Hr6.out hb7; have r7c0 := r7.cell (j := 0) rfl; have r7f0 := r7.frozen (j := 0) (by decide); have r7c1 := r7.cell (j := 1) rfl; have r7f1 := r7.frozen (j := 1) (by decide); have r7c2 := r7.cell (j := 2) rfl; have r7f2 := r7.frozen (j := 2) (by decide); have r7c3 := r7.cell (j := 3) rfl; have r7f3 := r7.frozen (j := 3) (by decide); have r7c4 := r7.cell (j := 4) rfl; have r7f4 := r7.frozen (j := 4) (by decide); have r7c5 := r7.cell (j := 5) rfl; have r7f5 := r7.frozen (j := 5) (by decide); have r7c6 := r7.cell (j := 6) rfl; have r7f6 := r7.frozen (j := 6) (by decide); have r7c7 := r7.cell (j := 7) rfl; have r7f7 := r7.frozen (j := 7) (by decide); have r7c8 := r7.cell (j := 8) rfl; have r7f8 := r7.frozen (j := 8) (by decide); have r7n := r7.lt; have r7e := Nat.ne_of_lt r7.lt; have r7g := Nat.ne_of_gt r7.lt; have Hr7 := Lib.hid r7; clear r7)); (try (have s7 : RowAt w7 (w6.heap.size) zeroLk := RowAt.later (by first | exact RowAt.made rfl rfl | exact (RowAt.made rfl rfl).alloc _) hb7; have s7c0 := s7.cell (j := 0) rfl; have s7f0 := s7.frozen (j := 0) (by decide); have s7c1 := s7.cell (j := 1) rfl; have s7f1 := s7.frozen (j := 1) (by decide); have s7c2 := s7.cell (j := 2) rfl; have s7f2 := s7.frozen (j := 2) (by decide); have s7c3 := s7.cell (j := 3) rfl; have s7f3 := s7.frozen (j := 3) (by decide); have s7c4 := s7.cell (j := 4) rfl; have s7f4 := s7.frozen (j := 4) (by decide); have s7c5 := s7.cell (j := 5) rfl; have s7f5 := s7.frozen (j := 5) (by decide); have s7c6 := s7.cell (j := 6) rfl; have s7f6 := s7.frozen (j := 6) (by decide); have s7c7 := s7.cell (j := 7) rfl; have s7f7 := s7.frozen (j := 7) (by decide); have s7c8 := s7.cell (j := 8) rfl; have s7f8 := s7.frozen (j := 8) (by decide); have s7n := s7.lt; have s7e := Nat.ne_of_lt s7.lt; have s7g := Nat.ne_of_gt s7.lt; have Hs7 := Lib.hid s7; clear s7)); (try (have t7 : RowAt w7 (w6.heap.size + 1) zeroLk := RowAt.later (RowAt.made (by rw [World.size_alloc]) rfl) hb7; have t7c0 := t7.cell (j := 0) rfl; have t7f0 := t7.frozen (j := 0) (by decide); have t7c1 := t7.cell (j := 1) rfl; have t7f1 := t7.frozen (j := 1) (by decide); have t7c2 := t7.cell (j := 2) rfl; have t7f2 := t7.frozen (j := 2) (by decide); have t7c3 := t7.cell (j := 3) rfl; have t7f3 := t7.frozen (j := 3) (by decide); have t7c4 := t7.cell (j := 4) rfl; have t7f4 := t7.frozen (j := 4) (by decide); have t7c5 := t7.cell (j := 5) rfl; have t7f5 := t7.frozen (j := 5) (by decide); have t7c6 := t7.cell (j := 6) rfl; have t7f6 := t7.frozen (j := 6) (by decide); have t7c7 := t7.cell (j := 7) rfl; have t7f7 := t7.frozen (j := 7) (by decide); have t7c8 := t7.cell (j := 8) rfl; have t7f8 := t7.frozen (j := 8) (by decide); have t7n := t7.lt; have t7e := Nat.ne_of_lt t7.lt; have t7g := Nat.ne_of_gt t7.lt; have Ht7 := Lib.hid t7; clear t7)); have HW7 : Hid (Below w.heap.size w w7) := Below.on (by first | exact HW6.out | exact HW6.out.alloc HW6.out.size _ | exact (HW6.out.alloc HW6.out.size _).alloc (HW6.out.alloc HW6.out.size _).size _) hb7; clear hr7 hb7))
              all_goals
                have z5 := HB5.out.size
                have z6 := HW6.out.size
                go_wp2_with fail
                go_meet
                case rel => first
                  | with_reducible exact two_new HW7.out
                  | with_reducible exact two_new' HW7.out
                  | (with_reducible refine two_set ?_ ?_ HW7.out
                     · (first | exact Hs7.out | exact Ht7.out | exact Hq7.out | exact Hr7.out)
                     · omega)
                  | (with_reducible refine two_set' ?_ ?_ HW7.out
                     · (first | exact Hs7.out | exact Ht7.out | exact Hq7.out | exact Hr7.out)
                     · omega)
                  | (with_reducible refine two_sets ?_ ?_ ?_ ?_ ?_ HW7.out
                     · (first | exact Hs7.out | exact Ht7.out | exact Hq7.out | exact Hr7.out)
                     · (first | exact Hs7.out | exact Ht7.out | exact Hq7.out | exact Hr7.out)
                     · omega
                     · omega
                     · omega)
            case rest =>
              as_aux_lemma =>
                obtain ⟨Q, R, rfl, rfl, hrQ, hrR, hbc⟩ := hcut
                obtain ⟨wz, hwz⟩ : ∃ wz, wz = wc := ⟨_, rfl⟩
                subst hwz
                have q0 := hrQ.cell (j := 0) rfl
                have q1 := hrQ.cell (j := 1) rfl
                have q2 := hrQ.cell (j := 2) rfl
                have q3 := hrQ.cell (j := 3) rfl
                have q4 := hrQ.cell (j := 4) rfl
                have q5 := hrQ.cell (j := 5) rfl
                have q6 := hrQ.cell (j := 6) rfl
                have q7 := hrQ.cell (j := 7) rfl
                have q8 := hrQ.cell (j := 8) rfl
                have t0 := hrR.cell (j := 0) rfl
                have t1 := hrR.cell (j := 1) rfl
                have t2 := hrR.cell (j := 2) rfl
                have t3 := hrR.cell (j := 3) rfl
                have t4 := hrR.cell (j := 4) rfl
                have t5 := hrR.cell (j := 5) rfl
                have t6 := hrR.cell (j := 6) rfl
                have t7 := hrR.cell (j := 7) rfl
                have t8 := hrR.cell (j := 8) rfl
                have HRQ := Lib.hid hrQ
                have HRR := Lib.hid hrR
                have HBC := Lib.hid hbc
                clear hrQ hrR hbc hs0 hs1
                have hrel := fun w' => relative_any A0 B0 C0 D0 F0 A1 B1 C1 D1 F1 X0 Y0 Z0 U0 X1 Y1 Z1 U1 w' HK0.out.1.mend HK1.out.1.mend HK0.out.1.sizes.2.2.1 HK1.out.2.1 HK1.out.2.2.1 HK1.out.2.2.2.1 HK1.out.2.2.2.2.1 HK1.out.2.2.2.2.2
                go_wp2_with fail
                refine (hrel _).mono ?_
                clear hrel
                rintro e w6 hro
                obtain ⟨A, B, C, D, F, X, Y, Z, U, rfl, ⟨kA, kB, kC, kD, kF⟩, hres, hb6⟩ := hro
                have hrQ := (HRQ.out.later hb6).alloc (.cells #[.string A, .string B, .string C, .string D, .string F, .bool X, .bool Y, .bool Z, .bool U] 42)
                have hrR := (HRR.out.later hb6).alloc (.cells #[.string A, .string B, .string C, .string D, .string F, .bool X, .bool Y, .bool Z, .bool U] 42)
                have hrT := RowAt.new w6 #[.string A, .string B, .string C, .string D, .string F, .bool X, .bool Y, .bool Z, .bool U] 42 [.string A, .string B, .string C, .string D, .string F, .bool X, .bool Y, .bool Z, .bool U] rfl
                have hb6' := Below.on HBC.out hb6
                have hbb := hb6'.alloc hb6'.size (.cells #[.string A, .string B, .string C, .string D, .string F, .bool X, .bool Y, .bool Z, .bool U] 42)
                obtain ⟨A2, B2, C2, D2, F2, X2, Y2, Z2, U2, hrow2⟩ := resF_row A0 B0 C0 D0 A1 B1 C1 D1 F1 X0 Y0 Z0 X1 Y1 Z1 U1
                have hs2 : ∀ w, Calls Tryz.prog 15 #[.agg #[.string A0, .string B0, .string C0, .string D0, .string F0, .bool X0, .bool Y0, .bool Z0, .bool U0], .agg #[.string A1, .string B1, .string C1, .string D1, .string F1, .bool X1, .bool Y1, .bool Z1, .bool U1]] w fun e w' => e = .returned (.agg #[.string A2, .string B2, .string C2, .string D2, .string F2, .bool X2, .bool Y2, .bool Z2, .bool U2]) ∧ Below w.heap.size w w' := fun w => by
                  have := resolve_any A0 B0 C0 D0 F0 A1 B1 C1 D1 F1 X0 Y0 Z0 U0 X1 Y1 Z1 U1 w HK0.out.1.mend HK1.out.1.mend (Nat.le_trans HK0.out.1.sizes.2.2.1 (by decide)) (Nat.le_trans HK1.out.1.sizes.2.2.1 (by decide))
                  rw [hrow2] at this
                  exact this
                obtain ⟨A3, B3, C3, D3, F3, X3, Y3, Z3, U3, hrow3⟩ := resF_row A0 B0 C0 D0 A B C D F X0 Y0 Z0 X Y Z U
                have hs3 : ∀ w, Calls Tryz.prog 15 #[.agg #[.string A0, .string B0, .string C0, .string D0, .string F0, .bool X0, .bool Y0, .bool Z0, .bool U0], .agg #[.string A, .string B, .string C, .string D, .string F, .bool X, .bool Y, .bool Z, .bool U]] w fun e w' => e = .returned (.agg #[.string A3, .string B3, .string C3, .string D3, .string F3, .bool X3, .bool Y3, .bool Z3, .bool U3]) ∧ Below w.heap.size w w' := fun w => by
                  have := resolve_any A0 B0 C0 D0 F0 A B C D F X0 Y0 Z0 U0 X Y Z U w HK0.out.1.mend (mended_id X Y Z U kA kB kC kD kF) (Nat.le_trans HK0.out.1.sizes.2.2.1 (by decide)) (Nat.le_trans kC.2 (by decide))
                  rw [hrow3] at this
                  exact this
                obtain ⟨E2, hE2, heq2, hneq2⟩ := cmp9n A2 B2 C2 D2 F2 A1 B1 C1 D1 F1 X2 Y2 Z2 U2 X1 Y1 Z1 U1
                obtain ⟨E3, hE3, heq3⟩ := cmp9 A3 B3 C3 D3 F3 A1 B1 C1 D1 F1 X3 Y3 Z3 U3 X1 Y1 Z1 U1
                have HOK : Hid (E2 = true → E3 = true) := fun h => by
                  have h2 := hE2.1 h
                  rw [← hrow2] at h2
                  rw [hE3, ← hrow3]
                  rcases hres with hres | hres
                  · exact hres
                  · simp only [row9, List.cons.injEq, Value.string.injEq, Value.bool.injEq, and_true] at hres
                    obtain ⟨rfl, rfl, rfl, rfl, rfl, rfl, rfl, rfl, rfl⟩ := hres
                    exact h2
                have HRQ6 := Lib.hid hrQ
                have HRR6 := Lib.hid hrR
                have HRT6 := Lib.hid hrT
                have HBB6 := Lib.hid hbb
                clear hrQ hrR hrT hbb hb6 hb6' hrow2 hrow3 hE2 hE3 hres kA kB kC kD kF HRQ HRR HBC q0 t0 q1 t1 q2 t2 q3 t3 q4 t4 q5 t5 q6 t6 q7 t7 q8 t8
                obtain ⟨T, hT⟩ : ∃ T, w6.heap.size = T := ⟨_, rfl⟩
                have HTe := Lib.hid hT
                clear hT
                go_upto_region 29 with fail
                rw [HTe.out]
                obtain ⟨w7, hw7⟩ : ∃ w7, w6.alloc (.cells #[.string A, .string B, .string C, .string D, .string F, .bool X, .bool Y, .bool Z, .bool U] 42) = w7 := ⟨_, rfl⟩
                have hrQ := HRQ6.out
                have hrR := HRR6.out
                have hrT := HRT6.out
                have hbb := HBB6.out
                rw [HTe.out] at hrT
                rw [hw7] at hrQ hrR hrT hbb ⊢
                have HBB7 := Lib.hid hbb
                have hlQ := hrQ.lt
                have hlR := hrR.lt
                have hlT := hrT.lt
                clear hw7 hbb HRQ6 HRR6 HRT6 HBB6
                have Q0 : ∀ x : BW w7, x.world.cell? ⟨Q, 0, none⟩ = some _ := fun x => (x.ok.cell (p := ⟨Q, 0, none⟩) hlQ).trans (hrQ.cell (j := 0) rfl)
                have Q1 : ∀ x : BW w7, x.world.cell? ⟨Q, 1, none⟩ = some _ := fun x => (x.ok.cell (p := ⟨Q, 1, none⟩) hlQ).trans (hrQ.cell (j := 1) rfl)
                have Q2 : ∀ x : BW w7, x.world.cell? ⟨Q, 2, none⟩ = some _ := fun x => (x.ok.cell (p := ⟨Q, 2, none⟩) hlQ).trans (hrQ.cell (j := 2) rfl)
                have Q3 : ∀ x : BW w7, x.world.cell? ⟨Q, 3, none⟩ = some _ := fun x => (x.ok.cell (p := ⟨Q, 3, none⟩) hlQ).trans (hrQ.cell (j := 3) rfl)
                have Q4 : ∀ x : BW w7, x.world.cell? ⟨Q, 4, none⟩ = some _ := fun x => (x.ok.cell (p := ⟨Q, 4, none⟩) hlQ).trans (hrQ.cell (j := 4) rfl)
                have Q5 : ∀ x : BW w7, x.world.cell? ⟨Q, 5, none⟩ = some _ := fun x => (x.ok.cell (p := ⟨Q, 5, none⟩) hlQ).trans (hrQ.cell (j := 5) rfl)
                have Q6 : ∀ x : BW w7, x.world.cell? ⟨Q, 6, none⟩ = some _ := fun x => (x.ok.cell (p := ⟨Q, 6, none⟩) hlQ).trans (hrQ.cell (j := 6) rfl)
                have Q7 : ∀ x : BW w7, x.world.cell? ⟨Q, 7, none⟩ = some _ := fun x => (x.ok.cell (p := ⟨Q, 7, none⟩) hlQ).trans (hrQ.cell (j := 7) rfl)
                have Q8 : ∀ x : BW w7, x.world.cell? ⟨Q, 8, none⟩ = some _ := fun x => (x.ok.cell (p := ⟨Q, 8, none⟩) hlQ).trans (hrQ.cell (j := 8) rfl)
                have R0 : ∀ x : BW w7, x.world.cell? ⟨R, 0, none⟩ = some _ := fun x => (x.ok.cell (p := ⟨R, 0, none⟩) hlR).trans (hrR.cell (j := 0) rfl)
                have R1 : ∀ x : BW w7, x.world.cell? ⟨R, 1, none⟩ = some _ := fun x => (x.ok.cell (p := ⟨R, 1, none⟩) hlR).trans (hrR.cell (j := 1) rfl)
                have R2 : ∀ x : BW w7, x.world.cell? ⟨R, 2, none⟩ = some _ := fun x => (x.ok.cell (p := ⟨R, 2, none⟩) hlR).trans (hrR.cell (j := 2) rfl)
                have R3 : ∀ x : BW w7, x.world.cell? ⟨R, 3, none⟩ = some _ := fun x => (x.ok.cell (p := ⟨R, 3, none⟩) hlR).trans (hrR.cell (j := 3) rfl)
                have R4 : ∀ x : BW w7, x.world.cell? ⟨R, 4, none⟩ = some _ := fun x => (x.ok.cell (p := ⟨R, 4, none⟩) hlR).trans (hrR.cell (j := 4) rfl)
                have R5 : ∀ x : BW w7, x.world.cell? ⟨R, 5, none⟩ = some _ := fun x => (x.ok.cell (p := ⟨R, 5, none⟩) hlR).trans (hrR.cell (j := 5) rfl)
                have R6 : ∀ x : BW w7, x.world.cell? ⟨R, 6, none⟩ = some _ := fun x => (x.ok.cell (p := ⟨R, 6, none⟩) hlR).trans (hrR.cell (j := 6) rfl)
                have R7 : ∀ x : BW w7, x.world.cell? ⟨R, 7, none⟩ = some _ := fun x => (x.ok.cell (p := ⟨R, 7, none⟩) hlR).trans (hrR.cell (j := 7) rfl)
                have R8 : ∀ x : BW w7, x.world.cell? ⟨R, 8, none⟩ = some _ := fun x => (x.ok.cell (p := ⟨R, 8, none⟩) hlR).trans (hrR.cell (j := 8) rfl)
                have T0 : ∀ x : BW w7, x.world.cell? ⟨T, 0, none⟩ = some _ := fun x => (x.ok.cell (p := ⟨T, 0, none⟩) hlT).trans (hrT.cell (j := 0) rfl)
                have T1 : ∀ x : BW w7, x.world.cell? ⟨T, 1, none⟩ = some _ := fun x => (x.ok.cell (p := ⟨T, 1, none⟩) hlT).trans (hrT.cell (j := 1) rfl)
                have T2 : ∀ x : BW w7, x.world.cell? ⟨T, 2, none⟩ = some _ := fun x => (x.ok.cell (p := ⟨T, 2, none⟩) hlT).trans (hrT.cell (j := 2) rfl)
                have T3 : ∀ x : BW w7, x.world.cell? ⟨T, 3, none⟩ = some _ := fun x => (x.ok.cell (p := ⟨T, 3, none⟩) hlT).trans (hrT.cell (j := 3) rfl)
                have T4 : ∀ x : BW w7, x.world.cell? ⟨T, 4, none⟩ = some _ := fun x => (x.ok.cell (p := ⟨T, 4, none⟩) hlT).trans (hrT.cell (j := 4) rfl)
                have T5 : ∀ x : BW w7, x.world.cell? ⟨T, 5, none⟩ = some _ := fun x => (x.ok.cell (p := ⟨T, 5, none⟩) hlT).trans (hrT.cell (j := 5) rfl)
                have T6 : ∀ x : BW w7, x.world.cell? ⟨T, 6, none⟩ = some _ := fun x => (x.ok.cell (p := ⟨T, 6, none⟩) hlT).trans (hrT.cell (j := 6) rfl)
                have T7 : ∀ x : BW w7, x.world.cell? ⟨T, 7, none⟩ = some _ := fun x => (x.ok.cell (p := ⟨T, 7, none⟩) hlT).trans (hrT.cell (j := 7) rfl)
                have T8 : ∀ x : BW w7, x.world.cell? ⟨T, 8, none⟩ = some _ := fun x => (x.ok.cell (p := ⟨T, 8, none⟩) hlT).trans (hrT.cell (j := 8) rfl)
                clear hrQ hrR hrT
                cases E2
                case false =>
                  have hn : ∀ w : World, _ = Result.ok (Next.value (Value.bool true)) w := fun w => hneq2 w
                  clear hneq2 heq2 heq3
                  refine wp_region_bw (by kernel_rfl) (by kernel_rfl) ?_
                  repeat (go_big_quiet_step (first | (go_at_call_of 15 (Value.agg #[.string A1, .string B1, .string C1, .string D1, .string F1, .bool X1, .bool Y1, .bool Z1, .bool U1]); exact bw_call (hs2 _)) | (go_at_call 16; exact bw_call (awake_any _))))
                  refine wpQuiet_nil ?_
                  intro _ hw'
                  obtain ⟨nx, hw''⟩ := hw'
                  subst hw''
                  clear Q0 R0 T0 Q1 R1 T1 Q2 R2 T2 Q3 R3 T3 Q4 R4 T4 Q5 R5 T5 Q6 R6 T6 Q7 R7 T7 Q8 R8 T8
                  go_wp2_with fail
                  go_ret
                  exact ⟨rfl, HBB7.out.trans (nx.ok.mono HBB7.out.size)⟩
                case true =>
                  have hn : ∀ w : World, _ = Result.ok (Next.value (Value.bool false)) w := fun w => hneq2 w
                  clear hneq2 heq2
                  obtain rfl : E3 = true := HOK.out rfl
                  refine wp_region_bw (by kernel_rfl) (by kernel_rfl) ?_
                  repeat (go_big_quiet_step (first | (go_at_call_of 15 (Value.agg #[.string A1, .string B1, .string C1, .string D1, .string F1, .bool X1, .bool Y1, .bool Z1, .bool U1]); exact bw_call (hs2 _)) | (go_at_call_of 15 (Value.agg #[.string A, .string B, .string C, .string D, .string F, .bool X, .bool Y, .bool Z, .bool U]); exact bw_call (hs3 _)) | (go_at_call 16; exact bw_call (awake_any _))))
                  refine wpQuiet_nil ?_
                  intro _ hw'
                  obtain ⟨nx, hw''⟩ := hw'
                  subst hw''
                  clear Q0 R0 T0 Q1 R1 T1 Q2 R2 T2 Q3 R3 T3 Q4 R4 T4 Q5 R5 T5 Q6 R6 T6 Q7 R7 T7 Q8 R8 T8
                  go_wp2_with fail
                  go_ret
                  exact ⟨rfl, HBB7.out.trans (nx.ok.mono HBB7.out.size)⟩

end Go.Proofs.YtabagfhnkdhjdaaGreatDoor
