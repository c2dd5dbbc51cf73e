/-
  Any number, any parts, behind any bytes: the program's and the reference's lay the same.
-/
import Derived.Test.YtoliikpbhmfjnaaRows
import Derived.Test.YtoliikpbhmfjnaaGKit
import Derived.Test.YtoliikpbhmfjnaaGKit2
import Derived.Test.YtoliikpbhmfjnaaCodecLaws3
import Derived.Test.YtoliikpbhmfjnaaCodecSmall
import Derived.Test.YtoliikpbhmfjnaaCodecNum
import Derived.Test.YtoliikpbhmfjnaaCodecSize
import Derived.Test.YtoliikpbhmfjnaaCodecFrame
import Derived.Test.YtoliikpbhmfjnaaCodecFrames
import Derived.Test.YtoliikpbhmfjnaaCodecGrown
import Derived.Test.YtoliikpbhmfjnaaCodecKnown
import Derived.Test.YtoliikpbhmfjnaaCodecFrs
set_option linter.unusedVariables false
set_option linter.unusedSimpArgs false
namespace Go.Proofs.Ytoliikpbhmfjnaa.codecWrites
open Go.RowKit Codec

set_option maxRecDepth 100000 in
set_option maxHeartbeats 1000000 in
theorem walk_skip (bv lv : Value) (v : Int) (b : List UInt8) (l : List (List UInt8)) (w : World) (hb : RdB w bv b) (h : RdLL w lv l) (ht : tot l ≤ 1048576) (hbig : 65536 < b.length ∨ 65536 < tot l ∨ 1000 < l.length) :
    Calls Try.prog 5 #[bv, .int .u64 v, lv] w fun e w' => e = .returned (.bool true) ∧ Below w.heap.size w w' := by
  have HL := Lib.hid h
  obtain ⟨A, cap, rfl, _⟩ := h.form
  obtain ⟨A', cap', rfl, _⟩ := Rd.form hb
  clear h hb
  have hlm := HL.out.le
  unfold maxLen at hlm
  by_cases h0 : 65536 < b.length
  · go_enter Try.func5, Try.ntmps5
    go_wp2_with fail
    refine (known_any _).mono ?_
    rintro e w1 ⟨rfl, hb1⟩
    go_wp2
    go_ret
    exact ⟨rfl, hb1⟩
  by_cases h1 : 65536 < tot l
  · go_enter Try.func5, Try.ntmps5
    go_wp2_with fail
    refine (known_any _).mono ?_
    rintro e w1 ⟨rfl, hb1⟩
    have HL1 := Lib.hid (HL.out.below hb1)
    go_wp2_with fail
    refine (total_any _ _ _ HL1.out (by omega)).mono ?_
    rintro e w2 ⟨rfl, rfl⟩
    generalize tot l = T at *
    go_wp2
    go_ret
    exact ⟨rfl, hb1⟩
  · have h2 : 1000 < l.length := by omega
    go_enter Try.func5, Try.ntmps5
    go_wp2_with fail
    refine (known_any _).mono ?_
    rintro e w1 ⟨rfl, hb1⟩
    have HL1 := Lib.hid (HL.out.below hb1)
    go_wp2_with fail
    refine (total_any _ _ _ HL1.out (by omega)).mono ?_
    rintro e w2 ⟨rfl, rfl⟩
    generalize tot l = T at *
    go_wp2
    go_ret
    exact ⟨rfl, hb1⟩

/-- append([]byte{}, ..): what stands there before the first append. -/
theorem fresh (w : World) (B : Nat) (hB : B ≤ w.heap.size) : (w.alloc (.cells #[] 5)).ownsRow B 5 1 (.slice (some ⟨w.heap.size, 0, none⟩) 0 0) 0 [] :=
  World.ownsRow_made w #[] 0 hB (by simp [maxLen]) rfl

set_option maxRecDepth 100000 in
set_option maxHeartbeats 4000000 in
theorem walk_do (bv lv : Value) (v : Nat) (b : List UInt8) (l : List (List UInt8)) (w : World) (hv : v < 18446744073709551616) (hb : RdB w bv b) (h : RdLL w lv l) (hb1 : b.length ≤ 65536) (ht : tot l ≤ 65536) (hl : l.length ≤ 1000) :
    Calls Try.prog 5 #[bv, .int .u64 v, lv] w fun e w' => e = .returned (.bool true) ∧ Below w.heap.size w w' := by
  have HL := Lib.hid h
  have HB := Lib.hid hb
  have HTE : Hid (tot l = (cat l).length) := Lib.hid (tot_eq l)
  have hcat : (cat l).length ≤ 65536 := by rw [← tot_eq]; exact ht
  obtain ⟨A, cap, rfl, _⟩ := h.form
  obtain ⟨A', cap', rfl, _⟩ := Rd.form hb
  clear h hb
  have HV := Lib.hid hv; clear hv
  have hfl : (framesOf l).length ≤ 79536 := by
    have := framesOf_len_le l (by omega) l.length (Nat.le_refl _)
    rw [List.take_length] at this
    omega
  go_enter Try.func5, Try.ntmps5
  go_wp2_with fail
  refine (known_any _).mono ?_
  rintro e w1 ⟨rfl, hc1⟩
  have hz1 := hc1.size
  have HL1 := Lib.hid (HL.out.below hc1)
  have HB1 := Lib.hid (HB.out.below hc1)
  go_wp2_with fail
  refine (total_any _ _ _ HL1.out (by omega)).mono ?_
  rintro e w2 ⟨rfl, rfl⟩
  go_wp2_with (at_builtin; refine wpList_app w1.heap.size tB (fresh w1 _ (Nat.le_refl _)) (rd_src Try.underlying28 (Rd.below HB1.out ((Below.refl _ _).alloc (Nat.le_refl _) _)) (by omega) (bvs_one _)) (by simp) (by unfold maxLen; omega) (by omega) rfl rfl rfl rfl ?_)
  intro v3 w3 ho hg
  have hkw3 : Below w1.heap.size w1 w3 := below_grown ((Below.refl w1.heap.size w1).alloc (Nat.le_refl _) _) (fresh w1 _ (Nat.le_refl _)) hg (by simp)
  have how3' : w3.ownsRow w1.heap.size 5 1 v3 b.length (bvs b) := OwnB.of (xs := b) ho rfl
  have HOw3 := Lib.hid how3'; clear ho how3' hg
  have hzw3 := hkw3.size
  have hc3 := below_then hc1 hz1 hkw3
  have hz3 := hc3.size
  have HM := Lib.hid (OwnB.rd (xs := b) HOw3.out)
  clear HOw3 hkw3 hzw3
  go_wp2_with fail
  refine (number_any _ _ b _ HV.out HM.out (by omega)).mono ?_
  rintro e w4 ⟨v4, rfl, ho4, hk4⟩
  have hc4 := below_then hc3 hz3 hk4
  have hz4 := hc4.size
  have HM4 := Lib.hid (HM.out.below hk4)
  have HB4 := Lib.hid (HB.out.below hc4)
  have HN4 := Lib.hid ho4.rd
  clear ho4 hk4 hc3 HM
  go_wp2_with (at_builtin; refine wpList_app w4.heap.size tB (fresh w4 _ (Nat.le_refl _)) (rd_src Try.underlying28 (Rd.below HB4.out ((Below.refl _ _).alloc (Nat.le_refl _) _)) (by omega) (bvs_one _)) (by simp) (by unfold maxLen; omega) (by omega) rfl rfl rfl rfl ?_)
  intro v5 w5 ho hg
  have hkw5 : Below w4.heap.size w4 w5 := below_grown ((Below.refl w4.heap.size w4).alloc (Nat.le_refl _) _) (fresh w4 _ (Nat.le_refl _)) hg (by simp)
  have how5' : w5.ownsRow w4.heap.size 5 1 v5 b.length (bvs b) := OwnB.of (xs := b) ho rfl
  have HOw5 := Lib.hid how5'; clear ho how5' hg
  have hzw5 := hkw5.size
  go_wp2_with fail
  refine (refNumber_any w4.heap.size _ _ b _ HV.out HOw5.out hzw5 (by omega)).mono ?_
  rintro e w6 ⟨v6, rfl, ho6, hk6⟩
  have hk46 := hkw5.trans hk6
  have hc6 := below_then hc4 hz4 hk46
  have hz6 := hc6.size
  have HN6 := Lib.hid (HN4.out.below hk46)
  have HM6 := Lib.hid (HM4.out.below hk46)
  have HR6 := Lib.hid ho6.rd
  have HL6 := Lib.hid (HL.out.below hc6)
  clear ho6 hk6 hk46 hkw5 HOw5 hzw5 HN4 HM4 HB4 hc4 hz4
  go_wp2_with fail
  refine (same_any _ _ _ _ _ HN6.out HR6.out).mono ?_
  rintro e w7 ⟨rfl, rfl⟩
  rw [decide_eq_true rfl]
  clear HN6 HR6
  go_wp2_with fail
  refine (bytes_any _ _ b l _ HM6.out HL6.out (by omega) (by omega)).mono ?_
  rintro e w7 ⟨v7, rfl, ho7, hk7⟩
  have hc7 := below_then hc6 hz6 hk7
  have hz7 := hc7.size
  have HM7 := Lib.hid (HM6.out.below hk7)
  have HB7 := Lib.hid (HB.out.below hc7)
  have HN7 := Lib.hid ho7.rd
  clear ho7 hk7 hc6 HM6 HL6
  go_wp2_with (at_builtin; refine wpList_app_g w7.heap.size tB (fresh w7 _ (Nat.le_refl _)) (rd_src Try.underlying28 (Rd.below HB7.out ((Below.refl _ _).alloc (Nat.le_refl _) _)) (by omega) (bvs_one _)) (by simp) (by unfold maxLen; omega) (by omega) (by rfl) rfl rfl rfl ?_)
  intro v8 w8 ho hg
  have hkw8 : Below w7.heap.size w7 w8 := below_grown ((Below.refl w7.heap.size w7).alloc (Nat.le_refl _) _) (fresh w7 _ (Nat.le_refl _)) hg (by simp)
  have how8' : w8.ownsRow w7.heap.size 5 1 v8 b.length (bvs b) := OwnB.of (xs := b) ho rfl
  have HOw8 := Lib.hid how8'; clear ho how8' hg
  have hzw8 := hkw8.size
  have hc8 := below_then hc7 hz7 hkw8
  have HL8 := Lib.hid (HL.out.below hc8)
  go_wp2_with fail
  refine (joined_any _ l _ HL8.out (by omega)).mono ?_
  rintro e w9 ⟨v9, rfl, ho9, hk9⟩
  have hsep : ∀ g, lies v9 g → v8.ownBlock ≠ some g := fun g hg e' => by
    have h1 := lies_own ho9 hg
    have h2 := (HOw8.out.lt g e').2
    omega
  have HO9 := Lib.hid (own_below HOw8.out hk9)
  have HJ9 := Lib.hid ho9.rd
  have hk79 := below_then hkw8 hzw8 hk9
  have hz79 := hk79.size
  have HG := Lib.hid (refBytes_grown w7.heap.size _ _ b _ _ HO9.out HJ9.out hz79 hsep (by omega) (by omega))
  clear hsep ho9 hk9 HOw8 HL8 hc8
  go_wp2_with fail
  refine HG.out.mono ?_
  rintro e w10 ⟨v10, rfl, ho10, hg10, _⟩
  have hk10 : Below w7.heap.size w7 w10 := below_grown hk79 HO9.out hg10 hz79
  have hc10 := below_then hc7 hz7 hk10
  have hz10 := hc10.size
  have HR10 := Lib.hid ho10.rd
  have HN10 := Lib.hid (HN7.out.below hk10)
  have HM10 := Lib.hid (HM7.out.below hk10)
  have HB10 := Lib.hid (HB.out.below hc10)
  have HL10 := Lib.hid (HL.out.below hc10)
  clear HG ho10 hg10 hk10 hk79 hz79 HO9 HJ9 HN7 HM7 HB7 hkw8 hzw8
  go_wp2_with fail
  refine (same_any _ _ _ _ _ HN10.out HR10.out).mono ?_
  rintro e w11 ⟨rfl, rfl⟩
  rw [decide_eq_true (by rw [HTE.out])]
  go_wp2_with fail
  refine (same_any _ _ _ _ _ HM10.out HB10.out).mono ?_
  rintro e w11 ⟨rfl, rfl⟩
  rw [decide_eq_true rfl]
  clear HN10 HR10 HM10 HB10 HB1 HL1
  have HLw := Lib.hid (HL.out.below hc10)
  rcases Nat.eq_zero_or_pos l.length with hl0 | hl0
  · obtain rfl : l = [] := List.eq_nil_of_length_eq_zero hl0
    have HALL : Hid (RdB w10 (.slice none 0 0) (framesOf [])) := Lib.hid (rdb_nil _)
    have hcr := hc10
    have hlen0 : (([] : List (List UInt8)).length) = 0 := rfl
    rw [hlen0]
    go_wp2
    refine wp_loop_rounds 1 ?_
    rw [rounds_succ]
    have HJ0 := Lib.hid (HL.out.below hcr)
    have hzr := hcr.size
    go_wp2_with fail
    refine (joined_any _ _ _ HJ0.out (by omega)).mono ?_
    rintro e w11 ⟨v11, rfl, ho11, hk11⟩
    have hc11 := below_then hcr hzr hk11
    have hz11 := hc11.size
    have HA11 := Lib.hid (HALL.out.below hk11)
    have HJ11 := Lib.hid ho11.rd
    clear ho11 hk11 HJ0 HALL
    go_wp2_with fail
    refine (frameW_any _ _ _ HJ11.out (by omega)).mono ?_
    rintro e w12 ⟨v12, rfl, ho12, hk12⟩
    have hc12 := below_then hc11 hz11 hk12
    have hz12 := hc12.size
    have HA12 := Lib.hid (HA11.out.below hk12)
    have HF12 := Lib.hid ho12.rd
    have HL12 := Lib.hid (HL.out.below hc12)
    clear ho12 hk12 HA11 HJ11
    go_wp2_with fail
    refine (joined_any _ _ _ HL12.out (by omega)).mono ?_
    rintro e w13 ⟨v13, rfl, ho13, hk13⟩
    have hc13 := below_then hc12 hz12 hk13
    have hz13 := hc13.size
    have HA13 := Lib.hid (HA12.out.below hk13)
    have HF13 := Lib.hid (HF12.out.below hk13)
    have HJ13 := Lib.hid ho13.rd
    clear ho13 hk13 HA12 HF12 HL12
    go_wp2_with fail
    refine (refFrame_any w13.heap.size _ _ [] _ _ (OwnB.nil _ _) HJ13.out (Nat.le_refl _) (Rd.belowB_of HJ13.out (by omega)) (by simp) (by omega)).mono ?_
    rintro e w14 ⟨v14, rfl, ho14, hk14⟩
    rw [List.nil_append] at ho14
    have hc14 := below_then hc13 hz13 hk14
    have hz14 := hc14.size
    have HA14 := Lib.hid (HA13.out.below hk14)
    have HF14 := Lib.hid (HF13.out.below hk14)
    have HR14 := Lib.hid ho14.rd
    have HL14 := Lib.hid (HL.out.below hc14)
    clear ho14 hk14 HA13 HF13 HJ13
    go_wp2_with fail
    refine (same_any _ _ _ _ _ HF14.out HR14.out).mono ?_
    rintro e w15 ⟨rfl, rfl⟩
    rw [decide_eq_true rfl]
    go_wp2_with fail
    refine (framesW_any _ _ _ HL14.out (by omega) (by omega)).mono ?_
    rintro e w15 ⟨v15, rfl, ho15, hk15⟩
    have hc15 := below_then hc14 hz14 hk15
    have HA15 := Lib.hid (HA14.out.below hk15)
    have HF15 := Lib.hid ho15.rd
    clear ho15 hk15 HF14 HR14 HA14
    go_wp2_with fail
    refine (same_any _ _ _ _ _ HF15.out HA15.out).mono ?_
    rintro e w16 ⟨rfl, rfl⟩
    rw [decide_eq_true rfl]
    go_wp2
    go_ret
    exact ⟨rfl, hc15⟩
  · obtain ⟨gl, offl, capl, e0, _, _, _, hcl⟩ := HL10.out.full hl0
    cases e0
    have HCL := Lib.hid hcl; clear hcl
    go_wp2
    go_loopw [8, 9] (fun a i wr => ∃ k : Nat, k ≤ l.length ∧ i = .int .i64 k ∧ OwnB 5 wr w10.heap.size a (framesOf (l.take k)) ∧ Below w10.heap.size w10 wr) (fun _ i _ => l.length - (intOf i).toNat)
    case atStart => exact ⟨0, by omega, rfl, OwnB.nil _ _, Below.refl _ _⟩
    case round =>
      obtain ⟨k, hk, rfl, ho, hb⟩ := hrel
      have hz := hb.size
      have HO := Lib.hid ho; clear ho
      by_cases hlt : k < l.length
      · obtain ⟨u, hcell0, hu0⟩ := HCL.out.at_ k hlt
        have hcell := cell_below hb _ _ hcell0
        have hvb := Rd.belowB_of hu0 (by omega)
        have h1 := framesOf_len_le l (by omega) k hk
        have h4 := tot_le l (k + 1)
        have h5 := tot_succ l k hlt
        have h2 := framesOf_succ l k hlt
        have h6 : l[k].length ≤ 65536 := by omega
        have h7 : (framesOf (l.take k)).length ≤ 100000 := by omega
        clear h1 h4 h5 hcell0
        generalize l[k] = xs at *
        have HC := Lib.hid (refFrame_any w10.heap.size _ _ _ _ _ HO.out (hu0.below hb) hz hvb (by omega) (by omega))
        obtain ⟨A9, cap9, rfl, _⟩ := Rd.form hu0
        clear hu0 hvb
        generalize framesOf (l.take k) = n0 at *
        have H2 := Lib.hid h2; clear h2
        go_wp2_with fail
        refine HC.out.mono ?_
        rintro e wn ⟨vn, rfl, hon, hbn⟩
        have hbn2 := hb.trans hbn
        clear HC HO hb
        go_wp2
        go_roundw
        case rel => exact ⟨k + 1, by omega, by go_num, by rw [H2.out]; exact hon, hbn2⟩
        case measure => simp [intOf]; omega
      · obtain rfl : k = l.length := by omega
        have HALL : Hid (RdB wr u8 (framesOf l)) := Lib.hid (by have := HO.out.rd; rwa [List.take_length] at this)
        have hcr := below_then hc10 hz10 hb
        clear HO hb
        have HJ0 := Lib.hid (HL.out.below hcr)
        have hzr := hcr.size
        go_wp2_with fail
        refine (joined_any _ _ _ HJ0.out (by omega)).mono ?_
        rintro e w11 ⟨v11, rfl, ho11, hk11⟩
        have hc11 := below_then hcr hzr hk11
        have hz11 := hc11.size
        have HA11 := Lib.hid (HALL.out.below hk11)
        have HJ11 := Lib.hid ho11.rd
        clear ho11 hk11 HJ0 HALL
        go_wp2_with fail
        refine (frameW_any _ _ _ HJ11.out (by omega)).mono ?_
        rintro e w12 ⟨v12, rfl, ho12, hk12⟩
        have hc12 := below_then hc11 hz11 hk12
        have hz12 := hc12.size
        have HA12 := Lib.hid (HA11.out.below hk12)
        have HF12 := Lib.hid ho12.rd
        have HL12 := Lib.hid (HL.out.below hc12)
        clear ho12 hk12 HA11 HJ11
        go_wp2_with fail
        refine (joined_any _ _ _ HL12.out (by omega)).mono ?_
        rintro e w13 ⟨v13, rfl, ho13, hk13⟩
        have hc13 := below_then hc12 hz12 hk13
        have hz13 := hc13.size
        have HA13 := Lib.hid (HA12.out.below hk13)
        have HF13 := Lib.hid (HF12.out.below hk13)
        have HJ13 := Lib.hid ho13.rd
        clear ho13 hk13 HA12 HF12 HL12
        go_wp2_with fail
        refine (refFrame_any w13.heap.size _ _ [] _ _ (OwnB.nil _ _) HJ13.out (Nat.le_refl _) (Rd.belowB_of HJ13.out (by omega)) (by simp) (by omega)).mono ?_
        rintro e w14 ⟨v14, rfl, ho14, hk14⟩
        rw [List.nil_append] at ho14
        have hc14 := below_then hc13 hz13 hk14
        have hz14 := hc14.size
        have HA14 := Lib.hid (HA13.out.below hk14)
        have HF14 := Lib.hid (HF13.out.below hk14)
        have HR14 := Lib.hid ho14.rd
        have HL14 := Lib.hid (HL.out.below hc14)
        clear ho14 hk14 HA13 HF13 HJ13
        go_wp2_with fail
        refine (same_any _ _ _ _ _ HF14.out HR14.out).mono ?_
        rintro e w15 ⟨rfl, rfl⟩
        rw [decide_eq_true rfl]
        go_wp2_with fail
        refine (framesW_any _ _ _ HL14.out (by omega) (by omega)).mono ?_
        rintro e w15 ⟨v15, rfl, ho15, hk15⟩
        have hc15 := below_then hc14 hz14 hk15
        have HA15 := Lib.hid (HA14.out.below hk15)
        have HF15 := Lib.hid ho15.rd
        clear ho15 hk15 HF14 HR14 HA14
        go_wp2_with fail
        refine (same_any _ _ _ _ _ HF15.out HA15.out).mono ?_
        rintro e w16 ⟨rfl, rfl⟩
        rw [decide_eq_true rfl]
        go_wp2
        go_ret
        exact ⟨rfl, hc15⟩

theorem walk (bv : Value) (b : List UInt8) (a : Int) (lv : Value) (l : List (List UInt8)) (w : World) (hb : RdB w bv b) (wf : (Lit.int .u64 a).wf = true) (h : RdLL w lv l) (ht : tot l ≤ 1048576) :
    Calls Try.prog 5 #[bv, .int .u64 a, lv] w fun e w' => e = .returned (.bool true) ∧ Below w.heap.size w w' := by
  obtain ⟨v, rfl, hv⟩ := u64_nat wf
  by_cases hbig : 65536 < b.length ∨ 65536 < tot l ∨ 1000 < l.length
  · exact walk_skip bv lv v b l w hb h ht hbig
  · exact walk_do bv lv v b l w hv hb h (by omega) (by omega) (by omega)
end Go.Proofs.Ytoliikpbhmfjnaa.codecWrites
