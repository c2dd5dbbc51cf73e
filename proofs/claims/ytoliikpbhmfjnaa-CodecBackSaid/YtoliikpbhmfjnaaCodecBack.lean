/-
  What is written is read, all of it; whatever is read is written just so: for every number, every payload, every bytes.
-/
import Derived.Test.YtoliikpbhmfjnaaRows
import Derived.Test.YtoliikpbhmfjnaaGKit
import Derived.Test.YtoliikpbhmfjnaaGKit2
import Derived.Test.YtoliikpbhmfjnaaCodecLaws2
import Derived.Test.YtoliikpbhmfjnaaCodecNum
import Derived.Test.YtoliikpbhmfjnaaCodecSmall
import Derived.Test.YtoliikpbhmfjnaaCodecFrame
import Derived.Test.YtoliikpbhmfjnaaCodecKnown
import Derived.Test.YtoliikpbhmfjnaaCodecRead
import Derived.Test.YtoliikpbhmfjnaaCodecRd2
import Derived.Deep.DeepCutAuto
set_option linter.unusedVariables false
set_option linter.unusedSimpArgs false
namespace Go.Proofs.Ytoliikpbhmfjnaa.codecBack
open Go.RowKit Codec

set_option maxRecDepth 100000 in
set_option maxHeartbeats 8000000 in
theorem walk_skip (v : Nat) (xv bv : Value) (x b : List UInt8) (w : World) (hx : RdB w xv x) (hb : RdB w bv b) (hbig : 65536 < x.length ∨ 65536 < b.length) :
    Calls Try.prog 6 #[.int .u64 v, xv, bv] w fun e w' => e = .returned (.bool true) ∧ Below w.heap.size w w' := by
  obtain ⟨A, cap, rfl, _⟩ := Rd.form hx
  obtain ⟨A', cap', rfl, _⟩ := Rd.form hb
  clear hx hb
  by_cases h1 : 65536 < x.length
  · go_enter Try.func6, Try.ntmps6
    go_wp2_with fail
    refine (known_any _).mono ?_
    rintro e w1 ⟨rfl, hb1⟩
    go_wp2
    go_ret
    exact ⟨rfl, hb1⟩
  · have h2 : 65536 < b.length := by omega
    go_enter Try.func6, Try.ntmps6
    go_wp2_with fail
    refine (known_any _).mono ?_
    rintro e w1 ⟨rfl, hb1⟩
    go_wp2
    go_ret
    exact ⟨rfl, hb1⟩

/-- append([]byte{}, ..): what stands there before the first append. -/
theorem fresh (w : World) (B : Nat) (hB : B ≤ w.heap.size) : (w.alloc (.cells #[] 5)).ownsRow B 5 1 (.slice (some ⟨w.heap.size, 0, none⟩) 0 0) 0 [] :=
  World.ownsRow_made w #[] 0 hB (by simp [maxLen]) rfl

set_option maxRecDepth 100000 in
set_option maxHeartbeats 8000000 in
theorem walk_do (v : Nat) (xv bv : Value) (x b : List UInt8) (w : World) (hv : v < 18446744073709551616) (hx : RdB w xv x) (hb : RdB w bv b) (hx1 : x.length ≤ 65536) (hb1 : b.length ≤ 65536) :
    Calls Try.prog 6 #[.int .u64 v, xv, bv] w fun e w' => e = .returned (.bool true) ∧ Below w.heap.size w w' := by
  have HX := Lib.hid hx
  have HB := Lib.hid hb
  obtain ⟨A, cap, rfl, _⟩ := Rd.form hx
  obtain ⟨A', cap', rfl, hbc, hbm, hbA⟩ := Rd.form hb
  clear hx hb
  have hel := enc_len v hv
  have hfl : (frameOf x).length ≤ 65550 + 14 := by have := enc_len x.length (by omega); rw [frameOf_len]; omega
  have HR1 := Lib.hid (readN_enc v hv b)
  have HR2 := Lib.hid (readFrameN_frame x b (by omega))
  have HV := Lib.hid hv; clear hv
  have hvv : ((v : Int) != (v : Int)) = false := by simp
  go_enter Try.func6, Try.ntmps6
  go_wp2_with fail
  refine (known_any _).mono ?_
  rintro e w1 ⟨rfl, hb1'⟩
  have hz1 := hb1'.size
  go_wp2_with fail
  refine (number_any _ _ [] _ HV.out (rdb_nil _) (by simp)).mono ?_
  rintro e w2 ⟨v2, rfl, ho2, hb2⟩
  rw [List.nil_append] at ho2
  have hc2 := below_then hb1' hz1 hb2
  have hz2 := hc2.size
  have HO2 := Lib.hid ho2.rd; clear ho2 hb2 hb1'
  obtain ⟨A2, cap2, rfl, _⟩ := Rd.form HO2.out
  -- append(append([]byte{}, n...), b...)
  go_wp2_with (at_builtin; refine wpList_app w.heap.size tB (fresh w2 _ hz2) (rd_src Try.underlying28 (Rd.below HO2.out ((Below.refl _ _).alloc (Nat.le_refl _) _)) (by omega) (bvs_one _)) (by simp; omega) (by unfold maxLen; omega) (by omega) rfl rfl rfl rfl ?_)
  intro v3 w3 ho3 hg3
  have hc3 : Below w.heap.size w w3 := below_grown (hc2.alloc hz2 _) (fresh w2 _ hz2) hg3 (by simp; omega)
  have ho3' : w3.ownsRow w.heap.size 5 1 v3 (enc v).length (bvs (enc v)) := OwnB.of (xs := enc v) ho3 rfl
  have HO3 := Lib.hid ho3'; clear ho3 ho3' hg3 hc2
  have hz3 := hc3.size
  have HB3 := Lib.hid (HB.out.below hc3)
  go_wp2_with (at_builtin; refine wpList_app w.heap.size tB HO3.out (rd_src Try.underlying28 HB3.out (by omega) (bvs_one _)) hz3 (by unfold maxLen; omega) (by omega) rfl rfl rfl rfl ?_)
  intro v4 w4 ho4 hg4
  have hc4 : Below w.heap.size w w4 := below_grown hc3 HO3.out hg4 hz3
  have ho4' := OwnB.of (xs := enc v ++ b) ho4 (by rw [bvs_append])
  have HO4 := Lib.hid ho4'.rd; clear ho4 ho4' hg4 hc3 HO3 HB3
  have hc := readNumber_any _ _ _ HO4.out
  rw [HR1.out] at hc
  have HC := Lib.hid hc; clear hc
  generalize (enc v).length = L1 at *
  have hL1 : ((L1 : Int) != (L1 : Int)) = false := by simp
  go_wp2_with fail
  refine HC.out.mono ?_
  rintro e w5 ⟨rfl, rfl⟩
  have HX4 := Lib.hid (HX.out.below hc4)
  have hz4 := hc4.size
  clear HO4 HC
  go_wp2_with fail
  refine (frameW_any _ _ _ HX4.out (by omega)).mono ?_
  rintro e w5 ⟨v5, rfl, ho5, hb5⟩
  have hc5 := below_then hc4 hz4 hb5
  have hz5 := hc5.size
  have HO5 := Lib.hid ho5.rd; clear ho5 hb5 hc4 HX4
  obtain ⟨A5, cap5, rfl, _⟩ := Rd.form HO5.out
  go_wp2_with (at_builtin; refine wpList_app w.heap.size tB (fresh w5 _ hz5) (rd_src Try.underlying28 (Rd.below HO5.out ((Below.refl _ _).alloc (Nat.le_refl _) _)) (by omega) (bvs_one _)) (by simp; omega) (by unfold maxLen; omega) (by omega) rfl rfl rfl rfl ?_)
  intro v6 w6 ho6 hg6
  have hc6 : Below w.heap.size w w6 := below_grown (hc5.alloc hz5 _) (fresh w5 _ hz5) hg6 (by simp; omega)
  have ho6' : w6.ownsRow w.heap.size 5 1 v6 (frameOf x).length (bvs (frameOf x)) := OwnB.of (xs := frameOf x) ho6 rfl
  have HO6 := Lib.hid ho6'; clear ho6 ho6' hg6 hc5
  have hz6 := hc6.size
  have HB6 := Lib.hid (HB.out.below hc6)
  go_wp2_with (at_builtin; refine wpList_app w.heap.size tB HO6.out (rd_src Try.underlying28 HB6.out (by omega) (bvs_one _)) hz6 (by unfold maxLen; omega) (by omega) rfl rfl rfl rfl ?_)
  intro v7 w7 ho7 hg7
  have hc7 : Below w.heap.size w w7 := below_grown hc6 HO6.out hg7 hz6
  have ho7' := OwnB.of (xs := frameOf x ++ b) ho7 (by rw [bvs_append])
  have HO7 := Lib.hid ho7'.rd; clear ho7 ho7' hg7 hc6 HO6 HB6
  have hc := readFrame_any _ _ _ HO7.out (by rw [List.length_append]; omega)
  rw [HR2.out] at hc
  have HC := Lib.hid hc; clear hc
  generalize (frameOf x).length = L2 at *
  have hL2 : ((L2 : Int) != (L2 : Int)) = false := by simp
  go_wp2_with fail
  refine HC.out.mono ?_
  rintro e w8 ⟨v8, rfl, hr8, hb8⟩
  have hz7 := hc7.size
  have hc8 := below_then hc7 hz7 hb8
  have HR8 := Lib.hid hr8
  have HX8 := Lib.hid (HX.out.below hc8)
  clear hr8 hb8 hc7 HO7 HC
  go_wp2_with fail
  refine (same_any _ _ _ _ _ HR8.out HX8.out).mono ?_
  rintro e w9 ⟨rfl, rfl⟩
  rw [decide_eq_true rfl]
  have HB8 := Lib.hid (HB.out.below hc8)
  have hcn := readNumber_any _ _ _ HB8.out
  have HC := Lib.hid hcn; clear hcn HR8 HX8
  have hcan : ∀ v m, readN b = (v, m, 0) → enc v = b.take m := fun v m h => readN_canon h
  have hfit := @readN_fits b
  have hlt := readN_lt b
  generalize readN b = r at *
  obtain ⟨n, pos, er⟩ := r
  simp only at HC hfit hlt
  have HCAN := Lib.hid hcan; clear hcan
  have HFIT := Lib.hid hfit; clear hfit
  have HLT := Lib.hid hlt; clear hlt
  have hz8 := hc8.size
  have hcut' : ∀ K : Prop, K → K := fun _ h => h
  clear hcut'
  go_wp2_with fail
  refine HC.out.mono ?_
  rintro e w9 ⟨rfl, rfl⟩
  clear HC
  go_upto_region 14 with fail
  go_cut [90] (fun s wx => s = .bool false ∧ Below w.heap.size w wx)
  case first =>
    by_cases her : er = 0
    · subst her
      obtain ⟨hp0, hp1⟩ := HFIT.out rfl
      have hcan := HCAN.out n pos rfl
      have ht : (((0 : Nat) : Int) == 0) = true := rfl
      obtain ⟨g, off, cap8, e8, _, _, _, _⟩ := Rd.full HB8.out (by omega) (by omega)
      cases e8
      have HS : Hid (RdB w8 (.slice (some ⟨g, off, none⟩) pos cap') (b.take pos)) := by
        exact RdB.sub (l := 0) (h := pos) HB8.out (Nat.zero_le _) hp1 rfl rfl rfl rfl
      have HE := Lib.hid hcan; clear hcan
      go_region_with (first
        | (go_at_call 16; refine (number_any _ n [] _ HLT.out (rdb_nil _) (by simp)).mono ?_; rintro e w9 ⟨v9, rfl, ho9, hb9⟩; rw [List.nil_append] at ho9; have hc9 := below_then hc8.drew hz8 hb9; have HO9 := Lib.hid ho9.rd; have HS9 := Lib.hid ((RdB.drew HS.out).below hb9); clear ho9 hb9)
        | (go_at_call 17; refine (same_any _ _ _ _ _ HO9.out HS9.out).mono ?_; rintro e w10 ⟨rfl, rfl⟩; rw [decide_eq_true HE.out]))
      all_goals
        go_wp2_with fail
        go_meet
        exact ⟨rfl, hc9⟩
    · have ht : ((er : Int) == 0) = false := by rw [beq_eq_false_iff_ne]; omega
      go_quiet (fail)
      go_wp2_with fail
      go_meet
      exact ⟨rfl, below_then hc8 hz8 (drewN_below _ _)⟩
  case rest =>
    obtain ⟨rfl, hcb⟩ := hcut
    have hzb := hcb.size
    have HBc := Lib.hid (HB.out.below hcb)
    clear HB8 hc8 hz8 HCAN HFIT HLT
    have hc := readFrame_any _ _ _ HBc.out (by omega)
    have hcan : ∀ y k, readFrameN b = (y, k, 0) → frameOf y = b.take k ∧ k ≤ b.length := fun y k h => readFrameN_canon h
    have hln := @readFrameN_len b
    generalize readFrameN b = r2 at *
    obtain ⟨y, k, er2⟩ := r2
    simp only at hln
    have HC2 := Lib.hid hc; clear hc
    have HCAN2 := Lib.hid hcan; clear hcan
    have HLN := Lib.hid hln; clear hln
    go_wp2_with fail
    refine HC2.out.mono ?_
    rintro e w9 ⟨v9, rfl, hr9, hb9⟩
    have hc9 := below_then hcb hzb hb9
    have hz9 := hc9.size
    have HY := Lib.hid hr9
    have HB9 := Lib.hid (HBc.out.below hb9)
    clear HC2 hr9 hb9 HBc hcb
    obtain ⟨Ay, capy, rfl, _⟩ := Rd.form HY.out
    go_upto_region 17 with fail
    by_cases her2 : er2 = 0
    · subst her2
      obtain ⟨hk4, hkl⟩ := HLN.out rfl
      obtain ⟨hcan, _⟩ := HCAN2.out y k rfl
      have hyl : y.length ≤ 65536 := by
        have := congrArg List.length hcan
        rw [frameOf_len, List.length_take] at this
        omega
      have ht : (((0 : Nat) : Int) != 0) = false := rfl
      obtain ⟨g, off, cap8, e8, _, _, _, _⟩ := Rd.full HB9.out (by omega) (by omega)
      cases e8
      have HS : Hid (RdB w9 (.slice (some ⟨g, off, none⟩) k cap') (b.take k)) :=
        RdB.sub (l := 0) (h := k) HB9.out (Nat.zero_le _) hkl rfl rfl rfl rfl
      have HE := Lib.hid hcan; clear hcan
      go_region_with (first
        | (go_at_call 22; refine (frameW_any _ _ _ (RdB.drew HY.out) (by omega)).mono ?_; rintro e w10 ⟨v10, rfl, ho10, hb10⟩; have hc10 := below_then hc9.drew hz9 hb10; have HO10 := Lib.hid ho10.rd; have HS10 := Lib.hid ((RdB.drew HS.out).below hb10); clear ho10 hb10)
        | (go_at_call 17; refine (same_any _ _ _ _ _ HO10.out HS10.out).mono ?_; rintro e w11 ⟨rfl, rfl⟩; rw [decide_eq_true HE.out]))
      all_goals
        go_wp2
        go_ret
        exact ⟨rfl, hc10⟩
    · have ht : ((er2 : Int) != 0) = true := by rw [bne_iff_ne]; omega
      go_quiet (fail)
      go_wp2
      go_ret
      exact ⟨rfl, below_then hc9 hz9 (drewN_below _ _)⟩

theorem walk (a : Int) (xv : Value) (x : List UInt8) (bv : Value) (b : List UInt8) (w : World) (wf : (Lit.int .u64 a).wf = true) (hx : RdB w xv x) (hb : RdB w bv b) :
    Calls Try.prog 6 #[.int .u64 a, xv, bv] w fun e w' => e = .returned (.bool true) ∧ Below w.heap.size w w' := by
  obtain ⟨v, rfl, hv⟩ := u64_nat wf
  by_cases hbig : 65536 < x.length ∨ 65536 < b.length
  · exact walk_skip v xv bv x b w hx hb hbig
  · exact walk_do v xv bv x b w hv hx hb (by omega) (by omega)
end Go.Proofs.Ytoliikpbhmfjnaa.codecBack
