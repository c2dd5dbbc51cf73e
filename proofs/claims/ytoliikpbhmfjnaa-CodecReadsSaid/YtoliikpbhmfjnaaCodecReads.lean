/-
  Any bytes, any bound: what stands at the front, or the error, as the reference tells it: for every bytes and every bound.
-/
import Derived.Test.YtoliikpbhmfjnaaRows
import Derived.Test.YtoliikpbhmfjnaaGKit
import Derived.Test.YtoliikpbhmfjnaaGKit2
import Derived.Test.YtoliikpbhmfjnaaCodecLaws2
import Derived.Test.YtoliikpbhmfjnaaCodecSmall
import Derived.Test.YtoliikpbhmfjnaaCodecKnown
import Derived.Test.YtoliikpbhmfjnaaCodecRead
import Derived.Test.YtoliikpbhmfjnaaCodecRd2
import Derived.Test.YtoliikpbhmfjnaaCodecFrs
import Derived.Test.YtoliikpbhmfjnaaCodecRef2
import Derived.Test.YtoliikpbhmfjnaaCodecFrs2
set_option linter.unusedVariables false
set_option linter.unusedSimpArgs false
namespace Go.Proofs.Ytoliikpbhmfjnaa.codecReads
open Go.RowKit Codec

set_option maxRecDepth 100000 in
set_option maxHeartbeats 1000000 in
theorem walk_skip (v : Value) (x : List UInt8) (most : Int) (w : World) (h : RdB w v x) (hbig : 65536 < x.length) :
    Calls Try.prog 9 #[v, .int .i64 most] w fun e w' => e = .returned (.bool true) ∧ Below w.heap.size w w' := by
  obtain ⟨A, cap, rfl, _⟩ := Rd.form h
  clear h
  go_enter Try.func9, Try.ntmps9
  go_wp2_with fail
  refine (known_any _).mono ?_
  rintro e w1 ⟨rfl, hb1⟩
  go_wp2
  go_ret
  exact ⟨rfl, hb1⟩

set_option maxRecDepth 100000 in
set_option maxHeartbeats 2000000 in
theorem walk_do (v : Value) (x : List UInt8) (most : Int) (m : Nat) (hm : (m : Int) = max most 0) (hmm : m ≤ 9223372036854775807) (w : World) (h : RdB w v x) (hx : x.length ≤ 65536) :
    Calls Try.prog 9 #[v, .int .i64 most] w fun e w' => e = .returned (.bool true) ∧ Below w.heap.size w w' := by
  have HX := Lib.hid h
  have HM := Lib.hid hm
  have HMM := Lib.hid hmm
  obtain ⟨A, cap, rfl, _⟩ := Rd.form h
  clear h hm hmm
  go_enter Try.func9, Try.ntmps9
  go_wp2_with fail
  refine (known_any _).mono ?_
  rintro e w1 ⟨rfl, hb1⟩
  have hz1 := hb1.size
  have HX1 := Lib.hid (HX.out.below hb1)
  -- numbers
  have HC1 := Lib.hid (readNumber_any _ _ _ HX1.out)
  have HC2 := Lib.hid (refReadNumber_any _ _ _ HX1.out)
  generalize readN x = r at *
  obtain ⟨n, k, er⟩ := r
  simp only at HC1 HC2
  have t1 : ((n : Int) != (n : Int)) = false := by simp
  have t2 : ((k : Int) != (k : Int)) = false := by simp
  have t3 : ((er : Int) != (er : Int)) = false := by simp
  go_wp2_with fail
  refine HC1.out.mono ?_
  rintro e w2 ⟨rfl, rfl⟩
  go_wp2_with fail
  refine HC2.out.mono ?_
  rintro e w2 ⟨rfl, rfl⟩
  clear HC1 HC2
  -- bytes
  have HC1 := Lib.hid (readBytes_any _ most m HM.out HMM.out _ _ HX1.out (by omega))
  generalize hr : readBytesN x m = r at *
  have HR := Lib.hid hr; clear hr
  obtain ⟨y, k2, er2⟩ := r
  go_wp2_with fail
  refine HC1.out.mono ?_
  rintro e w2 ⟨v2, rfl, hr2, hb2⟩
  simp only at hr2
  have hb3 := below_then hb1 hz1 hb2
  have hz3 := hb3.size
  have HX2 := Lib.hid (HX1.out.below hb2)
  have HY := Lib.hid hr2
  clear HC1 hr2 hb2 hb1 t1 t2 t3
  have hc2 := refReadBytes_any _ most m HM.out HMM.out _ _ HX2.out (by omega)
  rw [HR.out] at hc2
  have HC2 := Lib.hid hc2; clear hc2
  have t2 : ((k2 : Int) != (k2 : Int)) = false := by simp
  have t3 : ((er2 : Int) != (er2 : Int)) = false := by simp
  go_wp2_with fail
  refine HC2.out.mono ?_
  rintro e w3 ⟨v3, rfl, hr3, _, hb4⟩
  simp only at hr3
  have HY2 := Lib.hid (hr3.below hb4)
  have HY1 := Lib.hid (HY.out.below hb4)
  have HX3 := Lib.hid (HX2.out.below hb4)
  have hb5 := below_then hb3 hz3 hb4
  have hz5 := hb5.size
  clear HC2 hr3 hb4 hb3 HY HX2
  go_wp2_with fail
  refine (same_any _ _ _ _ _ HY1.out HY2.out).mono ?_
  rintro e w4 ⟨rfl, rfl⟩
  rw [decide_eq_true rfl]
  clear HY1 HY2
  -- a frame
  have HC1 := Lib.hid (readFrame_any _ _ _ HX3.out (by omega))
  generalize hr : readFrameN x = r at *
  have HR := Lib.hid hr; clear hr
  obtain ⟨y3, k3, er3⟩ := r
  go_wp2_with fail
  refine HC1.out.mono ?_
  rintro e w4 ⟨v4, rfl, hr4, hb6⟩
  simp only at hr4
  have hb7 := below_then hb5 hz5 hb6
  have hz7 := hb7.size
  have HX4 := Lib.hid (HX3.out.below hb6)
  have HY := Lib.hid hr4
  clear HC1 hr4 hb6 hb5 t2 t3
  have hc2 := refReadFrame_any _ _ _ HX4.out (by omega)
  rw [HR.out] at hc2
  have HC2 := Lib.hid hc2; clear hc2
  have t2 : ((k3 : Int) != (k3 : Int)) = false := by simp
  have t3 : ((er3 : Int) != (er3 : Int)) = false := by simp
  go_wp2_with fail
  refine HC2.out.mono ?_
  rintro e w5 ⟨v5, rfl, hr5, _, hb8⟩
  simp only at hr5
  have HY2 := Lib.hid (hr5.below hb8)
  have HY1 := Lib.hid (HY.out.below hb8)
  have HX5 := Lib.hid (HX4.out.below hb8)
  have hb9 := below_then hb7 hz7 hb8
  have hz9 := hb9.size
  clear HC2 hr5 hb8 hb7 HY HX4
  go_wp2_with fail
  refine (same_any _ _ _ _ _ HY1.out HY2.out).mono ?_
  rintro e w6 ⟨rfl, rfl⟩
  rw [decide_eq_true rfl]
  clear HY1 HY2
  -- all frames
  have HC1 := Lib.hid (readFrames_any _ _ _ HX5.out (by omega))
  generalize hr : frames x = r at *
  have HR := Lib.hid hr; clear hr
  obtain ⟨l, k4, er4⟩ := r
  go_wp2_with fail
  refine HC1.out.mono ?_
  rintro e w6 ⟨v6, rfl, hr6, hb10⟩
  simp only at hr6
  have hb11 := below_then hb9 hz9 hb10
  have hz11 := hb11.size
  have HX6 := Lib.hid (HX5.out.below hb10)
  have HY := Lib.hid hr6
  clear HC1 hr6 hb10 hb9 t2 t3
  have hc2 := refReadFrames_any _ _ _ HX6.out (by omega)
  rw [HR.out] at hc2
  have HC2 := Lib.hid hc2; clear hc2
  have t2 : ((k4 : Int) != (k4 : Int)) = false := by simp
  have t3 : ((er4 : Int) != (er4 : Int)) = false := by simp
  have t4 : ((l.length : Int) != (l.length : Int)) = false := by simp
  go_wp2_with fail
  refine HC2.out.mono ?_
  rintro e w7 ⟨v7, rfl, hr7, hb12⟩
  simp only at hr7
  have HP := Lib.hid (HY.out.below hb12)
  have HQ := Lib.hid hr7
  have hb13 := below_then hb11 hz11 hb12
  have hz13 := hb13.size
  have hlm := HQ.out.le
  unfold maxLen at hlm
  clear HC2 hr7 hb12 hb11 HY HX6 HX5 HX3 HX1 HX hz1 hz3 hz5 hz7 hz9 hz11
  rcases Nat.eq_zero_or_pos l.length with hl0 | hl0
  · obtain ⟨A6, cap6, rfl, _⟩ := HP.out.form
    obtain ⟨A7, cap7, rfl, _⟩ := HQ.out.form
    rw [hl0]
    clear HP HQ hl0 t4
    go_wp2
    refine wp_loop_rounds 1 ?_
    rw [rounds_succ]
    go_wp2
    go_ret
    exact ⟨rfl, hb13⟩
  · obtain ⟨g6, off6, cap6, rfl, _, _, _, hc6⟩ := HP.out.full hl0
    obtain ⟨g7, off7, cap7, rfl, _, _, _, hc7⟩ := HQ.out.full hl0
    clear HP HQ
    go_wp2
    go_loopw [15] (fun i wr => ∃ k : Nat, k ≤ l.length ∧ i = .int .i64 k ∧ ∃ n, wr = w7.drewN n) (fun i _ => l.length - (intOf i).toNat)
    case atStart => exact ⟨0, by omega, rfl, 0, rfl⟩
    case round =>
      obtain ⟨k, hk, rfl, nd, rfl⟩ := hrel
      by_cases hlt : k < l.length
      · obtain ⟨u6, hcell6, hu6⟩ := hc6.at_ k hlt
        obtain ⟨u7, hcell7, hu7⟩ := hc7.at_ k hlt
        have hS : ∀ m, Calls Try.prog 17 #[u6, u7] (w7.drewN (nd + m)) fun e w' => e = .returned (.bool true) ∧ ∃ n, w' = w7.drewN (nd + n) := fun m =>
          (same_any _ _ _ _ _ (RdB.drewN hu6 (nd + m)) (RdB.drewN hu7 (nd + m))).mono fun _ _ hh => ⟨by rw [hh.1, decide_eq_true rfl], m, hh.2.symm⟩
        have HS := Lib.hid hS; clear hS
        have hlt' : (k : Int) < (l.length : Int) := by omega
        have hk0 : (0 : Int) ≤ (k : Int) := by omega
        obtain ⟨A8, cap8, rfl, _⟩ := Rd.form hu6
        obtain ⟨A9, cap9, rfl, _⟩ := Rd.form hu7
        clear hu6 hu7
        go_wp2
        go_quiet ((go_at_call 17; exact HS.out _))
        go_wp2
        go_roundw
        case rel => exact ⟨k + 1, by omega, by go_num, _, rfl⟩
        case measure => simp [intOf]; omega
      · go_wp2
        go_ret
        exact ⟨rfl, below_then hb13 hz13 (drewN_below _ _)⟩

theorem walk (v : Value) (x : List UInt8) (most : Int) (w : World) (h : RdB w v x) (wf : (Lit.int .i64 most).wf = true) :
    Calls Try.prog 9 #[v, .int .i64 most] w fun e w' => e = .returned (.bool true) ∧ Below w.heap.size w w' := by
  by_cases hbig : 65536 < x.length
  · exact walk_skip v x most w h hbig
  · simp only [Lit.wf, IntKind.min, IntKind.max, IntKind.signed, IntKind.bits, Bool.and_eq_true, decide_eq_true_eq, if_true] at wf
    exact walk_do v x most (max most 0).toNat (by omega) (by omega) w h (by omega)
end Go.Proofs.Ytoliikpbhmfjnaa.codecReads
