/-
  A frame is read: the reference's.
-/
import Derived.Test.YtoliikpbhmfjnaaProg
import Derived.Test.YtoliikpbhmfjnaaGKit
import Derived.Test.YtoliikpbhmfjnaaGKit2
import Derived.Test.YtoliikpbhmfjnaaCodecPlain
import Derived.Test.YtoliikpbhmfjnaaCodecLaws
import Derived.Test.YtoliikpbhmfjnaaCodecRead
import Derived.Test.YtoliikpbhmfjnaaCodecSum
import Derived.Test.YtoliikpbhmfjnaaCodecSmall
import Derived.Test.YtoliikpbhmfjnaaCodecRef
set_option linter.unusedVariables false
set_option linter.unusedSimpArgs false
namespace Go.Proofs.Ytoliikpbhmfjnaa
open Go.RowKit Codec

theorem part_none (b : Value) : ∀ g, lies (.slice none 0 0) g → lies b g := fun g hg => by obtain ⟨_, _, _, e, _⟩ := hg; cases e

set_option maxRecDepth 100000 in
set_option maxHeartbeats 1000000 in
theorem refReadFrame_any (v : Value) (xs : List UInt8) (w : World) (hin : RdB w v xs) (hx : xs.length ≤ 1000000000000) :
    Calls Try.prog 30 #[v] w fun e w' => PartB w (readFrameN xs) v e w' := by
  have hc := refReadNumber_any v xs w hin
  have hfit := @readN_fits xs
  have hlt := readN_lt xs
  generalize hr : readN xs = r at *
  obtain ⟨n, pos, er⟩ := r
  simp only at hc hfit hlt
  have HC := Lib.hid hc; clear hc
  have HL := Lib.hid hlt; clear hlt
  by_cases her : er = 0
  · subst her
    obtain ⟨hp0, hp1⟩ := hfit rfl
    have hxs : 0 < xs.length := by omega
    obtain ⟨g, off, cap, rfl, hcap, hcm, _, _⟩ := Rd.full hin hxs (by omega)
    have hcm' : cap ≤ 9223372036854775807 := by unfold maxLen at hcm; omega
    by_cases hbig : 67108864 < n
    · rw [readFrameN_err (frameN_big hr rfl hbig) (by omega)]
      clear hr hin hfit
      go_enter Try.func30, Try.ntmps30
      go_wp2_with fail
      refine HC.out.mono ?_
      rintro e w1 ⟨rfl, rfl⟩
      clear HC
      go_wp2
      go_ret3
      exact ⟨_, rfl, rdb_nil _, part_none _, Below.refl _ _⟩
    · by_cases hsh : xs.length - pos < n + 4
      · rw [readFrameN_err (frameN_short hr rfl hbig hsh) (by omega)]
        clear hr hin hfit
        go_enter Try.func30, Try.ntmps30
        go_wp2_with fail
        refine HC.out.mono ?_
        rintro e w1 ⟨rfl, rfl⟩
        clear HC
        go_wp2
        all_goals
          go_ret3
          exact ⟨_, rfl, rdb_nil _, part_none _, Below.refl _ _⟩
      · have hyl : ((xs.drop (pos + 4)).take n).length = n := by simp; omega
        have hzl : (xs.drop pos).length = xs.length - pos := by simp
        have HZ : Hid (RdB w (.slice (some ⟨g, off + pos, none⟩) (xs.length - pos) (cap - pos)) (xs.drop pos)) := by
          have h1 := RdB.sub (l := pos) (h := xs.length) hin (by omega) (Nat.le_refl _) rfl rfl rfl rfl
          rwa [List.take_of_length_le (by omega)] at h1
        have hRd : RdB w (.slice (some ⟨g, if cap = pos + 4 then off else off + (pos + 4), none⟩) (pos + 4 + n - (pos + 4)) (cap - (pos + 4))) ((xs.drop (pos + 4)).take n) := by
          by_cases hcp : cap = pos + 4
          · rw [if_pos hcp]
            have h0 : n = 0 := by omega
            subst h0
            rw [hcp, Nat.add_zero, Nat.sub_self]
            exact Rd.nil' (by simp [maxLen]) (fun h => by cases h)
          · rw [if_neg hcp]
            have h1 := RdB.sub (l := pos + 4) (h := pos + 4 + n) hin (by omega) (by omega) rfl rfl rfl rfl
            rwa [show List.take (pos + 4 + n - (pos + 4)) (xs.drop (pos + 4)) = (xs.drop (pos + 4)).take n by rw [Nat.add_sub_cancel_left]] at h1
        have hz4 : 4 ≤ (xs.drop pos).length := by omega
        have hsl := sumOf_lt ((xs.drop (pos + 4)).take n)
        have hiff := four_low (xs.drop pos)[0] (xs.drop pos)[1] (xs.drop pos)[2] (xs.drop pos)[3] _ hsl
        rw [← take_four hz4] at hiff
        have hF4 : ∀ m, Calls Try.prog 40 #[.slice (some ⟨g, off + pos, none⟩) (xs.length - pos) (cap - pos)] (w.drewN m) fun e w' => e = .returned (.int .u32 (four (xs.drop pos)[0] (xs.drop pos)[1] (xs.drop pos)[2] (xs.drop pos)[3])) ∧ ∃ k, w' = (w.drewN m).drewN k := fun m => readFour_any _ _ _ (RdB.drewN HZ.out m) hz4
        have hS : ∀ m, Calls Try.prog 14 #[.slice (some ⟨g, if cap = pos + 4 then off else off + (pos + 4), none⟩) (pos + 4 + n - (pos + 4)) (cap - (pos + 4))] (w.drewN m) fun e w' => e = .returned (.int .u32 (sumOf ((xs.drop (pos + 4)).take n))) ∧ w' = w.drewN m := fun m => (refSum_any _ _ _ (RdB.drewN hRd m)).mono fun _ _ h => ⟨h.1, h.2.symm⟩
        have hok : four (xs.drop pos)[0] (xs.drop pos)[1] (xs.drop pos)[2] (xs.drop pos)[3] = sumOf ((xs.drop (pos + 4)).take n) → readFrameN xs = ((xs.drop (pos + 4)).take n, pos + 4 + n, 0) := fun h => readFrameN_ok (frameN_ok hr rfl hbig hsh (hiff.1 h))
        have hno : four (xs.drop pos)[0] (xs.drop pos)[1] (xs.drop pos)[2] (xs.drop pos)[3] ≠ sumOf ((xs.drop (pos + 4)).take n) → readFrameN xs = ([], 0, 13) := fun h => readFrameN_err (frameN_sum hr rfl hbig hsh (fun e => h (hiff.2 e))) (by omega)
        clear hiff HZ hr hin hfit hyl
        generalize four (xs.drop pos)[0] (xs.drop pos)[1] (xs.drop pos)[2] (xs.drop pos)[3] = F at *
        generalize sumOf ((xs.drop (pos + 4)).take n) = s at *
        have hyl : ((xs.drop (pos + 4)).take n).length = n := by simp; omega
        generalize (xs.drop (pos + 4)).take n = ys at *
        have HF4 := Lib.hid hF4; clear hF4
        have hpart : ∀ g', lies (.slice (some ⟨g, if cap = pos + 4 then off else off + (pos + 4), none⟩) (pos + 4 + n - (pos + 4)) (cap - (pos + 4))) g' → lies (.slice (some ⟨g, off, none⟩) xs.length cap) g' := fun g' hg => by
          obtain ⟨o, k, c, e, hk⟩ := hg
          cases e
          exact ⟨_, _, _, rfl, hxs⟩
        have hcp : ¬ cap = pos := by omega
        by_cases hcq : cap = pos + 4
        · rw [if_pos hcq, show pos + 4 + n - (pos + 4) = 0 by omega] at hS hRd hpart
          have HS := Lib.hid hS; clear hS
          have HRd := Lib.hid hRd; clear hRd
          have HP := Lib.hid hpart; clear hpart
          have hn0 : n = 0 := by omega
          subst hn0
          subst hcq
          have HS0 := HS
          rw [Nat.sub_self] at HS0
          have HF40 := HF4
          rw [Nat.add_sub_cancel_left] at HF40
          by_cases heq : F = s
          · rw [hok heq]
            have ht : ((s : Int) != (F : Int)) = false := by rw [heq]; simp
            clear hok hno heq hsl
            go_enter Try.func30, Try.ntmps30
            go_wp2_with fail
            refine HC.out.mono ?_
            rintro e w1 ⟨rfl, rfl⟩
            clear HC
            go_wp2
            go_quiet (first | (go_at_call 14; (first | with_reducible exact Calls.quiet_of_same (HS0.out _) | with_reducible exact Calls.quiet_of_same (HS.out _))) | (go_at_call 40; (first | with_reducible exact Calls.quiet_of (HF40.out _) | with_reducible exact Calls.quiet_of (HF4.out _))))
            go_wp2
            go_ret3
            exact ⟨_, rfl, HRd.out, HP.out, drewN_below _ _⟩
          · rw [hno heq]
            have ht : ((s : Int) != (F : Int)) = true := by rw [bne_iff_ne]; omega
            clear hok hno heq hsl
            go_enter Try.func30, Try.ntmps30
            go_wp2_with fail
            refine HC.out.mono ?_
            rintro e w1 ⟨rfl, rfl⟩
            clear HC
            go_wp2
            go_quiet (first | (go_at_call 14; (first | with_reducible exact Calls.quiet_of_same (HS0.out _) | with_reducible exact Calls.quiet_of_same (HS.out _))) | (go_at_call 40; (first | with_reducible exact Calls.quiet_of (HF40.out _) | with_reducible exact Calls.quiet_of (HF4.out _))))
            go_wp2
            go_ret3
            exact ⟨_, rfl, rdb_nil _, part_none _, drewN_below _ _⟩
        · rw [if_neg hcq] at hS hRd hpart
          have HS := Lib.hid hS; clear hS
          have HSn := HS
          rw [Nat.add_sub_cancel_left] at HSn
          have HRd := Lib.hid hRd; clear hRd
          have HP := Lib.hid hpart; clear hpart
          by_cases heq : F = s
          · rw [hok heq]
            have ht : ((s : Int) != (F : Int)) = false := by rw [heq]; simp
            clear hok hno heq hsl
            go_enter Try.func30, Try.ntmps30
            go_wp2_with fail
            refine HC.out.mono ?_
            rintro e w1 ⟨rfl, rfl⟩
            clear HC
            go_wp2
            go_quiet (first | (go_at_call 14; (first | with_reducible exact Calls.quiet_of_same (HSn.out _) | with_reducible exact Calls.quiet_of_same (HS.out _))) | (go_at_call 40; with_reducible exact Calls.quiet_of (HF4.out _)))
            go_wp2
            go_ret3
            exact ⟨_, rfl, HRd.out, HP.out, drewN_below _ _⟩
          · rw [hno heq]
            have ht : ((s : Int) != (F : Int)) = true := by rw [bne_iff_ne]; omega
            clear hok hno heq hsl
            go_enter Try.func30, Try.ntmps30
            go_wp2_with fail
            refine HC.out.mono ?_
            rintro e w1 ⟨rfl, rfl⟩
            clear HC
            go_wp2
            go_quiet (first | (go_at_call 14; (first | with_reducible exact Calls.quiet_of_same (HSn.out _) | with_reducible exact Calls.quiet_of_same (HS.out _))) | (go_at_call 40; with_reducible exact Calls.quiet_of (HF4.out _)))
            go_wp2
            go_ret3
            exact ⟨_, rfl, rdb_nil _, part_none _, drewN_below _ _⟩
  · rw [readFrameN_err (frameN_err hr her) her]
    have hne : ((er : Int) != 0) = true := by rw [bne_iff_ne]; omega
    obtain ⟨A, cap, rfl, _⟩ := Rd.form hin
    clear hr hin hfit
    go_enter Try.func30, Try.ntmps30
    go_wp2_with fail
    refine HC.out.mono ?_
    rintro e w1 ⟨rfl, rfl⟩
    clear HC
    go_wp2
    go_ret3
    exact ⟨_, rfl, rdb_nil _, part_none _, Below.refl _ _⟩
end Go.Proofs.Ytoliikpbhmfjnaa
