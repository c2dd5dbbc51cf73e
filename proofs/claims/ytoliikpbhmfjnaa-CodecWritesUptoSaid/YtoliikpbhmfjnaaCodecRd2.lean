/-
  ReadFrame, ReadBytes, ReadFrames of the program.
-/
import Derived.Test.YtoliikpbhmfjnaaProg
import Derived.Test.YtoliikpbhmfjnaaGKit
import Derived.Test.YtoliikpbhmfjnaaGKit2
import Derived.Test.YtoliikpbhmfjnaaCodecPlain
import Derived.Test.YtoliikpbhmfjnaaCodecLaws
import Derived.Test.YtoliikpbhmfjnaaCodecRead
import Derived.Test.YtoliikpbhmfjnaaCodecSmall
import Derived.Test.YtoliikpbhmfjnaaCodecRd
set_option linter.unusedVariables false
set_option linter.unusedSimpArgs false
namespace Go.Proofs.Ytoliikpbhmfjnaa
open Go.RowKit Codec

/-- A call hands back bytes, a number and an error; what was there is as it was. -/
structure ReadB (w : World) (r : List UInt8 × Nat × Nat) (e : Ending) (w' : World) : Prop where
  out : ∃ v, e = .returned (.tuple #[v, .int .i64 r.2.1, .int .i64 r.2.2]) ∧ RdB w' v r.1 ∧ Below w.heap.size w w'

set_option maxRecDepth 100000 in
set_option maxHeartbeats 800000 in
theorem readFrame_any (v : Value) (xs : List UInt8) (w : World) (h : RdB w v xs) (hx : xs.length ≤ 1000000000000) :
    Calls Try.prog 25 #[v] w fun e w' => ReadB w (readFrameN xs) e w' := by
  have hc := frameR_any v xs w h hx
  have hfit := @frameN_fits xs
  have hR : readFrameN xs = if (frameN xs).2.2 ≠ 0 then ([], 0, (frameN xs).2.2) else ((xs.drop (frameN xs).1).take ((frameN xs).2.1 - (frameN xs).1), (frameN xs).2.1, 0) := rfl
  generalize frameN xs = r at *
  obtain ⟨from_, to_, er⟩ := r
  simp only at hc hfit hR
  have HC := Lib.hid hc; clear hc
  by_cases her : er = 0
  · subst her
    rw [if_neg (by simp)] at hR
    rw [hR]
    obtain ⟨h1, h2, h3⟩ := hfit rfl
    have hxs : 0 < xs.length := by omega
    obtain ⟨g, off, cap, rfl, hcap, hcm, _, _⟩ := Rd.full h hxs (by omega)
    have hcm' : cap ≤ 9223372036854775807 := by unfold maxLen at hcm; omega
    have hlen : ((xs.drop from_).take (to_ - from_)).length = to_ - from_ := by simp; omega
    by_cases hcf : cap = from_
    · have HS : Hid (RdB w (.slice (some ⟨g, off, none⟩) (to_ - from_) 0) ((xs.drop from_).take (to_ - from_))) := by
        have : to_ - from_ = 0 := by omega
        rw [this]
        exact Rd.nil' (by simp [maxLen]) (fun h => by cases h)
      have hft : to_ = from_ := by omega
      generalize (xs.drop from_).take (to_ - from_) = ys at *
      clear h hR hfit hcm
      subst hft
      subst hcf
      rw [Nat.sub_self] at HS
      go_enter Try.func25, Try.ntmps25
      go_wp2_with fail
      refine HC.out.mono ?_
      rintro e w1 ⟨rfl, hb1⟩
      clear HC
      have HS1 := Lib.hid (HS.out.below hb1)
      have hz1 := hb1.size
      go_wp2_with fail
      refine (clone_any _ ys _ HS1.out (by omega)).mono ?_
      rintro e w2 ⟨v2, rfl, ho2, hb2⟩
      have hb3 := below_then hb1 hz1 hb2
      have HO := Lib.hid ho2.rd; clear ho2 hb2 HS1 HS
      go_wp2
      go_ret3
      exact ⟨_, rfl, HO.out, hb3⟩
    · have HS : Hid (RdB w (.slice (some ⟨g, off + from_, none⟩) (to_ - from_) (cap - from_)) ((xs.drop from_).take (to_ - from_))) := RdB.sub h (by omega) (by omega) rfl rfl rfl rfl
      generalize (xs.drop from_).take (to_ - from_) = ys at *
      clear h hR hfit hcm
      go_enter Try.func25, Try.ntmps25
      go_wp2_with fail
      refine HC.out.mono ?_
      rintro e w1 ⟨rfl, hb1⟩
      clear HC
      have HS1 := Lib.hid (HS.out.below hb1)
      have hz1 := hb1.size
      go_wp2_with fail
      refine (clone_any _ ys _ HS1.out (by omega)).mono ?_
      rintro e w2 ⟨v2, rfl, ho2, hb2⟩
      have hb3 := below_then hb1 hz1 hb2
      have HO := Lib.hid ho2.rd; clear ho2 hb2 HS1 HS
      go_wp2
      go_ret3
      exact ⟨_, rfl, HO.out, hb3⟩
  · rw [if_pos her] at hR
    rw [hR]
    have hne : ((er : Int) != 0) = true := by rw [bne_iff_ne]; omega
    obtain ⟨A, cap, rfl, _⟩ := Rd.form h
    clear hR h hfit
    go_enter Try.func25, Try.ntmps25
    go_wp2_with fail
    refine HC.out.mono ?_
    rintro e w1 ⟨rfl, hb1⟩
    clear HC
    go_wp2
    go_ret3
    exact ⟨_, rfl, rdb_nil _, hb1⟩

set_option maxRecDepth 100000 in
set_option maxHeartbeats 800000 in
theorem readBytes_any (v : Value) (most : Int) (m : Nat) (hm : (m : Int) = max most 0) (hmm : m ≤ 9223372036854775807) (xs : List UInt8) (w : World) (hin : RdB w v xs) (hx : xs.length ≤ 1000000000000) :
    Calls Try.prog 28 #[v, .int .i64 most] w fun e w' => ReadB w (readBytesN xs m) e w' := by
  have hc := readNumber_any v xs w hin
  have hfit := @readN_fits xs
  have hlt := readN_lt xs
  generalize hr : readN xs = r at *
  obtain ⟨n, pos, er⟩ := r
  simp only at hc hfit hlt
  have HC := Lib.hid hc; clear hc
  have HL := Lib.hid hlt; clear hlt
  by_cases her : er = 0
  · subst her
    obtain ⟨hp0, hp1⟩ := hfit rfl
    have hxs : 0 < xs.length := by omega
    obtain ⟨g, off, cap, rfl, hcap, hcm, _, _⟩ := Rd.full hin hxs (by omega)
    have hcm' : cap ≤ 9223372036854775807 := by unfold maxLen at hcm; omega
    go_enter Try.func28, Try.ntmps28
    go_wp2_with fail
    refine HC.out.mono ?_
    rintro e w1 ⟨rfl, rfl⟩
    clear HC
    go_wp2_with fail
    all_goals first
      | (go_ret3; rw [readBytesN_big hr rfl (by omega)]; exact ⟨_, rfl, rdb_nil _, Below.refl _ _⟩)
      | (go_ret3; rw [readBytesN_short hr rfl (by omega) (by omega)]; exact ⟨_, rfl, rdb_nil _, Below.refl _ _⟩)
      | skip
    all_goals
      have hok := readBytesN_ok hr rfl (most := m) (by omega) (by omega)
      have hlen : ((xs.drop pos).take n).length = n := by simp; omega
      have hRd : RdB w (.slice (some ⟨g, if cap = pos then off else off + pos, none⟩) n (cap - pos)) ((xs.drop pos).take n) := by
        by_cases hcp : cap = pos
        · rw [if_pos hcp]
          have h0 : n = 0 := by omega
          rw [h0, hcp, Nat.sub_self]
          exact Rd.nil' (by simp [maxLen]) (fun h => by cases h)
        · rw [if_neg hcp]
          exact RdB.sub (h := pos + n) hin (by omega) (by omega) rfl rfl (by omega) rfl
      have HK := Lib.hid hok
      generalize (xs.drop pos).take n = ys at *
      first
        | rw [if_pos (by omega), show cap - pos = 0 by omega] at hRd
        | rw [if_neg (by omega)] at hRd
      have HS := Lib.hid hRd
      clear hRd hok hr hin hm
      refine (clone_any _ ys _ HS.out (by omega)).mono ?_
      rintro e w2 ⟨v2, rfl, ho2, hb2⟩
      have HO := Lib.hid ho2.rd; clear ho2 HS
      go_wp2
      go_ret3
      rw [HK.out]
      exact ⟨_, rfl, HO.out, hb2⟩
  · rw [readBytesN_err hr her]
    have hne : ((er : Int) != 0) = true := by rw [bne_iff_ne]; omega
    obtain ⟨A, cap, rfl, _⟩ := Rd.form hin
    clear hr hin hfit hm
    go_enter Try.func28, Try.ntmps28
    go_wp2_with fail
    refine HC.out.mono ?_
    rintro e w1 ⟨rfl, rfl⟩
    clear HC
    go_wp2
    go_ret3
    exact ⟨_, rfl, rdb_nil _, Below.refl _ _⟩
end Go.Proofs.Ytoliikpbhmfjnaa
