/-
  Frames and bytes are read: the program's and the reference's.
-/
import Derived.Test.YtoliikpbhmfjnaaProg
import Derived.Test.YtoliikpbhmfjnaaGKit
import Derived.Test.YtoliikpbhmfjnaaGKit2
import Derived.Test.YtoliikpbhmfjnaaCodecPlain
import Derived.Test.YtoliikpbhmfjnaaCodecLaws
import Derived.Test.YtoliikpbhmfjnaaCodecRead
import Derived.Test.YtoliikpbhmfjnaaCodecSum2
import Derived.Test.YtoliikpbhmfjnaaCodecSmall
import Derived.Test.YtoliikpbhmfjnaaCodecRdA
import Derived.Deep.RegionWith
set_option linter.unusedVariables false
set_option linter.unusedSimpArgs false
namespace Go.Proofs.Ytoliikpbhmfjnaa
open Go.RowKit Codec

set_option maxRecDepth 100000 in
set_option maxHeartbeats 800000 in
theorem frameR_any (v : Value) (xs : List UInt8) (w : World) (h : RdB w v xs) (hx : xs.length ≤ 1000000000000) :
    Calls Try.prog 38 #[v] w fun e w' => e = .returned (.tuple #[.int .i64 (frameN xs).1, .int .i64 (frameN xs).2.1, .int .i64 (frameN xs).2.2]) ∧ Below w.heap.size w w' := by
  have hc := readNumber_any v xs w h
  have hfit := @readN_fits xs
  have hlt := readN_lt xs
  have herr := readN_err xs
  generalize hr : readN xs = r at *
  obtain ⟨n, pos, er⟩ := r
  simp only at hc hfit hlt herr
  have HC := Lib.hid hc; clear hc
  have HL := Lib.hid hlt; clear hlt
  by_cases her : er = 0
  · subst her
    obtain ⟨hp0, hp1⟩ := hfit rfl
    have hxs : 0 < xs.length := by omega
    obtain ⟨g, off, cap, rfl, hcap, hcm, _, _⟩ := Rd.full h hxs (by omega)
    have hcm' : cap ≤ 9223372036854775807 := by unfold maxLen at hcm; omega
    have HH := Lib.hid h; clear h hfit herr hcm
    by_cases hbig : 67108864 < n
    · rw [frameN_big hr rfl hbig]
      clear hr
      go_enter Try.func38, Try.ntmps38
      go_wp2_with fail
      refine HC.out.mono ?_
      rintro e w1 ⟨rfl, rfl⟩
      clear HC HH
      go_wp2
      go_ret3
      exact ⟨rfl, Below.refl _ _⟩
    · by_cases hsh : xs.length - pos < n + 4
      · rw [frameN_short hr rfl hbig hsh]
        clear hr
        go_enter Try.func38, Try.ntmps38
        go_wp2_with fail
        refine HC.out.mono ?_
        rintro e w1 ⟨rfl, rfl⟩
        clear HC HH
        go_wp2
        go_ret3
        exact ⟨rfl, Below.refl _ _⟩
      · have hyl : ((xs.drop (pos + 4)).take n).length = n := by simp; omega
        have HZ : Hid (RdB w (.slice (some ⟨g, off + pos, none⟩) 4 (cap - pos)) ((xs.drop pos).take 4)) := RdB.sub (h := pos + 4) HH.out (by omega) (by omega) rfl rfl (by omega) rfl
        have hq : ∀ q : Bool, q = decide ((xs.drop pos).take 4 = [] ++ lowN 4 (sumOf ((xs.drop (pos + 4)).take n))) → frameN xs = if q then (pos + 4, pos + 4 + n, 0) else (0, 0, 13) := by
          intro q hq
          cases q with
          | true => exact frameN_ok hr rfl hbig hsh (of_decide_eq_true hq.symm)
          | false => exact frameN_sum hr rfl hbig hsh (of_decide_eq_false hq.symm)
        obtain ⟨q, HQ⟩ : ∃ q : Bool, Hid (q = decide ((xs.drop pos).take 4 = [] ++ lowN 4 (sumOf ((xs.drop (pos + 4)).take n)))) := ⟨_, Lib.hid rfl⟩
        rw [hq q HQ.out]
        clear hr hq
        by_cases hcq : cap = pos + 4
        · have hn0 : n = 0 := by omega
          have hx4 : xs.length = pos + 4 := by omega
          subst hn0
          subst hcq
          have HY : Hid (RdB w (.slice (some ⟨g, off, none⟩) 0 0) ((xs.drop (pos + 4)).take 0)) := Rd.nil' (by simp [maxLen]) (fun h => by cases h)
          exact frame_edge g off pos xs hx4 _ _ q w (by omega) HC HY.out (by have := HZ.out; rwa [show pos + 4 - pos = 4 by omega] at this) HQ.out
        · have HY : Hid (RdB w (.slice (some ⟨g, off + (pos + 4), none⟩) n (cap - (pos + 4))) ((xs.drop (pos + 4)).take n)) := RdB.sub (h := pos + 4 + n) HH.out (by omega) (by omega) rfl rfl (by omega) rfl
          exact frame_inside g off cap n pos xs _ _ q w hx hp0 hcap hcm' hbig hsh hcq HC HY.out HZ.out HQ.out
  · rw [frameN_err hr her]
    have hne : ((er : Int) != 0) = true := by rw [bne_iff_ne]; omega
    obtain ⟨A, cap, rfl, _⟩ := Rd.form h
    clear hr h hfit herr
    go_enter Try.func38, Try.ntmps38
    go_wp2_with fail
    refine HC.out.mono ?_
    rintro e w1 ⟨rfl, rfl⟩
    clear HC
    go_wp2
    go_ret3
    exact ⟨rfl, Below.refl _ _⟩
end Go.Proofs.Ytoliikpbhmfjnaa
