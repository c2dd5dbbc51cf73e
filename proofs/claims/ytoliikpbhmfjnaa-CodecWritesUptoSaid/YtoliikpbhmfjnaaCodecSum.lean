/-
  Checksums: what the program's Sum and the reference's Sum come to.
-/
import Derived.Test.YtoliikpbhmfjnaaProg
import Derived.Test.YtoliikpbhmfjnaaGKit
import Derived.Test.YtoliikpbhmfjnaaCodecPlain
set_option linter.unusedVariables false
set_option linter.unusedSimpArgs false
namespace Go.Proofs.Ytoliikpbhmfjnaa
open Go.RowKit Codec

set_option maxHeartbeats 400000 in
theorem step_any (c x : Nat) (w : World) (hc : c < 4294967296) (hx : x < 256) :
    Calls Try.prog 33 #[.int .u32 c, .int .u8 x] w fun e w' => e = .returned (.int .u32 (stepN c x)) ∧ w = w' := by
  have hcx : c ^^^ x < 4294967296 := xor32 hc (by omega)
  go_enter Try.func33, Try.ntmps33
  go_wp2
  go_loop [0, 5] (fun c0 i => ∃ k : Nat, k ≤ 8 ∧ i = .int .i64 k ∧ c0 = .int .u32 (bitN k (c ^^^ x))) (fun _ i => 8 - (intOf i).toNat)
  case atStart => exact ⟨0, by omega, rfl, u32v (by rw [u32_xor_nat _ _ hc (by omega)]; rfl)⟩
  case round =>
    obtain ⟨k, hk, rfl, rfl⟩ := hrel
    have hlt := bitN_lt k hcx
    have hb : bitN (k + 1) (c ^^^ x) = bit1 (bitN k (c ^^^ x)) := rfl
    generalize hd : bitN k (c ^^^ x) = d at *
    have hB := Lib.hid hb; clear hb
    have hD := Lib.hid hd; clear hd
    by_cases h8 : k < 8
    · by_cases h1 : d % 2 = 1
      · have t1 : (bits BinOp.and IntKind.u32 (↑d) 1 == 1) = true := by
          have := u32_and_nat d 1 hlt (by omega)
          rw [Nat.and_one_is_mod, h1] at this
          simpa using this
        have e1 : bit1 d = d / 2 ^^^ 2197175160 := by unfold bit1; rw [if_pos h1]
        have E1 := Lib.hid e1; clear e1 h1
        go_wp2
        refine ⟨⟨k + 1, by omega, by go_num, u32v ?_⟩, by simp [intOf]; omega⟩
        rw [hB.out, E1.out]
        exact u32_xor_nat (d / 2) 2197175160 (by omega) (by omega)
      · have t1 : (bits BinOp.and IntKind.u32 (↑d) 1 == 1) = false := by
          have := u32_and_nat d 1 hlt (by omega)
          rw [Nat.and_one_is_mod] at this
          rw [show ((1 : Nat) : Int) = 1 from rfl] at this
          rw [this]
          simp; omega
        have e1 : bit1 d = d / 2 := by unfold bit1; rw [if_neg h1]
        have E1 := Lib.hid e1; clear e1 h1
        go_wp2
        refine ⟨⟨k + 1, by omega, by go_num, u32v ?_⟩, by simp [intOf]; omega⟩
        rw [hB.out, E1.out]
        rfl
    · obtain rfl : k = 8 := by omega
      go_wp2
      go_ret
      exact ⟨by rw [← hD.out]; rfl, rfl⟩

theorem refSum_any (v : Value) (xs : List UInt8) (w : World) (h : Rd w v xs.length 1 (bvs xs)) :
    Calls Try.prog 14 #[v] w fun e w' => e = .returned (.int .u32 (sumOf xs)) ∧ w = w' := by
  have hm := h.le
  unfold maxLen at hm
  rcases Nat.eq_zero_or_pos xs.length with h0 | h0
  · obtain ⟨A, cap, rfl, _⟩ := h.form
    have hx : xs = [] := List.eq_nil_of_length_eq_zero h0
    subst hx
    go_enter Try.func14, Try.ntmps14
    go_wp2
    refine wp_loop_rounds 1 ?_
    rw [rounds_succ]
    go_wp2
    go_ret
    exact ⟨rfl, rfl⟩
  · obtain ⟨g, off, cap, rfl, _, _, _, hc⟩ := h.full h0 (by omega)
    go_enter Try.func14, Try.ntmps14
    go_wp2
    go_loop [3, 4] (fun c i => ∃ k : Nat, k ≤ xs.length ∧ i = .int .i64 k ∧ c = .int .u32 (crc 4294967295 (xs.take k))) (fun _ i => xs.length - (intOf i).toNat)
    case atStart => exact ⟨0, by omega, rfl, rfl⟩
    case round =>
      obtain ⟨k, hk, rfl, rfl⟩ := hrel
      have hcl := crc_lt (c := 4294967295) (by omega) (xs.take k)
      by_cases hlt : k < xs.length
      · have hcell := hc.byte k hlt
        have hs : crc 4294967295 (xs.take (k + 1)) = stepN (crc 4294967295 (xs.take k)) xs[k].toNat := by rw [List.take_succ_eq_append_getElem hlt, crc_snoc]
        have hb := xs[k].toNat_lt
        generalize crc 4294967295 (xs.take k) = d at *
        generalize xs[k] = b at *
        have HS := Lib.hid hs; clear hs
        go_wp2_with fail
        refine (step_any _ _ _ hcl hb).mono ?_
        rintro e w' ⟨rfl, rfl⟩
        go_wp2
        go_round
        case rel => exact ⟨k + 1, by omega, by go_num, u32v (by rw [HS.out])⟩
        case measure => simp [intOf]; omega
      · obtain rfl : k = xs.length := by omega
        have hd : crc 4294967295 (xs.take xs.length) ^^^ 4294967295 = sumOf xs := by rw [List.take_length]; rfl
        generalize crc 4294967295 (xs.take xs.length) = d at *
        have HD := Lib.hid hd; clear hd
        go_wp2
        go_ret
        exact ⟨congrArg _ (u32v (by rw [← HD.out]; exact u32_xor_nat d 4294967295 hcl (by omega))), rfl⟩
end Go.Proofs.Ytoliikpbhmfjnaa
