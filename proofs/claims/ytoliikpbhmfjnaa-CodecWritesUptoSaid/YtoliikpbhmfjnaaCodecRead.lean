/-
  Reading a number: the program's and the reference's.
-/
import Derived.Test.YtoliikpbhmfjnaaProg
import Derived.Test.YtoliikpbhmfjnaaGKit
import Derived.Test.YtoliikpbhmfjnaaCodecPlain
set_option linter.unusedVariables false
set_option linter.unusedSimpArgs false
namespace Go.Proofs.Ytoliikpbhmfjnaa
open Go.RowKit Codec

theorem and127 (c : UInt8) : bits .and .u8 (c.toNat : Int) 127 = ((c.toNat % 128 : Nat) : Int) := by
  have := u8_and_nat c.toNat 127 c.toNat_lt (by omega)
  rw [nat_mask7] at this
  exact this

theorem join_walk {k acc c : Nat} (hk : k ≤ 9) (ha : acc < 2 ^ (7 * k)) (h9 : k = 9 → c % 128 ≤ 1) : bits .or .u64 (acc : Int) (IntKind.u64.wrap ((c : Int) % 128 * 2 ^ (7 * k))) = ((acc + c % 128 * 2 ^ (7 * k) : Nat) : Int) := by
  have ht : c % 128 * 2 ^ (7 * k) ≤ 9223372036854775808 := by
    by_cases h : k = 9
    · have h1 := Nat.mul_le_mul_right (2 ^ (7 * k)) (h9 h)
      subst h
      exact Nat.le_trans h1 (by decide)
    · have h1 : c % 128 ≤ 127 := by omega
      have h2 := Nat.mul_le_mul_right (2 ^ (7 * k)) h1
      have h3 : 2 ^ (7 * k) ≤ 2 ^ 56 := Nat.pow_le_pow_right (by decide) (by omega)
      omega
  have hw : IntKind.u64.wrap ((c : Int) % 128 * 2 ^ (7 * k)) = ((c % 128 * 2 ^ (7 * k) : Nat) : Int) := by
    have e : (c : Int) % 128 * 2 ^ (7 * k) = ((c % 128 * 2 ^ (7 * k) : Nat) : Int) := by
      rw [Int.natCast_mul, Int.natCast_pow]
      rfl
    rw [e, IntKind.wrap_u64]
    omega
  have ha' : acc < 18446744073709551616 := Nat.lt_of_lt_of_le ha (Nat.le_trans (Nat.pow_le_pow_right (by decide) (show 7 * k ≤ 63 by omega)) (by decide))
  rw [hw, u64_or_nat acc _ ha' (by omega), Nat.or_comm, nat_join (7 * k) _ acc (Nat.mul_mod_left _ _) ha, Nat.add_comm]
theorem join_nine {k acc c : Nat} (hk : k = 9) (ha : acc < 2 ^ (7 * k)) (h9 : c % 128 ≤ 1) : bits .or .u64 (acc : Int) ((c : Int) % 128 * 9223372036854775808) = ((acc + c % 128 * 2 ^ (7 * k) : Nat) : Int) := by
  have h := join_walk (k := k) (acc := acc) (c := c) (by omega) ha (fun _ => h9)
  rw [← h]
  congr 1
  subst hk
  rw [IntKind.wrap_u64]
  simp only [Nat.reduceMul, Int.reducePow]
  omega
theorem join_zero {k acc c : Nat} (ha : acc < 2 ^ (7 * k)) (hk : k ≤ 9) (h0 : c = 0) : bits .or .u64 (acc : Int) (IntKind.u64.wrap 0) = ((acc + c % 128 * 2 ^ (7 * k) : Nat) : Int) := by
  subst h0
  have h := join_walk (k := k) (acc := acc) (c := 0) hk ha (fun _ => by omega)
  rw [← h]
  congr 2
  simp
theorem tup3 {a a' b b' c c' : Int} (h1 : a = a') (h2 : b = b') (h3 : c = c') : Ending.returned (.tuple #[.int .u64 a, .int .i64 b, .int .i64 c]) = .returned (.tuple #[.int .u64 a', .int .i64 b', .int .i64 c']) := by rw [h1, h2, h3]

set_option maxRecDepth 100000 in
set_option maxHeartbeats 400000 in
theorem readNumber_any (v : Value) (xs : List UInt8) (w : World) (h : RdB w v xs) :
    Calls Try.prog 24 #[v] w fun e w' => e = .returned (.tuple #[.int .u64 (readN xs).1, .int .i64 (readN xs).2.1, .int .i64 (readN xs).2.2]) ∧ w = w' := by
  have hm := Rd.le h
  unfold maxLen at hm
  rcases Nat.eq_zero_or_pos xs.length with h0 | h0
  · obtain ⟨A, cap, rfl, _⟩ := Rd.form h
    obtain rfl : xs = [] := List.eq_nil_of_length_eq_zero h0
    go_enter Try.func24, Try.ntmps24
    go_wp2
    refine wp_loop_rounds 1 ?_
    rw [rounds_succ]
    go_wp2
    go_ret3
    exact ⟨rfl, rfl⟩
  · obtain ⟨g, off, cap, rfl, _, _, _, hc⟩ := Rd.full h h0 (by omega)
    go_enter Try.func24, Try.ntmps24
    go_wp2
    go_loop [5, 10] (fun a i => ∃ k acc : Nat, k ≤ xs.length ∧ k ≤ 9 ∧ i = .int .i64 k ∧ a = .int .u64 acc ∧ Hid (acc < 2 ^ (7 * k)) ∧ readN xs = readFrom k acc (xs.drop k)) (fun _ i => xs.length - (intOf i).toNat)
    case atStart => exact ⟨0, 0, by omega, by omega, rfl, rfl, show 0 < _ by decide, rfl⟩
    case round =>
      obtain ⟨k, acc, hk, hk9, rfl, rfl, ha, hr⟩ := hrel
      by_cases hlt : k < xs.length
      · have hcell := hc.byte k hlt
        have hd : xs.drop k = xs[k] :: xs.drop (k + 1) := List.drop_eq_getElem_cons hlt
        rw [hd] at hr
        clear hd
        generalize xs[k] = c at *
        have hb := c.toNat_lt
        have a1 := and127 c
        have HR := Lib.hid hr; clear hr
        go_wp2
        · go_ret3; exact ⟨by rw [HR.out, rf_canon (by omega) (by omega)]; rfl, rfl⟩
        · go_ret3; exact ⟨by rw [HR.out, rf_zero (by omega) (by omega)]; rfl, rfl⟩
        · go_ret3; exact ⟨by rw [HR.out, rf_done (by omega) (by omega) (by omega)]; exact tup3 (join_nine (by omega) ha.out (by omega)) (show (10 : Int) = ((k + 1 : Nat) : Int) by omega) rfl, rfl⟩
        · go_ret3; exact ⟨by rw [HR.out, rf_zero (by omega) (by omega)]; rfl, rfl⟩
        · go_ret3; exact ⟨by rw [HR.out, rf_done (by omega) (by omega) (by omega)]; exact tup3 (join_zero ha.out (by omega) (by omega)) rfl rfl, rfl⟩
        · go_ret3; exact ⟨by rw [HR.out, rf_done (by omega) (by omega) (by omega)]; exact tup3 (join_walk (by omega) ha.out (by omega)) rfl rfl, rfl⟩
        · go_round
          case rel => exact ⟨k + 1, _, by omega, by omega, by go_num, u64v (join_walk (by omega) ha.out (by omega)), acc_lt ha.out, by rw [HR.out, rf_more (by omega) (by omega)]⟩
          case measure => simp [intOf]; omega
      · have hd : xs.drop k = [] := List.drop_eq_nil_of_le (by omega)
        rw [hd] at hr
        have HR := Lib.hid hr; clear hr hd
        go_wp2
        go_ret3
        exact ⟨by rw [HR.out]; rfl, rfl⟩
end Go.Proofs.Ytoliikpbhmfjnaa
