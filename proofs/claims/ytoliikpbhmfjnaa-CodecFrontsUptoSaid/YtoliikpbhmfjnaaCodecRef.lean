/-
  Reading: the reference's.
-/
import Derived.Test.YtoliikpbhmfjnaaProg
import Derived.Test.YtoliikpbhmfjnaaGKit
import Derived.Test.YtoliikpbhmfjnaaGKit2
import Derived.Test.YtoliikpbhmfjnaaCodecPlain
import Derived.Test.YtoliikpbhmfjnaaCodecLaws
import Derived.Test.YtoliikpbhmfjnaaCodecRead
import Derived.Test.YtoliikpbhmfjnaaCodecSum
import Derived.Test.YtoliikpbhmfjnaaCodecSmall
set_option linter.unusedVariables false
set_option linter.unusedSimpArgs false
namespace Go.Proofs.Ytoliikpbhmfjnaa
open Go.RowKit Codec

theorem and127u (c : Nat) (h : c < 256) : bits .and .u64 (c : Int) 127 = ((c % 128 : Nat) : Int) := by
  have := u64_and_nat c 127 (by omega) (by omega)
  rw [nat_mask7] at this
  exact this

set_option maxRecDepth 100000 in
set_option maxHeartbeats 800000 in
theorem refReadNumber_any (v : Value) (xs : List UInt8) (w : World) (h : RdB w v xs) :
    Calls Try.prog 27 #[v] w fun e w' => e = .returned (.tuple #[.int .u64 (readN xs).1, .int .i64 (readN xs).2.1, .int .i64 (readN xs).2.2]) ∧ w = w' := by
  have hm := Rd.le h
  unfold maxLen at hm
  rcases Nat.eq_zero_or_pos xs.length with h0 | h0
  · obtain ⟨A, cap, rfl, _⟩ := Rd.form h
    obtain rfl : xs = [] := List.eq_nil_of_length_eq_zero h0
    go_enter Try.func27, Try.ntmps27
    go_wp2
    refine wp_loop_rounds 1 ?_
    rw [rounds_succ]
    go_wp2
    go_ret3
    exact ⟨rfl, rfl⟩
  · obtain ⟨g, off, cap, rfl, _, _, _, hc⟩ := Rd.full h h0 (by omega)
    go_enter Try.func27, Try.ntmps27
    go_wp2
    go_loop [5, 6] (fun a i => ∃ k acc : Nat, k ≤ xs.length ∧ k ≤ 9 ∧ i = .int .i64 k ∧ a = .int .u64 acc ∧ Hid (acc < 2 ^ (7 * k)) ∧ readN xs = readFrom k acc (xs.drop k)) (fun _ i => xs.length - (intOf i).toNat)
    case atStart => exact ⟨0, 0, by omega, by omega, rfl, rfl, show 0 < _ by decide, rfl⟩
    case round =>
      obtain ⟨k, acc, hk, hk9, rfl, rfl, ha, hr⟩ := hrel
      by_cases hlt : k < xs.length
      · have hcell := hc.byte k hlt
        have hd : xs.drop k = xs[k] :: xs.drop (k + 1) := List.drop_eq_getElem_cons hlt
        rw [hd] at hr
        clear hd
        generalize xs[k] = c at *
        have hb := c.toNat_lt
        have a1 := and127u c.toNat (by omega)
        have HR := Lib.hid hr; clear hr
        have hlt' : (k : Int) < (xs.length : Int) := by omega
        have hn64 : 7 * (k : Int) ≤ 63 := by omega
        go_wp2
        · go_ret3; exact ⟨by rw [HR.out, rf_canon (by omega) (by omega)]; rfl, rfl⟩
        · go_ret3; exact ⟨by rw [HR.out, rf_zero (by omega) (by omega)]; rfl, rfl⟩
        · go_ret3; exact ⟨by rw [HR.out, rf_done (by omega) (by omega) (by omega)]; exact tup3 (join_nine (by omega) ha.out (by omega)) (show (10 : Int) = ((k + 1 : Nat) : Int) by omega) rfl, rfl⟩
        · go_ret3; exact ⟨by rw [HR.out, rf_zero (by omega) (by omega)]; rfl, rfl⟩
        · go_ret3; exact ⟨by rw [HR.out, rf_done (by omega) (by omega) (by omega)]; exact tup3 (join_zero ha.out (by omega) (by omega)) rfl rfl, rfl⟩
        · go_ret3; exact ⟨by rw [HR.out, rf_done (by omega) (by omega) (by omega)]; exact tup3 (join_walk (by omega) ha.out (by omega)) rfl rfl, rfl⟩
        · go_round
          case rel => exact ⟨k + 1, _, by omega, by omega, by go_num, u64v (join_walk (by omega) ha.out (by omega)), acc_lt ha.out, by rw [HR.out, rf_more (by omega) (by omega)]⟩
          case measure => simp [intOf]; omega
      · have hd : xs.drop k = [] := List.drop_eq_nil_of_le (by omega)
        rw [hd] at hr
        have HR := Lib.hid hr; clear hr hd
        go_wp2
        go_ret3
        exact ⟨by rw [HR.out]; rfl, rfl⟩

theorem RdB.drewN {w : World} {v : Value} {xs : List UInt8} (h : RdB w v xs) (n : Nat) : RdB (w.drewN n) v xs := h.below (drewN_below w n)
/-- What a read hands back: a part of what came in. -/
structure PartB (w : World) (r : List UInt8 × Nat × Nat) (b : Value) (e : Ending) (w' : World) : Prop where
  out : ∃ v, e = .returned (.tuple #[v, .int .i64 r.2.1, .int .i64 r.2.2]) ∧ RdB w v r.1 ∧ (∀ g, lies v g → lies b g) ∧ Below w.heap.size w w'

set_option maxRecDepth 100000 in
set_option maxHeartbeats 800000 in
theorem refReadBytes_any (v : Value) (most : Int) (m : Nat) (hm : (m : Int) = max most 0) (hmm : m ≤ 9223372036854775807) (xs : List UInt8) (w : World) (hin : RdB w v xs) (hx : xs.length ≤ 1000000000000) :
    Calls Try.prog 29 #[v, .int .i64 most] w fun e w' => PartB w (readBytesN xs m) v e w' := by
  have hc := refReadNumber_any v xs w hin
  have hfit := @readN_fits xs
  have hlt := readN_lt xs
  generalize hr : readN xs = r at *
  obtain ⟨n, pos, er⟩ := r
  simp only at hc hfit hlt
  have HC := Lib.hid hc; clear hc
  have HL := Lib.hid hlt; clear hlt
  by_cases her : er = 0
  · subst her
    obtain ⟨hp0, hp1⟩ := hfit rfl
    have hxs : 0 < xs.length := by omega
    obtain ⟨g, off, cap, rfl, hcap, hcm, _, _⟩ := Rd.full hin hxs (by omega)
    have hcm' : cap ≤ 9223372036854775807 := by unfold maxLen at hcm; omega
    go_enter Try.func29, Try.ntmps29
    go_wp2_with fail
    refine HC.out.mono ?_
    rintro e w1 ⟨rfl, rfl⟩
    clear HC
    go_wp2
    all_goals first
      | (go_ret3; rw [readBytesN_big hr rfl (by omega)]; exact ⟨_, rfl, rdb_nil _, (fun g hg => by obtain ⟨_, _, _, e, _⟩ := hg; cases e), Below.refl _ _⟩)
      | (go_ret3; rw [readBytesN_short hr rfl (by omega) (by omega)]; exact ⟨_, rfl, rdb_nil _, (fun g hg => by obtain ⟨_, _, _, e, _⟩ := hg; cases e), Below.refl _ _⟩)
      | skip
    all_goals
      have hok := readBytesN_ok hr rfl (most := m) (by omega) (by omega)
      have hlen : ((xs.drop pos).take n).length = n := by simp; omega
      have hRd : RdB w (.slice (some ⟨g, if cap = pos then off else off + pos, none⟩) n (cap - pos)) ((xs.drop pos).take n) := by
        by_cases hcp : cap = pos
        · rw [if_pos hcp]
          have h0 : n = 0 := by omega
          rw [h0, hcp, Nat.sub_self]
          exact Rd.nil' (by simp [maxLen]) (fun h => by cases h)
        · rw [if_neg hcp]
          exact RdB.sub (h := pos + n) hin (by omega) (by omega) rfl rfl (by omega) rfl
      first
        | rw [if_pos (by omega), show cap - pos = 0 by omega] at hRd
        | rw [if_neg (by omega)] at hRd
      go_ret3
      rw [hok]
      exact ⟨_, rfl, hRd, (fun g hg => by obtain ⟨o, k, c, e, hk⟩ := hg; cases e; exact ⟨_, _, _, rfl, by omega⟩), Below.refl _ _⟩
  · rw [readBytesN_err hr her]
    have hne : ((er : Int) != 0) = true := by rw [bne_iff_ne]; omega
    obtain ⟨A, cap, rfl, _⟩ := Rd.form hin
    clear hr hin hfit hm
    go_enter Try.func29, Try.ntmps29
    go_wp2_with fail
    refine HC.out.mono ?_
    rintro e w1 ⟨rfl, rfl⟩
    clear HC
    go_wp2
    go_ret3
    exact ⟨_, rfl, rdb_nil _, (fun g hg => by obtain ⟨_, _, _, e, _⟩ := hg; cases e), Below.refl _ _⟩
end Go.Proofs.Ytoliikpbhmfjnaa
