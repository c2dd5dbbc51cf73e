/-
  One bit of a payload that is another one is found: for every payload and every bit.
-/
import Derived.Test.YtoliikpbhmfjnaaRows
import Derived.Test.YtoliikpbhmfjnaaGKit
import Derived.Test.YtoliikpbhmfjnaaGKit2
import Derived.Test.YtoliikpbhmfjnaaCodecLaws2
import Derived.Test.YtoliikpbhmfjnaaCodecFrame
import Derived.Test.YtoliikpbhmfjnaaCodecKnown
import Derived.Test.YtoliikpbhmfjnaaCodecRd2
import Derived.Deep.AppendLies
set_option linter.unusedVariables false
set_option linter.unusedSimpArgs false
namespace Go.Proofs.Ytoliikpbhmfjnaa.codecBits
open Go.RowKit Codec

theorem xor_bit (c : UInt8) (j : Nat) (hj : j < 8) : ∃ d : UInt8, bits .xor .u8 (c.toNat : Int) ((2 : Int) ^ j % 256) = (d.toNat : Int) ∧ d ≠ c := by
  have e : ((2 : Int) ^ j % 256) = ((2 ^ j : Nat) : Int) := by
    have hp : 2 ^ j < 256 := Nat.lt_of_le_of_lt (Nat.pow_le_pow_right (by decide) (show j ≤ 7 by omega)) (by decide)
    have e1 : ((2 : Int) ^ j) = ((2 ^ j : Nat) : Int) := by rw [Int.natCast_pow]; rfl
    rw [e1]
    generalize 2 ^ j = p at *
    omega
  rw [e]
  have hc := c.toNat_lt
  have hp : 2 ^ j < 256 := Nat.lt_of_le_of_lt (Nat.pow_le_pow_right (by decide) (show j ≤ 7 by omega)) (by decide)
  have hx : c.toNat ^^^ 2 ^ j < 256 := Nat.xor_lt_two_pow (n := 8) (by omega) (by omega)
  refine ⟨UInt8.ofNat (c.toNat ^^^ 2 ^ j), ?_, fun h => ?_⟩
  · rw [u8_xor_nat _ _ (by omega) hp, UInt8.toNat_ofNat', Nat.mod_eq_of_lt (by omega)]
  · have h1 := congrArg UInt8.toNat h
    rw [UInt8.toNat_ofNat', Nat.mod_eq_of_lt (by omega)] at h1
    have h2 : c.toNat ^^^ 2 ^ j = c.toNat ^^^ 0 := by rw [h1, Nat.xor_zero]
    have h3 := xor_cancel' h2
    have := Nat.two_pow_pos j
    omega
/-- A payload with one byte turned. -/
theorem turned (x : List UInt8) (i : Nat) (hi : i < x.length) (d : UInt8) (hd : d ≠ x[i]) (hl : x.length ≤ 67108864) : readFrameN ((frameOf x).set ((enc x.length).length + 4 + i) d) = ([], 0, 13) := by
  have e : (frameOf x).set ((enc x.length).length + 4 + i) d = enc x.length ++ lowN 4 (sumOf x) ++ x.set i d := by
    unfold frameOf
    rw [List.set_append_right _ _ (by simp [lowN_len]), List.length_append, lowN_len, Nat.add_sub_cancel_left]
  rw [e]
  refine readFrameN_turned x (x.set i d) (by simp) hl ?_
  have e1 : x = x.take i ++ x[i] :: x.drop (i + 1) := by
    rw [← List.drop_eq_getElem_cons hi, List.take_append_drop]
  have e2 : x.set i d = x.take i ++ d :: x.drop (i + 1) := List.set_eq_take_append_cons_drop .. |>.trans (by rw [if_pos hi])
  rw [e2]
  conv => rhs; rw [e1]
  exact sum_other _ _ _ _ hd

set_option maxRecDepth 100000 in
set_option maxHeartbeats 1000000 in
theorem walk_skip (v : Value) (x : List UInt8) (pos : Int) (w : World) (h : RdB w v x) (hbig : x.length = 0 ∨ 65536 < x.length) :
    Calls Try.prog 7 #[v, .int .i64 pos] w fun e w' => e = .returned (.bool true) ∧ Below w.heap.size w w' := by
  obtain ⟨A, cap, rfl, _⟩ := Rd.form h
  clear h
  rcases hbig with h1 | h1
  · have ht : ((x.length : Int) == 0) = true := by rw [beq_iff_eq]; omega
    clear h1
    go_enter Try.func7, Try.ntmps7
    go_wp2_with fail
    refine (known_any _).mono ?_
    rintro e w1 ⟨rfl, hb1⟩
    go_wp2
    go_ret
    exact ⟨rfl, hb1⟩
  · have ht : ((x.length : Int) == 0) = false := by rw [beq_eq_false_iff_ne]; omega
    go_enter Try.func7, Try.ntmps7
    go_wp2_with fail
    refine (known_any _).mono ?_
    rintro e w1 ⟨rfl, hb1⟩
    go_wp2
    go_ret
    exact ⟨rfl, hb1⟩

theorem frame_get (x : List UInt8) (i : Nat) (hi : i < x.length) (L : Nat) (hL : (enc x.length).length = L) : (bvs (frameOf x))[L + 4 + i]? = some (bv x[i]) := by
  have h : (frameOf x)[L + 4 + i]? = some x[i] := by
    unfold frameOf
    have hl : (enc x.length ++ lowN 4 (sumOf x)).length = L + 4 := by rw [List.length_append, lowN_len, hL]
    rw [List.getElem?_append_right (by omega), hl, Nat.add_sub_cancel_left]
    exact List.getElem?_eq_getElem hi
  unfold bvs
  rw [List.getElem?_map, h]
  rfl

set_option maxRecDepth 100000 in
set_option maxHeartbeats 1000000 in
theorem walk_do (v : Value) (x : List UInt8) (pos : Int) (q : Nat) (w : World) (h : RdB w v x) (h0 : 0 < x.length) (h1 : x.length ≤ 65536) (hq : pos.tmod (8 * (x.length : Int)) = (q : Int) ∨ pos.tmod (8 * (x.length : Int)) = (q : Int) - 8 * (x.length : Int)) (hq8 : q < 8 * x.length) :
    Calls Try.prog 7 #[v, .int .i64 pos] w fun e w' => e = .returned (.bool true) ∧ Below w.heap.size w w' := by
  have h' := h
  obtain ⟨A, cap, rfl, _⟩ := Rd.form h
  have HH := Lib.hid h'; clear h h'
  have ht : ((x.length : Int) == 0) = false := by rw [beq_eq_false_iff_ne]; omega
  rcases hq with hq | hq
  all_goals
    go_enter Try.func7, Try.ntmps7
    go_wp2_with fail
    refine (known_any _).mono ?_
    rintro e w1 ⟨rfl, hb1⟩
    have hz1 := hb1.size
    have hen := enc_len x.length (by omega)
    have hep := enc_pos x.length
    have hF := frameOf_len x
    generalize hL : (enc x.length).length = L at *
    have HL := Lib.hid hL; clear hL
    have HH1 := Lib.hid (HH.out.below hb1)
    go_wp2_with fail
    refine (frameW_any _ _ _ HH1.out (by omega)).mono ?_
    rintro e w2 ⟨v2, rfl, ho2, hb2⟩
    have hb3 := below_then hb1 hz1 hb2
    have ho2' : w2.ownsRow w1.heap.size 5 1 v2 (frameOf x).length (bvs (frameOf x)) := ho2
    have HO := Lib.hid ho2'
    obtain ⟨g, cap2, rfl, hgb, _⟩ := World.ownsRow.form ho2' (by omega)
    have hi8 : q / 8 < x.length := by omega
    have hcell : w2.cell? ⟨g, L + 4 + q / 8, none⟩ = some (bv x[q / 8]) := by
      rw [ho2'.cellAt _ (by omega)]
      exact frame_get x (q / 8) hi8 L HL.out
    have hfr : w2.frozen? ⟨g, L + 4 + q / 8, none⟩ = false := ho2'.frozenAt _
    have hcm2 : L + 4 + x.length ≤ cap2 ∧ cap2 ≤ 9223372036854775807 := by
      obtain ⟨A3, c3, e3, h3, h4, _⟩ := Rd.form ho2.rd
      cases e3
      unfold maxLen at h4
      omega
    obtain ⟨d, hd, hdc⟩ := xor_bit x[q / 8] (q % 8) (by omega)
    have hst := (ho2'.stored (L + 4 + q / 8) (bv d)).1
    have hRd : RdB (w2.setCell ⟨g, L + 4 + q / 8, none⟩ (bv d)) (.slice (some ⟨g, 0, none⟩) (L + 4 + x.length) cap2) ((frameOf x).set (L + 4 + q / 8) d) := by
      have h3 := OwnB.of (xs := (frameOf x).set (L + 4 + q / 8) d) hst (by simp [bvs, List.map_set])
      have h4 := h3.rd
      rwa [hF] at h4
    have hc := readFrame_any _ _ _ hRd (by rw [List.length_set]; omega)
    have htu := turned x (q / 8) hi8 d hdc (by omega)
    rw [HL.out] at htu
    rw [htu] at hc
    have HC := Lib.hid hc
    have hb4 : Below w.heap.size w (w2.setCell ⟨g, L + 4 + q / 8, none⟩ (bv d)) := hb3.setCell (Nat.le_trans hz1 hgb) _
    have hz4 : w.heap.size ≤ (w2.setCell ⟨g, L + 4 + q / 8, none⟩ (bv d)).heap.size := hb4.size
    clear hc htu hRd hst hdc ho2 ho2' hb1 hb2 HO hgb
    generalize hxc : x[q / 8] = c at *
    have hcl := c.toNat_lt
    go_wp2_with fail
    refine HC.out.mono ?_
    rintro e w5 ⟨v5, rfl, hr5, hb5⟩
    have hb6 := below_then hb4 hz4 hb5
    clear hr5 hb5 HC hd
    go_wp2
    go_ret
    exact ⟨rfl, hb6⟩

theorem walk (v : Value) (x : List UInt8) (pos : Int) (w : World) (h : RdB w v x) (wf : (Lit.int .i64 pos).wf = true) :
    Calls Try.prog 7 #[v, .int .i64 pos] w fun e w' => e = .returned (.bool true) ∧ Below w.heap.size w w' := by
  by_cases hbig : x.length = 0 ∨ 65536 < x.length
  · exact walk_skip v x pos w h hbig
  · have hl : (0 : Int) < 8 * (x.length : Int) := by omega
    have h1 := Int.tmod_lt_of_pos pos hl
    have h2 : -(8 * (x.length : Int)) < pos.tmod (8 * (x.length : Int)) := by
      rcases Int.le_total 0 pos with hp | hp
      · have := Int.tmod_nonneg (8 * (x.length : Int)) hp; omega
      · have h3 := Int.tmod_lt_of_pos (-pos) hl
        rw [Int.neg_tmod] at h3
        omega
    by_cases hn : pos.tmod (8 * (x.length : Int)) < 0
    · exact walk_do v x pos (pos.tmod (8 * (x.length : Int)) + 8 * (x.length : Int)).toNat w h (by omega) (by omega) (.inr (by omega)) (by omega)
    · exact walk_do v x pos (pos.tmod (8 * (x.length : Int))).toNat w h (by omega) (by omega) (.inl (by omega)) (by omega)
end Go.Proofs.Ytoliikpbhmfjnaa.codecBits
