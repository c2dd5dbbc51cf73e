/-
  Numbers, sizes, bytes: what the small functions of the codec and of the reference come to.
-/
import Derived.Test.YtoliikpbhmfjnaaProg
import Derived.Test.YtoliikpbhmfjnaaGKit
import Derived.Test.YtoliikpbhmfjnaaCodecPlain
set_option linter.unusedVariables false
set_option linter.unusedSimpArgs false
namespace Go.Proofs.Ytoliikpbhmfjnaa
open Go.RowKit Codec

theorem tB : SliceT Try.prog 28 5 1 1 := SliceT.of (z := .int .u8 0) Try.underlying28 (by kernel_rfl) rfl (by decide)
theorem byte_or (u : Nat) : Value.int .u8 (bits .or .u8 ((u : Int) % 256) 128) = bv (UInt8.ofNat (u % 128 + 128)) := by
  have h := u8_or_nat (u % 256) 128 (by omega) (by omega)
  have h2 : u % 256 ||| 128 = u % 128 + 128 := by
    have hm : ∀ n, n < 256 → n ||| 128 = n % 128 + 128 := by decide +kernel
    rw [hm _ (by omega)]
    omega
  rw [h2] at h
  refine u8v ?_
  rw [show ((u : Int) % 256) = ((u % 256 : Nat) : Int) by omega]
  rw [UInt8.toNat_ofNat', Nat.mod_eq_of_lt (show u % 128 + 128 < 2 ^ 8 by omega)]
  exact h
theorem four_one (k : IntKind) (a b c d : Int) : ∀ u ∈ [Value.int k a, .int k b, .int k c, .int k d], u.oneCell' = true := fun u hu => by
  simp only [List.mem_cons, List.not_mem_nil, or_false] at hu
  rcases hu with rfl | rfl | rfl | rfl <;> rfl
theorem one_one (k : IntKind) (n : Int) : ∀ u ∈ [Value.int k n], u.oneCell' = true := fun u hu => by
  rw [List.mem_singleton.1 hu]
  rfl
theorem byte_of (u : Nat) : Value.int .u8 ((u : Int) % 256) = bv (UInt8.ofNat u) := by
  refine u8v ?_
  rw [UInt8.toNat_ofNat']
  omega
theorem four_bytes (xs : List UInt8) (v : Nat) : bvs xs ++ [Value.int .u8 ((v : Int) % 256), .int .u8 ((v : Int) / 256 % 256), .int .u8 ((v : Int) / 65536 % 256), .int .u8 ((v : Int) / 16777216 % 256)] = bvs (xs ++ lowN 4 v) := by
  rw [lowN_four, bvs_append]
  have h1 := byte_of v
  have h2 := byte_of (v / 256)
  have h3 := byte_of (v / 65536)
  have h4 := byte_of (v / 16777216)
  simp only [bvs, List.map_cons, List.map_nil, ← h1, ← h2, ← h3, ← h4, Int.natCast_ediv, Int.cast_ofNat_Int]
theorem byte_small (u : Nat) (h : u < 128) : Value.int .u8 (u : Int) = bv (UInt8.ofNat u) := by
  rw [← byte_of]
  exact u8v (by omega)

set_option maxHeartbeats 400000 in
theorem clip_any (A : Option Addr) (n cap : Nat) (w : World) (h : n ≤ cap) (hm : cap ≤ 9223372036854775807) :
    Calls Try.prog 34 #[.slice A n cap] w fun e w' => e = .returned (.slice A n n) ∧ w = w' := by
  go_enter Try.func34, Try.ntmps34
  rcases A with _ | ⟨g, off, spot⟩ <;> rcases Nat.eq_zero_or_pos n with rfl | hn <;> go_wp2 <;> go_ret
  all_goals exact ⟨rfl, rfl⟩

set_option maxRecDepth 100000 in
set_option maxHeartbeats 400000 in
theorem refNumber_any (base : Nat) (b : Value) (v : Nat) (xs : List UInt8) (w : World) (hv : v < 18446744073709551616) (h : OwnB 5 w base b xs) (hB : base ≤ w.heap.size) (hx : xs.length ≤ 1000000000000) :
    Calls Try.prog 18 #[b, .int .u64 v] w fun e w' => OnB 5 base w (xs ++ enc v) e w' := by
  go_enter Try.func18, Try.ntmps18
  go_wp2
  go_loopw [0, 1] (fun b u wr => ∃ (k : Nat) (pre : List UInt8), k < 18446744073709551616 ∧ u = .int .u64 k ∧ enc v = pre ++ enc k ∧ OwnB 5 wr base b (xs ++ pre) ∧ Below base w wr ∧ base ≤ wr.heap.size) (fun _ u _ => (intOf u).toNat)
  case atStart => exact ⟨v, [], hv, rfl, rfl, by simpa using h, Below.refl _ _, hB⟩
  case round =>
    obtain ⟨k, pre, hk, rfl, he, ho, hb, hB'⟩ := hrel
    have hlen := enc_len v hv
    rw [he, List.length_append] at hlen
    have hpl : (xs ++ pre).length ≤ 1000000000010 := by rw [List.length_append]; omega
    have HE := Lib.hid he; clear he
    have HK := Lib.hid hk; clear hk
    have HV := Lib.hid hv; clear hv
    by_cases hlt : 128 ≤ k
    · have ho' : wr.ownsRow base 5 1 u0 (xs ++ pre).length (bvs (xs ++ pre)) := ho
      clear ho
      go_wp2_with (at_builtin; refine wpList_app base tB (ho'.alloc _) (src_new Try.underlying28 [_] 5 (one_one _ _) 1 rfl) (by simp; omega) (by unfold maxLen; omega) (by omega) rfl rfl rfl rfl ?_)
      intro v' w' ho2 hg2
      have hb2 : Below base w w' := (hb.alloc hB' _).grown hg2 (by simp; omega) (fun q hq => (ho'.lt q hq).1)
      have hB2 : base ≤ w'.heap.size := Nat.le_trans hB (hb2.size)
      have ho3 := OwnB.of (xs := (xs ++ pre) ++ [UInt8.ofNat (k % 128 + 128)]) ho2 (by rw [byte_or, bvs_snoc])
      clear ho2 hg2 ho' hb
      go_wp2
      go_roundw
      case rel => exact ⟨k / 128, pre ++ [UInt8.ofNat (k % 128 + 128)], by have := HK.out; omega, rfl, enc_step HE.out hlt, by rw [← List.append_assoc]; exact ho3, hb2, hB2⟩
      case measure => simp [intOf]; omega
    · have ho' : wr.ownsRow base 5 1 u0 (xs ++ pre).length (bvs (xs ++ pre)) := ho
      clear ho
      go_wp2_with (at_builtin; refine wpList_app base tB (ho'.alloc _) (src_new Try.underlying28 [_] 5 (one_one _ _) 1 rfl) (by simp; omega) (by unfold maxLen; omega) (by omega) rfl rfl rfl rfl ?_)
      intro v' w' ho2 hg2
      have hb2 : Below base w w' := (hb.alloc hB' _).grown hg2 (by simp; omega) (fun q hq => (ho'.lt q hq).1)
      have ho3 := OwnB.of (xs := (xs ++ pre) ++ [UInt8.ofNat k]) ho2 (by rw [byte_small k (by omega), bvs_snoc])
      clear ho2 hg2 ho' hb
      go_wp2
      go_ret
      exact ⟨_, rfl, by rw [enc_last HE.out (by omega), ← List.append_assoc]; exact ho3, hb2⟩

set_option maxRecDepth 100000 in
set_option maxHeartbeats 400000 in
/-- Number: behind whatever bytes, in new memory. -/
theorem number_any (b : Value) (v : Nat) (xs : List UInt8) (w : World) (hv : v < 18446744073709551616) (h : RdB w b xs) (hx : xs.length ≤ 1000000000000) :
    Calls Try.prog 16 #[b, .int .u64 v] w fun e w' => NewB 5 w (xs ++ enc v) e w' := by
  obtain ⟨A, cap, rfl, hnc, hcm, hA⟩ := Rd.form h
  have hcm' : cap ≤ 9223372036854775807 := by unfold maxLen at hcm; omega
  have hd : Dst w w.heap.size 5 1 (.slice A xs.length xs.length) xs.length (bvs xs) := by
    cases A with
    | none =>
      have hz : xs.length = 0 := by have := hA rfl; omega
      have hx0 : xs = [] := List.eq_nil_of_length_eq_zero hz
      subst hx0
      exact .inl (World.ownsRow_nil w _ 5 1)
    | some a =>
      refine .inr ⟨⟨_, rfl, by simp⟩, ?_⟩
      obtain ⟨A', cap', e, hl, h1, h2, h3, hc⟩ := h
      cases e
      exact ⟨_, _, rfl, hl, Nat.le_refl _, Nat.le_trans h1 h2, (fun h => by cases h), hc⟩
  clear hA
  have HV := Lib.hid hv; clear hv
  go_enter Try.func16, Try.ntmps16
  go_wp2_with fail
  refine (clip_any _ _ _ _ hnc hcm').mono ?_
  rintro e w' ⟨rfl, rfl⟩
  go_wp2
  go_loopw [0, 1] (fun b u wr => ∃ (k : Nat) (pre : List UInt8), Hid (k < 18446744073709551616) ∧ u = .int .u64 k ∧ enc v = pre ++ enc k ∧ Dst wr w.heap.size 5 1 b (xs ++ pre).length (bvs (xs ++ pre)) ∧ Below w.heap.size w wr) (fun _ u _ => (intOf u).toNat)
  case atStart => exact ⟨v, [], HV, rfl, rfl, by simpa using hd, Below.refl _ _⟩
  case round =>
    obtain ⟨k, pre, HK, rfl, he, ho, hb⟩ := hrel
    have hlen := enc_len v HV.out
    rw [he, List.length_append] at hlen
    have hpl : (xs ++ pre).length ≤ 1000000000010 := by rw [List.length_append]; omega
    have HE := Lib.hid he; clear he
    have hB' := hb.size
    have HO := Lib.hid ho; clear ho
    by_cases hlt : 128 ≤ k
    · go_wp2_with (at_builtin; refine wpList_app_dst w.heap.size tB (dst_alloc HO.out _) (src_new Try.underlying28 [_] 5 (one_one _ _) 1 rfl) (by simp; omega) (by unfold maxLen; omega) (by omega) rfl rfl rfl rfl ?_)
      intro v' w' ho2
      have hb3 : Below w.heap.size w w' := (hb.alloc hB' _).trans ho2.below
      have ho3 := dst_of ((xs ++ pre) ++ [UInt8.ofNat (k % 128 + 128)]) ho2.dst (by rw [byte_or, bvs_snoc])
      have HO3 := Lib.hid ho3
      clear ho3 ho2 HO hb
      go_wp2
      go_roundw
      case rel => exact ⟨k / 128, pre ++ [UInt8.ofNat (k % 128 + 128)], show k / 128 < _ by have := HK.out; omega, rfl, enc_step HE.out hlt, by rw [← List.append_assoc]; exact HO3.out, hb3⟩
      case measure => simp [intOf]; omega
    · go_wp2_with (at_builtin; refine wpList_app_dst w.heap.size tB (dst_alloc HO.out _) (src_new Try.underlying28 [_] 5 (one_one _ _) 1 rfl) (by simp; omega) (by unfold maxLen; omega) (by omega) rfl rfl rfl rfl ?_)
      intro v' w' ho2
      have hb3 : Below w.heap.size w w' := (hb.alloc hB' _).trans ho2.below
      have ho3 := OwnB.of (xs := (xs ++ pre) ++ [UInt8.ofNat k]) (ho2.own (by omega)) (by rw [byte_small k (by omega), bvs_snoc])
      clear ho2 HO hb
      go_wp2
      go_ret
      exact ⟨_, rfl, by rw [enc_last HE.out (by omega), ← List.append_assoc]; exact ho3, hb3⟩
end Go.Proofs.Ytoliikpbhmfjnaa
