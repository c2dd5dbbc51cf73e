/-
  The program's Sum.
-/
import Derived.Test.YtoliikpbhmfjnaaProg
import Derived.Test.YtoliikpbhmfjnaaGKit
import Derived.Test.YtoliikpbhmfjnaaCodecPlain
import Derived.Test.YtoliikpbhmfjnaaCodecSum
import Derived.Test.YtoliikpbhmfjnaaCodecTable
set_option linter.unusedVariables false
set_option linter.unusedSimpArgs false
namespace Go.Proofs.Ytoliikpbhmfjnaa
open Go.RowKit Codec

/-- The table lies in a block of the call's own. -/
structure TabAt (w : World) (b : Nat) : Prop where
  at_ : ∀ j, j < 16 → w.cell? ⟨b, j, none⟩ = some (.int .u32 ((bitN 4 j : Nat) : Int))

theorem tabAt_new (w : World) (o : Obj) (c : Array Value) (t : TypeId) (h : TabP 16 c) : TabAt ((w.alloc o).alloc (.cells c t)) (w.heap.size + 1) := by
  refine ⟨fun j hj => ?_⟩
  have := h.cell (w.alloc o) t j hj
  rw [if_pos hj] at this
  simpa using this
/-- Half a byte, as the walk spells it. -/
theorem half_walk (y : Nat) (hy : y < 4294967296) : ∃ m t z : Nat, m < 16 ∧ z < 4294967296 ∧ bits .and .u32 (y : Int) 15 = (m : Int) ∧ Hid (t = bitN 4 m) ∧ bits .xor .u32 ((y : Int) / 16) (t : Int) = (z : Int) ∧ Hid (z = half y) := by
  refine ⟨y % 16, bitN 4 (y % 16), half y, by omega, half_lt hy, ?_, rfl, ?_, rfl⟩
  · have := u32_and_nat y 15 hy (by omega)
    rw [nat_mask4] at this
    exact this
  · have := u32_xor_nat (y / 16) (bitN 4 (y % 16)) (by omega) (bitN_lt 4 (by omega))
    exact this
theorem xor_walk (e : Nat) (b : UInt8) (he : e < 4294967296) : ∃ y : Nat, y < 4294967296 ∧ bits .xor .u32 (e : Int) (b.toNat : Int) = (y : Int) ∧ Hid (y = e ^^^ b.toNat) :=
  ⟨_, xor32 he (by have := b.toNat_lt; omega), u32_xor_nat e b.toNat he (by have := b.toNat_lt; omega), rfl⟩

theorem not32 (d : Nat) (h : d < 4294967296) : bits .xor .u32 IntKind.u32.max (d : Int) = ((d ^^^ 4294967295 : Nat) : Int) := by
  have := u32_xor_nat 4294967295 d (by omega) h
  rw [Nat.xor_comm] at this
  exact this
set_option maxHeartbeats 400000 in
theorem sum_some (g off cap n : Nat) (l : List (List UInt8)) (w : World) (h0 : 0 < l.length) (hm : l.length ≤ 9223372036854775807) (hg : g < w.heap.size) (hc : CellsLL w g off l) (hn : n = l.length) :
    Calls Try.prog 13 #[.slice (some ⟨g, off, none⟩) n cap] w fun e w' => e = .returned (.int .u32 (sumOf l.flatten)) ∧ Below w.heap.size w w' := by
  subst hn
  go_enter Try.func13, Try.ntmps13
  go_wp2_with fail
  refine (table_any _).mono ?_
  rintro e w' ⟨c, rfl, hT, rfl⟩
  obtain rfl := hT.lit
  go_wp2
  go_loopw [4, 12] (fun c i wr => ∃ k : Nat, k ≤ l.length ∧ i = .int .i64 k ∧ c = .int .u32 (crc 4294967295 (l.take k).flatten) ∧ Below w.heap.size w wr ∧ TabAt wr (w.heap.size + 1)) (fun _ i _ => l.length - (intOf i).toNat)
  case atStart =>
    exact ⟨0, by omega, rfl, rfl, ((Below.refl _ _).alloc (Nat.le_refl _) _).alloc (by simp) _, tabAt_new _ _ _ _ hT⟩
  case round =>
    obtain ⟨k, hk, rfl, rfl, hB, hTab⟩ := hrel
    clear hT
    have hcl := crc_lt (c := 4294967295) (by omega) (l.take k).flatten
    by_cases hlt : k < l.length
    · obtain ⟨u, hcell, hu⟩ := (hc.below hB).at_ k hlt
      have hs : crc 4294967295 (l.take (k + 1)).flatten = crc (crc 4294967295 (l.take k).flatten) l[k] := by rw [List.take_succ_eq_append_getElem hlt, List.flatten_append, crc_append]; simp
      generalize crc 4294967295 (l.take k).flatten = d at *
      generalize l[k] = xs at *
      have HS := Lib.hid hs; clear hs
      have hlt' : (k : Int) < (l.length : Int) := by omega
      have hxm := Rd.le hu
      unfold maxLen at hxm
      rcases Nat.eq_zero_or_pos xs.length with hx0 | hx0
      · obtain ⟨A, cap', rfl, _⟩ := Rd.form hu
        have hx : xs = [] := List.eq_nil_of_length_eq_zero hx0
        subst hx
        go_wp2
        refine wp_loop_rounds 1 ?_
        rw [rounds_succ]
        go_wp2
        go_roundw
        case rel => exact ⟨k + 1, by omega, by go_num, u32v (by rw [HS.out]; rfl), hB, hTab⟩
        case measure => simp [intOf]; omega
      · obtain ⟨g', off', cap', rfl, _, _, _, hcs⟩ := Rd.full hu hx0 (by omega)
        obtain ⟨wo, rfl⟩ : ∃ wo : World, wo = wr := ⟨_, rfl⟩
        go_wp2
        go_loop [4, 18] (fun c j => ∃ m : Nat, m ≤ xs.length ∧ j = .int .i64 m ∧ c = .int .u32 (crc d (xs.take m))) (fun _ j => xs.length - (intOf j).toNat)
        case atStart => exact ⟨0, by omega, rfl, rfl⟩
        case round =>
          obtain ⟨m, hmm, rfl, rfl⟩ := hrel
          have hel := crc_lt hcl (xs.take m)
          by_cases hml : m < xs.length
          · have hbyte := hcs.byte m hml
            have hs2 : crc d (xs.take (m + 1)) = half (half (crc d (xs.take m) ^^^ xs[m].toNat)) := by rw [List.take_succ_eq_append_getElem hml, crc_snoc, stepN_half]
            generalize crc d (xs.take m) = e at *
            generalize xs[m] = b at *
            have HS2 := Lib.hid hs2; clear hs2
            have hb := b.toNat_lt
            obtain ⟨y, hy, r1, hy'⟩ := xor_walk e b hel
            obtain ⟨m1, t1, z1, hm1, hz1, r2, ht1, r3, hz1'⟩ := half_walk y hy
            obtain ⟨m2, t2, z2, hm2, hz2, r4, ht2, r5, hz2'⟩ := half_walk z1 hz1
            have c1 := hTab.at_ m1 hm1
            have c2 := hTab.at_ m2 hm2
            rw [← ht1.out] at c1
            rw [← ht2.out] at c2
            go_wp2
            go_round
            case rel => exact ⟨m + 1, by omega, by go_num, u32v (by rw [HS2.out, hz2'.out, hz1'.out, hy'.out])⟩
            case measure => simp [intOf]; omega
          · have hm' : m = xs.length := by omega
            have hd : crc d (xs.take m) = crc 4294967295 (List.take (k + 1) l).flatten := by rw [hm', List.take_length, HS.out]
            generalize crc d (xs.take m) = e at *
            have HD := Lib.hid hd; clear hd hm'
            go_wp2
            go_roundw
            case rel => exact ⟨k + 1, by omega, by go_num, u32v (by rw [HD.out]), hB, hTab⟩
            case measure => simp [intOf]; omega
    · have hk' : k = l.length := by omega
      have hd : crc 4294967295 (l.take k).flatten ^^^ 4294967295 = sumOf l.flatten := by rw [hk', List.take_length]; rfl
      generalize crc 4294967295 (l.take k).flatten = d at *
      have HD := Lib.hid hd; clear hd hk'
      go_wp2
      go_ret
      exact ⟨congrArg _ (u32v (by rw [← HD.out]; exact not32 d hcl)), hB⟩

set_option maxHeartbeats 400000 in
theorem sum_none (A : Option Addr) (cap : Nat) (w : World) :
    Calls Try.prog 13 #[.slice A 0 cap] w fun e w' => e = .returned (.int .u32 (sumOf [])) ∧ Below w.heap.size w w' := by
  go_enter Try.func13, Try.ntmps13
  go_wp2_with fail
  refine (table_any _).mono ?_
  rintro e w' ⟨c, rfl, hT, rfl⟩
  obtain rfl := hT.lit
  go_wp2
  refine wp_loop_rounds 1 ?_
  rw [rounds_succ]
  go_wp2
  go_ret
  exact ⟨congrArg _ (u32v (not32 4294967295 (by omega))), ((Below.refl _ _).alloc (Nat.le_refl _) _).alloc (by simp) _⟩

/-- Sum: the sum of all the parts' bytes. -/
theorem sum_any (v : Value) (l : List (List UInt8)) (w : World) (h : RdLL w v l) :
    Calls Try.prog 13 #[v] w fun e w' => e = .returned (.int .u32 (sumOf l.flatten)) ∧ Below w.heap.size w w' := by
  have hm := h.le
  unfold maxLen at hm
  rcases Nat.eq_zero_or_pos l.length with h0 | h0
  · obtain ⟨A, cap, rfl, _⟩ := h.form
    obtain rfl : l = [] := List.eq_nil_of_length_eq_zero h0
    exact sum_none A cap w
  · obtain ⟨g, off, cap, rfl, _, _, hg, hc⟩ := h.full h0
    exact sum_some g off cap _ l w h0 (by omega) hg hc rfl
end Go.Proofs.Ytoliikpbhmfjnaa
