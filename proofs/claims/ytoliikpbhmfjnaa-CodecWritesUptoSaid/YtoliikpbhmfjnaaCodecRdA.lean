/-
  Frames and bytes are read: the program's and the reference's.
-/
import Derived.Test.YtoliikpbhmfjnaaProg
import Derived.Test.YtoliikpbhmfjnaaGKit
import Derived.Test.YtoliikpbhmfjnaaGKit2
import Derived.Test.YtoliikpbhmfjnaaCodecPlain
import Derived.Test.YtoliikpbhmfjnaaCodecLaws
import Derived.Test.YtoliikpbhmfjnaaCodecRead
import Derived.Test.YtoliikpbhmfjnaaCodecSum2
import Derived.Test.YtoliikpbhmfjnaaCodecSmall
import Derived.Deep.RegionWith
set_option linter.unusedVariables false
set_option linter.unusedSimpArgs false
namespace Go.Proofs.Ytoliikpbhmfjnaa
open Go.RowKit Codec

set_option maxRecDepth 100000 in
set_option maxHeartbeats 4000000 in
theorem frame_inside (g off cap n pos : Nat) (xs ys zs : List UInt8) (q : Bool) (w : World) (hx : xs.length ≤ 1000000000000) (hp0 : 0 < pos) (hcap : xs.length ≤ cap) (hcm' : cap ≤ 9223372036854775807) (hbig : ¬ 67108864 < n) (hsh : ¬ xs.length - pos < n + 4) (hcq : ¬ cap = pos + 4)
    (HC : Hid (Calls Try.prog 24 #[.slice (some ⟨g, off, none⟩) xs.length cap] w fun e w' => e = .returned (.tuple #[.int .u64 n, .int .i64 pos, .int .i64 (0 : Nat)]) ∧ w = w'))
    (hY : RdB w (.slice (some ⟨g, off + (pos + 4), none⟩) n (cap - (pos + 4))) ys) (hZ : RdB w (.slice (some ⟨g, off + pos, none⟩) 4 (cap - pos)) zs) (hQ : q = decide (zs = [] ++ lowN 4 (sumOf ys))) :
    Calls Try.prog 38 #[.slice (some ⟨g, off, none⟩) xs.length cap] w fun e w' => e = .returned (.tuple #[.int .i64 (if q then (pos + 4, pos + 4 + n, 0) else (0, 0, 13) : Nat × Nat × Nat).1, .int .i64 (if q then (pos + 4, pos + 4 + n, 0) else (0, 0, 13) : Nat × Nat × Nat).2.1, .int .i64 (if q then (pos + 4, pos + 4 + n, 0) else (0, 0, 13) : Nat × Nat × Nat).2.2]) ∧ Below w.heap.size w w' := by
  have HY := Lib.hid hY; clear hY
  have HZ := Lib.hid hZ; clear hZ
  have hs := sumOf_lt ys
  generalize hsy : sumOf ys = s at *
  have HSY := Lib.hid hsy; clear hsy
  have huw : IntKind.u64.wrap (s : Int) = (s : Int) := by rw [IntKind.wrap_u64]; omega
  have HQ := Lib.hid hQ; clear hQ
  have hcp : ¬ cap = pos := by omega
  go_enter Try.func38, Try.ntmps38
  go_wp2_with fail
  refine HC.out.mono ?_
  rintro e w1 ⟨rfl, rfl⟩
  clear HC
  go_wp2
  go_region_with (first
    | (go_at_call 13; refine (sum_any _ [ys] _ (RdLL.drew (rdll_one HY.out _))).mono ?_; rintro e w1 ⟨rfl, hb1⟩; have hq1 := below_then (below_drew_alloc w _) (size_drew_alloc w _) hb1; clear hb1; rw [one_flat, HSY.out])
    | (go_at_call 37; refine (low_any w1.heap.size _ s 4 [] _ (OwnB.nil _ _) (Nat.le_refl _) (by simp) (by omega)).mono ?_; rintro e w2 ⟨v2, rfl, ho2, hb2⟩; have hq2 := below_then hq1 hq1.size hb2; have HO2 := Lib.hid ho2.rd; clear ho2 hb2)
    | (go_at_call 41; refine (equal_any _ _ _ _ _ (HZ.out.below hq2) HO2.out).mono ?_; rintro e w3 ⟨rfl, m, rfl⟩; rw [← HQ.out]))
  all_goals
    clear huw
    cases q <;> go_wp2 <;> go_ret3 <;> exact ⟨rfl, below_then hq2 hq2.size (drewN_below _ _)⟩

set_option maxRecDepth 100000 in
set_option maxHeartbeats 4000000 in
theorem frame_edge (g off pos : Nat) (xs : List UInt8) (hx4 : xs.length = pos + 4) (ys zs : List UInt8) (q : Bool) (w : World) (hpm : pos ≤ 2000000000000)
    (HC : Hid (Calls Try.prog 24 #[.slice (some ⟨g, off, none⟩) xs.length (pos + 4)] w fun e w' => e = .returned (.tuple #[.int .u64 (0 : Nat), .int .i64 pos, .int .i64 (0 : Nat)]) ∧ w = w'))
    (hY : RdB w (.slice (some ⟨g, off, none⟩) 0 0) ys) (hZ : RdB w (.slice (some ⟨g, off + pos, none⟩) 4 4) zs) (hQ : q = decide (zs = [] ++ lowN 4 (sumOf ys))) :
    Calls Try.prog 38 #[.slice (some ⟨g, off, none⟩) xs.length (pos + 4)] w fun e w' => e = .returned (.tuple #[.int .i64 (if q then (pos + 4, pos + 4 + 0, 0) else (0, 0, 13) : Nat × Nat × Nat).1, .int .i64 (if q then (pos + 4, pos + 4 + 0, 0) else (0, 0, 13) : Nat × Nat × Nat).2.1, .int .i64 (if q then (pos + 4, pos + 4 + 0, 0) else (0, 0, 13) : Nat × Nat × Nat).2.2]) ∧ Below w.heap.size w w' := by
  have HY := Lib.hid hY; clear hY
  have HZ := Lib.hid hZ; clear hZ
  have hs := sumOf_lt ys
  generalize hsy : sumOf ys = s at *
  have HSY := Lib.hid hsy; clear hsy
  have huw : IntKind.u64.wrap (s : Int) = (s : Int) := by rw [IntKind.wrap_u64]; omega
  have HQ := Lib.hid hQ; clear hQ
  rw [hx4] at HC ⊢
  go_enter Try.func38, Try.ntmps38
  go_wp2_with fail
  refine HC.out.mono ?_
  rintro e w1 ⟨rfl, rfl⟩
  clear HC
  go_wp2
  go_region_with (first
    | (go_at_call 13; refine (sum_any _ [ys] _ (RdLL.drew (rdll_one HY.out _))).mono ?_; rintro e w1 ⟨rfl, hb1⟩; have hq1 := below_then (below_drew_alloc w _) (size_drew_alloc w _) hb1; clear hb1; rw [one_flat, HSY.out])
    | (go_at_call 37; refine (low_any w1.heap.size _ s 4 [] _ (OwnB.nil _ _) (Nat.le_refl _) (by simp) (by omega)).mono ?_; rintro e w2 ⟨v2, rfl, ho2, hb2⟩; have hq2 := below_then hq1 hq1.size hb2; have HO2 := Lib.hid ho2.rd; clear ho2 hb2)
    | (go_at_call 41; refine (equal_any _ _ _ _ _ (HZ.out.below hq2) HO2.out).mono ?_; rintro e w3 ⟨rfl, m, rfl⟩; rw [← HQ.out]))
  all_goals
    clear huw
    cases q <;> go_wp2 <;> go_ret3 <;> exact ⟨rfl, below_then hq2 hq2.size (drewN_below _ _)⟩

end Go.Proofs.Ytoliikpbhmfjnaa
