/-
  Frames: the program's and the reference's.
-/
import Derived.Test.YtoliikpbhmfjnaaProg
import Derived.Test.YtoliikpbhmfjnaaGKit
import Derived.Test.YtoliikpbhmfjnaaCodecPlain
import Derived.Test.YtoliikpbhmfjnaaCodecNum
import Derived.Test.YtoliikpbhmfjnaaCodecSum2
import Derived.Test.YtoliikpbhmfjnaaCodecSize
import Derived.Test.YtoliikpbhmfjnaaCodecSmall
set_option linter.unusedVariables false
set_option linter.unusedSimpArgs false
namespace Go.Proofs.Ytoliikpbhmfjnaa
open Go.RowKit Codec

set_option maxRecDepth 100000 in
set_option maxHeartbeats 400000 in
theorem frameW_any (v : Value) (xs : List UInt8) (w : World) (h : RdB w v xs) (hx : xs.length ≤ 1000000000000) :
    Calls Try.prog 22 #[v] w fun e w' => NewB 5 w (frameOf xs) e w' := by
  have h' := h
  obtain ⟨A, cap, rfl, _⟩ := Rd.form h
  have HH := Lib.hid h'; clear h h'
  have hen := enc_len xs.length (by omega)
  have hs := sumOf_lt xs
  go_enter Try.func22, Try.ntmps22
  go_wp2_with fail
  refine (number_any _ xs.length [] _ (by omega) (rdb_nil _) (by simp)).mono ?_
  rintro e w1 ⟨v1, rfl, ho1, hb1⟩
  have HO1 := Lib.hid ho1; clear ho1
  have hz1 := hb1.size
  go_wp2_with fail
  refine (sum_any _ [xs] _ (rdll_one (HH.out.below hb1) _)).mono ?_
  rintro e w2 ⟨rfl, hb2⟩
  have hb2' : Below w1.heap.size w1 w2 := (((Below.refl _ _).alloc (Nat.le_refl _) _).trans (hb2.mono (by simp)))
  have hz2 := hb2'.size
  have HO2 := Lib.hid (HO1.out.below hb2'); clear HO1
  have hb3 := below_then hb1 hz1 hb2'
  clear hb2 hb2' hb1
  have e1 : sumOf [xs].flatten = sumOf xs := by simp
  rw [e1]
  have HS := Lib.hid (rfl : sumOf xs = sumOf xs)
  generalize hS : sumOf xs = s at *
  clear e1 HS
  have HSS := Lib.hid hS; clear hS
  go_wp2_with fail
  refine (low_any w.heap.size _ s 4 _ _ HO2.out (by omega) (by simp; omega) (by omega)).mono ?_
  rintro e w3 ⟨v3, rfl, ho3, hb4⟩
  have ho3' : w3.ownsRow w.heap.size 5 1 v3 ([] ++ enc xs.length ++ lowN 4 s).length (bvs ([] ++ enc xs.length ++ lowN 4 s)) := ho3
  have HO3 := Lib.hid ho3'; clear ho3 ho3' HO2
  have hb5 : Below w.heap.size w w3 := hb3.trans hb4
  have HR := Lib.hid (HH.out.below hb5)
  have hz3 := hb5.size
  have hlen : ([] ++ enc xs.length ++ lowN 4 s).length ≤ 100 := by simp [lowN_len]; omega
  generalize hY : [] ++ enc xs.length ++ lowN 4 s = Y at *
  have HY := Lib.hid hY; clear hY hb3 hb4
  go_wp2_with (at_builtin; refine wpList_app w.heap.size tB HO3.out (rd_src Try.underlying28 HR.out (by omega) (bvs_one _)) (by omega) (by unfold maxLen; omega) (by omega) rfl rfl rfl rfl ?_)
  intro v' w' ho4 hg4
  have hb6 : Below w.heap.size w w' := below_grown hb5 HO3.out hg4 hz3
  have ho5 := OwnB.of (xs := Y ++ xs) ho4 (by rw [bvs_append])
  clear ho4 hg4 HO3 hb5
  go_wp2
  go_ret
  exact ⟨_, rfl, by rw [frameOf, HSS.out, ← List.nil_append (enc xs.length), HY.out]; exact ho5, hb6⟩

set_option maxRecDepth 100000 in
set_option maxHeartbeats 400000 in
theorem refFrame_any (base : Nat) (b v : Value) (ys xs : List UInt8) (w : World) (hb : OwnB 5 w base b ys) (h : RdB w v xs) (hB : base ≤ w.heap.size) (hvb : Rd.belowB v base) (hy : ys.length ≤ 1000000000000) (hx : xs.length ≤ 1000000000000) :
    Calls Try.prog 21 #[b, v] w fun e w' => OnB 5 base w (ys ++ frameOf xs) e w' := by
  have h' := h
  obtain ⟨A, cap, rfl, _⟩ := Rd.form h
  have HH := Lib.hid h'; clear h h'
  have HB := Lib.hid hb; clear hb
  have hen := enc_len xs.length (by omega)
  have hs := sumOf_lt xs
  go_enter Try.func21, Try.ntmps21
  go_wp2_with fail
  refine (refNumber_any base _ xs.length _ _ (by omega) HB.out hB hy).mono ?_
  rintro e w1 ⟨v1, rfl, ho1, hb1⟩
  have HO1 := Lib.hid ho1; clear ho1
  have hz1 := hb1.size
  have HR1 := Lib.hid (Rd.below_at HH.out hb1 hvb)
  go_wp2_with fail
  refine (refSum_any _ xs _ HR1.out).mono ?_
  rintro e w2 ⟨rfl, rfl⟩
  generalize hS : sumOf xs = s at *
  have HSS := Lib.hid hS; clear hS
  have hl1 : (ys ++ enc xs.length).length ≤ 1000000000000 + 10 := by rw [List.length_append]; omega
  go_wp2_with fail
  refine (four_any base _ s _ _ HO1.out (by omega) (by omega)).mono ?_
  rintro e w3 ⟨v3, rfl, ho3, hb4⟩
  have ho3' : w3.ownsRow base 5 1 v3 (ys ++ enc xs.length ++ lowN 4 s).length (bvs (ys ++ enc xs.length ++ lowN 4 s)) := ho3
  have HO3 := Lib.hid ho3'; clear ho3 ho3' HO1
  have hb5 : Below base w w3 := hb1.trans hb4
  have HR := Lib.hid (Rd.below_at HH.out hb5 hvb)
  have hz3 := hb5.size
  have hlen : (ys ++ enc xs.length ++ lowN 4 s).length ≤ 1000000000100 := by rw [List.length_append, lowN_len]; omega
  generalize hY : ys ++ enc xs.length ++ lowN 4 s = Y at *
  have HY := Lib.hid hY; clear hY hb4 hb1
  go_wp2_with (at_builtin; refine wpList_app base tB HO3.out (rd_src Try.underlying28 HR.out (by omega) (bvs_one _)) (by omega) (by unfold maxLen; omega) (by omega) rfl rfl rfl rfl ?_)
  intro v' w' ho4 hg4
  have hb6 : Below base w w' := below_grown hb5 HO3.out hg4 (by omega)
  have ho5 := OwnB.of (xs := Y ++ xs) ho4 (by rw [bvs_append])
  clear ho4 hg4 HO3 hb5
  go_wp2
  go_ret
  exact ⟨_, rfl, by rw [frameOf, HSS.out, ← List.append_assoc, ← List.append_assoc, HY.out]; exact ho5, hb6⟩
end Go.Proofs.Ytoliikpbhmfjnaa
