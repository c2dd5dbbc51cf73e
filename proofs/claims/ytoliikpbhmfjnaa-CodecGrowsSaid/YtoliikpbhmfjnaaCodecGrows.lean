/-
  Greater numbers have as many bytes at least, none has more than ten, and no number's bytes begin another one's: for every two numbers.
-/
import Derived.Test.YtoliikpbhmfjnaaRows
import Derived.Test.YtoliikpbhmfjnaaGKit
import Derived.Test.YtoliikpbhmfjnaaGKit2
import Derived.Test.YtoliikpbhmfjnaaCodecLaws
import Derived.Test.YtoliikpbhmfjnaaCodecNum
import Derived.Test.YtoliikpbhmfjnaaCodecSmall
import Derived.Test.YtoliikpbhmfjnaaCodecKnown
import Derived.ProofKit
import Derived.OpenShut
import Derived.Below
namespace Go.Proofs.Ytoliikpbhmfjnaa.codecGrows
open Go.ChangeShapes Go.WideShapes Go.ChangeAt Go.RowKit Codec
set_option linter.unusedVariables false

theorem own : ownKnob Try.prog.godebug = none := by kernel_rfl

set_option maxRecDepth 100000 in
set_option maxHeartbeats 400000 in
theorem walk_eq (x : Nat) (ha : x < 18446744073709551616) (w : World) :
    Calls Try.prog 4 #[.int .u64 x, .int .u64 x] w fun e w' => e = .returned (.bool true) ∧ Below w.heap.size w w' := by
  have hl2 := enc_len x ha
  have hl3 := enc_pos x
  have HA := Lib.hid ha; clear ha
  go_enter Try.func4, Try.ntmps4
  go_wp2_with fail
  refine (known_any _).mono ?_
  rintro e w1 ⟨rfl, hb1⟩
  have hz1 := hb1.size
  go_wp2_with fail
  refine (number_any _ _ [] _ HA.out (rdb_nil _) (by simp)).mono ?_
  rintro e w2 ⟨v1, rfl, ho1, hb2⟩
  have hb3 := below_then hb1 hz1 hb2
  have HO1 := Lib.hid ho1.rd; clear ho1 hb1 hb2
  have hz2 := hb3.size
  go_wp2_with fail
  refine (number_any _ _ [] _ HA.out (rdb_nil _) (by simp)).mono ?_
  rintro e w3 ⟨v2, rfl, ho2, hb4⟩
  have HR1 := Lib.hid (HO1.out.below hb4)
  have HR2 := Lib.hid ho2.rd
  have hb5 := below_then hb3 hz2 hb4
  clear ho2 hb4 HO1 hb3
  rw [List.nil_append] at HR1 HR2
  obtain ⟨g1, off1, cap1, rfl, hn1, hm1, _⟩ := Rd.full HR1.out (by omega) (by omega)
  obtain ⟨g2, off2, cap2, rfl, hn2, hm2, _⟩ := Rd.full HR2.out (by omega) (by omega)
  go_wp2
  go_ret
  exact ⟨rfl, hb5⟩

set_option maxRecDepth 100000 in
set_option maxHeartbeats 400000 in
theorem walk_lt (a b : Nat) (hab : a < b) (ha : a < 18446744073709551616) (hb : b < 18446744073709551616) (w : World) (x y : Nat) (hxy : (x = a ∧ y = b) ∨ (x = b ∧ y = a)) :
    Calls Try.prog 4 #[.int .u64 x, .int .u64 y] w fun e w' => e = .returned (.bool true) ∧ Below w.heap.size w w' := by
  have hl1 := enc_mono a b (by omega)
  have hl2 := enc_len b hb
  have hl3 := enc_pos a
  have hhead : enc a ≠ ((enc b).drop 0).take ((enc a).length - 0) := enc_front ha hb (by omega)
  have HA := Lib.hid ha; clear ha
  have HB := Lib.hid hb; clear hb
  have HN := Lib.hid hhead; clear hhead
  rcases hxy with ⟨rfl, rfl⟩ | ⟨rfl, rfl⟩
  all_goals
    go_enter Try.func4, Try.ntmps4
    go_wp2_with fail
    refine (known_any _).mono ?_
    rintro e w1 ⟨rfl, hb1⟩
    have hz1 := hb1.size
    go_wp2_with fail
    refine (number_any _ _ [] _ HA.out (rdb_nil _) (by simp)).mono ?_
    rintro e w2 ⟨v1, rfl, ho1, hb2⟩
    have hb3 := below_then hb1 hz1 hb2
    have HO1 := Lib.hid ho1.rd; clear ho1 hb1 hb2
    have hz2 := hb3.size
    go_wp2_with fail
    refine (number_any _ _ [] _ HB.out (rdb_nil _) (by simp)).mono ?_
    rintro e w3 ⟨v2, rfl, ho2, hb4⟩
    have HR1 := Lib.hid (HO1.out.below hb4)
    have HR2 := Lib.hid ho2.rd
    have hb5 := below_then hb3 hz2 hb4
    clear ho2 hb4 HO1 hb3
    rw [List.nil_append] at HR1 HR2
    obtain ⟨g1, off1, cap1, rfl, hn1, hm1, _⟩ := Rd.full HR1.out (by omega) (by omega)
    obtain ⟨g2, off2, cap2, rfl, hn2, hm2, _⟩ := Rd.full HR2.out (by omega) (by omega)
    go_wp2_with fail
    refine (same_any _ _ _ _ _ HR1.out (RdB.sub HR2.out (Nat.zero_le _) hl1 rfl rfl rfl rfl)).mono ?_
    rintro e w4 ⟨rfl, rfl⟩
    rw [decide_eq_false HN.out]
    go_wp2
    go_ret
    exact ⟨rfl, hb5⟩

theorem walk (a0 a1 : Int) (w0 : (Lit.int .u64 a0).wf = true) (w1 : (Lit.int .u64 a1).wf = true) (w : World) :
    Calls Try.prog 4 #[.int .u64 a0, .int .u64 a1] w fun e w' => e = .returned (.bool true) ∧ Below w.heap.size w w' := by
  obtain ⟨x, hx, hx'⟩ := u64_nat w0
  obtain ⟨y, hy, hy'⟩ := u64_nat w1
  subst hx; subst hy
  rcases Nat.lt_trichotomy x y with h | h | h
  · exact walk_lt x y h hx' hy' w x y (.inl ⟨rfl, rfl⟩)
  · subst h; exact walk_eq x hx' w
  · exact walk_lt y x h hy' hx' w x y (.inr ⟨rfl, rfl⟩)

set_option maxRecDepth 100000 in
theorem lifted (os : Os) (started : os.Started) (H : Type) (enc : TypeId × Value → H) :
    ReturnsInHanded {} Try.checked os 4 .any (Rows.codecGrowsSpec.pre6 enc Try.prog Try.f4 Rows.codecGrowsRow.domain false) (Rows.codecGrowsSpec.post enc Try.prog Try.f4 false true false false) := by
  refine returnsInHanded_of_change (C := Try.checked) own started (by kernel_rfl) Try.func4
    (ChangeSpec.witness6 (enc := enc) (C := Try.checked) false ⟨#[], #[.int .u64 0, .int .u64 0], []⟩ 8 (by kernel_rfl) (by kernel_rfl) (by kernel_rfl) (by kernel_rfl)) ?_
  intro W base args ds gs before hval0 hW hcnd _
  have hval : ∀ (j : Nat) t v, Try.f4.params[j]? = some t → args[j]? = some v → Value.okWide Try.prog W .any base t v := hval0
  have hW' := hW
  obtain ⟨p, q, hA0, hV, rfl, hfz, hnd⟩ := hW
  have hA : DataW.TrodAll enc Try.prog W 0 (fun _ => true) true Try.f4.params.toList args.toList ds p := hA0
  rw [Try.params4] at hA hval
  obtain ⟨v0, vs0, d0, ds0, p0, q0, hargs, rfl, rfl, h0, r0⟩ := trodAll_cons hA
  obtain ⟨v1, vs1, d1, ds1, p1, q1, rfl, rfl, rfl, h1, r1⟩ := trodAll_cons r0
  obtain ⟨rfl, rfl, rfl⟩ := trodAll_nil r1
  obtain rfl : args = #[v0, v1] := by cases args; simp_all
  obtain ⟨rfl, rfl⟩ := trodVars_none hV
  obtain ⟨a0, rfl, rfl, rfl, w0⟩ := open_int Try.underlying31 (hval 0 31 v0 rfl rfl) h0
  obtain ⟨a1, rfl, rfl, rfl, w1⟩ := open_int Try.underlying31 (hval 1 31 v1 rfl rfl) h1
  clear hA0 hval0
  refine (walk a0 a1 w0 w1 W).mono fun e W' ⟨he, bel⟩ => ?_
  subst he
  exact ⟨_, rfl, _, _, _, [], _, [], hW', trodAll_mk1 (shut_bool Try.underlying4 _), (trodAll_cons_mk (shut_int Try.underlying31 w0) (trodAll_cons_mk (shut_int Try.underlying31 w1) trodAll_mk0)), rfl, bel.frame _, fun h => by cases h⟩

theorem over : Rows.codecGrowsRow.holds Try.pinned (OpenSpec.ofChange Rows.codecGrowsSpec) :=
  OpenClaim.holds_of_wide 4 Try.f4 rfl rfl rfl rfl rfl rfl rfl ⟨rfl, rfl, rfl, rfl, rfl⟩ rfl rfl rfl rfl rfl (by kernel_rfl) Try.func4 (by kernel_rfl)
    (of_decide_eq_true (by kernel_rfl)) (by unfold Func.isWrapper; first | (rw [if_pos (by decide +kernel)]; kernel_rfl) | (rw [if_neg (by decide +kernel)]; exact ⟨rfl, rfl⟩))
    (fun os started H enc _ => lifted os started H enc)

theorem proved : Rows.CodecGrowsSaid := over
#print axioms proved
end Go.Proofs.Ytoliikpbhmfjnaa.codecGrows
