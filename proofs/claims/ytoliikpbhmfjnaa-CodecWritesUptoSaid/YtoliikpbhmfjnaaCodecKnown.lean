/-
  The chapter's examples, which each statement of the chapter asks first.
-/
import Derived.Test.YtoliikpbhmfjnaaProg
import Derived.Test.YtoliikpbhmfjnaaGKit
import Derived.Test.YtoliikpbhmfjnaaCodecPlain
import Derived.Test.YtoliikpbhmfjnaaCodecRead
import Derived.Test.YtoliikpbhmfjnaaCodecSum2
import Derived.Test.YtoliikpbhmfjnaaCodecFrame
set_option linter.unusedVariables false
set_option linter.unusedSimpArgs false
namespace Go.Proofs.Ytoliikpbhmfjnaa
open Go.RowKit Codec

theorem ex_read : readN [172, 2] = (300, 2, 0) := by decide +kernel
theorem ex_sum : sumOf [49, 50, 51, 52, 53, 54, 55, 56, 57] = 3808858755 := by decide +kernel
theorem ex_frame : frameOf [97] = [1, 48, 67, 208, 193, 97] := by
  have h : sumOf [97] = 3251651376 := by decide +kernel
  unfold frameOf
  rw [h, show ([97] : List UInt8).length = 1 from rfl, enc_small (by omega)]
  decide +kernel

set_option maxRecDepth 100000 in
set_option maxHeartbeats 400000 in
theorem known_any (w : World) : Calls Try.prog 11 #[] w fun e w' => e = .returned (.bool true) ∧ Below w.heap.size w w' := by
  have kc := fun (w : World) (C : Array Value) (n c : Nat) => Lib.run_convert_bytes_const (P := Try.prog) w 28 5 C n c Try.underlying28 Try.underlying5
  have hn := readNumber_any _ [172, 2] (w.alloc (.cells #[.int .u8 172, .int .u8 2] 5)) (rdb_new w [172, 2] 5 (by simp [maxLen]) (g := w.heap.size))
  rw [ex_read] at hn
  have HN := Lib.hid hn; clear hn
  go_enter Try.func11, Try.ntmps11
  go_wp2_with fail
  refine HN.out.mono ?_
  rintro e w1 ⟨rfl, hw⟩
  have hb1 : Below w.heap.size w w1 := hw ▸ (Below.refl _ _).alloc (Nat.le_refl _) _
  clear hw HN
  have hz1 := hb1.size
  go_wp2_with fail
  refine (frameW_any _ [97] _ (rdb_mark w1 [97] 5 (1, 2) (by simp [maxLen])) (by simp)).mono ?_
  rintro e w2 ⟨v2, rfl, ho2, hb2⟩
  have hb2' : Below w1.heap.size w1 w2 := ((Below.refl _ _).alloc (Nat.le_refl _) _).trans (hb2.mono (by simp))
  have hb3 := below_then hb1 hz1 hb2'
  clear hb2 hb1
  rw [ex_frame] at ho2
  have HR2 := Lib.hid ho2.rd; clear ho2
  have hz2 := hb3.size
  go_wp2_with fail
  refine (sum_any _ [[49, 50, 51, 52, 53, 54, 55, 56, 57]] _ (rdll_one (rdb_mark w2 [49, 50, 51, 52, 53, 54, 55, 56, 57] 5 (9, 10) (by simp [maxLen])) _)).mono ?_
  rintro e w3 ⟨rfl, hb4⟩
  have hb5 : Below w2.heap.size w2 w3 := (((Below.refl _ _).alloc (Nat.le_refl _) _).alloc (by simp) _).trans (hb4.mono (by simp; omega))
  have hb6 := below_then hb3 hz2 hb5
  have e1 : sumOf [[49, 50, 51, 52, 53, 54, 55, 56, 57]].flatten = 3808858755 := by
    rw [← ex_sum]
    rfl
  rw [e1]
  obtain ⟨A, cap, rfl, _⟩ := Rd.form HR2.out
  have hcv : (convert 28 9 (.slice A 6 cap)).run Try.prog w3 = _ := conv_str (HR2.out.below hb5) Try.underlying28 Try.underlying5 Try.underlying9
  have hS := str_list [1, 48, 67, 208, 193, 97]
  generalize str [1, 48, 67, 208, 193, 97] = S at *
  clear HR2 e1 hb5 hb4 hb3 hb2'
  go_wp2
  go_ret
  exact ⟨rfl, hb6⟩
end Go.Proofs.Ytoliikpbhmfjnaa
