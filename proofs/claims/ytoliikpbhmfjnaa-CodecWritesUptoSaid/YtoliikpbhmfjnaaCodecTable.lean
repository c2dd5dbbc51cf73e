/-
  The program's table of half a byte, and its Sum.
-/
import Derived.Test.YtoliikpbhmfjnaaProg
import Derived.Test.YtoliikpbhmfjnaaGKit
import Derived.Test.YtoliikpbhmfjnaaCodecPlain
import Derived.Test.YtoliikpbhmfjnaaCodecSum
set_option linter.unusedVariables false
set_option linter.unusedSimpArgs false
namespace Go.Proofs.Ytoliikpbhmfjnaa
open Go.RowKit Codec

/-- The table, k of its places filled. -/
structure TabP (k : Nat) (c : Array Value) : Prop where
  size : c.size = 16
  get : ∀ j, j < 16 → c[j]? = some (.int .u32 (if j < k then ((bitN 4 j : Nat) : Int) else 0))
def tabVals : Array Value := #[.int .u32 0, .int .u32 274646895, .int .u32 549293790, .int .u32 823940017, .int .u32 1098587580, .int .u32 1373234000, .int .u32 1647880800, .int .u32 1922527500, .int .u32 2197175160, .int .u32 0, .int .u32 0, .int .u32 0, .int .u32 0, .int .u32 0, .int .u32 0, .int .u32 0]
theorem TabP.zero : TabP 0 #[.int .u32 0, .int .u32 0, .int .u32 0, .int .u32 0, .int .u32 0, .int .u32 0, .int .u32 0, .int .u32 0, .int .u32 0, .int .u32 0, .int .u32 0, .int .u32 0, .int .u32 0, .int .u32 0, .int .u32 0, .int .u32 0] :=
  ⟨rfl, fun j hj => by
    have : j = 0 ∨ j = 1 ∨ j = 2 ∨ j = 3 ∨ j = 4 ∨ j = 5 ∨ j = 6 ∨ j = 7 ∨ j = 8 ∨ j = 9 ∨ j = 10 ∨ j = 11 ∨ j = 12 ∨ j = 13 ∨ j = 14 ∨ j = 15 := by omega
    rcases this with rfl | rfl | rfl | rfl | rfl | rfl | rfl | rfl | rfl | rfl | rfl | rfl | rfl | rfl | rfl | rfl <;> rfl⟩
theorem TabP.set {k : Nat} {c : Array Value} (h : TabP k c) {v : Value} (hv : v = .int .u32 ((bitN 4 k : Nat) : Int)) : TabP (k + 1) (c.setIfInBounds k v) := by
  refine ⟨by simp [h.size], fun j hj => ?_⟩
  subst hv
  by_cases hjk : j = k
  · subst hjk
    simp [h.size, hj]
  · rw [Array.getElem?_setIfInBounds_ne (by omega), h.get j hj]
    congr 3
    simp only [eq_iff_iff]
    omega
theorem TabP.cell {k : Nat} {c : Array Value} (h : TabP k c) (w : World) (t j : Nat) (hj : j < 16) : (w.alloc (.cells c t)).cell? ⟨w.heap.size, j, none⟩ = some (.int .u32 (if j < k then ((bitN 4 j : Nat) : Int) else 0)) := by
  rw [cell_of_row _ _ j c t (0, 0) (heap_alloc_new w _)]
  exact h.get j hj
theorem TabP.full {c : Array Value} (h : TabP 16 c) : c = ((List.range 16).map fun j => Value.int .u32 ((bitN 4 j : Nat) : Int)).toArray := by
  apply Array.ext_getElem?
  intro j
  by_cases hj : j < 16
  · rw [h.get j hj]
    simp [hj]
  · rw [Array.getElem?_eq_none (by rw [h.size]; omega), Array.getElem?_eq_none (by simp; omega)]
theorem TabP.lit {c : Array Value} (h : TabP 16 c) : c = #[.int .u32 ((bitN 4 0 : Nat) : Int), .int .u32 ((bitN 4 1 : Nat) : Int), .int .u32 ((bitN 4 2 : Nat) : Int), .int .u32 ((bitN 4 3 : Nat) : Int), .int .u32 ((bitN 4 4 : Nat) : Int), .int .u32 ((bitN 4 5 : Nat) : Int), .int .u32 ((bitN 4 6 : Nat) : Int), .int .u32 ((bitN 4 7 : Nat) : Int), .int .u32 ((bitN 4 8 : Nat) : Int), .int .u32 ((bitN 4 9 : Nat) : Int), .int .u32 ((bitN 4 10 : Nat) : Int), .int .u32 ((bitN 4 11 : Nat) : Int), .int .u32 ((bitN 4 12 : Nat) : Int), .int .u32 ((bitN 4 13 : Nat) : Int), .int .u32 ((bitN 4 14 : Nat) : Int), .int .u32 ((bitN 4 15 : Nat) : Int)] := h.full

set_option maxHeartbeats 400000 in
theorem table_any (w : World) :
    Calls Try.prog 32 #[] w fun e w' => ∃ c, e = .returned (.agg c) ∧ TabP 16 c ∧ w' = w.alloc (.cells c 59) := by
  go_enter Try.func32, Try.ntmps32
  go_wp2
  go_loopw [4] (fun i wr => ∃ (k : Nat) (c : Array Value), k ≤ 16 ∧ i = .int .i64 k ∧ wr = w.alloc (.cells c 59) ∧ TabP k c) (fun i _ => 16 - (intOf i).toNat)
  case atStart => exact ⟨0, _, by omega, rfl, rfl, TabP.zero⟩
  case round =>
    obtain ⟨k, c, hk, rfl, rfl, hT⟩ := hrel
    by_cases hlt : k < 16
    · have hcell := hT.cell w 59 k hlt
      go_wp2
      go_loopw [2, 9] (fun v j wr => ∃ m : Nat, m ≤ 4 ∧ j = .int .i64 m ∧ v = .int .u32 (bitN m k) ∧ wr = w.alloc (.cells c 59)) (fun _ j _ => 4 - (intOf j).toNat)
      case atStart => exact ⟨0, by omega, rfl, rfl, rfl⟩
      case round =>
        obtain ⟨m, hm, rfl, rfl, rfl⟩ := hrel
        have hdl := bitN_lt m (c := k) (by omega)
        have hb : bitN (m + 1) k = bit1 (bitN m k) := rfl
        have hf : m = 4 → bitN 4 k = bitN m k := fun h => by rw [h]
        generalize hd : bitN m k = d at *
        have hB := Lib.hid hb; clear hb
        have hF := Lib.hid hf; clear hf
        clear hd
        by_cases h4 : m < 4
        · by_cases h1 : d % 2 = 1
          · have t1 : (bits BinOp.and IntKind.u32 (↑d) 1 == 1) = true := by
              have := u32_and_nat d 1 hdl (by omega)
              rw [Nat.and_one_is_mod, h1] at this
              simpa using this
            have e1 : bit1 d = d / 2 ^^^ 2197175160 := by unfold bit1; rw [if_pos h1]
            have E1 := Lib.hid e1; clear e1 h1
            go_wp2
            go_roundw
            case rel => exact ⟨m + 1, by omega, by go_num, u32v (by rw [hB.out, E1.out]; exact u32_xor_nat (d / 2) 2197175160 (by omega) (by omega)), trivial⟩
            case measure => simp [intOf]; omega
          · have t1 : (bits BinOp.and IntKind.u32 (↑d) 1 == 1) = false := by
              have := u32_and_nat d 1 hdl (by omega)
              rw [Nat.and_one_is_mod] at this
              rw [show ((1 : Nat) : Int) = 1 from rfl] at this
              rw [this]
              simp; omega
            have e1 : bit1 d = d / 2 := by unfold bit1; rw [if_neg h1]
            have E1 := Lib.hid e1; clear e1 h1
            go_wp2
            go_roundw
            case rel => exact ⟨m + 1, by omega, by go_num, u32v (by rw [hB.out, E1.out]; rfl), trivial⟩
            case measure => simp [intOf]; omega
        · have hfr : (w.alloc (.cells c 59)).frozen? ⟨w.heap.size, k, none⟩ = false := frozen_of_row _ _ _ c 59 (heap_alloc_new w _)
          go_wp2
          go_roundw
          case rel => exact ⟨k + 1, _, by omega, by go_num, rfl, hT.set (u32v (by rw [hF.out (by omega)]))⟩
          case measure => simp [intOf]; omega
    · have hT6 : TabP 16 c := (show k = 16 by omega) ▸ hT
      clear hT
      obtain rfl := hT6.lit
      go_wp2
      refine bodyPost_ret (v := .agg _) (by simp [results, Try.results32, go_sem]) rfl ⟨_, rfl, hT6, rfl⟩

end Go.Proofs.Ytoliikpbhmfjnaa
