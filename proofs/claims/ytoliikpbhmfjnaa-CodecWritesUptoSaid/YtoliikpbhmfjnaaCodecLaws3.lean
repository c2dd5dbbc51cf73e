/-
  Of a front of frames those that are whole are read, and no others.
-/
import Derived.Test.YtoliikpbhmfjnaaCodecPlain
import Derived.Test.YtoliikpbhmfjnaaCodecLaws
import Derived.Test.YtoliikpbhmfjnaaCodecLaws2
set_option linter.unusedVariables false
set_option linter.unusedSimpArgs false
namespace Go.Proofs.Ytoliikpbhmfjnaa.Codec

/-- A number that is cut off is short. -/
theorem read_cut (v : Nat) : ∀ i acc m, v < 2 ^ (64 - 7 * i) → i ≤ 9 → m < (enc v).length → readFrom i acc ((enc v).take m) = (0, 0, 11) := by
  induction v using Nat.strongRecOn with
  | ind v ih =>
    intro i acc m hv hi hm
    have hv9 : i = 9 → v < 2 := fun h => by subst h; simpa using hv
    cases m with
    | zero => rfl
    | succ m =>
      by_cases hs : v < 128
      · rw [enc_small hs] at hm
        simp at hm
      · have hi8 : i ≤ 8 := by
          rcases Nat.lt_or_ge i 9 with h | h
          · omega
          · have := hv9 (by omega); omega
        rw [enc_big hs] at hm ⊢
        have ht : (UInt8.ofNat (v % 128 + 128)).toNat = v % 128 + 128 := by rw [UInt8.toNat_ofNat']; omega
        have hv' : v / 128 < 2 ^ (64 - 7 * (i + 1)) := by
          rw [Nat.div_lt_iff_lt_mul (by decide), show 128 = 2 ^ 7 from rfl, ← Nat.pow_add]
          rwa [show 64 - 7 * (i + 1) + 7 = 64 - 7 * i by omega]
        rw [List.take_succ_cons, rf_more (by rw [ht]; omega) (by omega), ih (v / 128) (by omega) (i + 1) _ m hv' (by omega) (by simpa using hm)]
theorem readN_cut (v m : Nat) (hv : v < 18446744073709551616) (hm : m < (enc v).length) : readN ((enc v).take m) = (0, 0, 11) :=
  read_cut v 0 0 m (by simpa using hv) (by omega) hm
/-- A frame that is cut off is short. -/
theorem frameN_cut (x : List UInt8) (m : Nat) (h : x.length ≤ 67108864) (hm : m < (frameOf x).length) : frameN ((frameOf x).take m) = (0, 0, 11) := by
  rw [frameOf_len] at hm
  have e : frameOf x = enc x.length ++ (lowN 4 (sumOf x) ++ x) := by simp [frameOf]
  by_cases hs : m < (enc x.length).length
  · have : (frameOf x).take m = (enc x.length).take m := by rw [e, List.take_append_of_le_length (by omega)]
    rw [this]
    exact frameN_err (readN_cut _ _ (by omega) hs) (by decide)
  · obtain ⟨j, rfl⟩ : ∃ j, m = (enc x.length).length + j := ⟨m - (enc x.length).length, by omega⟩
    have : (frameOf x).take ((enc x.length).length + j) = enc x.length ++ (lowN 4 (sumOf x) ++ x).take j := by rw [e, List.take_length_add_append]
    rw [this]
    refine frameN_short (readN_enc _ (by omega) _) rfl (by omega) ?_
    rw [List.length_append, List.length_take]
    omega
theorem frames_cut (x : List UInt8) (m : Nat) (h : x.length ≤ 67108864) (h0 : 0 < m) (hm : m < (frameOf x).length) : frames ((frameOf x).take m) = ([], 0, 11) := by
  have hr := readFrameN_err (frameN_cut x m h hm) (by decide)
  have hne : (frameOf x).take m ≠ [] := fun e => by
    have := congrArg List.length e
    rw [List.length_take, List.length_nil] at this
    omega
  rw [frames_err hne (by rw [hr]; decide), hr]
theorem framesOf_cons (x : List UInt8) (t : List (List UInt8)) : framesOf (x :: t) = frameOf x ++ framesOf t := by simp [framesOf]
theorem framesOf_nil : framesOf [] = [] := rfl
/-- The law: k whole frames stand before the cut. -/
theorem fronts_law : ∀ (l : List (List UInt8)) (cut k : Nat), tot l ≤ 67108864 → k ≤ l.length → (framesOf (l.take k)).length ≤ cut → (k < l.length → cut < (framesOf (l.take (k + 1))).length) → cut ≤ (framesOf l).length →
    frames ((framesOf l).take cut) = (l.take k, (framesOf (l.take k)).length, if (framesOf (l.take k)).length = cut then 0 else 11) := by
  intro l
  induction l with
  | nil =>
    intro cut k _ hk h1 _ h3
    obtain rfl : k = 0 := by simpa using hk
    obtain rfl : cut = 0 := by simpa [framesOf] using h3
    rfl
  | cons x t ih =>
    intro cut k ht hk h1 h2 h3
    have hxl : x.length + tot t = tot (x :: t) := by simp [tot]
    cases k with
    | zero =>
      rw [List.take_zero, framesOf_nil, List.length_nil]
      by_cases hc : cut = 0
      · subst hc
        rfl
      · have h4 := h2 (by simp)
        rw [List.take_succ_cons, List.take_zero, framesOf_cons, framesOf_nil, List.append_nil] at h4
        rw [framesOf_cons, List.take_append_of_le_length (by omega), frames_cut x cut (by omega) (by omega) h4, if_neg (by omega)]
    | succ k =>
      have hfl := frameOf_len x
      rw [List.take_succ_cons, framesOf_cons x (t.take k), List.length_append] at h1 ⊢
      rw [List.take_succ_cons, framesOf_cons, List.length_append] at h2
      rw [framesOf_cons, List.length_append] at h3
      obtain ⟨c, rfl⟩ : ∃ c, cut = (frameOf x).length + c := ⟨cut - (frameOf x).length, by omega⟩
      have hi := ih c k (by omega) (by simpa using hk) (by omega) (fun h => by have := h2 (by simpa using h); omega) (by omega)
      have hr := readFrameN_frame x ((framesOf t).take c) (by omega)
      have hne : frameOf x ++ (framesOf t).take c ≠ [] := fun e => by
        have := congrArg List.length e
        rw [List.length_append, List.length_nil] at this
        omega
      rw [framesOf_cons, List.take_length_add_append, frames_more hne (by rw [hr]), hr]
      simp only
      rw [List.drop_left, hi]
      have : ((frameOf x).length + (framesOf (t.take k)).length = (frameOf x).length + c) ↔ ((framesOf (t.take k)).length = c) := by omega
      simp only [this]
end Go.Proofs.Ytoliikpbhmfjnaa.Codec
