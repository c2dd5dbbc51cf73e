/-
  The codec's laws in plain Lean: what is written is read; greater numbers are no shorter; frames.
-/
import Derived.Test.YtoliikpbhmfjnaaCodecPlain
namespace Go.Proofs.Ytoliikpbhmfjnaa.Codec

theorem enc_mono (a : Nat) : ∀ b, a ≤ b → (enc a).length ≤ (enc b).length := by
  induction a using Nat.strongRecOn with
  | ind a ih =>
    intro b hab
    by_cases ha : a < 128
    · rw [enc_small ha]
      exact enc_pos b
    · rw [enc_big ha, enc_big (show ¬ b < 128 by omega), List.length_cons, List.length_cons]
      exact Nat.succ_le_succ (ih (a / 128) (by omega) (b / 128) (by omega))
/-- What was written is read, from wherever one stands. -/
theorem read_enc (v : Nat) : ∀ i acc r, v < 2 ^ (64 - 7 * i) → i ≤ 9 → (i = 0 ∨ 0 < v) → readFrom i acc (enc v ++ r) = (acc + v * 2 ^ (7 * i), i + (enc v).length, 0) := by
  induction v using Nat.strongRecOn with
  | ind v ih =>
    intro i acc r hv hi h0
    have hv9 : i = 9 → v < 2 := fun h => by subst h; simpa using hv
    by_cases hs : v < 128
    · rw [enc_small hs]
      have ht : (UInt8.ofNat v).toNat = v := by rw [UInt8.toNat_ofNat']; omega
      rw [List.singleton_append, rf_done (by rw [ht]; exact hs) (by rw [ht]; omega) (by rw [ht]; omega), ht, Nat.mod_eq_of_lt hs]
      rfl
    · have hi8 : i ≤ 8 := by
        rcases Nat.lt_or_ge i 9 with h | h
        · omega
        · have := hv9 (by omega); omega
      rw [enc_big hs]
      have ht : (UInt8.ofNat (v % 128 + 128)).toNat = v % 128 + 128 := by rw [UInt8.toNat_ofNat']; omega
      have hv' : v / 128 < 2 ^ (64 - 7 * (i + 1)) := by
        rw [Nat.div_lt_iff_lt_mul (by decide), show 128 = 2 ^ 7 from rfl, ← Nat.pow_add]
        rwa [show 64 - 7 * (i + 1) + 7 = 64 - 7 * i by omega]
      rw [List.cons_append, rf_more (by rw [ht]; omega) (by omega), ht, ih (v / 128) (by omega) (i + 1) _ r hv' (by omega) (.inr (by omega))]
      have e : acc + (v % 128 + 128) % 128 * 2 ^ (7 * i) + v / 128 * 2 ^ (7 * (i + 1)) = acc + v * 2 ^ (7 * i) := by
        rw [show 7 * (i + 1) = 7 + 7 * i by omega, Nat.pow_add, show (v % 128 + 128) % 128 = v % 128 by omega, Nat.add_assoc, ← Nat.mul_assoc, ← Nat.add_mul]
        congr 2
        omega
      rw [e, List.length_cons]
      simp only [Prod.mk.injEq, and_true, true_and]
      omega
theorem readN_enc (v : Nat) (hv : v < 18446744073709551616) (r : List UInt8) : readN (enc v ++ r) = (v, (enc v).length, 0) := by
  have := read_enc v 0 0 r (by simpa using hv) (by omega) (.inl rfl)
  rw [readN, this]
  simp
/-- No number's bytes begin another one's. -/
theorem enc_front {a b : Nat} (ha : a < 18446744073709551616) (hb : b < 18446744073709551616) (hn : a ≠ b) : enc a ≠ (enc b).take (enc a).length := by
  intro h
  have e : enc b = enc a ++ (enc b).drop (enc a).length := by conv => rhs; lhs; rw [h]
                                                              rw [List.take_append_drop]
  have h1 := readN_enc b hb []
  rw [List.append_nil, e, readN_enc a ha] at h1
  exact hn (by simpa using congrArg Prod.fst h1)
end Go.Proofs.Ytoliikpbhmfjnaa.Codec
