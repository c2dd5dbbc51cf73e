/-
  The codec's laws in plain Lean: what is written is read; greater numbers are no shorter; frames.
-/
import Derived.Test.YtoliikpbhmfjnaaCodecPlain
set_option linter.unusedVariables false
set_option linter.unusedSimpArgs false
namespace Go.Proofs.Ytoliikpbhmfjnaa.Codec

theorem enc_mono (a : Nat) : ∀ b, a ≤ b → (enc a).length ≤ (enc b).length := by
  induction a using Nat.strongRecOn with
  | ind a ih =>
    intro b hab
    by_cases ha : a < 128
    · rw [enc_small ha]
      exact enc_pos b
    · rw [enc_big ha, enc_big (show ¬ b < 128 by omega), List.length_cons, List.length_cons]
      exact Nat.succ_le_succ (ih (a / 128) (by omega) (b / 128) (by omega))
/-- What was written is read, from wherever one stands. -/
theorem read_enc (v : Nat) : ∀ i acc r, v < 2 ^ (64 - 7 * i) → i ≤ 9 → (i = 0 ∨ 0 < v) → readFrom i acc (enc v ++ r) = (acc + v * 2 ^ (7 * i), i + (enc v).length, 0) := by
  induction v using Nat.strongRecOn with
  | ind v ih =>
    intro i acc r hv hi h0
    have hv9 : i = 9 → v < 2 := fun h => by subst h; simpa using hv
    by_cases hs : v < 128
    · rw [enc_small hs]
      have ht : (UInt8.ofNat v).toNat = v := by rw [UInt8.toNat_ofNat']; omega
      rw [List.singleton_append, rf_done (by rw [ht]; exact hs) (by rw [ht]; omega) (by rw [ht]; omega), ht, Nat.mod_eq_of_lt hs]
      rfl
    · have hi8 : i ≤ 8 := by
        rcases Nat.lt_or_ge i 9 with h | h
        · omega
        · have := hv9 (by omega); omega
      rw [enc_big hs]
      have ht : (UInt8.ofNat (v % 128 + 128)).toNat = v % 128 + 128 := by rw [UInt8.toNat_ofNat']; omega
      have hv' : v / 128 < 2 ^ (64 - 7 * (i + 1)) := by
        rw [Nat.div_lt_iff_lt_mul (by decide), show 128 = 2 ^ 7 from rfl, ← Nat.pow_add]
        rwa [show 64 - 7 * (i + 1) + 7 = 64 - 7 * i by omega]
      rw [List.cons_append, rf_more (by rw [ht]; omega) (by omega), ht, ih (v / 128) (by omega) (i + 1) _ r hv' (by omega) (.inr (by omega))]
      have e : acc + (v % 128 + 128) % 128 * 2 ^ (7 * i) + v / 128 * 2 ^ (7 * (i + 1)) = acc + v * 2 ^ (7 * i) := by
        rw [show 7 * (i + 1) = 7 + 7 * i by omega, Nat.pow_add, show (v % 128 + 128) % 128 = v % 128 by omega, Nat.add_assoc, ← Nat.mul_assoc, ← Nat.add_mul]
        congr 2
        omega
      rw [e, List.length_cons]
      simp only [Prod.mk.injEq, and_true, true_and]
      omega
theorem readN_enc (v : Nat) (hv : v < 18446744073709551616) (r : List UInt8) : readN (enc v ++ r) = (v, (enc v).length, 0) := by
  have := read_enc v 0 0 r (by simpa using hv) (by omega) (.inl rfl)
  rw [readN, this]
  simp
/-- No number's bytes begin another one's. -/
theorem enc_front {a b : Nat} (ha : a < 18446744073709551616) (hb : b < 18446744073709551616) (hn : a ≠ b) : enc a ≠ (enc b).take (enc a).length := by
  intro h
  have e : enc b = enc a ++ (enc b).drop (enc a).length := by conv => rhs; lhs; rw [h]
                                                              rw [List.take_append_drop]
  have h1 := readN_enc b hb []
  rw [List.append_nil, e, readN_enc a ha] at h1
  exact hn (by simpa using congrArg Prod.fst h1)

section
variable {xs : List UInt8} {n pos er : Nat} (h : readN xs = (n, pos, er))
include h
theorem frameN_err (h1 : er ≠ 0) : frameN xs = (0, 0, er) := by
  unfold frameN; rw [h]; simp only; rw [if_pos h1]
theorem frameN_big (h1 : er = 0) (h2 : 67108864 < n) : frameN xs = (0, 0, 3) := by
  unfold frameN; rw [h]; simp only; rw [if_neg (by omega), if_pos h2]
theorem frameN_short (h1 : er = 0) (h2 : ¬ 67108864 < n) (h3 : xs.length - pos < n + 4) : frameN xs = (0, 0, 11) := by
  unfold frameN; rw [h]; simp only; rw [if_neg (by omega), if_neg h2, if_pos h3]
theorem frameN_ok (h1 : er = 0) (h2 : ¬ 67108864 < n) (h3 : ¬ xs.length - pos < n + 4) (h4 : (xs.drop pos).take 4 = lowN 4 (sumOf ((xs.drop (pos + 4)).take n))) : frameN xs = (pos + 4, pos + 4 + n, 0) := by
  unfold frameN; rw [h]; simp only; rw [if_neg (by omega), if_neg h2, if_neg h3, if_pos h4]
theorem frameN_sum (h1 : er = 0) (h2 : ¬ 67108864 < n) (h3 : ¬ xs.length - pos < n + 4) (h4 : (xs.drop pos).take 4 ≠ lowN 4 (sumOf ((xs.drop (pos + 4)).take n))) : frameN xs = (0, 0, 13) := by
  unfold frameN; rw [h]; simp only; rw [if_neg (by omega), if_neg h2, if_neg h3, if_neg h4]
theorem readBytesN_err {most : Nat} (h1 : er ≠ 0) : readBytesN xs most = ([], 0, er) := by
  unfold readBytesN; rw [h]; simp only; rw [if_pos h1]
theorem readBytesN_big {most : Nat} (h1 : er = 0) (h2 : most < n) : readBytesN xs most = ([], 0, 3) := by
  unfold readBytesN; rw [h]; simp only; rw [if_neg (by omega), if_pos h2]
theorem readBytesN_short {most : Nat} (h1 : er = 0) (h2 : ¬ most < n) (h3 : xs.length - pos < n) : readBytesN xs most = ([], 0, 11) := by
  unfold readBytesN; rw [h]; simp only; rw [if_neg (by omega), if_neg h2, if_pos h3]
theorem readBytesN_ok {most : Nat} (h1 : er = 0) (h2 : ¬ most < n) (h3 : ¬ xs.length - pos < n) : readBytesN xs most = ((xs.drop pos).take n, pos + n, 0) := by
  unfold readBytesN; rw [h]; simp only; rw [if_neg (by omega), if_neg h2, if_neg h3]
end
/-- What a frame's place is, where there is one. -/
theorem frameN_fits {xs : List UInt8} (h : (frameN xs).2.2 = 0) : 4 < (frameN xs).1 ∧ (frameN xs).1 ≤ (frameN xs).2.1 ∧ (frameN xs).2.1 ≤ xs.length := by
  have hf := @readN_fits xs
  generalize hr : readN xs = r at hf
  obtain ⟨n, pos, er⟩ := r
  simp only at hf
  by_cases h1 : er = 0
  · have hf' := hf h1
    by_cases h2 : 67108864 < n
    · rw [frameN_big hr h1 h2] at h; simp at h
    · by_cases h3 : xs.length - pos < n + 4
      · rw [frameN_short hr h1 h2 h3] at h; simp at h
      · by_cases h4 : (xs.drop pos).take 4 = lowN 4 (sumOf ((xs.drop (pos + 4)).take n))
        · rw [frameN_ok hr h1 h2 h3 h4]; simp only; omega
        · rw [frameN_sum hr h1 h2 h3 h4] at h; simp at h
  · rw [frameN_err hr h1] at h
    exact absurd h h1

/-- Four bytes are a number's lowest just if they are that number. -/
theorem four_low (a b c d : UInt8) (s : Nat) (hs : s < 4294967296) : four a b c d = s ↔ [a, b, c, d] = lowN 4 s := by
  have ha := a.toNat_lt
  have hb := b.toNat_lt
  have hc := c.toNat_lt
  have hd := d.toNat_lt
  rw [lowN_four]
  constructor
  · intro h
    unfold four at h
    have e : ∀ (x : UInt8) (n : Nat), n % 256 = x.toNat → x = UInt8.ofNat n := fun x n h => by
      apply UInt8.toNat_inj.1
      rw [UInt8.toNat_ofNat']
      omega
    rw [e a s (by omega), e b (s / 256) (by omega), e c (s / 65536) (by omega), e d (s / 16777216) (by omega)]
  · intro h
    simp only [List.cons.injEq, and_true] at h
    obtain ⟨rfl, rfl, rfl, rfl⟩ := h
    unfold four
    rw [UInt8.toNat_ofNat', UInt8.toNat_ofNat', UInt8.toNat_ofNat', UInt8.toNat_ofNat']
    omega
theorem take_four {zs : List UInt8} (h : 4 ≤ zs.length) : zs.take 4 = [zs[0], zs[1], zs[2], zs[3]] := by
  match zs, h with
  | a :: b :: c :: d :: r, _ => rfl
theorem readFrameN_err {xs : List UInt8} {er : Nat} (h : frameN xs = (0, 0, er)) (he : er ≠ 0) : readFrameN xs = ([], 0, er) := by
  unfold readFrameN; rw [h]; simp only; rw [if_pos he]
theorem readFrameN_ok {xs : List UInt8} {from_ n : Nat} (h : frameN xs = (from_, from_ + n, 0)) : readFrameN xs = ((xs.drop from_).take n, from_ + n, 0) := by
  unfold readFrameN; rw [h]; simp only; rw [if_neg (by simp), Nat.add_sub_cancel_left]
end Go.Proofs.Ytoliikpbhmfjnaa.Codec
