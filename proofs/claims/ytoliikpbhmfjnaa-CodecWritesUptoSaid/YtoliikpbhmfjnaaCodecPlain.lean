/-
  The codec in plain Lean: checksums by bits and by half a byte, numbers, frames. No program is in sight here.
-/
import Derived.Laws.BitsAllLaws
set_option linter.unusedVariables false
set_option linter.unusedSimpArgs false
namespace Go.Proofs.Ytoliikpbhmfjnaa.Codec

/-! ### Checksums -/
def bit1 (c : Nat) : Nat := if c % 2 = 1 then (c / 2) ^^^ 2197175160 else c / 2
def bitN : Nat → Nat → Nat
  | 0, c => c
  | k + 1, c => bit1 (bitN k c)
def stepN (c x : Nat) : Nat := bitN 8 (c ^^^ x)
theorem xor32 {a b : Nat} (h : a < 4294967296) (h' : b < 4294967296) : a ^^^ b < 4294967296 := Nat.xor_lt_two_pow (n := 32) h h'
theorem bit1_lt {c : Nat} (h : c < 4294967296) : bit1 c < 4294967296 := by
  unfold bit1; split
  · exact xor32 (by omega) (by omega)
  · omega
theorem bitN_lt (k : Nat) {c : Nat} (h : c < 4294967296) : bitN k c < 4294967296 := by
  induction k with
  | zero => exact h
  | succ k ih => exact bit1_lt ih
theorem stepN_lt {c x : Nat} (h : c < 4294967296) (hx : x < 256) : stepN c x < 4294967296 := bitN_lt 8 (xor32 h (by omega))
def crc (c : Nat) (xs : List UInt8) : Nat := xs.foldl (fun c b => stepN c b.toNat) c
theorem crc_snoc (c : Nat) (xs : List UInt8) (b : UInt8) : crc c (xs ++ [b]) = stepN (crc c xs) b.toNat := by simp [crc]
theorem crc_append (c : Nat) (xs ys : List UInt8) : crc c (xs ++ ys) = crc (crc c xs) ys := by simp [crc]
theorem crc_lt {c : Nat} (h : c < 4294967296) (xs : List UInt8) : crc c xs < 4294967296 := by
  induction xs generalizing c with
  | nil => exact h
  | cons b xs ih => exact ih (stepN_lt h b.toNat_lt)
def sumOf (xs : List UInt8) : Nat := crc 4294967295 xs ^^^ 4294967295
theorem sumOf_lt (xs : List UInt8) : sumOf xs < 4294967296 := xor32 (crc_lt (by omega) xs) (by omega)

/-- The remainder is linear. -/
theorem bit1_xor (a b : Nat) : bit1 (a ^^^ b) = bit1 a ^^^ bit1 b := by
  have h2 : (a ^^^ b) / 2 = (a / 2) ^^^ (b / 2) := by
    have := Nat.shiftRight_xor_distrib (a := a) (b := b) (i := 1)
    simpa [Nat.shiftRight_eq_div_pow] using this
  have hm : (a ^^^ b) % 2 = (a % 2) ^^^ (b % 2) := by simpa using Nat.xor_mod_two_pow (a := a) (b := b) (n := 1)
  unfold bit1
  rw [h2]
  rcases Nat.mod_two_eq_zero_or_one a with ha | ha <;> rcases Nat.mod_two_eq_zero_or_one b with hb | hb <;> simp only [hm, ha, hb] <;> simp
  · rw [Nat.xor_assoc]
  · rw [Nat.xor_assoc, Nat.xor_assoc]; congr 1; exact Nat.xor_comm _ _
  · rw [Nat.xor_assoc, Nat.xor_comm 2197175160, Nat.xor_assoc, Nat.xor_self, Nat.xor_zero]
theorem bitN_xor (k a b : Nat) : bitN k (a ^^^ b) = bitN k a ^^^ bitN k b := by
  induction k with
  | zero => rfl
  | succ k ih => simp only [bitN, ih, bit1_xor]
theorem bitN_even (k h : Nat) : bitN k (h * 2 ^ k) = h := by
  induction k generalizing h with
  | zero => simp [bitN]
  | succ k ih =>
    have : bitN k (h * 2 ^ (k + 1)) = h * 2 := by
      rw [show h * 2 ^ (k + 1) = (h * 2) * 2 ^ k by rw [Nat.pow_succ]; rw [Nat.mul_assoc, Nat.mul_comm 2]]
      exact ih _
    simp only [bitN, this, bit1]
    rw [if_neg (by omega)]
    omega
theorem split16 (c : Nat) : c = (c / 16) * 2 ^ 4 ^^^ c % 16 := by
  have h := Nat.two_pow_add_eq_or_of_lt (i := 4) (b := c % 16) (by omega) (c / 16)
  have hx : (c / 16) * 2 ^ 4 ^^^ c % 16 = (c / 16) * 2 ^ 4 ||| c % 16 := by
    apply Nat.eq_of_testBit_eq
    intro i
    rw [Nat.testBit_xor, Nat.testBit_or, Nat.testBit_mul_two_pow]
    by_cases hi : 4 ≤ i
    · have : (c % 16).testBit i = false := Nat.testBit_lt_two_pow (Nat.lt_of_lt_of_le (show c % 16 < 2 ^ 4 by omega) (Nat.pow_le_pow_right (by decide) hi))
      simp [this]
    · simp [hi]
  rw [hx, Nat.mul_comm, ← h]
  omega
/-- Half a byte at once. -/
def half (c : Nat) : Nat := (c / 16) ^^^ bitN 4 (c % 16)
theorem bitN4 (c : Nat) : bitN 4 c = half c := by
  conv => lhs; rw [split16 c]
  rw [bitN_xor, bitN_even]
  rfl
theorem bitN_add (j k c : Nat) : bitN (j + k) c = bitN j (bitN k c) := by
  induction j with
  | zero => simp [bitN]
  | succ j ih => rw [Nat.succ_add]; simp only [bitN, ih]
theorem stepN_half (c x : Nat) : stepN c x = half (half (c ^^^ x)) := by
  unfold stepN
  rw [show 8 = 4 + 4 from rfl, bitN_add, bitN4, bitN4]
theorem half_lt {c : Nat} (h : c < 4294967296) : half c < 4294967296 := by rw [← bitN4]; exact bitN_lt 4 h

/-! ### Numbers -/
def enc (v : Nat) : List UInt8 := if v < 128 then [UInt8.ofNat v] else UInt8.ofNat (v % 128 + 128) :: enc (v / 128)
termination_by v
decreasing_by omega
theorem enc_small {v : Nat} (h : v < 128) : enc v = [UInt8.ofNat v] := by rw [enc, if_pos h]
theorem enc_big {v : Nat} (h : ¬ v < 128) : enc v = UInt8.ofNat (v % 128 + 128) :: enc (v / 128) := by rw [enc, if_neg h]
theorem enc_step {v u : Nat} {pre : List UInt8} (h : enc v = pre ++ enc u) (hu : 128 ≤ u) : enc v = (pre ++ [UInt8.ofNat (u % 128 + 128)]) ++ enc (u / 128) := by
  rw [h, enc_big (by omega)]
  simp
theorem enc_last {v u : Nat} {pre : List UInt8} (h : enc v = pre ++ enc u) (hu : u < 128) : enc v = pre ++ [UInt8.ofNat u] := by rw [h, enc_small hu]
theorem enc_pos (v : Nat) : 0 < (enc v).length := by
  rw [enc]; split <;> simp
theorem enc_len_le (k : Nat) : ∀ v, v < 2 ^ (7 * (k + 1)) → (enc v).length ≤ k + 1 := by
  induction k with
  | zero => intro v h; rw [enc_small (by simpa using h)]; simp
  | succ k ih =>
    intro v h
    by_cases hv : v < 128
    · rw [enc_small hv]; simp
    · rw [enc_big hv, List.length_cons]
      have : v / 128 < 2 ^ (7 * (k + 1)) := by
        rw [Nat.div_lt_iff_lt_mul (by decide)]
        rwa [show 7 * (k + 1 + 1) = 7 * (k + 1) + 7 by omega, Nat.pow_add] at h
      have := ih _ this
      omega
theorem enc_len (v : Nat) (h : v < 18446744073709551616) : (enc v).length ≤ 10 := enc_len_le 9 v (Nat.lt_of_lt_of_le h (by decide))
/-- What stands at the front: a number, how many bytes it has, an error. -/
def readFrom (i acc : Nat) : List UInt8 → Nat × Nat × Nat
  | [] => (0, 0, 11)
  | c :: r =>
    if i = 9 ∧ 1 < c.toNat then (0, 0, 12)
    else if c.toNat < 128 then (if c.toNat = 0 ∧ 0 < i then (0, 0, 12) else (acc + c.toNat * 2 ^ (7 * i), i + 1, 0))
    else readFrom (i + 1) (acc + (c.toNat - 128) * 2 ^ (7 * i)) r
def readN (xs : List UInt8) : Nat × Nat × Nat := readFrom 0 0 xs

theorem rf_canon {k acc : Nat} {c : UInt8} {r : List UInt8} (hk : k = 9) (hc : 1 < c.toNat) : readFrom k acc (c :: r) = (0, 0, 12) := by
  rw [readFrom, if_pos ⟨hk, hc⟩]
theorem rf_zero {k acc : Nat} {c : UInt8} {r : List UInt8} (hc : c.toNat = 0) (hk : 0 < k) : readFrom k acc (c :: r) = (0, 0, 12) := by
  rw [readFrom, if_neg (by omega), if_pos (by omega), if_pos ⟨hc, hk⟩]
theorem rf_done {k acc : Nat} {c : UInt8} {r : List UInt8} (hc : c.toNat < 128) (h9 : ¬ (k = 9 ∧ 1 < c.toNat)) (h0 : ¬ (c.toNat = 0 ∧ 0 < k)) : readFrom k acc (c :: r) = (acc + c.toNat % 128 * 2 ^ (7 * k), k + 1, 0) := by
  rw [readFrom, if_neg h9, if_pos hc, if_neg h0, Nat.mod_eq_of_lt hc]
theorem rf_more {k acc : Nat} {c : UInt8} {r : List UInt8} (hc : 128 ≤ c.toNat) (hk : k ≠ 9) : readFrom k acc (c :: r) = readFrom (k + 1) (acc + c.toNat % 128 * 2 ^ (7 * k)) r := by
  have := c.toNat_lt
  rw [readFrom, if_neg (by omega), if_neg (by omega), show c.toNat - 128 = c.toNat % 128 by omega]
theorem acc_lt {k acc c : Nat} (h : acc < 2 ^ (7 * k)) : acc + c % 128 * 2 ^ (7 * k) < 2 ^ (7 * (k + 1)) := by
  rw [show 7 * (k + 1) = 7 * k + 7 by omega, Nat.pow_add]
  have h1 : c % 128 ≤ 127 := by omega
  have h2 := Nat.mul_le_mul_right (2 ^ (7 * k)) h1
  omega

/-- A number's lowest bytes, the lowest first. -/
def lowN : Nat → Nat → List UInt8
  | 0, _ => []
  | k + 1, v => lowN k v ++ [UInt8.ofNat (v / 256 ^ k)]
theorem lowN_len (k v : Nat) : (lowN k v).length = k := by
  induction k with
  | zero => rfl
  | succ k ih => simp [lowN, ih]
theorem low_step (v k : Nat) : v / 256 ^ k / 256 = v / 256 ^ (k + 1) := by rw [Nat.div_div_eq_div_mul, Nat.pow_succ]
/-- Four bytes as a number. -/
def four (a b c d : UInt8) : Nat := a.toNat + b.toNat * 256 + c.toNat * 65536 + d.toNat * 16777216
theorem lowN_four (c : Nat) : lowN 4 c = [UInt8.ofNat c, UInt8.ofNat (c / 256), UInt8.ofNat (c / 65536), UInt8.ofNat (c / 16777216)] := by simp [lowN]
/-- A frame. -/
def frameOf (xs : List UInt8) : List UInt8 := enc xs.length ++ lowN 4 (sumOf xs) ++ xs
theorem frameOf_len (xs : List UInt8) : (frameOf xs).length = (enc xs.length).length + 4 + xs.length := by simp [frameOf, lowN_len]; omega
def framesOf (l : List (List UInt8)) : List UInt8 := (l.map frameOf).flatten
theorem framesOf_succ (l : List (List UInt8)) (k : Nat) (h : k < l.length) : framesOf (l.take (k + 1)) = framesOf (l.take k) ++ frameOf l[k] := by
  unfold framesOf
  rw [List.take_succ_eq_append_getElem h, List.map_append, List.flatten_append]
  simp
theorem framesOf_all {l : List (List UInt8)} {k : Nat} (h : k = l.length) : framesOf (l.take k) = framesOf l := by rw [h, List.take_length]
/-- Where a frame's payload lies, or the error. -/
def frameN (xs : List UInt8) : Nat × Nat × Nat :=
  if (readN xs).2.2 ≠ 0 then (0, 0, (readN xs).2.2)
  else if 67108864 < (readN xs).1 then (0, 0, 3)
  else if xs.length - (readN xs).2.1 < (readN xs).1 + 4 then (0, 0, 11)
  else if ((xs.drop (readN xs).2.1).take 4) = lowN 4 (sumOf ((xs.drop ((readN xs).2.1 + 4)).take (readN xs).1)) then ((readN xs).2.1 + 4, (readN xs).2.1 + 4 + (readN xs).1, 0)
  else (0, 0, 13)
def readFrameN (xs : List UInt8) : List UInt8 × Nat × Nat :=
  if (frameN xs).2.2 ≠ 0 then ([], 0, (frameN xs).2.2) else ((xs.drop (frameN xs).1).take ((frameN xs).2.1 - (frameN xs).1), (frameN xs).2.1, 0)
def readBytesN (xs : List UInt8) (most : Nat) : List UInt8 × Nat × Nat :=
  if (readN xs).2.2 ≠ 0 then ([], 0, (readN xs).2.2)
  else if most < (readN xs).1 then ([], 0, 3)
  else if xs.length - (readN xs).2.1 < (readN xs).1 then ([], 0, 11)
  else ((xs.drop (readN xs).2.1).take (readN xs).1, (readN xs).2.1 + (readN xs).1, 0)
/-- All frames at the front. -/
def framesF : Nat → List UInt8 → List (List UInt8) × Nat × Nat
  | 0, _ => ([], 0, 0)
  | k + 1, xs =>
    if xs = [] then ([], 0, 0)
    else if (readFrameN xs).2.2 ≠ 0 then ([], 0, (readFrameN xs).2.2)
    else ((readFrameN xs).1 :: (framesF k (xs.drop (readFrameN xs).2.1)).1, (readFrameN xs).2.1 + (framesF k (xs.drop (readFrameN xs).2.1)).2.1, (framesF k (xs.drop (readFrameN xs).2.1)).2.2)
/-- What is read is there. -/
theorem rf_fits (xs : List UInt8) : ∀ i acc, (readFrom i acc xs).2.2 = 0 → i < (readFrom i acc xs).2.1 ∧ (readFrom i acc xs).2.1 ≤ i + xs.length := by
  induction xs with
  | nil => intro i acc h; simp [readFrom] at h
  | cons c r ih =>
    intro i acc h
    rw [readFrom] at h ⊢
    split at h
    · simp at h
    · rename_i h9
      rw [if_neg h9]
      split at h
      · rename_i hc
        rw [if_pos hc]
        split at h
        · simp at h
        · rename_i h0
          rw [if_neg h0]
          simp
      · rename_i hc
        rw [if_neg hc]
        have := ih _ _ h
        simp only [List.length_cons]
        omega
theorem readN_fits {xs : List UInt8} (h : (readN xs).2.2 = 0) : 0 < (readN xs).2.1 ∧ (readN xs).2.1 ≤ xs.length := by
  have := rf_fits xs 0 0 h
  simpa [readN] using this
theorem rf_lt (xs : List UInt8) : ∀ i acc, i ≤ 9 → acc < 2 ^ (7 * i) → (readFrom i acc xs).1 < 18446744073709551616 := by
  induction xs with
  | nil => intro i acc _ _; simp [readFrom]
  | cons c r ih =>
    intro i acc hi ha
    rw [readFrom]
    split
    · simp
    · rename_i h9
      have hp : acc + c.toNat % 128 * 2 ^ (7 * i) < 2 ^ (7 * (i + 1)) := acc_lt ha
      split
      · rename_i hc
        split
        · simp
        · simp only
          rw [Nat.mod_eq_of_lt hc] at hp
          by_cases h : i = 9
          · subst h
            have : c.toNat ≤ 1 := by omega
            have h2 := Nat.mul_le_mul_right (2 ^ (7 * 9)) this
            have h3 : (2 : Nat) ^ (7 * 9) = 9223372036854775808 := by decide
            rw [h3] at h2 ha ⊢
            omega
          · exact Nat.lt_of_lt_of_le hp (Nat.le_trans (Nat.pow_le_pow_right (by decide) (show 7 * (i + 1) ≤ 63 by omega)) (by decide))
      · rename_i hc
        by_cases h : i = 9
        · exact absurd ⟨h, by omega⟩ h9
        · have := c.toNat_lt
          rw [show c.toNat % 128 = c.toNat - 128 by omega] at hp
          exact ih _ _ (by omega) hp
theorem readN_lt (xs : List UInt8) : (readN xs).1 < 18446744073709551616 := rf_lt xs 0 0 (by omega) (by omega)
theorem readN_err (xs : List UInt8) : (readN xs).2.2 = 0 ∨ (readN xs).2.2 = 11 ∨ (readN xs).2.2 = 12 := by
  have : ∀ xs i acc, (readFrom i acc xs).2.2 = 0 ∨ (readFrom i acc xs).2.2 = 11 ∨ (readFrom i acc xs).2.2 = 12 := by
    intro xs
    induction xs with
    | nil => intro i acc; simp [readFrom]
    | cons c r ih =>
      intro i acc
      rw [readFrom]
      split
      · simp
      · split
        · split <;> simp
        · exact ih _ _
  exact this xs 0 0

/-- Parts behind one another; how many bytes they have. (Plain definitions: the walk's simp doesn't look into them.) -/
def cat (l : List (List UInt8)) : List UInt8 := l.flatten
def tot (l : List (List UInt8)) : Nat := l.flatten.length
theorem tot_eq (l : List (List UInt8)) : tot l = (cat l).length := rfl
theorem cat_nil : cat [] = [] := rfl
theorem tot_nil : tot [] = 0 := rfl
theorem cat_succ (l : List (List UInt8)) (k : Nat) (h : k < l.length) : cat (l.take (k + 1)) = cat (l.take k) ++ l[k] := by
  unfold cat
  rw [List.take_succ_eq_append_getElem h, List.flatten_append]
  simp
theorem tot_succ (l : List (List UInt8)) (k : Nat) (h : k < l.length) : tot (l.take (k + 1)) = tot (l.take k) + l[k].length := by
  rw [tot_eq, cat_succ l k h, List.length_append]
  rfl
theorem tot_le (l : List (List UInt8)) (k : Nat) : tot (l.take k) ≤ tot l := by
  unfold tot
  conv => rhs; rw [← List.take_append_drop k l]
  rw [List.flatten_append, List.length_append]
  omega
theorem cat_all {l : List (List UInt8)} {k : Nat} (h : k = l.length) : cat (l.take k) = cat l := by rw [h, List.take_length]
theorem tot_all {l : List (List UInt8)} {k : Nat} (h : k = l.length) : tot (l.take k) = tot l := by rw [h, List.take_length]
theorem framesOf_len_le (l : List (List UInt8)) (h : tot l ≤ 1000000000000) (k : Nat) (hk : k ≤ l.length) : (framesOf (l.take k)).length ≤ tot (l.take k) + 14 * k := by
  induction k with
  | zero => simp [framesOf]
  | succ k ih =>
    have hk' : k < l.length := by omega
    have h1 := ih (by omega)
    have h2 := tot_succ l k hk'
    have h3 := tot_le l (k + 1)
    have h4 := enc_len l[k].length (by omega)
    rw [framesOf_succ l k hk', List.length_append, frameOf_len]
    omega
end Go.Proofs.Ytoliikpbhmfjnaa.Codec
