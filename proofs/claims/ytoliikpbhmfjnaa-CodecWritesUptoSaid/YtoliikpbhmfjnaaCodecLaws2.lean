/-
  More of the codec's laws in plain Lean: what is read is written just so; frames back; one bit.
-/
import Derived.Test.YtoliikpbhmfjnaaCodecPlain
import Derived.Test.YtoliikpbhmfjnaaCodecLaws
set_option linter.unusedVariables false
set_option linter.unusedSimpArgs false
namespace Go.Proofs.Ytoliikpbhmfjnaa.Codec

/-- Whatever is read as a number is that number's bytes. -/
theorem read_canon (xs : List UInt8) : ∀ i acc v m, readFrom i acc xs = (v, m, 0) → ∃ u, v = acc + u * 2 ^ (7 * i) ∧ enc u = xs.take (m - i) ∧ i < m ∧ (0 < i → 0 < u) := by
  induction xs with
  | nil => intro i acc v m h; simp [readFrom] at h
  | cons c r ih =>
    intro i acc v m h
    have hc := c.toNat_lt
    rw [readFrom] at h
    split at h
    · simp at h
    · rename_i h9
      split at h
      · rename_i hs
        split at h
        · simp at h
        · rename_i h0
          simp only [Prod.mk.injEq, and_true] at h
          obtain ⟨rfl, rfl⟩ := h
          refine ⟨c.toNat, rfl, ?_, by omega, by omega⟩
          rw [enc_small hs, Nat.add_sub_cancel_left, UInt8.ofNat_toNat]
          rfl
      · rename_i hs
        obtain ⟨u, rfl, hu, him, hpos⟩ := ih _ _ _ _ h
        have hp := hpos (by omega)
        refine ⟨(c.toNat - 128) + u * 128, ?_, ?_, by omega, by omega⟩
        · rw [Nat.add_mul, Nat.mul_assoc, show 7 * (i + 1) = 7 + 7 * i by omega, Nat.pow_add, show (2 : Nat) ^ 7 = 128 by decide]
          omega
        · rw [enc_big (by omega), show ((c.toNat - 128) + u * 128) % 128 + 128 = c.toNat by omega, show ((c.toNat - 128) + u * 128) / 128 = u by omega, hu, UInt8.ofNat_toNat]
          rw [show m - i = (m - (i + 1)) + 1 by omega]
          rfl
theorem readN_canon {xs : List UInt8} {v m : Nat} (h : readN xs = (v, m, 0)) : enc v = xs.take m := by
  obtain ⟨u, hu, he, _, _⟩ := read_canon xs 0 0 v m h
  simp at hu he
  rw [hu, he]

/-- A frame is read, whatever stands behind it. -/
theorem frameN_frame (x b : List UInt8) (h : x.length ≤ 67108864) : frameN (frameOf x ++ b) = ((enc x.length).length + 4, (enc x.length).length + 4 + x.length, 0) := by
  have e : frameOf x ++ b = enc x.length ++ (lowN 4 (sumOf x) ++ (x ++ b)) := by simp [frameOf]
  have hr : readN (frameOf x ++ b) = (x.length, (enc x.length).length, 0) := by rw [e]; exact readN_enc _ (by omega) _
  have hl : (frameOf x ++ b).length = (enc x.length).length + 4 + x.length + b.length := by rw [List.length_append, frameOf_len]
  refine frameN_ok hr rfl (by omega) (by omega) ?_
  rw [e, List.drop_left, List.take_left' (lowN_len _ _)]
  have : List.drop ((enc x.length).length + 4) (enc x.length ++ (lowN 4 (sumOf x) ++ (x ++ b))) = x ++ b := by
    rw [← List.drop_drop, List.drop_left, List.drop_left' (lowN_len _ _)]
  rw [this, List.take_left]
theorem readFrameN_frame (x b : List UInt8) (h : x.length ≤ 67108864) : readFrameN (frameOf x ++ b) = (x, (frameOf x).length, 0) := by
  have e : frameOf x ++ b = enc x.length ++ (lowN 4 (sumOf x) ++ (x ++ b)) := by simp [frameOf]
  rw [readFrameN_ok (frameN_frame x b h), frameOf_len]
  have : List.drop ((enc x.length).length + 4) (frameOf x ++ b) = x ++ b := by
    rw [e, ← List.drop_drop, List.drop_left, List.drop_left' (lowN_len _ _)]
  rw [this, List.take_left]
/-- Whatever is read as a frame is that payload's frame. -/
theorem readFrameN_canon {b y : List UInt8} {k : Nat} (h : readFrameN b = (y, k, 0)) : frameOf y = b.take k ∧ k ≤ b.length := by
  have hf := @readN_fits b
  generalize hr : readN b = r at hf
  obtain ⟨n, pos, er⟩ := r
  simp only at hf
  by_cases h1 : er = 0
  · subst h1
    have hf' := hf rfl
    by_cases h2 : 67108864 < n
    · rw [readFrameN_err (frameN_big hr rfl h2) (by omega)] at h; simp at h
    · by_cases h3 : b.length - pos < n + 4
      · rw [readFrameN_err (frameN_short hr rfl h2 h3) (by omega)] at h; simp at h
      · by_cases h4 : (b.drop pos).take 4 = lowN 4 (sumOf ((b.drop (pos + 4)).take n))
        · rw [readFrameN_ok (frameN_ok hr rfl h2 h3 h4)] at h
          simp only [Prod.mk.injEq, and_true] at h
          obtain ⟨rfl, rfl⟩ := h
          have hyl : ((b.drop (pos + 4)).take n).length = n := by simp; omega
          refine ⟨?_, by omega⟩
          rw [frameOf, hyl, readN_canon hr, ← h4, List.append_assoc, ← List.drop_drop]
          have e1 : (b.drop pos).take 4 ++ ((b.drop pos).drop 4).take n = (b.drop pos).take (4 + n) := by rw [List.take_add]
          rw [e1, show pos + 4 + n = pos + (4 + n) by omega]
          exact List.take_add.symm
        · rw [readFrameN_err (frameN_sum hr rfl h2 h3 h4) (by omega)] at h; simp at h
  · rw [readFrameN_err (frameN_err hr h1) h1] at h
    simp at h
    exact absurd h.2.2 h1
/-- Bytes with their number ahead are read. -/
theorem readBytesN_bytes (x b : List UInt8) (most : Nat) (h : x.length ≤ most) (h2 : x.length < 18446744073709551616) : readBytesN (enc x.length ++ x ++ b) most = (x, (enc x.length ++ x).length, 0) := by
  have e : enc x.length ++ x ++ b = enc x.length ++ (x ++ b) := by simp
  have hr : readN (enc x.length ++ x ++ b) = (x.length, (enc x.length).length, 0) := by rw [e]; exact readN_enc _ h2 _
  rw [readBytesN_ok hr rfl (by omega) (by simp), e, List.drop_left, List.take_left, List.length_append]

theorem xor_cancel {a b c : Nat} (h : a ^^^ c = b ^^^ c) : a = b := by
  have := congrArg (· ^^^ c) h
  simpa [Nat.xor_assoc] using this
theorem xor_cancel' {a b c : Nat} (h : c ^^^ a = c ^^^ b) : a = b := xor_cancel (c := c) (by rw [Nat.xor_comm a, Nat.xor_comm b]; exact h)
/-- One step of the remainder forgets nothing. -/
theorem bit1_inj {a b : Nat} (ha : a < 4294967296) (hb : b < 4294967296) (h : bit1 a = bit1 b) : a = b := by
  have top : ∀ c, c < 2147483648 → 2147483648 ≤ c ^^^ 2197175160 := by
    intro c hc
    have : (c ^^^ 2197175160).testBit 31 = true := by
      rw [Nat.testBit_xor, Nat.testBit_lt_two_pow (show c < 2 ^ 31 by omega)]
      decide
    exact Nat.le_of_not_lt fun hlt => by
      rw [Nat.testBit_lt_two_pow (show c ^^^ 2197175160 < 2 ^ 31 by omega)] at this
      cases this
  have inj : ∀ c d, c ^^^ 2197175160 = d ^^^ 2197175160 → c = d := fun c d h => xor_cancel h
  unfold bit1 at h
  split at h <;> split at h
  · have := inj _ _ h; omega
  · have := top (a / 2) (by omega); omega
  · have := top (b / 2) (by omega); omega
  · omega
theorem bitN_inj (k : Nat) {a b : Nat} (ha : a < 4294967296) (hb : b < 4294967296) (h : bitN k a = bitN k b) : a = b := by
  induction k with
  | zero => exact h
  | succ k ih => exact ih (bit1_inj (bitN_lt k ha) (bitN_lt k hb) h)
theorem stepN_inj {c d x : Nat} (hc : c < 4294967296) (hd : d < 4294967296) (hx : x < 256) (h : stepN c x = stepN d x) : c = d := by
  have := bitN_inj 8 (xor32 hc (by omega)) (xor32 hd (by omega)) h
  exact xor_cancel this
theorem crc_inj (xs : List UInt8) : ∀ c d, c < 4294967296 → d < 4294967296 → crc c xs = crc d xs → c = d := by
  induction xs with
  | nil => intro c d _ _ h; exact h
  | cons b xs ih =>
    intro c d hc hd h
    have hb := b.toNat_lt
    exact stepN_inj hc hd (by omega) (ih _ _ (stepN_lt hc (by omega)) (stepN_lt hd (by omega)) h)
/-- One byte that is another one: another sum. -/
theorem sum_other (a b : List UInt8) (x y : UInt8) (h : x ≠ y) : sumOf (a ++ x :: b) ≠ sumOf (a ++ y :: b) := by
  intro e
  unfold sumOf at e
  have e1 := xor_cancel e
  have hx := x.toNat_lt
  have hy := y.toNat_lt
  have ha := crc_lt (c := 4294967295) (by omega) a
  rw [crc_append, crc_append] at e1
  have e2 : crc (stepN (crc 4294967295 a) x.toNat) b = crc (stepN (crc 4294967295 a) y.toNat) b := e1
  have e3 := crc_inj b _ _ (stepN_lt ha (by omega)) (stepN_lt ha (by omega)) e2
  have e4 := bitN_inj 8 (xor32 ha (by omega)) (xor32 ha (by omega)) e3
  exact h (UInt8.toNat_inj.1 (xor_cancel' e4))
theorem lowN_inj {a b : Nat} (ha : a < 4294967296) (hb : b < 4294967296) (h : lowN 4 a = lowN 4 b) : a = b := by
  rw [lowN_four, lowN_four] at h
  simp only [List.cons.injEq, and_true] at h
  obtain ⟨h0, h1, h2, h3⟩ := h
  have t : ∀ m n, UInt8.ofNat m = UInt8.ofNat n → m % 256 = n % 256 := fun m n h => by
    have := congrArg UInt8.toNat h
    rwa [UInt8.toNat_ofNat', UInt8.toNat_ofNat'] at this
  have := t _ _ h0
  have := t _ _ h1
  have := t _ _ h2
  have := t _ _ h3
  omega
/-- A frame whose payload was turned at one byte is refused. -/
theorem readFrameN_turned (x y : List UInt8) (hl : y.length = x.length) (h : x.length ≤ 67108864) (hs : sumOf y ≠ sumOf x) : readFrameN (enc x.length ++ lowN 4 (sumOf x) ++ y) = ([], 0, 13) := by
  have e : enc x.length ++ lowN 4 (sumOf x) ++ y = enc x.length ++ (lowN 4 (sumOf x) ++ (y ++ [])) := by simp
  have hr : readN (enc x.length ++ lowN 4 (sumOf x) ++ y) = (x.length, (enc x.length).length, 0) := by rw [e]; exact readN_enc _ (by omega) _
  refine readFrameN_err (frameN_sum hr rfl (by omega) (by simp [lowN_len]; omega) ?_) (by omega)
  rw [e, List.drop_left, List.take_left' (lowN_len _ _)]
  have : List.drop ((enc x.length).length + 4) (enc x.length ++ (lowN 4 (sumOf x) ++ (y ++ []))) = y := by
    rw [← List.drop_drop, List.drop_left, List.drop_left' (lowN_len _ _), List.append_nil]
  rw [this, List.take_of_length_le (by omega)]
  intro h
  exact hs (lowN_inj (sumOf_lt _) (sumOf_lt _) h).symm

/-! ### All frames at the front -/
def frames (xs : List UInt8) : List (List UInt8) × Nat × Nat := framesF xs.length xs
theorem readFrameN_len {xs : List UInt8} (h : (readFrameN xs).2.2 = 0) : 4 < (readFrameN xs).2.1 ∧ (readFrameN xs).2.1 ≤ xs.length := by
  have hf := @frameN_fits xs
  unfold readFrameN at h ⊢
  split at h
  · rename_i hne
    simp only at h
    exact absurd h hne
  · rename_i he
    rw [if_neg he]
    have := hf (by omega)
    simp only
    omega
theorem framesF_enough (k : Nat) : ∀ xs : List UInt8, xs.length ≤ k → framesF k xs = framesF xs.length xs := by
  induction k using Nat.strongRecOn with
  | ind k ih =>
    intro xs hl
    cases k with
    | zero =>
      have : xs.length = 0 := by omega
      rw [this]
    | succ k =>
      cases hx : xs.length with
      | zero =>
        have : xs = [] := List.eq_nil_of_length_eq_zero hx
        subst this
        simp [framesF]
      | succ m =>
        have hne : xs ≠ [] := fun e => by subst e; simp at hx
        rw [framesF, framesF, if_neg hne, if_neg hne]
        split
        · rfl
        · rename_i he
          have hr := @readFrameN_len xs (by omega)
          have hd : (xs.drop (readFrameN xs).2.1).length ≤ m := by simp; omega
          rw [ih k (by omega) _ (by omega), ih m (by omega) _ hd]
theorem frames_nil : frames [] = ([], 0, 0) := rfl
theorem frames_err {xs : List UInt8} (hne : xs ≠ []) (h : (readFrameN xs).2.2 ≠ 0) : frames xs = ([], 0, (readFrameN xs).2.2) := by
  unfold frames
  cases hx : xs.length with
  | zero => exact absurd (List.eq_nil_of_length_eq_zero hx) hne
  | succ m => rw [framesF, if_neg hne, if_pos h]
theorem frames_more {xs : List UInt8} (hne : xs ≠ []) (h : (readFrameN xs).2.2 = 0) : frames xs = ((readFrameN xs).1 :: (frames (xs.drop (readFrameN xs).2.1)).1, (readFrameN xs).2.1 + (frames (xs.drop (readFrameN xs).2.1)).2.1, (frames (xs.drop (readFrameN xs).2.1)).2.2) := by
  have hr := readFrameN_len h
  conv => lhs; unfold frames
  cases hx : xs.length with
  | zero => exact absurd (List.eq_nil_of_length_eq_zero hx) hne
  | succ m =>
    rw [framesF, if_neg hne, if_neg (by omega), framesF_enough m _ (by simp; omega)]
    rfl
end Go.Proofs.Ytoliikpbhmfjnaa.Codec
