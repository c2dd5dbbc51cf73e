/-
  The reference's Check, one walk for each kind (printed by genref2.py).
-/
import Derived.Test.YtkbmecjpjphngaaBRef
import Derived.Test.YtkbmecjpjphngaaBChk3
set_option linter.unusedVariables false
set_option linter.unusedSimpArgs false
namespace Go.Proofs.Ytkbmecjpjphngaa
open Go.RowKit Go.Maps

set_option maxRecDepth 100000 in
set_option maxHeartbeats 8000000 in
theorem refCheck1 (w : World) (id n up : Int) (bucket key after : ByteArray) (parts : List Int) (data : List UInt8) (A1 A2 : Option Addr) (c1 c2 : Nat) (hs : bucket.size ≤ maxLen) (hks : key.size ≤ maxLen) (has : after.size ≤ maxLen) (hpv : Rd w (.slice A1 parts.length c1) parts.length 1 (parts.map (Value.int .i64))) (hwp : ∀ x ∈ parts, (Lit.int .i64 x).wf = true) (hl1 : parts.length ≤ maxLen) (hl2 : data.length ≤ maxLen) :
    Calls Try.prog 9 #[.agg #[.int .u64 id, .int .i64 1, .string bucket, .string key, .string after, .int .i64 n, .int .u64 up, .slice A1 parts.length c1, .slice A2 data.length c2]] w fun e w' => e = .returned (.int .i64 (errN (chkA ⟨id, 1, bucket, key, after, n, up, parts, data⟩))) ∧ Below w.heap.size w w' := by
  unfold maxLen at hl1 hl2
  have hs' := hs
  have hks' := hks
  have has' := has
  unfold maxLen at hs' hks' has'
  have HPV := Lib.hid hpv; clear hpv
  have HWP := Lib.hid hwp; clear hwp
  go_enter Try.func9, Try.ntmps9
  go_wp2_with (first
    | (go_at_call 25; refine (refName_any _ _ hs).mono ?_; rintro e w2 ⟨rfl, rfl⟩)
    | fail)
  all_goals
    go_ret
    first
      | refine ⟨ret_i ?_, (Below.refl _ _).alloc (Nat.le_refl _) _⟩
      | refine ⟨ret_i ?_, ((Below.refl _ _).alloc (Nat.le_refl _) _).trans ((drewN_below _ _).mono (by simp))⟩
    unfold errN chkA
    generalize data.length = q at *
    first
      | (simp [*] <;> omega; done)
      | (simp [*, lngB] <;> omega)
      | (simp [*]; rename_i hz; simp at hz; omega)
set_option maxRecDepth 100000 in
set_option maxHeartbeats 8000000 in
theorem refCheck2 (w : World) (id n up : Int) (bucket key after : ByteArray) (parts : List Int) (data : List UInt8) (A1 A2 : Option Addr) (c1 c2 : Nat) (hs : bucket.size ≤ maxLen) (hks : key.size ≤ maxLen) (has : after.size ≤ maxLen) (hpv : Rd w (.slice A1 parts.length c1) parts.length 1 (parts.map (Value.int .i64))) (hwp : ∀ x ∈ parts, (Lit.int .i64 x).wf = true) (hl1 : parts.length ≤ maxLen) (hl2 : data.length ≤ maxLen) :
    Calls Try.prog 9 #[.agg #[.int .u64 id, .int .i64 2, .string bucket, .string key, .string after, .int .i64 n, .int .u64 up, .slice A1 parts.length c1, .slice A2 data.length c2]] w fun e w' => e = .returned (.int .i64 (errN (chkA ⟨id, 2, bucket, key, after, n, up, parts, data⟩))) ∧ Below w.heap.size w w' := by
  unfold maxLen at hl1 hl2
  have hs' := hs
  have hks' := hks
  have has' := has
  unfold maxLen at hs' hks' has'
  have HPV := Lib.hid hpv; clear hpv
  have HWP := Lib.hid hwp; clear hwp
  go_enter Try.func9, Try.ntmps9
  go_wp2_with (first
    | (go_at_call 25; refine (refName_any _ _ hs).mono ?_; rintro e w2 ⟨rfl, rfl⟩)
    | fail)
  all_goals
    go_ret
    first
      | refine ⟨ret_i ?_, (Below.refl _ _).alloc (Nat.le_refl _) _⟩
      | refine ⟨ret_i ?_, ((Below.refl _ _).alloc (Nat.le_refl _) _).trans ((drewN_below _ _).mono (by simp))⟩
    unfold errN chkA
    generalize data.length = q at *
    first
      | (simp [*] <;> omega; done)
      | (simp [*, lngB] <;> omega)
      | (simp [*]; rename_i hz; simp at hz; omega)
set_option maxRecDepth 100000 in
set_option maxHeartbeats 8000000 in
theorem refCheck3 (w : World) (id n up : Int) (bucket key after : ByteArray) (parts : List Int) (data : List UInt8) (A1 A2 : Option Addr) (c1 c2 : Nat) (hs : bucket.size ≤ maxLen) (hks : key.size ≤ maxLen) (has : after.size ≤ maxLen) (hpv : Rd w (.slice A1 parts.length c1) parts.length 1 (parts.map (Value.int .i64))) (hwp : ∀ x ∈ parts, (Lit.int .i64 x).wf = true) (hl1 : parts.length ≤ maxLen) (hl2 : data.length ≤ maxLen) :
    Calls Try.prog 9 #[.agg #[.int .u64 id, .int .i64 3, .string bucket, .string key, .string after, .int .i64 n, .int .u64 up, .slice A1 parts.length c1, .slice A2 data.length c2]] w fun e w' => e = .returned (.int .i64 (errN (chkBB ⟨id, 3, bucket, key, after, n, up, parts, data⟩))) ∧ Below w.heap.size w w' := by
  unfold maxLen at hl1 hl2
  have hs' := hs
  have hks' := hks
  have has' := has
  unfold maxLen at hs' hks' has'
  have HPV := Lib.hid hpv; clear hpv
  have HWP := Lib.hid hwp; clear hwp
  go_enter Try.func9, Try.ntmps9
  go_wp2_with (first
    | (go_at_call 25; refine (refName_any _ _ hs).mono ?_; rintro e w2 ⟨rfl, rfl⟩)
    | (go_at_call 26; refine (refKey_any _ _ hks).mono ?_; rintro e w2 ⟨rfl, rfl⟩)
    | fail)
  all_goals
    go_ret
    first
      | refine ⟨ret_i ?_, (Below.refl _ _).alloc (Nat.le_refl _) _⟩
      | refine ⟨ret_i ?_, ((Below.refl _ _).alloc (Nat.le_refl _) _).trans ((drewN_below _ _).mono (by simp))⟩
    unfold errN chkBB
    generalize data.length = q at *
    first
      | (simp [*] <;> omega; done)
      | (simp [*, lngB] <;> omega)
      | (simp [*]; rename_i hz; simp at hz; omega)
set_option maxRecDepth 100000 in
set_option maxHeartbeats 8000000 in
theorem refCheck4 (w : World) (id n up : Int) (bucket key after : ByteArray) (parts : List Int) (data : List UInt8) (A1 A2 : Option Addr) (c1 c2 : Nat) (hs : bucket.size ≤ maxLen) (hks : key.size ≤ maxLen) (has : after.size ≤ maxLen) (hpv : Rd w (.slice A1 parts.length c1) parts.length 1 (parts.map (Value.int .i64))) (hwp : ∀ x ∈ parts, (Lit.int .i64 x).wf = true) (hl1 : parts.length ≤ maxLen) (hl2 : data.length ≤ maxLen) :
    Calls Try.prog 9 #[.agg #[.int .u64 id, .int .i64 4, .string bucket, .string key, .string after, .int .i64 n, .int .u64 up, .slice A1 parts.length c1, .slice A2 data.length c2]] w fun e w' => e = .returned (.int .i64 (errN (chkC ⟨id, 4, bucket, key, after, n, up, parts, data⟩))) ∧ Below w.heap.size w w' := by
  unfold maxLen at hl1 hl2
  have hs' := hs
  have hks' := hks
  have has' := has
  unfold maxLen at hs' hks' has'
  have HPV := Lib.hid hpv; clear hpv
  have HWP := Lib.hid hwp; clear hwp
  go_enter Try.func9, Try.ntmps9
  go_wp2_with (first
    | (go_at_call 25; refine (refName_any _ _ hs).mono ?_; rintro e w2 ⟨rfl, rfl⟩)
    | (go_at_call 26; refine (refKey_any _ _ hks).mono ?_; rintro e w2 ⟨rfl, rfl⟩)
    | fail)
  all_goals
    go_ret
    first
      | refine ⟨ret_i ?_, (Below.refl _ _).alloc (Nat.le_refl _) _⟩
      | refine ⟨ret_i ?_, ((Below.refl _ _).alloc (Nat.le_refl _) _).trans ((drewN_below _ _).mono (by simp))⟩
    unfold errN chkC
    generalize data.length = q at *
    first
      | (simp [*] <;> omega; done)
      | (simp [*, lngB] <;> omega)
      | (simp [*]; rename_i hz; simp at hz; omega)
set_option maxRecDepth 100000 in
set_option maxHeartbeats 8000000 in
theorem refCheck5 (w : World) (id n up : Int) (bucket key after : ByteArray) (parts : List Int) (data : List UInt8) (A1 A2 : Option Addr) (c1 c2 : Nat) (hs : bucket.size ≤ maxLen) (hks : key.size ≤ maxLen) (has : after.size ≤ maxLen) (hpv : Rd w (.slice A1 parts.length c1) parts.length 1 (parts.map (Value.int .i64))) (hwp : ∀ x ∈ parts, (Lit.int .i64 x).wf = true) (hl1 : parts.length ≤ maxLen) (hl2 : data.length ≤ maxLen) :
    Calls Try.prog 9 #[.agg #[.int .u64 id, .int .i64 5, .string bucket, .string key, .string after, .int .i64 n, .int .u64 up, .slice A1 parts.length c1, .slice A2 data.length c2]] w fun e w' => e = .returned (.int .i64 (errN (chkC ⟨id, 5, bucket, key, after, n, up, parts, data⟩))) ∧ Below w.heap.size w w' := by
  unfold maxLen at hl1 hl2
  have hs' := hs
  have hks' := hks
  have has' := has
  unfold maxLen at hs' hks' has'
  have HPV := Lib.hid hpv; clear hpv
  have HWP := Lib.hid hwp; clear hwp
  go_enter Try.func9, Try.ntmps9
  go_wp2_with (first
    | (go_at_call 25; refine (refName_any _ _ hs).mono ?_; rintro e w2 ⟨rfl, rfl⟩)
    | (go_at_call 26; refine (refKey_any _ _ hks).mono ?_; rintro e w2 ⟨rfl, rfl⟩)
    | fail)
  all_goals
    go_ret
    first
      | refine ⟨ret_i ?_, (Below.refl _ _).alloc (Nat.le_refl _) _⟩
      | refine ⟨ret_i ?_, ((Below.refl _ _).alloc (Nat.le_refl _) _).trans ((drewN_below _ _).mono (by simp))⟩
    unfold errN chkC
    generalize data.length = q at *
    first
      | (simp [*] <;> omega; done)
      | (simp [*, lngB] <;> omega)
      | (simp [*]; rename_i hz; simp at hz; omega)
set_option maxRecDepth 100000 in
set_option maxHeartbeats 8000000 in
theorem refCheck6 (w : World) (id n up : Int) (bucket key after : ByteArray) (parts : List Int) (data : List UInt8) (A1 A2 : Option Addr) (c1 c2 : Nat) (hs : bucket.size ≤ maxLen) (hks : key.size ≤ maxLen) (has : after.size ≤ maxLen) (hpv : Rd w (.slice A1 parts.length c1) parts.length 1 (parts.map (Value.int .i64))) (hwp : ∀ x ∈ parts, (Lit.int .i64 x).wf = true) (hl1 : parts.length ≤ maxLen) (hl2 : data.length ≤ maxLen) :
    Calls Try.prog 9 #[.agg #[.int .u64 id, .int .i64 6, .string bucket, .string key, .string after, .int .i64 n, .int .u64 up, .slice A1 parts.length c1, .slice A2 data.length c2]] w fun e w' => e = .returned (.int .i64 (errN (chkD ⟨id, 6, bucket, key, after, n, up, parts, data⟩))) ∧ Below w.heap.size w w' := by
  unfold maxLen at hl1 hl2
  have hs' := hs
  have hks' := hks
  have has' := has
  unfold maxLen at hs' hks' has'
  have HPV := Lib.hid hpv; clear hpv
  have HWP := Lib.hid hwp; clear hwp
  go_enter Try.func9, Try.ntmps9
  go_wp2_with (first
    | (go_at_call 25; refine (refName_any _ _ hs).mono ?_; rintro e w2 ⟨rfl, rfl⟩)
    | fail)
  all_goals
    go_ret
    first
      | refine ⟨ret_i ?_, (Below.refl _ _).alloc (Nat.le_refl _) _⟩
      | refine ⟨ret_i ?_, ((Below.refl _ _).alloc (Nat.le_refl _) _).trans ((drewN_below _ _).mono (by simp))⟩
    unfold errN chkD
    generalize data.length = q at *
    first
      | (simp [*] <;> omega; done)
      | (simp [*, lngB] <;> omega)
      | (simp [*]; rename_i hz; simp at hz; omega)
set_option maxRecDepth 100000 in
set_option maxHeartbeats 8000000 in
theorem refCheck7 (w : World) (id n up : Int) (bucket key after : ByteArray) (parts : List Int) (data : List UInt8) (A1 A2 : Option Addr) (c1 c2 : Nat) (hs : bucket.size ≤ maxLen) (hks : key.size ≤ maxLen) (has : after.size ≤ maxLen) (hpv : Rd w (.slice A1 parts.length c1) parts.length 1 (parts.map (Value.int .i64))) (hwp : ∀ x ∈ parts, (Lit.int .i64 x).wf = true) (hl1 : parts.length ≤ maxLen) (hl2 : data.length ≤ maxLen) :
    Calls Try.prog 9 #[.agg #[.int .u64 id, .int .i64 7, .string bucket, .string key, .string after, .int .i64 n, .int .u64 up, .slice A1 parts.length c1, .slice A2 data.length c2]] w fun e w' => e = .returned (.int .i64 (errN (chkC ⟨id, 7, bucket, key, after, n, up, parts, data⟩))) ∧ Below w.heap.size w w' := by
  unfold maxLen at hl1 hl2
  have hs' := hs
  have hks' := hks
  have has' := has
  unfold maxLen at hs' hks' has'
  have HPV := Lib.hid hpv; clear hpv
  have HWP := Lib.hid hwp; clear hwp
  go_enter Try.func9, Try.ntmps9
  go_wp2_with (first
    | (go_at_call 25; refine (refName_any _ _ hs).mono ?_; rintro e w2 ⟨rfl, rfl⟩)
    | (go_at_call 26; refine (refKey_any _ _ hks).mono ?_; rintro e w2 ⟨rfl, rfl⟩)
    | fail)
  all_goals
    go_ret
    first
      | refine ⟨ret_i ?_, (Below.refl _ _).alloc (Nat.le_refl _) _⟩
      | refine ⟨ret_i ?_, ((Below.refl _ _).alloc (Nat.le_refl _) _).trans ((drewN_below _ _).mono (by simp))⟩
    unfold errN chkC
    generalize data.length = q at *
    first
      | (simp [*] <;> omega; done)
      | (simp [*, lngB] <;> omega)
      | (simp [*]; rename_i hz; simp at hz; omega)
set_option maxRecDepth 100000 in
set_option maxHeartbeats 8000000 in
theorem refCheck8 (w : World) (id n up : Int) (bucket key after : ByteArray) (parts : List Int) (data : List UInt8) (A1 A2 : Option Addr) (c1 c2 : Nat) (hs : bucket.size ≤ maxLen) (hks : key.size ≤ maxLen) (has : after.size ≤ maxLen) (hpv : Rd w (.slice A1 parts.length c1) parts.length 1 (parts.map (Value.int .i64))) (hwp : ∀ x ∈ parts, (Lit.int .i64 x).wf = true) (hl1 : parts.length ≤ maxLen) (hl2 : data.length ≤ maxLen) :
    Calls Try.prog 9 #[.agg #[.int .u64 id, .int .i64 8, .string bucket, .string key, .string after, .int .i64 n, .int .u64 up, .slice A1 parts.length c1, .slice A2 data.length c2]] w fun e w' => e = .returned (.int .i64 (errN (chkE ⟨id, 8, bucket, key, after, n, up, parts, data⟩))) ∧ Below w.heap.size w w' := by
  unfold maxLen at hl1 hl2
  have hs' := hs
  have hks' := hks
  have has' := has
  unfold maxLen at hs' hks' has'
  have HPV := Lib.hid hpv; clear hpv
  have HWP := Lib.hid hwp; clear hwp
  go_enter Try.func9, Try.ntmps9
  go_wp2_with (first
    | fail)
  all_goals
    go_ret
    first
      | refine ⟨ret_i ?_, (Below.refl _ _).alloc (Nat.le_refl _) _⟩
      | refine ⟨ret_i ?_, ((Below.refl _ _).alloc (Nat.le_refl _) _).trans ((drewN_below _ _).mono (by simp))⟩
    unfold errN chkE
    generalize data.length = q at *
    first
      | (simp [*] <;> omega; done)
      | (simp [*, lngB] <;> omega)
      | (simp [*]; rename_i hz; simp at hz; omega)
set_option maxRecDepth 100000 in
set_option maxHeartbeats 8000000 in
theorem refCheck9 (w : World) (id n up : Int) (bucket key after : ByteArray) (parts : List Int) (data : List UInt8) (A1 A2 : Option Addr) (c1 c2 : Nat) (hs : bucket.size ≤ maxLen) (hks : key.size ≤ maxLen) (has : after.size ≤ maxLen) (hpv : Rd w (.slice A1 parts.length c1) parts.length 1 (parts.map (Value.int .i64))) (hwp : ∀ x ∈ parts, (Lit.int .i64 x).wf = true) (hl1 : parts.length ≤ maxLen) (hl2 : data.length ≤ maxLen) :
    Calls Try.prog 9 #[.agg #[.int .u64 id, .int .i64 9, .string bucket, .string key, .string after, .int .i64 n, .int .u64 up, .slice A1 parts.length c1, .slice A2 data.length c2]] w fun e w' => e = .returned (.int .i64 (errN (chkG ⟨id, 9, bucket, key, after, n, up, parts, data⟩))) ∧ Below w.heap.size w w' := by
  unfold maxLen at hl1 hl2
  have hs' := hs
  have hks' := hks
  have has' := has
  unfold maxLen at hs' hks' has'
  have HPV := Lib.hid hpv; clear hpv
  have HWP := Lib.hid hwp; clear hwp
  go_enter Try.func9, Try.ntmps9
  go_wp2_with (first
    | (go_at_call 27; refine (refParts_any _ parts _ (Rd.below HPV.out ((Below.refl _ _).alloc (Nat.le_refl _) _)) HWP.out).mono ?_; rintro e w2 ⟨rfl, n2, rfl⟩)
    | fail)
  all_goals
    go_ret
    first
      | refine ⟨ret_i ?_, (Below.refl _ _).alloc (Nat.le_refl _) _⟩
      | refine ⟨ret_i ?_, ((Below.refl _ _).alloc (Nat.le_refl _) _).trans ((drewN_below _ _).mono (by simp))⟩
    unfold errN chkG
    generalize data.length = q at *
    first
      | (simp [*] <;> omega; done)
      | (simp [*, lngB] <;> omega)
      | (simp [*]; rename_i hz; simp at hz; omega)
set_option maxRecDepth 100000 in
set_option maxHeartbeats 8000000 in
theorem refCheck10 (w : World) (id n up : Int) (bucket key after : ByteArray) (parts : List Int) (data : List UInt8) (A1 A2 : Option Addr) (c1 c2 : Nat) (hs : bucket.size ≤ maxLen) (hks : key.size ≤ maxLen) (has : after.size ≤ maxLen) (hpv : Rd w (.slice A1 parts.length c1) parts.length 1 (parts.map (Value.int .i64))) (hwp : ∀ x ∈ parts, (Lit.int .i64 x).wf = true) (hl1 : parts.length ≤ maxLen) (hl2 : data.length ≤ maxLen) :
    Calls Try.prog 9 #[.agg #[.int .u64 id, .int .i64 10, .string bucket, .string key, .string after, .int .i64 n, .int .u64 up, .slice A1 parts.length c1, .slice A2 data.length c2]] w fun e w' => e = .returned (.int .i64 (errN (chkH ⟨id, 10, bucket, key, after, n, up, parts, data⟩))) ∧ Below w.heap.size w w' := by
  unfold maxLen at hl1 hl2
  have hs' := hs
  have hks' := hks
  have has' := has
  unfold maxLen at hs' hks' has'
  have HPV := Lib.hid hpv; clear hpv
  have HWP := Lib.hid hwp; clear hwp
  go_enter Try.func9, Try.ntmps9
  go_wp2_with (first
    | fail)
  all_goals
    go_ret
    first
      | refine ⟨ret_i ?_, (Below.refl _ _).alloc (Nat.le_refl _) _⟩
      | refine ⟨ret_i ?_, ((Below.refl _ _).alloc (Nat.le_refl _) _).trans ((drewN_below _ _).mono (by simp))⟩
    unfold errN chkH
    generalize data.length = q at *
    first
      | (simp [*] <;> omega; done)
      | (simp [*, lngB] <;> omega)
      | (simp [*]; rename_i hz; simp at hz; omega)
set_option maxRecDepth 100000 in
set_option maxHeartbeats 8000000 in
theorem refCheck0 (w : World) (kind : Int) (id n up : Int) (bucket key after : ByteArray) (parts : List Int) (data : List UInt8) (A1 A2 : Option Addr) (c1 c2 : Nat) (hs : bucket.size ≤ maxLen) (hks : key.size ≤ maxLen) (has : after.size ≤ maxLen) (hpv : Rd w (.slice A1 parts.length c1) parts.length 1 (parts.map (Value.int .i64))) (hwp : ∀ x ∈ parts, (Lit.int .i64 x).wf = true) (hl1 : parts.length ≤ maxLen) (hl2 : data.length ≤ maxLen) (hk : ¬ (kind = 1 ∨ kind = 2) ∧ ¬ kind = 3 ∧ ¬ (kind = 4 ∨ kind = 5 ∨ kind = 7) ∧ ¬ kind = 6 ∧ ¬ kind = 8 ∧ ¬ kind = 9 ∧ ¬ kind = 10) :
    Calls Try.prog 9 #[.agg #[.int .u64 id, .int .i64 kind, .string bucket, .string key, .string after, .int .i64 n, .int .u64 up, .slice A1 parts.length c1, .slice A2 data.length c2]] w fun e w' => e = .returned (.int .i64 (errN (chkZ ⟨id, kind, bucket, key, after, n, up, parts, data⟩))) ∧ Below w.heap.size w w' := by
  unfold maxLen at hl1 hl2
  have hs' := hs
  have hks' := hks
  have has' := has
  unfold maxLen at hs' hks' has'
  have HPV := Lib.hid hpv; clear hpv
  have HWP := Lib.hid hwp; clear hwp
  obtain ⟨q1, q2, q3, q4, q5, q6, q7⟩ := hk
  have e1 : (kind == 1) = false := by simp; omega
  have e2 : (kind == 2) = false := by simp; omega
  have e3 : (kind == 3) = false := by simp; omega
  have e4 : (kind == 4) = false := by simp; omega
  have e5 : (kind == 5) = false := by simp; omega
  have e6 : (kind == 6) = false := by simp; omega
  have e7 : (kind == 7) = false := by simp; omega
  have e8 : (kind == 8) = false := by simp; omega
  have e9 : (kind == 9) = false := by simp; omega
  have e10 : (kind == 10) = false := by simp; omega
  clear q1 q2 q3 q4 q5 q6 q7
  go_enter Try.func9, Try.ntmps9
  go_wp2_with (first
    | fail)
  all_goals
    go_ret
    first
      | refine ⟨ret_i ?_, (Below.refl _ _).alloc (Nat.le_refl _) _⟩
      | refine ⟨ret_i ?_, ((Below.refl _ _).alloc (Nat.le_refl _) _).trans ((drewN_below _ _).mono (by simp))⟩
    unfold errN chkZ
    generalize data.length = q at *
    first
      | (simp [*] <;> omega; done)
      | (simp [*, lngB] <;> omega)
      | (simp [*]; rename_i hz; simp at hz; omega)
end Go.Proofs.Ytkbmecjpjphngaa
