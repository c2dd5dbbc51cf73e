/-
  Check, by program (genchk.py): one walk for each set of fields that a kind may have.
-/
import Derived.Test.YtkbmecjpjphngaaBChk
set_option linter.unusedVariables false
set_option linter.unusedSimpArgs false
namespace Go.Proofs.Ytkbmecjpjphngaa
open Go.RowKit Go.Maps

/-- The error's number. -/
def errN (b : Bool) : Int := if b then 0 else 1
theorem ret_i {a b : Int} (h : a = b) : Ending.returned (.int .i64 a) = .returned (.int .i64 b) := by rw [h]
theorem two_boxes {w w1 : World} {x y : Obj} (hb : Below (w.alloc x).heap.size (w.alloc x) w1) : Below w.heap.size w (w1.alloc y) :=
  (((Below.refl _ _).alloc (Nat.le_refl _) _).trans (hb.mono (by simp))).alloc (by have := hb.size; simp at this; omega) _
def chkA (o : OpC) : Bool := nameB o.bucket && decide (o.key.toList = []) && decide (o.after.toList = []) && decide (o.n = 0) && decide (o.up = 0) && decide (o.parts.length = 0) && decide (o.data.length = 0)
def chkBB (o : OpC) : Bool := nameB o.bucket && lngB o.key 1 1024 && decide (o.after.toList = []) && decide (o.n = 0) && decide (o.up = 0) && decide (o.parts.length = 0) && decide (o.data.length ≤ 16777216)
def chkC (o : OpC) : Bool := nameB o.bucket && lngB o.key 1 1024 && decide (o.after.toList = []) && decide (o.n = 0) && decide (o.up = 0) && decide (o.parts.length = 0) && decide (o.data.length = 0)
def chkD (o : OpC) : Bool := nameB o.bucket && lngB o.key 0 1024 && lngB o.after 0 1024 && decide (1 ≤ o.n) && decide (o.n ≤ 1000) && decide (o.up = 0) && decide (o.parts.length = 0) && decide (o.data.length = 0)
def chkE (o : OpC) : Bool := decide (o.bucket.toList = []) && decide (o.key.toList = []) && decide (o.after.toList = []) && decide (1 ≤ o.n) && decide (o.n ≤ 10000) && decide (o.parts.length = 0) && decide (o.data.length ≤ 16777216)
def chkG (o : OpC) : Bool := decide (o.bucket.toList = []) && decide (o.key.toList = []) && decide (o.after.toList = []) && decide (o.n = 0) && partsB o.parts && decide (o.data.length = 0)
def chkH (o : OpC) : Bool := decide (o.bucket.toList = []) && decide (o.key.toList = []) && decide (o.after.toList = []) && decide (o.n = 0) && decide (o.parts.length = 0) && decide (o.data.length = 0)
def chkZ (o : OpC) : Bool := false
set_option maxRecDepth 100000 in
set_option maxHeartbeats 8000000 in
theorem checkA (w : World) (o : OpC) (A1 A2 : Option Addr) (c1 c2 : Nat) (hs : o.bucket.size ≤ maxLen) (hks : o.key.size ≤ maxLen) (has : o.after.size ≤ maxLen) (hpv : Rd w (.slice A1 o.parts.length c1) o.parts.length 1 (o.parts.map (Value.int .i64))) (hwp : ∀ x ∈ o.parts, (Lit.int .i64 x).wf = true) (hl1 : o.parts.length ≤ maxLen) (hl2 : o.data.length ≤ maxLen)
    (hf : fldV o.kind = fieldsV true false false false false false false true) :
    Calls Try.prog 8 #[.agg #[.int .u64 o.id, .int .i64 o.kind, .string o.bucket, .string o.key, .string o.after, .int .i64 o.n, .int .u64 o.up, .slice A1 o.parts.length c1, .slice A2 o.data.length c2]] w fun e w' => e = .returned (.int .i64 (errN (chkA o))) ∧ Below w.heap.size w w' := by
  unfold maxLen at hl1 hl2
  have HPV := Lib.hid hpv; clear hpv
  have HWP := Lib.hid hwp; clear hwp
  have HF := Lib.hid hf; clear hf
  go_enter Try.func8, Try.ntmps8
  go_wp2_with (first
    | (go_at_call 21; refine (fields_any _ _).mono ?_; rintro e w1 ⟨rfl, hb1⟩; have HO1 := Lib.hid ((hb1.block w.heap.size (by simp)).trans (heap_alloc_new _ _)); have HB1 := Lib.hid hb1; clear hb1; obtain ⟨o0, o1, o2, o3, o4, o5, o6, o7, o8, of⟩ := cells9 HO1.out; have hz : w.heap.size < w1.heap.size := block_lt HO1.out; rw [HF.out]; simp only [fieldsV])
    | (go_at_call 22; refine (named_any _ _ hs).mono ?_; rintro e w2 ⟨rfl, rfl⟩)
    | fail)
  all_goals
    clear o0 o1 o2 o3 o4 o5 o6 o7 o8 of
    go_ret
    refine ⟨ret_i ?_, two_boxes HB1.out⟩
    unfold errN chkA
    generalize o.data.length = q at *
    simp [*] <;> omega
set_option maxRecDepth 100000 in
set_option maxHeartbeats 8000000 in
theorem checkB (w : World) (o : OpC) (A1 A2 : Option Addr) (c1 c2 : Nat) (hs : o.bucket.size ≤ maxLen) (hks : o.key.size ≤ maxLen) (has : o.after.size ≤ maxLen) (hpv : Rd w (.slice A1 o.parts.length c1) o.parts.length 1 (o.parts.map (Value.int .i64))) (hwp : ∀ x ∈ o.parts, (Lit.int .i64 x).wf = true) (hl1 : o.parts.length ≤ maxLen) (hl2 : o.data.length ≤ maxLen)
    (hf : fldV o.kind = fieldsV true true false false false false true true) :
    Calls Try.prog 8 #[.agg #[.int .u64 o.id, .int .i64 o.kind, .string o.bucket, .string o.key, .string o.after, .int .i64 o.n, .int .u64 o.up, .slice A1 o.parts.length c1, .slice A2 o.data.length c2]] w fun e w' => e = .returned (.int .i64 (errN (chkBB o))) ∧ Below w.heap.size w w' := by
  unfold maxLen at hl1 hl2
  have HPV := Lib.hid hpv; clear hpv
  have HWP := Lib.hid hwp; clear hwp
  have HF := Lib.hid hf; clear hf
  go_enter Try.func8, Try.ntmps8
  go_wp2_with (first
    | (go_at_call 21; refine (fields_any _ _).mono ?_; rintro e w1 ⟨rfl, hb1⟩; have HO1 := Lib.hid ((hb1.block w.heap.size (by simp)).trans (heap_alloc_new _ _)); have HB1 := Lib.hid hb1; clear hb1; obtain ⟨o0, o1, o2, o3, o4, o5, o6, o7, o8, of⟩ := cells9 HO1.out; have hz : w.heap.size < w1.heap.size := block_lt HO1.out; rw [HF.out]; simp only [fieldsV])
    | (go_at_call 22; refine (named_any _ _ hs).mono ?_; rintro e w2 ⟨rfl, rfl⟩)
    | (go_at_call 23; refine (long_any _ _ _ _ hks).mono ?_; rintro e w2 ⟨rfl, rfl⟩)
    | fail)
  all_goals
    clear o0 o1 o2 o3 o4 o5 o6 o7 o8 of
    go_ret
    refine ⟨ret_i ?_, two_boxes HB1.out⟩
    unfold errN chkBB
    generalize o.data.length = q at *
    simp [*] <;> omega
set_option maxRecDepth 100000 in
set_option maxHeartbeats 8000000 in
theorem checkC (w : World) (o : OpC) (A1 A2 : Option Addr) (c1 c2 : Nat) (hs : o.bucket.size ≤ maxLen) (hks : o.key.size ≤ maxLen) (has : o.after.size ≤ maxLen) (hpv : Rd w (.slice A1 o.parts.length c1) o.parts.length 1 (o.parts.map (Value.int .i64))) (hwp : ∀ x ∈ o.parts, (Lit.int .i64 x).wf = true) (hl1 : o.parts.length ≤ maxLen) (hl2 : o.data.length ≤ maxLen)
    (hf : fldV o.kind = fieldsV true true false false false false false true) :
    Calls Try.prog 8 #[.agg #[.int .u64 o.id, .int .i64 o.kind, .string o.bucket, .string o.key, .string o.after, .int .i64 o.n, .int .u64 o.up, .slice A1 o.parts.length c1, .slice A2 o.data.length c2]] w fun e w' => e = .returned (.int .i64 (errN (chkC o))) ∧ Below w.heap.size w w' := by
  unfold maxLen at hl1 hl2
  have HPV := Lib.hid hpv; clear hpv
  have HWP := Lib.hid hwp; clear hwp
  have HF := Lib.hid hf; clear hf
  go_enter Try.func8, Try.ntmps8
  go_wp2_with (first
    | (go_at_call 21; refine (fields_any _ _).mono ?_; rintro e w1 ⟨rfl, hb1⟩; have HO1 := Lib.hid ((hb1.block w.heap.size (by simp)).trans (heap_alloc_new _ _)); have HB1 := Lib.hid hb1; clear hb1; obtain ⟨o0, o1, o2, o3, o4, o5, o6, o7, o8, of⟩ := cells9 HO1.out; have hz : w.heap.size < w1.heap.size := block_lt HO1.out; rw [HF.out]; simp only [fieldsV])
    | (go_at_call 22; refine (named_any _ _ hs).mono ?_; rintro e w2 ⟨rfl, rfl⟩)
    | (go_at_call 23; refine (long_any _ _ _ _ hks).mono ?_; rintro e w2 ⟨rfl, rfl⟩)
    | fail)
  all_goals
    clear o0 o1 o2 o3 o4 o5 o6 o7 o8 of
    go_ret
    refine ⟨ret_i ?_, two_boxes HB1.out⟩
    unfold errN chkC
    generalize o.data.length = q at *
    simp [*] <;> omega
set_option maxRecDepth 100000 in
set_option maxHeartbeats 8000000 in
theorem checkD (w : World) (o : OpC) (A1 A2 : Option Addr) (c1 c2 : Nat) (hs : o.bucket.size ≤ maxLen) (hks : o.key.size ≤ maxLen) (has : o.after.size ≤ maxLen) (hpv : Rd w (.slice A1 o.parts.length c1) o.parts.length 1 (o.parts.map (Value.int .i64))) (hwp : ∀ x ∈ o.parts, (Lit.int .i64 x).wf = true) (hl1 : o.parts.length ≤ maxLen) (hl2 : o.data.length ≤ maxLen)
    (hf : fldV o.kind = fieldsV true false true false false false false true) :
    Calls Try.prog 8 #[.agg #[.int .u64 o.id, .int .i64 o.kind, .string o.bucket, .string o.key, .string o.after, .int .i64 o.n, .int .u64 o.up, .slice A1 o.parts.length c1, .slice A2 o.data.length c2]] w fun e w' => e = .returned (.int .i64 (errN (chkD o))) ∧ Below w.heap.size w w' := by
  unfold maxLen at hl1 hl2
  have HPV := Lib.hid hpv; clear hpv
  have HWP := Lib.hid hwp; clear hwp
  have HF := Lib.hid hf; clear hf
  go_enter Try.func8, Try.ntmps8
  go_wp2_with (first
    | (go_at_call 21; refine (fields_any _ _).mono ?_; rintro e w1 ⟨rfl, hb1⟩; have HO1 := Lib.hid ((hb1.block w.heap.size (by simp)).trans (heap_alloc_new _ _)); have HB1 := Lib.hid hb1; clear hb1; obtain ⟨o0, o1, o2, o3, o4, o5, o6, o7, o8, of⟩ := cells9 HO1.out; have hz : w.heap.size < w1.heap.size := block_lt HO1.out; rw [HF.out]; simp only [fieldsV])
    | (go_at_call 22; refine (named_any _ _ hs).mono ?_; rintro e w2 ⟨rfl, rfl⟩)
    | (go_at_call_of 23 (Value.string o.key); refine (long_any _ _ _ _ hks).mono ?_; rintro e w2 ⟨rfl, rfl⟩)
    | (go_at_call_of 23 (Value.string o.after); refine (long_any _ _ _ _ has).mono ?_; rintro e w2 ⟨rfl, rfl⟩)
    | fail)
  all_goals
    clear o0 o1 o2 o3 o4 o5 o6 o7 o8 of
    go_ret
    refine ⟨ret_i ?_, two_boxes HB1.out⟩
    unfold errN chkD
    generalize o.data.length = q at *
    simp [*] <;> omega
set_option maxRecDepth 100000 in
set_option maxHeartbeats 8000000 in
theorem checkE (w : World) (o : OpC) (A1 A2 : Option Addr) (c1 c2 : Nat) (hs : o.bucket.size ≤ maxLen) (hks : o.key.size ≤ maxLen) (has : o.after.size ≤ maxLen) (hpv : Rd w (.slice A1 o.parts.length c1) o.parts.length 1 (o.parts.map (Value.int .i64))) (hwp : ∀ x ∈ o.parts, (Lit.int .i64 x).wf = true) (hl1 : o.parts.length ≤ maxLen) (hl2 : o.data.length ≤ maxLen)
    (hf : fldV o.kind = fieldsV false false false true true false true true) :
    Calls Try.prog 8 #[.agg #[.int .u64 o.id, .int .i64 o.kind, .string o.bucket, .string o.key, .string o.after, .int .i64 o.n, .int .u64 o.up, .slice A1 o.parts.length c1, .slice A2 o.data.length c2]] w fun e w' => e = .returned (.int .i64 (errN (chkE o))) ∧ Below w.heap.size w w' := by
  unfold maxLen at hl1 hl2
  have HPV := Lib.hid hpv; clear hpv
  have HWP := Lib.hid hwp; clear hwp
  have HF := Lib.hid hf; clear hf
  go_enter Try.func8, Try.ntmps8
  go_wp2_with (first
    | (go_at_call 21; refine (fields_any _ _).mono ?_; rintro e w1 ⟨rfl, hb1⟩; have HO1 := Lib.hid ((hb1.block w.heap.size (by simp)).trans (heap_alloc_new _ _)); have HB1 := Lib.hid hb1; clear hb1; obtain ⟨o0, o1, o2, o3, o4, o5, o6, o7, o8, of⟩ := cells9 HO1.out; have hz : w.heap.size < w1.heap.size := block_lt HO1.out; rw [HF.out]; simp only [fieldsV])
    | fail)
  all_goals
    clear o0 o1 o2 o3 o4 o5 o6 o7 o8 of
    go_ret
    refine ⟨ret_i ?_, two_boxes HB1.out⟩
    unfold errN chkE
    generalize o.data.length = q at *
    simp [*] <;> omega
set_option maxRecDepth 100000 in
set_option maxHeartbeats 8000000 in
theorem checkG (w : World) (o : OpC) (A1 A2 : Option Addr) (c1 c2 : Nat) (hs : o.bucket.size ≤ maxLen) (hks : o.key.size ≤ maxLen) (has : o.after.size ≤ maxLen) (hpv : Rd w (.slice A1 o.parts.length c1) o.parts.length 1 (o.parts.map (Value.int .i64))) (hwp : ∀ x ∈ o.parts, (Lit.int .i64 x).wf = true) (hl1 : o.parts.length ≤ maxLen) (hl2 : o.data.length ≤ maxLen)
    (hf : fldV o.kind = fieldsV false false false true false true false true) :
    Calls Try.prog 8 #[.agg #[.int .u64 o.id, .int .i64 o.kind, .string o.bucket, .string o.key, .string o.after, .int .i64 o.n, .int .u64 o.up, .slice A1 o.parts.length c1, .slice A2 o.data.length c2]] w fun e w' => e = .returned (.int .i64 (errN (chkG o))) ∧ Below w.heap.size w w' := by
  unfold maxLen at hl1 hl2
  have HPV := Lib.hid hpv; clear hpv
  have HWP := Lib.hid hwp; clear hwp
  have HF := Lib.hid hf; clear hf
  go_enter Try.func8, Try.ntmps8
  go_wp2_with (first
    | (go_at_call 21; refine (fields_any _ _).mono ?_; rintro e w1 ⟨rfl, hb1⟩; have HO1 := Lib.hid ((hb1.block w.heap.size (by simp)).trans (heap_alloc_new _ _)); have HB1 := Lib.hid hb1; clear hb1; obtain ⟨o0, o1, o2, o3, o4, o5, o6, o7, o8, of⟩ := cells9 HO1.out; have hz : w.heap.size < w1.heap.size := block_lt HO1.out; rw [HF.out]; simp only [fieldsV])
    | (go_at_call 24; refine (rising_any _ o.parts _ (Rd.below HPV.out (((Below.refl _ _).alloc (Nat.le_refl _) _).trans ((HB1.out.mono (by simp)).trans (((Below.refl _ _).alloc (Nat.le_refl _) _).mono (by have := HB1.out.size; simp at this; omega))))) HWP.out).mono ?_; rintro e w2 ⟨rfl, rfl⟩)
    | fail)
  all_goals
    clear o0 o1 o2 o3 o4 o5 o6 o7 o8 of
    go_ret
    refine ⟨ret_i ?_, two_boxes HB1.out⟩
    unfold errN chkG
    generalize o.data.length = q at *
    simp [*] <;> omega
set_option maxRecDepth 100000 in
set_option maxHeartbeats 8000000 in
theorem checkH (w : World) (o : OpC) (A1 A2 : Option Addr) (c1 c2 : Nat) (hs : o.bucket.size ≤ maxLen) (hks : o.key.size ≤ maxLen) (has : o.after.size ≤ maxLen) (hpv : Rd w (.slice A1 o.parts.length c1) o.parts.length 1 (o.parts.map (Value.int .i64))) (hwp : ∀ x ∈ o.parts, (Lit.int .i64 x).wf = true) (hl1 : o.parts.length ≤ maxLen) (hl2 : o.data.length ≤ maxLen)
    (hf : fldV o.kind = fieldsV false false false true false false false true) :
    Calls Try.prog 8 #[.agg #[.int .u64 o.id, .int .i64 o.kind, .string o.bucket, .string o.key, .string o.after, .int .i64 o.n, .int .u64 o.up, .slice A1 o.parts.length c1, .slice A2 o.data.length c2]] w fun e w' => e = .returned (.int .i64 (errN (chkH o))) ∧ Below w.heap.size w w' := by
  unfold maxLen at hl1 hl2
  have HPV := Lib.hid hpv; clear hpv
  have HWP := Lib.hid hwp; clear hwp
  have HF := Lib.hid hf; clear hf
  go_enter Try.func8, Try.ntmps8
  go_wp2_with (first
    | (go_at_call 21; refine (fields_any _ _).mono ?_; rintro e w1 ⟨rfl, hb1⟩; have HO1 := Lib.hid ((hb1.block w.heap.size (by simp)).trans (heap_alloc_new _ _)); have HB1 := Lib.hid hb1; clear hb1; obtain ⟨o0, o1, o2, o3, o4, o5, o6, o7, o8, of⟩ := cells9 HO1.out; have hz : w.heap.size < w1.heap.size := block_lt HO1.out; rw [HF.out]; simp only [fieldsV])
    | fail)
  all_goals
    clear o0 o1 o2 o3 o4 o5 o6 o7 o8 of
    go_ret
    refine ⟨ret_i ?_, two_boxes HB1.out⟩
    unfold errN chkH
    generalize o.data.length = q at *
    simp [*] <;> omega
set_option maxRecDepth 100000 in
set_option maxHeartbeats 8000000 in
theorem checkZ (w : World) (o : OpC) (A1 A2 : Option Addr) (c1 c2 : Nat) (hs : o.bucket.size ≤ maxLen) (hks : o.key.size ≤ maxLen) (has : o.after.size ≤ maxLen) (hpv : Rd w (.slice A1 o.parts.length c1) o.parts.length 1 (o.parts.map (Value.int .i64))) (hwp : ∀ x ∈ o.parts, (Lit.int .i64 x).wf = true) (hl1 : o.parts.length ≤ maxLen) (hl2 : o.data.length ≤ maxLen)
    (hf : fldV o.kind = fieldsV false false false false false false false false) :
    Calls Try.prog 8 #[.agg #[.int .u64 o.id, .int .i64 o.kind, .string o.bucket, .string o.key, .string o.after, .int .i64 o.n, .int .u64 o.up, .slice A1 o.parts.length c1, .slice A2 o.data.length c2]] w fun e w' => e = .returned (.int .i64 (errN (chkZ o))) ∧ Below w.heap.size w w' := by
  unfold maxLen at hl1 hl2
  have HPV := Lib.hid hpv; clear hpv
  have HWP := Lib.hid hwp; clear hwp
  have HF := Lib.hid hf; clear hf
  go_enter Try.func8, Try.ntmps8
  go_wp2_with (first
    | (go_at_call 21; refine (fields_any _ _).mono ?_; rintro e w1 ⟨rfl, hb1⟩; have HO1 := Lib.hid ((hb1.block w.heap.size (by simp)).trans (heap_alloc_new _ _)); have HB1 := Lib.hid hb1; clear hb1; obtain ⟨o0, o1, o2, o3, o4, o5, o6, o7, o8, of⟩ := cells9 HO1.out; have hz : w.heap.size < w1.heap.size := block_lt HO1.out; rw [HF.out]; simp only [fieldsV])
    | fail)
  all_goals
    clear o0 o1 o2 o3 o4 o5 o6 o7 o8 of
    go_ret
    refine ⟨ret_i ?_, two_boxes HB1.out⟩
    unfold errN chkZ
    generalize o.data.length = q at *
    simp [*] <;> omega
end Go.Proofs.Ytkbmecjpjphngaa
