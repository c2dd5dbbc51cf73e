/-
  The law BucketChecks.
-/
import Derived.Test.YtkbmecjpjphngaaBRef3
import Derived.Test.YtkbmecjpjphngaaBKnown
set_option linter.unusedVariables false
set_option linter.unusedSimpArgs false
namespace Go.Proofs.Ytkbmecjpjphngaa.bucketChecks
open Go.Proofs.Ytkbmecjpjphngaa
open Go.RowKit Go.Maps

theorem errN_01 (b : Bool) : errN b = 0 ∨ errN b = 1 := by cases b <;> simp [errN]
theorem op_below {w w' : World} {v : Value} {o : OpC} (h : OpR w v o) (hb : Below w.heap.size w w') : OpR w' v o := by
  obtain ⟨pv, dv, e, h1, h2, h3⟩ := h
  exact ⟨pv, dv, e, Rd.below h1 hb, RdB.below h2 hb, h3⟩
set_option maxRecDepth 100000 in
set_option maxHeartbeats 4000000 in
theorem walk (v : Value) (o : OpC) (w : World) (h : OpR w v o) :
    Calls Try.prog 3 #[v] w fun e w' => e = .returned (.bool true) ∧ Below w.heap.size w w' := by
  have h0 := h
  obtain ⟨pv, dv, rfl, hpv, hdv, hwi, hwk, hwn, hwu, hwp, hs, hks, has⟩ := h
  obtain ⟨A1, c1, rfl, a1, a2, _⟩ := Rd.form hpv
  obtain ⟨A2, c2, rfl, b1, b2, _⟩ := Rd.form hdv
  have l1 : o.parts.length ≤ maxLen := Nat.le_trans a1 a2
  have l2 : o.data.length ≤ maxLen := Nat.le_trans b1 b2
  unfold maxLen at l1 l2
  have HO := Lib.hid h0
  clear hpv hdv hwp hs hks has h0 a1 a2 b1 b2
  go_enter Try.func3, Try.ntmps3
  go_wp2_with fail
  refine (known_walk15 _).mono ?_
  rintro e w1 ⟨rfl, hb1⟩
  have HE1 := Lib.hid ((hb1.block w.heap.size (by simp)).trans (heap_alloc_new _ _))
  have hB1 : Below w.heap.size w w1 := ((Below.refl _ _).alloc (Nat.le_refl _) _).trans (hb1.mono (by simp))
  have HB1 := Lib.hid hB1
  have hz1 := block_lt HE1.out
  clear hb1 hB1
  obtain ⟨o0, o1, o2, o3, o4, o5, o6, o7, o8, of⟩ := cells9 HE1.out
  by_cases g1 : (20000 : Int) < o.parts.length
  · go_wp2_with fail
    go_ret
    exact ⟨rfl, HB1.out⟩
  by_cases g2 : (33554432 : Int) < o.data.length
  · go_wp2_with fail
    go_ret
    exact ⟨rfl, HB1.out⟩
  go_wp2_with fail
  go_region_with (first
    | (go_at_call 8; refine (check_any _ _ o (op_below HO.out HB1.out.drew)).mono ?_; rintro e w2 ⟨rfl, hb2⟩; have HE2 := Lib.hid ((hb2.block w.heap.size (by simp; omega)).trans HE1.out); have HB2 := Lib.hid (HB1.out.drew.trans (hb2.mono (by simp; omega))); have hz2 := block_lt HE2.out; clear hb2; obtain ⟨p0, p1, p2, p3, p4, p5, p6, p7, p8, pf⟩ := cells9 HE2.out)
    | (go_at_call 9; refine (refCheck_any _ _ o (op_below HO.out HB2.out)).mono ?_; rintro e w3 ⟨rfl, hb3⟩; have HE3 := Lib.hid ((hb3.block w.heap.size (by omega)).trans HE2.out); have HB3 := Lib.hid (HB2.out.trans (hb3.mono (by omega))); have hz3 := block_lt HE3.out; clear hb3; obtain ⟨q0, q1, q2, q3, q4, q5, q6, q7, q8, qf⟩ := cells9 HE3.out)
    | (go_at_call 10; refine (bReads_any _ _).mono ?_; rintro e w4 ⟨rfl, rfl⟩)
    | (go_at_call 11; refine (refReads_any _ _).mono ?_; rintro e w4 ⟨rfl, rfl⟩)
    | fail)
  all_goals
    go_wp2_with fail
    go_ret
    refine ⟨?_, HB3.out⟩
    first
      | (simp [Act.put]; done)
      | (simp [go_sem]; done)
      | rfl
end Go.Proofs.Ytkbmecjpjphngaa.bucketChecks
