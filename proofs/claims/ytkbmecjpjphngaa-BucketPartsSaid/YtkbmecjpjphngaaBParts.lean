/-
  BucketParts: the steps of the first loop; the walk.
-/
import Derived.Test.YtkbmecjpjphngaaBPartsC
set_option linter.unusedVariables false
set_option linter.unusedSimpArgs false
namespace Go.Proofs.Ytkbmecjpjphngaa.bucketParts
open Go.Proofs.Ytkbmecjpjphngaa
open Go.RowKit Go.Maps

/-- The map of the last ones. -/
structure Last (w0 wr : World) (bl n : Nat) (P : Lit → Option (List UInt8)) : Prop where
  out : ∃ f, MapV Try.prog 3 wr bl n f ∧ (∀ j, P j = none → f j = none) ∧ ∀ j x, P j = some x → ∃ v, f j = some v ∧ RdB w0 v x
structure LP (w0 : World) (p : Value) (bl k : Nat) (wr : World) : Prop where
  out : ∃ (S : StC) (P : Lit → Option (List UInt8)) (F : Foot), Mach (4 + 2 * k) wr p S F ∧ PInv S P k ∧ Live S ∧ (∀ i, F i → w0.heap.size ≤ i) ∧ ¬ F bl ∧ Last w0 wr bl k P ∧ Below w0.heap.size w0 wr ∧ w0.heap.size ≤ bl
theorem Last.same {w0 wr w' : World} {bl n : Nat} {P : Lit → Option (List UInt8)} (h : Last w0 wr bl n P) (hs : w'.heap[bl]? = wr.heap[bl]?) {m : Nat} (hm : n ≤ m) : Last w0 w' bl m P := by
  obtain ⟨f, a, b, c⟩ := h.out
  exact ⟨f, (a.same hs).mono hm, b, c⟩
theorem Last.lt {w0 wr : World} {bl n : Nat} {P : Lit → Option (List UInt8)} (h : Last w0 wr bl n P) : bl < wr.heap.size := by
  obtain ⟨f, a, b, c⟩ := h.out
  exact a.lt
/-- Behind Do and Check. -/
theorem mid {w0 wr wa w5 w7 : World} {p : Value} {bl k : Nat} {S5 : StC} {P : Lit → Option (List UInt8)} {F F5 : Foot} (hF : ∀ i, F i → w0.heap.size ≤ i) (hbl : ¬ F bl) (hlast : Last w0 wr bl k P) (hlow : ∀ i, F i → i < wr.heap.size) (hb : Below w0.heap.size w0 wr) (h0 : w0.heap.size ≤ bl)
    (ha : Below wr.heap.size wr wa) (hM5 : Mach (4 + 2 * k + 1 + 1) w5 p S5 F5) (hF5 : ∀ i, F5 i → F i ∨ wa.heap.size ≤ i) (hf5 : Frm F wa w5) (h7 : Below w5.heap.size w5 w7) :
    Mach (4 + 2 * (k + 1)) w7 p S5 F5 ∧ (∀ i, F5 i → w0.heap.size ≤ i) ∧ ¬ F5 bl ∧ w7.heap[bl]? = wr.heap[bl]? ∧ Below w0.heap.size w0 w7 ∧ (∀ i, F5 i → i < w7.heap.size) := by
  have z0 := hb.size
  have za := ha.size
  have z5 := hf5.size
  have z7 := h7.size
  have hl := hlast.lt
  refine ⟨hM5.framed (fun i hi => h7.block i (hM5.lower i hi)), fun i hi => ?_, fun e => ?_, ?_, ?_, fun i hi => by have := hM5.lower i hi; omega⟩
  · rcases hF5 i hi with h | h
    · exact hF i h
    · omega
  · rcases hF5 bl e with h | h
    · exact hbl h
    · omega
  · rw [h7.block bl (by omega), hf5.block bl (by omega) hbl, ha.block bl hl]
  · exact (hb.trans (ha.mono z0)).trans ((hf5.below (by omega) hF).trans (h7.mono (by omega)))
theorem lp_bad {w0 wr wa w5 w7 : World} {p : Value} {bl k : Nat} {S : StC} {P : Lit → Option (List UInt8)} {F F5 : Foot} (hP : PInv S P k) (hL : Live S) (hF : ∀ i, F i → w0.heap.size ≤ i) (hbl : ¬ F bl) (hlast : Last w0 wr bl k P) (hlow : ∀ i, F i → i < wr.heap.size) (hb : Below w0.heap.size w0 wr) (h0 : w0.heap.size ≤ bl)
    (ha : Below wr.heap.size wr wa) (hM5 : Mach (4 + 2 * k + 1 + 1) w5 p S F5) (hF5 : ∀ i, F5 i → F i ∨ wa.heap.size ≤ i) (hf5 : Frm F wa w5) (h7 : Below w5.heap.size w5 w7) : LP w0 p bl (k + 1) w7 := by
  obtain ⟨a, b, c, d, e, _⟩ := mid hF hbl hlast hlow hb h0 ha hM5 hF5 hf5 h7
  exact ⟨S, P, F5, a, bad hP, hL, b, c, hlast.same d (Nat.le_succ _), e, h0⟩
theorem lp_good {w0 wr wa w5 w7 : World} {p u : Value} {bl k : Nat} {S : StC} {P : Lit → Option (List UInt8)} {F F5 : Foot} {n : Int} {x : List UInt8} (hP : PInv S P k) (hL : Live S) (hF : ∀ i, F i → w0.heap.size ≤ i) (hbl : ¬ F bl) (hlast : Last w0 wr bl k P) (hlow : ∀ i, F i → i < wr.heap.size) (hb : Below w0.heap.size w0 wr) (h0 : w0.heap.size ≤ bl)
    (ha : Below wr.heap.size wr wa) (hc : chkB (partOp k n x) = true) (hM5 : Mach (4 + 2 * k + 1 + 1) w5 p (doC S (partOp k n x)).2 F5) (hF5 : ∀ i, F5 i → F i ∨ wa.heap.size ≤ i) (hf5 : Frm F wa w5) (h7 : Below w5.heap.size w5 w7)
    (hk : k < 100) (hn : (Lit.int .i64 n).wf = true) (hu : RdB w0 u x) : ∃ w8, (Instr.mapUpdate 38 (.map (some bl)) (.int .i64 n) u).run Try.prog w7 = .ok () w8 ∧ LP w0 p bl (k + 1) w8 := by
  obtain ⟨a, b, c, d, e, l⟩ := mid hF hbl hlast hlow hb h0 ha hM5 hF5 hf5 h7
  obtain ⟨f, f1, f2, f3⟩ := hlast.out
  obtain ⟨w8, hr, m, ht⟩ := (f1.same d).store Ki Try.underlying38 (by unfold maxLen; omega) (ki_of hn) u
  have keep : ∀ i, i < w7.heap.size → i ≠ bl → w8.heap[i]? = w7.heap[i]? := fun i hi hne => ht.grown.block i hi (fun e => hne (by cases e; rfl))
  refine ⟨w8, hr, (doC S (partOp k n x)).2, upd P (ik n) (some x), F5, a.framed (fun i hi => keep i (l i hi) (fun e => c (e ▸ hi))), (good hP hc).2, live_do hL, b, c, ⟨_, m, fun j hj => ?_, fun j y hj => ?_⟩, ?_, h0⟩
  · by_cases e : j = ik n
    · subst e; rw [upd_same] at hj; cases hj
    · rw [upd_other _ _ e] at hj; rw [upd_other _ _ e]; exact f2 j hj
  · by_cases e : j = ik n
    · subst e; rw [upd_same] at hj; cases hj; exact ⟨u, upd_same _ _ _, hu⟩
    · rw [upd_other _ _ e] at hj; rw [upd_other _ _ e]; exact f3 j y hj
  · exact e.trans (Frm.below (F := fun i => i = bl) ⟨ht.grown.os, ht.grown.tape, ht.grown.output, ht.grown.size, fun i hi hn => keep i hi hn⟩ e.size (fun i e => by rw [e]; exact h0))
/-- The two ops as they lie in memory. -/
def twoCells : Array Value := #[.int .u64 1, .int .i64 1, .string bB, .string eB, .string eB, .int .i64 0, .int .u64 0, .slice none 0 0, .slice none 0 0, .int .u64 2, .int .i64 7, .string bB, .string kB, .string eB, .int .i64 0, .int .u64 0, .slice none 0 0, .slice none 0 0]
theorem wfBegin : W8 beginOp := ⟨by decide +kernel, by decide +kernel, by decide +kernel, by decide +kernel, by decide +kernel, by decide +kernel, by decide +kernel, by decide +kernel⟩
theorem ops_two {W : World} {q : Nat} (h3 : W.heap[q]? = some (.cells twoCells 26)) : OpsR W (.slice (some ⟨q, 0, none⟩) 2 2) [op1, beginOp] := by
  have hc : ∀ i, W.cell? ⟨q, i, none⟩ = twoCells[i]? := fun i => by simp [World.cell?, h3]
  refine ⟨_, 2, rfl, by decide, by simp [maxLen], fun j hj => ?_⟩
  match j, hj with
  | 0, _ => exact ⟨_, 0, (.int .u64 1), (.int .i64 1), (.string bB), (.string eB), (.string eB), (.int .i64 0), (.int .u64 0), (.slice none 0 0), (.slice none 0 0), rfl, ⟨_, _, rfl, nil_rd _, nil_rd _, wf1⟩, by rw [hc]; rfl, by rw [hc]; rfl, by rw [hc]; rfl, by rw [hc]; rfl, by rw [hc]; rfl, by rw [hc]; rfl, by rw [hc]; rfl, by rw [hc]; rfl, by rw [hc]; rfl⟩
  | 1, _ => exact ⟨_, 0, (.int .u64 2), (.int .i64 7), (.string bB), (.string kB), (.string eB), (.int .i64 0), (.int .u64 0), (.slice none 0 0), (.slice none 0 0), rfl, ⟨_, _, rfl, nil_rd _, nil_rd _, wfBegin⟩, by rw [hc]; rfl, by rw [hc]; rfl, by rw [hc]; rfl, by rw [hc]; rfl, by rw [hc]; rfl, by rw [hc]; rfl, by rw [hc]; rfl, by rw [hc]; rfl, by rw [hc]; rfl⟩
  | j + 2, hj => exact absurd hj (by simp)
/-- Behind the two ops and the map that is made. -/
theorem lp_start {w0 w2 w3 : World} {p a : Value} {F : Foot} {x : Obj} (hF : ∀ i, F i → w0.heap.size ≤ i) (hb : Below w0.heap.size w0 w2) (h : RunI 0 (w2.alloc x) p F StC.empty [op1, beginOp] 2 a w3) : LP w0 p w3.heap.size 0 (w3.alloc (.map #[] 0)) := by
  obtain ⟨F', rvs, hM, hF', hf, _⟩ := h.out
  have z1 := hf.size
  have z2 := hb.size
  simp at z1
  refine ⟨(runC StC.empty [op1, beginOp]).2, fun _ => none, F', ?_, start, live_run live_empty _, fun i hi => ?_, fun e => ?_, ⟨fun _ => none, MapV.made _ _ _ rfl, fun _ _ => rfl, fun j x e => by cases e⟩, ?_, by omega⟩
  · exact (Mach.framed (N := 4) hM (fun i hi => alloc_same (hM.lower i hi)))
  · rcases hF' i hi with h | h
    · exact hF i h
    · simp at h; omega
  · have := hM.lower _ e; omega
  · exact ((hb.alloc z2 x).trans (hf.below (by simp; omega) hF)).alloc (by omega) _
end Go.Proofs.Ytkbmecjpjphngaa.bucketParts
