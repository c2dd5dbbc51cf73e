/-
  The row of BucketParts: the statement, out of the walk.
-/
import Derived.Test.YtkbmecjpjphngaaRows
import Derived.Test.YtkbmecjpjphngaaBOpen
import Derived.Test.YtkbmecjpjphngaaBPartsW
import Derived.ProofKit
import Derived.OpenShut
import Derived.Below
set_option linter.unusedVariables false
set_option linter.unusedSimpArgs false
namespace Go.Proofs.Ytkbmecjpjphngaa.bucketParts
open Go.Proofs.Ytkbmecjpjphngaa
open Go.ChangeShapes Go.WideShapes Go.ChangeAt Go.RowKit

theorem walk (v1 v2 v3 : Value) (ns nm : List Int) (ds : List (List UInt8)) (w : World) (h1 : Rd w v1 ns.length 1 (ns.map (Value.int .i64))) (wf1 : ∀ n ∈ ns, (Lit.int .i64 n).wf = true) (h2 : RdLL w v2 ds) (h3 : Rd w v3 nm.length 1 (nm.map (Value.int .i64))) (wf3 : ∀ n ∈ nm, (Lit.int .i64 n).wf = true) :
    Calls Try.prog 4 #[v1, v2, v3] w fun e w' => e = .returned (.bool true) ∧ Below w.heap.size w w' := by
  have h1' := h1
  have h2' := h2
  have h3' := h3
  obtain ⟨A1, c1, rfl, a1, a2, _⟩ := Rd.form h1
  obtain ⟨vs, h2r, _⟩ := h2
  obtain ⟨A2, c2, rfl, b1, b2, _⟩ := Rd.form h2r
  obtain ⟨A3, c3, rfl, d1, d2, _⟩ := Rd.form h3
  by_cases hs : 100 < ns.length ∨ ds.length ≠ ns.length ∨ 100 < nm.length
  · exact walk_skip A1 A2 A3 _ _ _ c1 c2 c3 w (Nat.le_trans a1 a2) (Nat.le_trans b1 b2) (Nat.le_trans d1 d2) hs
  · have hl : ds.length = ns.length := by
      by_cases e : ds.length = ns.length
      · exact e
      · exact absurd (.inr (.inl e)) hs
    rw [hl] at h2' ⊢
    exact walk_do A1 A2 A3 c1 c2 c3 ns nm ds w h1' wf1 hl h2' h3' wf3 (by omega) (by omega)

set_option maxRecDepth 100000 in
theorem lifted (os : Os) (started : os.Started) (H : Type) (enc : TypeId × Value → H) :
    ReturnsInHanded {} Try.checked os 4 .any (Rows.bucketPartsSpec.pre6 enc Try.prog Try.f4 Rows.bucketPartsRow.domain false) (Rows.bucketPartsSpec.post enc Try.prog Try.f4 false true false false) := by
  refine returnsInHanded_of_change (C := Try.checked) own started (by kernel_rfl) Try.func4
    (ChangeSpec.witness6 (enc := enc) (C := Try.checked) false ⟨#[], #[.slice none 0 0, .slice none 0 0, .slice none 0 0], []⟩ 8 (by kernel_rfl) (by kernel_rfl) (by kernel_rfl) (by kernel_rfl)) ?_
  intro W base args ds gs before hval0 hW hcnd _
  have hval : ∀ (j : Nat) t v, Try.f4.params[j]? = some t → args[j]? = some v → Value.okWide Try.prog W .any base t v := hval0
  have hW' := hW
  obtain ⟨p, q, hA0, hV, rfl, hfz, hnd⟩ := hW
  have hA : DataW.TrodAll enc Try.prog W 0 (fun _ => true) true Try.f4.params.toList args.toList ds p := hA0
  rw [Try.params4] at hA hval
  obtain ⟨v0, vs0, d0, ds0, p0, q0, hargs, rfl, rfl, h0, r0⟩ := trodAll_cons hA
  obtain ⟨v1, vs1, d1, ds1, p1, q1, rfl, rfl, rfl, h1, r1⟩ := trodAll_cons r0
  obtain ⟨v2, vs2, d2, ds2, p2, q2, rfl, rfl, rfl, h2, r2⟩ := trodAll_cons r1
  obtain ⟨rfl, rfl, rfl⟩ := trodAll_nil r2
  obtain rfl : args = #[v0, v1, v2] := by cases args; simp_all
  obtain ⟨rfl, rfl⟩ := trodVars_none hV
  obtain ⟨a0, len0, cap0, rfl⟩ := okWide_slice Try.underlying23 (hval 0 23 v0 rfl rfl)
  obtain ⟨a1, len1, cap1, rfl⟩ := okWide_slice Try.underlying33 (hval 1 33 v1 rfl rfl)
  obtain ⟨a2, len2, cap2, rfl⟩ := okWide_slice Try.underlying23 (hval 2 23 v2 rfl rfl)
  have k0 := h0
  have k1 := h1
  have k2 := h2
  have lt0 : ∀ x ∈ p0, x.block < W.heap.size := by obtain ⟨m, hm⟩ := k0; exact DataW.trod_lt m _ _ _ hm
  have lt1 : ∀ x ∈ p1, x.block < W.heap.size := by obtain ⟨m, hm⟩ := k1; exact DataW.trod_lt m _ _ _ hm
  have lt2 : ∀ x ∈ p2, x.block < W.heap.size := by obtain ⟨m, hm⟩ := k2; exact DataW.trod_lt m _ _ _ hm
  obtain ⟨ns, w0, x0⟩ : ∃ ns : List Int, Rd W (.slice a0 len0 cap0) ns.length 1 (ns.map (Value.int .i64)) ∧ ∀ n ∈ ns, (Lit.int .i64 n).wf = true := by
    obtain ⟨fuel, hf⟩ := h0
    exact open_nums hf
  obtain ⟨l1, w1⟩ : ∃ l : List (List UInt8), RdLL W (.slice a1 len1 cap1) l := by
    obtain ⟨fuel, hf⟩ := h1
    obtain ⟨l, _, h⟩ := open_rows hf
    exact ⟨l, h⟩
  obtain ⟨nm, w2, x2⟩ : ∃ ns : List Int, Rd W (.slice a2 len2 cap2) ns.length 1 (ns.map (Value.int .i64)) ∧ ∀ n ∈ ns, (Lit.int .i64 n).wf = true := by
    obtain ⟨fuel, hf⟩ := h2
    exact open_nums hf
  clear hA0 hval0
  refine (walk _ _ _ ns nm l1 W w0 x0 w1 w2 x2).mono fun e W' ⟨he, bel⟩ => ?_
  subst he
  exact ⟨_, rfl, _, _, _, [], _, [], hW', trodAll_mk1 (shut_bool Try.underlying4 _), (trodAll_cons_mk (Below.trod laidOut (by kernel_rfl) (of_decide_eq_true (by kernel_rfl)) k0 bel lt0) (trodAll_cons_mk (Below.trod laidOut (by kernel_rfl) (of_decide_eq_true (by kernel_rfl)) k1 bel lt1) (trodAll_cons_mk (Below.trod laidOut (by kernel_rfl) (of_decide_eq_true (by kernel_rfl)) k2 bel lt2) trodAll_mk0))), rfl, bel.frame _, fun h => by cases h⟩

theorem proved : Rows.BucketPartsSaid :=
  OpenClaim.holds_of_wide 4 Try.f4 rfl rfl rfl rfl rfl rfl rfl ⟨rfl, rfl, rfl, rfl, rfl⟩ rfl rfl rfl rfl rfl (by kernel_rfl) Try.func4 (by kernel_rfl)
    (of_decide_eq_true (by kernel_rfl)) (by unfold Func.isWrapper; first | (rw [if_pos (by decide +kernel)]; kernel_rfl) | (rw [if_neg (by decide +kernel)]; exact ⟨rfl, rfl⟩))
    (fun os started H enc _ => lifted os started H enc)
#print axioms proved
end Go.Proofs.Ytkbmecjpjphngaa.bucketParts
