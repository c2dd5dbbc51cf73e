/-
  The reference's Check, whole: the same as Check.
-/
import Derived.Test.YtkbmecjpjphngaaBRef2
set_option linter.unusedVariables false
set_option linter.unusedSimpArgs false
namespace Go.Proofs.Ytkbmecjpjphngaa
open Go.RowKit Go.Maps

theorem refCheck_any (w : World) (v : Value) (o : OpC) (ho : OpR w v o) : Calls Try.prog 9 #[v] w fun e w' => e = .returned (.int .i64 (errN (chkB o))) ∧ Below w.heap.size w w' := by
  obtain ⟨pv, dv, rfl, hpv, hdv, hwi, hwk, hwn, hwu, hwp, hs, hks, has⟩ := ho
  obtain ⟨id, kind, bucket, key, after, n, up, parts, data⟩ := o
  simp only at *
  have hpv' := hpv
  obtain ⟨A1, c1, rfl, a1, a2, _⟩ := Rd.form hpv
  obtain ⟨A2, c2, rfl, b1, b2, _⟩ := Rd.form hdv
  have l1 : parts.length ≤ maxLen := Nat.le_trans a1 a2
  have l2 : data.length ≤ maxLen := Nat.le_trans b1 b2
  unfold chkB
  simp only
  by_cases h1 : kind = 1 ∨ kind = 2
  · rw [if_pos h1]
    rcases h1 with rfl | rfl
    · exact refCheck1 w id n up bucket key after parts data A1 A2 c1 c2 hs hks has hpv' hwp l1 l2
    · exact refCheck2 w id n up bucket key after parts data A1 A2 c1 c2 hs hks has hpv' hwp l1 l2
  rw [if_neg h1]
  by_cases h2 : kind = 3
  · rw [if_pos h2]; subst h2
    exact refCheck3 w id n up bucket key after parts data A1 A2 c1 c2 hs hks has hpv' hwp l1 l2
  rw [if_neg h2]
  by_cases h3 : kind = 4 ∨ kind = 5 ∨ kind = 7
  · rw [if_pos h3]
    rcases h3 with rfl | rfl | rfl
    · exact refCheck4 w id n up bucket key after parts data A1 A2 c1 c2 hs hks has hpv' hwp l1 l2
    · exact refCheck5 w id n up bucket key after parts data A1 A2 c1 c2 hs hks has hpv' hwp l1 l2
    · exact refCheck7 w id n up bucket key after parts data A1 A2 c1 c2 hs hks has hpv' hwp l1 l2
  rw [if_neg h3]
  by_cases h4 : kind = 6
  · rw [if_pos h4]; subst h4
    exact refCheck6 w id n up bucket key after parts data A1 A2 c1 c2 hs hks has hpv' hwp l1 l2
  rw [if_neg h4]
  by_cases h5 : kind = 8
  · rw [if_pos h5]; subst h5
    exact refCheck8 w id n up bucket key after parts data A1 A2 c1 c2 hs hks has hpv' hwp l1 l2
  rw [if_neg h5]
  by_cases h6 : kind = 9
  · rw [if_pos h6]; subst h6
    exact refCheck9 w id n up bucket key after parts data A1 A2 c1 c2 hs hks has hpv' hwp l1 l2
  rw [if_neg h6]
  by_cases h7 : kind = 10
  · rw [if_pos h7]; subst h7
    exact refCheck10 w id n up bucket key after parts data A1 A2 c1 c2 hs hks has hpv' hwp l1 l2
  rw [if_neg h7]
  exact refCheck0 w kind id n up bucket key after parts data A1 A2 c1 c2 hs hks has hpv' hwp l1 l2 ⟨h1, h2, h3, h4, h5, h6, h7⟩
end Go.Proofs.Ytkbmecjpjphngaa
