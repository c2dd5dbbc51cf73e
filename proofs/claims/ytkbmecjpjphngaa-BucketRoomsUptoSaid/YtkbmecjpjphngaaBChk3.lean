/-
  Check, whole.
-/
import Derived.Test.YtkbmecjpjphngaaBChk2
set_option linter.unusedVariables false
set_option linter.unusedSimpArgs false
namespace Go.Proofs.Ytkbmecjpjphngaa
open Go.RowKit Go.Maps

/-- Is an op right? -/
def chkB (o : OpC) : Bool :=
  if o.kind = 1 ∨ o.kind = 2 then chkA o
  else if o.kind = 3 then chkBB o
  else if o.kind = 4 ∨ o.kind = 5 ∨ o.kind = 7 then chkC o
  else if o.kind = 6 then chkD o
  else if o.kind = 8 then chkE o
  else if o.kind = 9 then chkG o
  else if o.kind = 10 then chkH o
  else false
theorem check_any (w : World) (v : Value) (o : OpC) (ho : OpR w v o) : Calls Try.prog 8 #[v] w fun e w' => e = .returned (.int .i64 (errN (chkB o))) ∧ Below w.heap.size w w' := by
  obtain ⟨pv, dv, rfl, hpv, hdv, hwi, hwk, hwn, hwu, hwp, hs, hks, has⟩ := ho
  have hpv' := hpv
  obtain ⟨A1, c1, rfl, a1, a2, _⟩ := Rd.form hpv
  obtain ⟨A2, c2, rfl, b1, b2, _⟩ := Rd.form hdv
  have l1 : o.parts.length ≤ maxLen := Nat.le_trans a1 a2
  have l2 : o.data.length ≤ maxLen := Nat.le_trans b1 b2
  by_cases h1 : o.kind = 1 ∨ o.kind = 2
  · have e : chkB o = chkA o := by unfold chkB; rw [if_pos h1]
    rw [e]; exact checkA w o A1 A2 c1 c2 hs hks has hpv' hwp l1 l2 (by unfold fldV; rw [if_pos h1])
  by_cases h2 : o.kind = 3
  · have e : chkB o = chkBB o := by unfold chkB; rw [if_neg h1, if_pos h2]
    rw [e]; exact checkB w o A1 A2 c1 c2 hs hks has hpv' hwp l1 l2 (by unfold fldV; rw [if_neg h1, if_pos h2])
  by_cases h3 : o.kind = 4 ∨ o.kind = 5 ∨ o.kind = 7
  · have e : chkB o = chkC o := by unfold chkB; rw [if_neg h1, if_neg h2, if_pos h3]
    rw [e]; exact checkC w o A1 A2 c1 c2 hs hks has hpv' hwp l1 l2 (by unfold fldV; rw [if_neg h1, if_neg h2, if_pos h3])
  by_cases h4 : o.kind = 6
  · have e : chkB o = chkD o := by unfold chkB; rw [if_neg h1, if_neg h2, if_neg h3, if_pos h4]
    rw [e]; exact checkD w o A1 A2 c1 c2 hs hks has hpv' hwp l1 l2 (by unfold fldV; rw [if_neg h1, if_neg h2, if_neg h3, if_pos h4])
  by_cases h5 : o.kind = 8
  · have e : chkB o = chkE o := by unfold chkB; rw [if_neg h1, if_neg h2, if_neg h3, if_neg h4, if_pos h5]
    rw [e]; exact checkE w o A1 A2 c1 c2 hs hks has hpv' hwp l1 l2 (by unfold fldV; rw [if_neg h1, if_neg h2, if_neg h3, if_neg h4, if_pos h5])
  by_cases h6 : o.kind = 9
  · have e : chkB o = chkG o := by unfold chkB; rw [if_neg h1, if_neg h2, if_neg h3, if_neg h4, if_neg h5, if_pos h6]
    rw [e]; exact checkG w o A1 A2 c1 c2 hs hks has hpv' hwp l1 l2 (by unfold fldV; rw [if_neg h1, if_neg h2, if_neg h3, if_neg h4, if_neg h5, if_pos h6])
  by_cases h7 : o.kind = 10
  · have e : chkB o = chkH o := by unfold chkB; rw [if_neg h1, if_neg h2, if_neg h3, if_neg h4, if_neg h5, if_neg h6, if_pos h7]
    rw [e]; exact checkH w o A1 A2 c1 c2 hs hks has hpv' hwp l1 l2 (by unfold fldV; rw [if_neg h1, if_neg h2, if_neg h3, if_neg h4, if_neg h5, if_neg h6, if_pos h7])
  have e : chkB o = chkZ o := by unfold chkB; rw [if_neg h1, if_neg h2, if_neg h3, if_neg h4, if_neg h5, if_neg h6, if_neg h7]; rfl
  rw [e]; exact checkZ w o A1 A2 c1 c2 hs hks has hpv' hwp l1 l2 (by unfold fldV; rw [if_neg h1, if_neg h2, if_neg h3, if_neg h4, if_neg h5, if_neg h6, if_neg h7])
end Go.Proofs.Ytkbmecjpjphngaa
