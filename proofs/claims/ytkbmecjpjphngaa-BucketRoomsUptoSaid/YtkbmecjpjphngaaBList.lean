/-
  list: what it picks (the walk is to come).
-/
import Derived.Test.YtkbmecjpjphngaaBObj
import Derived.Test.YtkbmecjpjphngaaBPre
set_option linter.unusedVariables false
set_option linter.unusedSimpArgs false
namespace Go.Proofs.Ytkbmecjpjphngaa
open Go.RowKit Go.Maps

/-- Does a listing tell a key? As the code asks. -/
def okK (o : OpC) (k : List UInt8) : Bool := Lib.hasPrefix k o.key.data.toList && !(Op.bytesLess k o.after.data.toList || k == o.after.data.toList)
theorem okK_eq (o : OpC) (k : List UInt8) : okK o k = (decide (o.key.data.toList <+: k) && decide (o.after.data.toList < k)) := by
  unfold okK Lib.hasPrefix
  have h1 : o.key.data.toList.isPrefixOf k = decide (o.key.data.toList <+: k) := by
    rw [Bool.eq_iff_iff, List.isPrefixOf_iff_prefix, decide_eq_true_eq]
  have h2 : (!(Op.bytesLess k o.after.data.toList || k == o.after.data.toList)) = decide (o.after.data.toList < k) := by
    rw [Go.Proofs.bytesLess_eq, Bool.eq_iff_iff]
    simp only [Bool.not_eq_true', Bool.or_eq_false_iff, decide_eq_false_iff_not, beq_eq_false_iff_ne, decide_eq_true_eq, List.not_lt]
    constructor
    · rintro ⟨h, hne⟩
      exact Decidable.byContradiction fun e => hne (List.le_antisymm (List.not_lt.1 e) h)
    · exact fun h => ⟨List.le_of_lt h, fun e => by rw [e] at h; exact List.lt_irrefl _ h⟩
  rw [h1, h2]
theorem pickC_eq (c : Bk) (o : OpC) : pickC c o = (keysC c).filter (okK o) := by
  unfold pickC
  congr 1
  funext k
  exact (okK_eq o k).symm
/-- Of the first keys. -/
theorem filter_take (p : List UInt8 → Bool) (l : List (List UInt8)) (k : Nat) (h : k < l.length) : (l.take (k + 1)).filter p = (l.take k).filter p ++ (if p l[k] = true then [l[k]] else []) := by
  rw [List.take_succ_eq_append_getElem h, List.filter_append]
  congr 1
  by_cases hp : p l[k] = true
  · simp [hp]
  · simp [hp]
end Go.Proofs.Ytkbmecjpjphngaa
