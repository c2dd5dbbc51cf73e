/-
  Parts laid behind one another, in plain words.
-/
import Derived.Test.YtkbmecjpjphngaaBMach
set_option linter.unusedVariables false
set_option linter.unusedSimpArgs false
namespace Go.Proofs.Ytkbmecjpjphngaa
open Go.RowKit Go.Maps

/-- The bytes of the parts that are named; none: one lacks. -/
def cats (f : Lit → Option (List UInt8)) : List Int → Option (List UInt8)
  | [] => some []
  | n :: r => (f (ik n)).bind fun x => (cats f r).map (x ++ ·)
theorem cats_snoc (f : Lit → Option (List UInt8)) (l : List Int) (n : Int) {acc x : List UInt8} (h : cats f l = some acc) (hx : f (ik n) = some x) : cats f (l ++ [n]) = some (acc ++ x) := by
  induction l generalizing acc with
  | nil =>
    simp only [cats] at h
    cases h
    simp [cats, hx]
  | cons m r ih =>
    simp only [cats, List.cons_append] at h ⊢
    cases hm : f (ik m) with
    | none => rw [hm] at h; cases h
    | some y =>
      rw [hm] at h
      simp only [Option.bind_some, Option.map_eq_some_iff] at h ⊢
      obtain ⟨z, hz, rfl⟩ := h
      exact ⟨z ++ x, ih hz, by rw [List.append_assoc]⟩
theorem cats_none (f : Lit → Option (List UInt8)) (l r : List Int) (n : Int) (hx : f (ik n) = none) : cats f (l ++ n :: r) = none := by
  induction l with
  | nil => simp [cats, hx]
  | cons m l ih =>
    simp only [cats, List.cons_append, ih]
    cases f (ik m) <;> rfl
theorem cats_len {f : Lit → Option (List UInt8)} {M : Nat} (hM : ∀ k x, f k = some x → x.length ≤ M) : ∀ (l : List Int) {acc : List UInt8}, cats f l = some acc → acc.length ≤ l.length * M
  | [], acc, h => by simp only [cats] at h; cases h; simp
  | n :: r, acc, h => by
    simp only [cats] at h
    cases hn : f (ik n) with
    | none => rw [hn] at h; cases h
    | some y =>
      rw [hn] at h
      simp only [Option.bind_some, Option.map_eq_some_iff] at h
      obtain ⟨z, hz, rfl⟩ := h
      have h1 := cats_len hM r hz
      have h2 := hM _ _ hn
      simp only [List.length_append, List.length_cons, Nat.add_mul, Nat.one_mul]
      omega
theorem take_snoc {α : Type} (l : List α) (k : Nat) (h : k < l.length) : l.take (k + 1) = l.take k ++ [l[k]] := by
  rw [List.take_succ_eq_append_getElem h]
theorem take_split {α : Type} (l : List α) (k : Nat) (h : k < l.length) : l.take k ++ l[k] :: l.drop (k + 1) = l := by
  rw [← List.drop_eq_getElem_cons h, List.take_append_drop]
end Go.Proofs.Ytkbmecjpjphngaa
