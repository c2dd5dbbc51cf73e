/-
  More of the words that the texts of this seat share.
-/
import Derived.Test.YtoliikpbhmfjnaaGKit
namespace Go.Proofs.Ytoliikpbhmfjnaa
open Go.RowKit
/-- A part of a slice: b[l:h]. -/
theorem RdB.sub {w : World} {g off n cap l h : Nat} {xs : List UInt8} (hr : RdB w (.slice (some ⟨g, off, none⟩) n cap) xs) (hlh : l ≤ h) (hhn : h ≤ n) {g' off' m : Nat} (hg : g' = g) (ho : off' = off + l) (hm : m = h - l) {cap' : Nat} (hc : cap' = cap - l) :
    RdB w (.slice (some ⟨g', off', none⟩) m cap') ((xs.drop l).take m) := by
  subst hg; subst ho; subst hm; subst hc
  obtain ⟨A, c, e, hl, h1, h2, h3, hcc⟩ := hr
  cases e
  have hll : ((xs.drop l).take (h - l)).length = h - l := by simp; omega
  refine ⟨_, _, by rw [hll], by simp [bvs], by rw [hll]; omega, by omega, (fun e => by cases e), fun j u hu => ?_⟩
  rw [bvs_take, bvs_drop, List.getElem?_take, List.getElem?_drop] at hu
  split at hu
  · obtain ⟨g2, off2, e2, hc2⟩ := hcc (l + j) u hu
    cases e2
    exact ⟨g', off + l, rfl, by rw [Nat.add_assoc]; exact hc2⟩
  · cases hu
/-- An empty part, wherever it lies. -/
theorem rdb_empty {w : World} {A : Option Addr} {cap : Nat} (h : cap ≤ maxLen) (hA : A = none → cap = 0) : RdB w (.slice A 0 cap) [] := Rd.nil' h hA
theorem u64_nat {a : Int} (h : (Lit.int .u64 a).wf = true) : ∃ n : Nat, a = n ∧ n < 18446744073709551616 := by
  simp only [Lit.wf, IntKind.min, IntKind.max, IntKind.signed, IntKind.bits, Bool.and_eq_true, decide_eq_true_eq] at h
  refine ⟨a.toNat, ?_, ?_⟩ <;> simp at h <;> omega
end Go.Proofs.Ytoliikpbhmfjnaa
