/-
  BucketParts: the plain law.
-/
import Derived.Test.YtkbmecjpjphngaaBKnown
set_option linter.unusedVariables false
set_option linter.unusedSimpArgs false
namespace Go.Proofs.Ytkbmecjpjphngaa.bucketParts
open Go.Proofs.Ytkbmecjpjphngaa
open Go.RowKit Go.Maps

def beginOp : OpC := ⟨2, 7, bB, kB, eB, 0, 0, [], []⟩
def partOp (i n : Int) (d : List UInt8) : OpC := ⟨10 + i, 8, eB, eB, eB, n, 2, [], d⟩
def endOp (l : List Int) : OpC := ⟨3, 9, eB, eB, eB, 0, 2, l, []⟩
def getOp : OpC := ⟨0, 4, bB, kB, eB, 0, 0, [], []⟩
def abOp : OpC := ⟨4, 10, eB, eB, eB, 0, 2, [], []⟩
theorem chkBegin : chkB beginOp = true := by decide +kernel
theorem chkGet : chkB getOp = true := by decide +kernel
theorem chkAb : chkB abOp = true := by decide +kernel
/-- Behind i parts, of which P are the last ones. -/
structure PInv (S : StC) (P : Lit → Option (List UInt8)) (i : Nat) : Prop where
  bs : S.bs = bs1
  us : S.us = upd (fun _ => none) (uk 2) (some ⟨bB, kB, P⟩)
  three : S.ds (uk 3) = none
  four : S.ds (uk 4) = none
  later : ∀ j : Nat, i ≤ j → S.ds (uk (10 + j)) = none
theorem doC_bad {S : StC} {o : OpC} (h : chkB o = false) : doC S o = (stat 400, S) := by simp [doC, h]
theorem start : PInv (runC StC.empty [op1, beginOp]).2 (fun _ => none) 0 := by
  have h1 : ds1 (uk 2) = none := by unfold ds1; rw [upd_other _ _ (uk_ne (by decide))]
  have hb : bs1 (sk bB) = some (fun _ => none) := upd_same _ _ _
  have hs : stepC ⟨bs1, fun _ => none, ds1⟩ beginOp = (⟨200, 2, [], false, []⟩, ⟨bs1, upd (fun _ => none) (uk 2) (some ⟨bB, kB, fun _ => none⟩), ds1⟩) := by
    unfold stepC
    simp only [beginOp]
    rw [if_neg (by decide), if_neg (by decide), if_neg (by decide), if_neg (by decide), if_neg (by decide), if_neg (by decide), if_pos (by decide), hb]
  have h2 := doC_new chkBegin (by rfl) h1 hs
  have h3 : (runC StC.empty [op1, beginOp]).2 = (doC ⟨bs1, fun _ => none, ds1⟩ beginOp).2 := by
    simp only [runC, s1]
  rw [h3, h2]
  have hd : ∀ x : Int, x ≠ 1 → x ≠ 2 → upd ds1 (uk 2) (some ⟨200, 2, [], false, []⟩) (uk x) = none := fun x a b => by
    unfold ds1; rw [upd_other _ _ (uk_ne b), upd_other _ _ (uk_ne a)]
  exact ⟨rfl, rfl, hd 3 (by decide) (by decide), hd 4 (by decide) (by decide), fun j _ => hd _ (by omega) (by omega)⟩
theorem bad {S : StC} {P : Lit → Option (List UInt8)} {i : Nat} (h : PInv S P i) : PInv S P (i + 1) :=
  ⟨h.bs, h.us, h.three, h.four, fun j hj => h.later j (by omega)⟩
theorem good {S : StC} {P : Lit → Option (List UInt8)} {i : Nat} {n : Int} {d : List UInt8} (h : PInv S P i) (hc : chkB (partOp i n d) = true) :
    (doC S (partOp i n d)).1 = stat 200 ∧ PInv (doC S (partOp i n d)).2 (upd P (ik n) (some d)) (i + 1) := by
  have hu : S.us (uk 2) = some ⟨bB, kB, P⟩ := by rw [h.us]; exact upd_same _ _ _
  have hd : S.ds (uk (partOp i n d).id) = none := h.later i (Nat.le_refl _)
  have hs : stepC S (partOp i n d) = (stat 200, { S with us := upd S.us (uk 2) (some ⟨bB, kB, upd P (ik n) (some d)⟩) }) := by
    unfold stepC
    simp only [partOp]
    rw [if_neg (by decide), if_neg (by decide), if_neg (by decide), if_neg (by decide), if_neg (by decide), if_neg (by decide), if_neg (by decide), if_pos (by decide), hu]
  rw [doC_new hc (by rfl) hd hs]
  refine ⟨rfl, h.bs, ?_, ?_, ?_, fun j hj => ?_⟩
  · show upd S.us (uk 2) _ = _
    rw [h.us]
    funext j
    by_cases e : j = uk 2
    · subst e; rw [upd_same, upd_same]
    · rw [upd_other _ _ e, upd_other _ _ e, upd_other _ _ e]
  · show upd S.ds (uk (10 + i)) _ (uk 3) = none
    rw [upd_other _ _ (uk_ne (by omega))]; exact h.three
  · show upd S.ds (uk (10 + i)) _ (uk 4) = none
    rw [upd_other _ _ (uk_ne (by omega))]; exact h.four
  · show upd S.ds (uk (10 + i)) _ (uk (10 + j)) = none
    rw [upd_other _ _ (uk_ne (by omega))]; exact h.later j (by omega)
theorem get_none {S : StC} (h : S.bs = bs1) : doC S getOp = (stat 404, S) := by
  have hb : S.bs (sk bB) = some (fun _ => none) := by rw [h]; exact upd_same _ _ _
  rw [doC_read chkGet (by rfl)]
  unfold stepC
  simp only [getOp]
  rw [if_neg (by decide), if_neg (by decide), if_neg (by decide), if_pos (by decide), hb]
theorem step_ab {S : StC} {o : OpC} (hk : o.kind = 10) (h : S.us (uk o.up) = none) : stepC S o = (stat 404, S) := by
  unfold stepC
  rw [if_neg (by omega), if_neg (by omega), if_neg (by omega), if_neg (by omega), if_neg (by omega), if_neg (by omega), if_neg (by omega), if_neg (by omega), if_neg (by omega), h]
/-- What the two tell where not all is there. -/
theorem fin_none {S : StC} {P : Lit → Option (List UInt8)} {i : Nat} {l : List Int} (h : PInv S P i) (hn : chkB (endOp l) = false ∨ cats P l = none) :
    (doC S (endOp l)).1 = stat 400 ∧ (doC (doC S (endOp l)).2 getOp).1 = stat 404 := by
  cases hc : chkB (endOp l) with
  | false =>
    rw [doC_bad hc, get_none h.bs]
    exact ⟨rfl, rfl⟩
  | true =>
    have hk : cats P l = none := by rcases hn with e | e; rw [hc] at e; cases e; exact e
    have hu : S.us (uk 2) = some ⟨bB, kB, P⟩ := by rw [h.us]; exact upd_same _ _ _
    have hs : stepC S (endOp l) = (stat 400, S) := by
      unfold stepC
      simp only [endOp]
      rw [if_neg (by decide), if_neg (by decide), if_neg (by decide), if_neg (by decide), if_neg (by decide), if_neg (by decide), if_neg (by decide), if_neg (by decide), if_pos (by decide), hu]
      simp only [hk]
    rw [doC_new (S' := S) hc (by rfl) h.three hs]
    refine ⟨rfl, ?_⟩
    have := get_none (S := ⟨S.bs, S.us, upd S.ds (uk 3) (some (stat 400))⟩) h.bs
    show (doC ⟨S.bs, S.us, upd S.ds (uk 3) (some (stat 400))⟩ getOp).1 = stat 404
    rw [this]
/-- And where all is there. -/
theorem fin_some {S : StC} {P : Lit → Option (List UInt8)} {i : Nat} {l : List Int} {acc : List UInt8} (h : PInv S P i) (hc : chkB (endOp l) = true) (hk : cats P l = some acc) :
    (doC S (endOp l)).1 = stat 200 ∧ (doC (doC S (endOp l)).2 getOp).1 = ⟨200, 0, [], false, acc⟩ ∧ (doC (doC (doC S (endOp l)).2 getOp).2 abOp).1 = stat 404 := by
  have hu : S.us (uk 2) = some ⟨bB, kB, P⟩ := by rw [h.us]; exact upd_same _ _ _
  have hb : S.bs (sk bB) = some (fun _ => none) := by rw [h.bs]; exact upd_same _ _ _
  have hs : stepC S (endOp l) = (stat 200, ⟨upd S.bs (sk bB) (some (upd (fun _ => none) (sk kB) (some acc))), upd S.us (uk 2) none, S.ds⟩) := by
    unfold stepC
    simp only [endOp]
    rw [if_neg (by decide), if_neg (by decide), if_neg (by decide), if_neg (by decide), if_neg (by decide), if_neg (by decide), if_neg (by decide), if_neg (by decide), if_pos (by decide), hu]
    simp only [hk, hb]
    rfl
  have h4 : upd S.ds (uk 3) (some (stat 200)) (uk 4) = none := by rw [upd_other _ _ (uk_ne (by decide))]; exact h.four
  rw [doC_new hc (by rfl) h.three hs]
  have hg : doC ⟨upd S.bs (sk bB) (some (upd (fun _ => none) (sk kB) (some acc))), upd S.us (uk 2) none, upd S.ds (uk 3) (some (stat 200))⟩ getOp = (⟨200, 0, [], false, acc⟩, ⟨upd S.bs (sk bB) (some (upd (fun _ => none) (sk kB) (some acc))), upd S.us (uk 2) none, upd S.ds (uk 3) (some (stat 200))⟩) := by
    rw [doC_read chkGet (by rfl)]
    unfold stepC
    simp only [getOp]
    rw [if_neg (by decide), if_neg (by decide), if_neg (by decide), if_pos (by decide), upd_same]
    simp only [upd_same]
  refine ⟨rfl, ?_, ?_⟩
  · show (doC ⟨_, _, upd S.ds (uk 3) (some (stat 200))⟩ getOp).1 = _
    rw [hg]
  · show (doC (doC ⟨_, _, upd S.ds (uk 3) (some (stat 200))⟩ getOp).2 abOp).1 = _
    rw [hg]
    have ha := step_ab (S := ⟨upd S.bs (sk bB) (some (upd (fun _ => none) (sk kB) (some acc))), upd S.us (uk 2) none, upd S.ds (uk 3) (some (stat 200))⟩) (o := abOp) rfl (upd_same _ _ _)
    rw [doC_new (S' := ⟨upd S.bs (sk bB) (some (upd (fun _ => none) (sk kB) (some acc))), upd S.us (uk 2) none, upd S.ds (uk 3) (some (stat 200))⟩) chkAb (by rfl) h4 ha]
end Go.Proofs.Ytkbmecjpjphngaa.bucketParts
