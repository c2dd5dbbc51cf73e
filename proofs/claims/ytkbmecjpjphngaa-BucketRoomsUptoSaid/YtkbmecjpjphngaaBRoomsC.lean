/-
  BucketRooms: the plain law: two machines of which the one sees the ops of one bucket alone.
-/
import Derived.Test.YtkbmecjpjphngaaBRun
set_option linter.unusedVariables false
set_option linter.unusedSimpArgs false
namespace Go.Proofs.Ytkbmecjpjphngaa
open Go.RowKit Go.Maps

theorem upd_id {C : Type} (f : Lit → Option C) (k : Lit) : upd f k (f k) = f := by
  funext j
  by_cases e : j = k
  · subst e; rw [upd_same]
  · rw [upd_other _ _ e]
/-- What a kind that names a bucket does: the result, what stands at the bucket's name, whether an upload begins. -/
noncomputable def stepB (x : Option Bk) (u : Bk → Prop) (o : OpC) : ResC × Option Bk × Bool :=
  if o.kind = 1 then (match x with
    | some c => (stat 409, some c, false)
    | none => (stat 200, some (fun _ => none), false))
  else match x with
    | none => (stat 404, none, false)
    | some c =>
      if o.kind = 2 then @ite _ (u c) (Classical.propDecidable _) (stat 409, some c, false) (stat 200, none, false)
      else if o.kind = 3 then (stat 200, some (upd c (sk o.key) (some o.data)), false)
      else if o.kind = 4 then (match c (sk o.key) with
        | none => (stat 404, some c, false)
        | some y => (⟨200, 0, [], false, y⟩, some c, false))
      else if o.kind = 5 then (match c (sk o.key) with
        | none => (stat 404, some c, false)
        | some y => (stat 200, some (upd c (sk o.key) none), false))
      else if o.kind = 6 then (listC c o, some c, false)
      else (⟨200, o.id, [], false, []⟩, some c, true)
noncomputable def stepBS (S : StC) (o : OpC) (r : ResC × Option Bk × Bool) : ResC × StC :=
  (r.1, ⟨upd S.bs (sk o.bucket) r.2.1, if r.2.2 = true then upd S.us (uk o.id) (some ⟨o.bucket, o.key, fun _ => none⟩) else S.us, S.ds⟩)
theorem stepBS_id {S : StC} {o : OpC} {r : ResC} {x : Option Bk} (h : S.bs (sk o.bucket) = x) : stepBS S o (r, x, false) = (r, S) := by
  subst h
  unfold stepBS
  simp only [upd_id]
  rfl
theorem stepBS_set {S : StC} {o : OpC} {r : ResC} {x : Option Bk} : stepBS S o (r, x, false) = (r, { S with bs := upd S.bs (sk o.bucket) x }) := rfl
theorem stepC_b {S : StC} {o : OpC} (h : 1 ≤ o.kind ∧ o.kind ≤ 7) : stepC S o = stepBS S o (stepB (S.bs (sk o.bucket)) (Used S o.bucket) o) := by
  have : o.kind = 1 ∨ o.kind = 2 ∨ o.kind = 3 ∨ o.kind = 4 ∨ o.kind = 5 ∨ o.kind = 6 ∨ o.kind = 7 := by omega
  cases hb : S.bs (sk o.bucket) with
  | none =>
    rcases this with e | e | e | e | e | e | e
    · simp [stepC, stepB, e, hb, stepBS_set]
    all_goals simp [stepC, stepB, e, hb, stepBS_id hb]
  | some c =>
    rcases this with e | e | e | e | e | e | e
    · simp [stepC, stepB, e, hb, stepBS_id hb]
    · by_cases hu : Used S o.bucket c
      · simp [stepC, stepB, e, hb, hu, stepBS_id hb]
      · simp [stepC, stepB, e, hb, hu, stepBS_set]
    · simp [stepC, stepB, e, hb, stepBS_set]
    · cases hx : c (sk o.key) with
      | none => simp [stepC, stepB, e, hb, hx, stepBS_id hb]
      | some y => simp [stepC, stepB, e, hb, hx, stepBS_id hb]
    · cases hx : c (sk o.key) with
      | none => simp [stepC, stepB, e, hb, hx, stepBS_id hb]
      | some y => simp [stepC, stepB, e, hb, hx, stepBS_set]
    · simp [stepC, stepB, e, hb, stepBS_id hb]
    · have hz : upd S.bs (sk o.bucket) (some c) = S.bs := by rw [← hb]; exact upd_id _ _
      simp [stepC, stepB, e, hb, stepBS, hz]
/-- Of the two kinds of ops each names a bucket or an upload. -/
theorem chk_way {o : OpC} (h : chkB o = true) : (1 ≤ o.kind ∧ o.kind ≤ 7 ∧ 1 ≤ o.bucket.size) ∨ (8 ≤ o.kind ∧ o.kind ≤ 10 ∧ o.bucket.toList = []) := by
  have hk := chk_kind h
  have : o.kind = 1 ∨ o.kind = 2 ∨ o.kind = 3 ∨ o.kind = 4 ∨ o.kind = 5 ∨ o.kind = 6 ∨ o.kind = 7 ∨ o.kind = 8 ∨ o.kind = 9 ∨ o.kind = 10 := by omega
  have hn : ∀ s : ByteArray, nameB s = true → 1 ≤ s.size := fun s hs => by
    unfold nameB at hs
    simp only [Bool.and_eq_true] at hs
    have := (lng_and _ _ _).1 hs.2
    omega
  unfold chkB at h
  rcases this with e | e | e | e | e | e | e | e | e | e <;> rw [e] at h <;> simp [chkA, chkBB, chkC, chkD, chkE, chkG, chkH] at h
  case inl => exact .inl ⟨by omega, by omega, hn _ (by simp [h])⟩
  all_goals first
    | exact .inl ⟨by omega, by omega, hn _ (by simp [h])⟩
    | exact .inr ⟨by omega, by omega, by simp [h]⟩

/-- The two machines; M: whose uploads are the bucket's; Sn: which ids were seen. -/
structure RInv (name : ByteArray) (S T : StC) (M Sn : Lit → Prop) : Prop where
  bs : S.bs (sk name) = T.bs (sk name)
  us : ∀ j, M j → T.us j = S.us j
  us0 : ∀ j, ¬ M j → T.us j = none
  rm : ∀ j u, S.us j = some u → (u.bucket = name ↔ M j)
  ds : ∀ j, ¬ Sn j → S.ds j = none ∧ T.ds j = none ∧ S.us j = none ∧ ¬ M j
theorem rinv_start (name : ByteArray) : RInv name StC.empty StC.empty (fun _ => False) (fun _ => False) :=
  ⟨rfl, fun j h => h.elim, fun j _ => rfl, (fun j u h => by cases h), fun j _ => ⟨rfl, rfl, rfl, id⟩⟩
theorem doC_fresh {S : StC} {o : OpC} (hc : chkB o = true) (hd : S.ds (uk o.id) = none) :
    doC S o = ((stepC S o).1, ⟨(stepC S o).2.bs, (stepC S o).2.us, if rdB o.kind = true then (stepC S o).2.ds else upd (stepC S o).2.ds (uk o.id) (some (stepC S o).1)⟩) := by
  unfold doC
  rw [if_neg (by simp [hc])]
  cases hr : rdB o.kind with
  | true => simp
  | false => simp [hd]
theorem stepC_ds {S : StC} {o : OpC} : (stepC S o).2.ds = S.ds := by
  unfold stepC
  repeat' split
  all_goals rfl
/-- What was done before and what is done now. -/
theorem ds_after {S : StC} {o : OpC} (hc : chkB o = true) (hd : S.ds (uk o.id) = none) {j : Lit} (hj : j ≠ uk o.id) : (doC S o).2.ds j = S.ds j := by
  rw [doC_fresh hc hd]
  show (if rdB o.kind = true then (stepC S o).2.ds else upd (stepC S o).2.ds (uk o.id) (some (stepC S o).1)) j = _
  rw [stepC_ds]
  split
  · rfl
  · rw [upd_other _ _ hj]
section
variable {name : ByteArray} {S T : StC} {M Sn : Lit → Prop} {o : OpC}
def seenNow (Sn : Lit → Prop) (o : OpC) : Lit → Prop := fun j => Sn j ∨ j = uk o.id
theorem seen_not {j : Lit} (h : ¬ seenNow Sn o j) : ¬ Sn j ∧ j ≠ uk o.id := ⟨fun e => h (.inl e), fun e => h (.inr e)⟩
/-- An op of another bucket. -/
theorem away_b (h : RInv name S T M Sn) (hc : chkB o = true) (hn : ¬ Sn (uk o.id)) (hk : 1 ≤ o.kind ∧ o.kind ≤ 7) (hb : o.bucket ≠ name) : RInv name (doC S o).2 T M (seenNow Sn o) := by
  obtain ⟨d1, d2, d3, d4⟩ := h.ds _ hn
  have hs : sk name ≠ sk o.bucket := fun e => hb (sk_inj e).symm
  have e1 : (doC S o).2.bs = upd S.bs (sk o.bucket) (stepB (S.bs (sk o.bucket)) (Used S o.bucket) o).2.1 := by rw [doC_fresh hc d1, stepC_b hk]; rfl
  have e2 : (doC S o).2.us = if (stepB (S.bs (sk o.bucket)) (Used S o.bucket) o).2.2 = true then upd S.us (uk o.id) (some ⟨o.bucket, o.key, fun _ => none⟩) else S.us := by rw [doC_fresh hc d1, stepC_b hk]; rfl
  refine ⟨by rw [e1, upd_other _ _ hs]; exact h.bs, fun j hj => ?_, h.us0, fun j u hu => ?_, fun j hj => ?_⟩
  · have : j ≠ uk o.id := fun e => d4 (e ▸ hj)
    rw [h.us j hj, e2]
    split
    · rw [upd_other _ _ this]
    · rfl
  · rw [e2] at hu
    split at hu
    · by_cases e : j = uk o.id
      · subst e
        rw [upd_same] at hu
        cases hu
        exact ⟨fun e => absurd e hb, fun e => absurd e d4⟩
      · rw [upd_other _ _ e] at hu
        exact h.rm j u hu
    · exact h.rm j u hu
  · obtain ⟨a, b⟩ := seen_not hj
    obtain ⟨x1, x2, x3, x4⟩ := h.ds j a
    refine ⟨by rw [ds_after hc d1 b]; exact x1, x2, ?_, x4⟩
    rw [e2]
    split
    · rw [upd_other _ _ b]; exact x3
    · exact x3
/-- An op of the bucket. -/
theorem here_b (h : RInv name S T M Sn) (hc : chkB o = true) (hn : ¬ Sn (uk o.id)) (hk : 1 ≤ o.kind ∧ o.kind ≤ 7) (hb : o.bucket = name) :
    (doC S o).1 = (doC T o).1 ∧ ∃ M', RInv name (doC S o).2 (doC T o).2 M' (seenNow Sn o) ∧ ((o.kind = 7 ∧ (doC S o).1.st = 200) → M' = fun j => M j ∨ j = uk o.id) ∧ (¬ (o.kind = 7 ∧ (doC S o).1.st = 200) → M' = M) := by
  obtain ⟨d1, d2, d3, d4⟩ := h.ds _ hn
  subst hb
  have hu : Used S o.bucket = Used T o.bucket := by
    funext c
    unfold Used
    refine propext (or_congr Iff.rfl ⟨fun ⟨id, u, h1, h2⟩ => ?_, fun ⟨id, u, h1, h2⟩ => ?_⟩)
    · exact ⟨id, u, (h.us id ((h.rm id u h1).1 h2)).trans h1, h2⟩
    · by_cases e : M id
      · exact ⟨id, u, (h.us id e).symm.trans h1, h2⟩
      · rw [h.us0 id e] at h1; cases h1
  generalize hr : stepB (S.bs (sk o.bucket)) (Used S o.bucket) o = r
  have hS := stepC_b (S := S) hk
  have hT := stepC_b (S := T) hk
  rw [← h.bs, ← hu] at hT
  rw [hr] at hS hT
  have e1 : (doC S o).1 = r.1 := by rw [doC_fresh hc d1, hS]; rfl
  have e2 : (doC T o).1 = r.1 := by rw [doC_fresh hc d2, hT]; rfl
  have b1 : (doC S o).2.bs = upd S.bs (sk o.bucket) r.2.1 := by rw [doC_fresh hc d1, hS]; rfl
  have b2 : (doC T o).2.bs = upd T.bs (sk o.bucket) r.2.1 := by rw [doC_fresh hc d2, hT]; rfl
  have u1 : (doC S o).2.us = if r.2.2 = true then upd S.us (uk o.id) (some ⟨o.bucket, o.key, fun _ => none⟩) else S.us := by rw [doC_fresh hc d1, hS]; rfl
  have u2 : (doC T o).2.us = if r.2.2 = true then upd T.us (uk o.id) (some ⟨o.bucket, o.key, fun _ => none⟩) else T.us := by rw [doC_fresh hc d2, hT]; rfl
  have hbeg : r.2.2 = true ↔ (o.kind = 7 ∧ r.1.st = 200) := by
    rw [← hr]
    have : o.kind = 1 ∨ o.kind = 2 ∨ o.kind = 3 ∨ o.kind = 4 ∨ o.kind = 5 ∨ o.kind = 6 ∨ o.kind = 7 := by omega
    cases hx : S.bs (sk o.bucket) with
    | none => rcases this with e | e | e | e | e | e | e <;> simp [stepB, e, stat]
    | some c =>
      rcases this with e | e | e | e | e | e | e
      · simp [stepB, e]
      · by_cases hu : Used S o.bucket c <;> simp [stepB, e, hu]
      · simp [stepB, e]
      · cases hy : c (sk o.key) <;> simp [stepB, e, hy]
      · cases hy : c (sk o.key) <;> simp [stepB, e, hy]
      · simp [stepB, e]
      · simp [stepB, e]
  refine ⟨e1.trans e2.symm, ?_⟩
  rw [e1]
  by_cases hw : r.2.2 = true
  · rw [if_pos hw] at u1 u2
    refine ⟨fun j => M j ∨ j = uk o.id, ⟨by rw [b1, b2, upd_same, upd_same], fun j hj => ?_, fun j hj => ?_, fun j u hu => ?_, fun j hj => ?_⟩, fun _ => rfl, fun e => absurd (hbeg.1 hw) e⟩
    · rw [u1, u2]
      by_cases e : j = uk o.id
      · subst e; rw [upd_same, upd_same]
      · rw [upd_other _ _ e, upd_other _ _ e]
        exact h.us j (by rcases hj with hj | hj; exact hj; exact absurd hj e)
    · rw [u2, upd_other _ _ (fun e => hj (.inr e))]
      exact h.us0 j (fun e => hj (.inl e))
    · rw [u1] at hu
      by_cases e : j = uk o.id
      · subst e; rw [upd_same] at hu; cases hu; exact ⟨fun _ => .inr rfl, fun _ => rfl⟩
      · rw [upd_other _ _ e] at hu
        exact (h.rm j u hu).trans ⟨.inl, fun h => by rcases h with h | h; exact h; exact absurd h e⟩
    · obtain ⟨a, b⟩ := seen_not hj
      obtain ⟨x1, x2, x3, x4⟩ := h.ds j a
      exact ⟨by rw [ds_after hc d1 b]; exact x1, by rw [ds_after hc d2 b]; exact x2, by rw [u1, upd_other _ _ b]; exact x3, fun e => by rcases e with e | e; exact x4 e; exact b e⟩
  · rw [if_neg hw] at u1 u2
    refine ⟨M, ⟨by rw [b1, b2, upd_same, upd_same], fun j hj => by rw [u1, u2]; exact h.us j hj, fun j hj => by rw [u2]; exact h.us0 j hj, fun j u hu => by rw [u1] at hu; exact h.rm j u hu, fun j hj => ?_⟩, fun e => absurd (hbeg.2 e) hw, fun _ => rfl⟩
    obtain ⟨a, b⟩ := seen_not hj
    obtain ⟨x1, x2, x3, x4⟩ := h.ds j a
    exact ⟨by rw [ds_after hc d1 b]; exact x1, by rw [ds_after hc d2 b]; exact x2, by rw [u1]; exact x3, x4⟩
/-- What a kind that names an upload does. -/
theorem stepC_u {S : StC} {o : OpC} (h : 8 ≤ o.kind ∧ o.kind ≤ 10) :
    (S.us (uk o.up) = none ∧ stepC S o = (stat 404, S)) ∨ ∃ u, S.us (uk o.up) = some u ∧ ∃ r : ResC, ∃ nu : Option UplC, ∃ no : Option (List UInt8), (∀ u', nu = some u' → u'.bucket = u.bucket) ∧
      ∀ T : StC, T.us (uk o.up) = some u → stepC T o = (r, ⟨match no with | none => T.bs | some acc => upd T.bs (sk u.bucket) (some (upd ((T.bs (sk u.bucket)).getD (fun _ => none)) (sk u.key) (some acc))), upd T.us (uk o.up) nu, T.ds⟩) := by
  have : o.kind = 8 ∨ o.kind = 9 ∨ o.kind = 10 := by omega
  cases hu : S.us (uk o.up) with
  | none => refine .inl ⟨rfl, ?_⟩; rcases this with e | e | e <;> simp [stepC, e, hu]
  | some u =>
    refine .inr ⟨u, rfl, ?_⟩
    have hid : ∀ T : StC, T.us (uk o.up) = some u → upd T.us (uk o.up) (some u) = T.us := fun T h => by rw [← h]; exact upd_id _ _
    rcases this with e | e | e
    · exact ⟨stat 200, some { u with parts := upd u.parts (ik o.n) (some o.data) }, none, (fun u' h => by cases h; rfl), fun T hT => by simp [stepC, e, hT]⟩
    · cases hx : cats u.parts o.parts with
      | none => exact ⟨stat 400, some u, none, (fun u' h => by cases h; rfl), fun T hT => by simp [stepC, e, hT, hx, hid T hT]⟩
      | some acc => exact ⟨stat 200, none, some acc, (fun u' h => by cases h), fun T hT => by simp [stepC, e, hT, hx]⟩
    · exact ⟨stat 200, none, none, (fun u' h => by cases h), fun T hT => by simp [stepC, e, hT]⟩
/-- An op of an upload of another bucket, or of none. -/
theorem away_u (h : RInv name S T M Sn) (hc : chkB o = true) (hn : ¬ Sn (uk o.id)) (hk : 8 ≤ o.kind ∧ o.kind ≤ 10) (hm : ¬ M (uk o.up)) : RInv name (doC S o).2 T M (seenNow Sn o) := by
  obtain ⟨d1, d2, d3, d4⟩ := h.ds _ hn
  have fin : ∀ S' : StC, S'.bs (sk name) = S.bs (sk name) → (∀ j, j ≠ uk o.up → S'.us j = S.us j) → (∀ u, S'.us (uk o.up) = some u → u.bucket ≠ name) → (∀ j, S.us j = none → S'.us j = none) → S'.bs = (doC S o).2.bs → S'.us = (doC S o).2.us → RInv name (doC S o).2 T M (seenNow Sn o) := fun S' a1 a2 a3 a4 a5 a6 => by
    refine ⟨by rw [← a5, a1]; exact h.bs, fun j hj => ?_, h.us0, fun j u hu => ?_, fun j hj => ?_⟩
    · rw [← a6, a2 j (fun e => hm (e ▸ hj))]; exact h.us j hj
    · rw [← a6] at hu
      by_cases e : j = uk o.up
      · subst e; exact ⟨fun e => absurd e (a3 u hu), fun e => absurd e hm⟩
      · rw [a2 j e] at hu; exact h.rm j u hu
    · obtain ⟨a, b⟩ := seen_not hj
      obtain ⟨x1, x2, x3, x4⟩ := h.ds j a
      exact ⟨by rw [ds_after hc d1 b]; exact x1, x2, by rw [← a6]; exact a4 j x3, x4⟩
  rcases stepC_u (S := S) hk with ⟨hu, hs⟩ | ⟨u, hu, r, nu, no, hnu, hs⟩
  · exact fin S rfl (fun _ _ => rfl) (fun u e => by rw [hu] at e; cases e) (fun _ h => h) (by rw [doC_fresh hc d1, hs]) (by rw [doC_fresh hc d1, hs])
  · have hub : u.bucket ≠ name := fun e => hm ((h.rm _ u hu).1 e)
    have hs := hs S hu
    refine fin (stepC S o).2 ?_ (fun j hj => ?_) (fun u' hu' => ?_) (fun j hj => ?_) (by rw [doC_fresh hc d1]) (by rw [doC_fresh hc d1])
    · rw [hs]
      cases no with
      | none => rfl
      | some acc => exact upd_other _ _ (fun e => hub (sk_inj e).symm)
    · rw [hs]; exact upd_other _ _ hj
    · rw [hs] at hu'
      rw [hnu u' (by rw [← hu']; exact (upd_same _ _ _).symm)]
      exact hub
    · rw [hs]
      show upd S.us (uk o.up) nu j = none
      by_cases e : j = uk o.up
      · subst e; rw [hu] at hj; cases hj
      · rw [upd_other _ _ e]; exact hj
/-- An op of an upload of the bucket. -/
theorem here_u (h : RInv name S T M Sn) (hc : chkB o = true) (hn : ¬ Sn (uk o.id)) (hk : 8 ≤ o.kind ∧ o.kind ≤ 10) (hm : M (uk o.up)) :
    (doC S o).1 = (doC T o).1 ∧ RInv name (doC S o).2 (doC T o).2 M (seenNow Sn o) := by
  obtain ⟨d1, d2, d3, d4⟩ := h.ds _ hn
  have hus := h.us _ hm
  have fin : ∀ S' T' : StC, S'.bs (sk name) = T'.bs (sk name) → (∀ j, j ≠ uk o.up → S'.us j = S.us j) → (∀ j, j ≠ uk o.up → T'.us j = T.us j) → S'.us (uk o.up) = T'.us (uk o.up) → (∀ u, S'.us (uk o.up) = some u → u.bucket = name) → (∀ j, S.us j = none → S'.us j = none) →
      S'.bs = (doC S o).2.bs → S'.us = (doC S o).2.us → T'.bs = (doC T o).2.bs → T'.us = (doC T o).2.us → RInv name (doC S o).2 (doC T o).2 M (seenNow Sn o) := fun S' T' a1 a2 b2 a3 a4 a5 c1 c2 c3 c4 => by
    refine ⟨by rw [← c1, ← c3]; exact a1, fun j hj => ?_, fun j hj => ?_, fun j u hu => ?_, fun j hj => ?_⟩
    · rw [← c2, ← c4]
      by_cases e : j = uk o.up
      · subst e; exact a3.symm
      · rw [a2 j e, b2 j e]; exact h.us j hj
    · rw [← c4, b2 j (fun e => hj (e ▸ hm))]; exact h.us0 j hj
    · rw [← c2] at hu
      by_cases e : j = uk o.up
      · subst e; exact ⟨fun _ => hm, fun _ => a4 u hu⟩
      · rw [a2 j e] at hu; exact h.rm j u hu
    · obtain ⟨a, b⟩ := seen_not hj
      obtain ⟨x1, x2, x3, x4⟩ := h.ds j a
      exact ⟨by rw [ds_after hc d1 b]; exact x1, by rw [ds_after hc d2 b]; exact x2, by rw [← c2]; exact a5 j x3, x4⟩
  rcases stepC_u (S := S) hk with ⟨hu, hs⟩ | ⟨u, hu, r, nu, no, hnu, hs⟩
  · have hu' : T.us (uk o.up) = none := hus.trans hu
    have hs' : stepC T o = (stat 404, T) := by
      rcases stepC_u (S := T) hk with ⟨_, h⟩ | ⟨u, e, _⟩
      · exact h
      · rw [hu'] at e; cases e
    refine ⟨by rw [doC_fresh hc d1, doC_fresh hc d2, hs, hs'], ?_⟩
    exact fin S T h.bs (fun _ _ => rfl) (fun _ _ => rfl) hus.symm (fun u e => by rw [hu] at e; cases e) (fun _ h => h) (by rw [doC_fresh hc d1, hs]) (by rw [doC_fresh hc d1, hs]) (by rw [doC_fresh hc d2, hs']) (by rw [doC_fresh hc d2, hs'])
  · have hub : u.bucket = name := (h.rm _ u hu).2 hm
    have hS := hs S hu
    have hT := hs T (hus.trans hu)
    refine ⟨by rw [doC_fresh hc d1, doC_fresh hc d2, hS, hT], ?_⟩
    refine fin (stepC S o).2 (stepC T o).2 ?_ (fun j hj => ?_) (fun j hj => ?_) ?_ (fun u' hu' => ?_) (fun j hj => ?_) (by rw [doC_fresh hc d1]) (by rw [doC_fresh hc d1]) (by rw [doC_fresh hc d2]) (by rw [doC_fresh hc d2])
    · rw [hS, hT]
      cases no with
      | none => exact h.bs
      | some acc =>
        show upd S.bs (sk u.bucket) _ _ = upd T.bs (sk u.bucket) _ _
        rw [hub, upd_same, upd_same, h.bs]
    · rw [hS]; exact upd_other _ _ hj
    · rw [hT]; exact upd_other _ _ hj
    · rw [hS, hT]
      show upd S.us (uk o.up) nu _ = upd T.us (uk o.up) nu _
      rw [upd_same, upd_same]
    · rw [hS] at hu'
      rw [hnu u' (by rw [← hu']; exact (upd_same _ _ _).symm)]
      exact hub
    · rw [hS]
      show upd S.us (uk o.up) nu j = none
      by_cases e : j = uk o.up
      · subst e; rw [hu] at hj; cases hj
      · rw [upd_other _ _ e]; exact hj
end
end Go.Proofs.Ytkbmecjpjphngaa
