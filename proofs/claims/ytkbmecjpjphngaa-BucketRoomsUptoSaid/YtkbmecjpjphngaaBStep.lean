/-
  The machine's step, as plain data; Do, whole.
-/
import Derived.Test.YtkbmecjpjphngaaBDo3
set_option linter.unusedVariables false
set_option linter.unusedSimpArgs false
namespace Go.Proofs.Ytkbmecjpjphngaa
open Go.RowKit Go.Maps

/-- The keys of a bucket, in order. -/
def IsKeys (c : Bk) (l : List (List UInt8)) : Prop := l.Pairwise (fun x y => x < y) ∧ ∀ k, k ∈ l ↔ (c (.string k)).isSome = true
noncomputable def keysC (c : Bk) : List (List UInt8) := @dite _ (∃ l, IsKeys c l) (Classical.propDecidable _) (fun h => Classical.choose h) (fun _ => [])
/-- Those that a listing tells. -/
noncomputable def pickC (c : Bk) (o : OpC) : List (List UInt8) := (keysC c).filter fun k => decide (o.key.data.toList <+: k) && decide (o.after.data.toList < k)
noncomputable def listC (c : Bk) (o : OpC) : ResC := ⟨200, 0, ((pickC c o).take o.n.toNat).map str, decide (o.n.toNat < (pickC c o).length), []⟩
noncomputable def stepC (S : StC) (o : OpC) : ResC × StC :=
  if o.kind = 1 then (match S.bs (sk o.bucket) with
    | some _ => (stat 409, S)
    | none => (stat 200, { S with bs := upd S.bs (sk o.bucket) (some (fun _ => none)) }))
  else if o.kind = 2 then (match S.bs (sk o.bucket) with
    | none => (stat 404, S)
    | some c => @ite _ (Used S o.bucket c) (Classical.propDecidable _) (stat 409, S) (stat 200, { S with bs := upd S.bs (sk o.bucket) none }))
  else if o.kind = 3 then (match S.bs (sk o.bucket) with
    | none => (stat 404, S)
    | some c => (stat 200, { S with bs := upd S.bs (sk o.bucket) (some (upd c (sk o.key) (some o.data))) }))
  else if o.kind = 4 then (match S.bs (sk o.bucket) with
    | none => (stat 404, S)
    | some c => (match c (sk o.key) with
      | none => (stat 404, S)
      | some x => (⟨200, 0, [], false, x⟩, S)))
  else if o.kind = 5 then (match S.bs (sk o.bucket) with
    | none => (stat 404, S)
    | some c => (match c (sk o.key) with
      | none => (stat 404, S)
      | some _ => (stat 200, { S with bs := upd S.bs (sk o.bucket) (some (upd c (sk o.key) none)) })))
  else if o.kind = 6 then (match S.bs (sk o.bucket) with
    | none => (stat 404, S)
    | some c => (listC c o, S))
  else if o.kind = 7 then (match S.bs (sk o.bucket) with
    | none => (stat 404, S)
    | some _ => (⟨200, o.id, [], false, []⟩, { S with us := upd S.us (uk o.id) (some ⟨o.bucket, o.key, fun _ => none⟩) }))
  else if o.kind = 8 then (match S.us (uk o.up) with
    | none => (stat 404, S)
    | some u => (stat 200, { S with us := upd S.us (uk o.up) (some { u with parts := upd u.parts (ik o.n) (some o.data) }) }))
  else if o.kind = 9 then (match S.us (uk o.up) with
    | none => (stat 404, S)
    | some u => (match cats u.parts o.parts with
      | none => (stat 400, S)
      | some acc => (stat 200, { bs := upd S.bs (sk u.bucket) (some (upd ((S.bs (sk u.bucket)).getD (fun _ => none)) (sk u.key) (some acc))), us := upd S.us (uk o.up) none, ds := S.ds })))
  else (match S.us (uk o.up) with
    | none => (stat 404, S)
    | some _ => (stat 200, { S with us := upd S.us (uk o.up) none }))
noncomputable def doC (S : StC) (o : OpC) : ResC × StC :=
  if chkB o = false then (stat 400, S)
  else if rdB o.kind = true then stepC S o
  else match S.ds (uk o.id) with
    | some r => (r, S)
    | none => ((stepC S o).1, { (stepC S o).2 with ds := upd (stepC S o).2.ds (uk o.id) (some (stepC S o).1) })
/-- Every upload's bucket is there. -/
def Live (S : StC) : Prop := ∀ id u, S.us id = some u → ∃ c, S.bs (sk u.bucket) = some c

/-- The method of a kind. -/
def methC (k : Int) : Nat :=
  if k = 1 then 46 else if k = 2 then 47 else if k = 3 then 48 else if k = 4 then 49 else if k = 5 then 50
  else if k = 6 then 51 else if k = 7 then 52 else if k = 8 then 53 else if k = 9 then 54 else 55
theorem chk_kind {o : OpC} (h : chkB o = true) : 1 ≤ o.kind ∧ o.kind ≤ 10 := by
  by_cases hk : 1 ≤ o.kind ∧ o.kind ≤ 10
  · exact hk
  · exfalso
    have : chkB o = false := by
      unfold chkB
      repeat (rw [if_neg (by omega)])
    rw [this] at h; cases h
theorem tab_at (p : Value) {k : Int} (h : 1 ≤ k ∧ k ≤ 10) : tableF p (ik k) = some (.func (.func (methC k)) #[p] #[]) := by
  have : k = 1 ∨ k = 2 ∨ k = 3 ∨ k = 4 ∨ k = 5 ∨ k = 6 ∨ k = 7 ∨ k = 8 ∨ k = 9 ∨ k = 10 := by omega
  rcases this with rfl | rfl | rfl | rfl | rfl | rfl | rfl | rfl | rfl | rfl <;> simp [tableF, upd, methC]
theorem meth_enter {k : Int} (h : 1 ≤ k ∧ k ≤ 10) : ∀ args W, (callFunc (methC k) args).run Try.prog W = .ok (.enter (methC k) args) W := by
  have : k = 1 ∨ k = 2 ∨ k = 3 ∨ k = 4 ∨ k = 5 ∨ k = 6 ∨ k = 7 ∨ k = 8 ∨ k = 9 ∨ k = 10 := by omega
  intro args W
  rcases this with rfl | rfl | rfl | rfl | rfl | rfl | rfl | rfl | rfl | rfl
  · rw [show methC 1 = 46 from by decide]; kernel_rfl
  · rw [show methC 2 = 47 from by decide]; kernel_rfl
  · rw [show methC 3 = 48 from by decide]; kernel_rfl
  · rw [show methC 4 = 49 from by decide]; kernel_rfl
  · rw [show methC 5 = 50 from by decide]; kernel_rfl
  · rw [show methC 6 = 51 from by decide]; kernel_rfl
  · rw [show methC 7 = 52 from by decide]; kernel_rfl
  · rw [show methC 8 = 53 from by decide]; kernel_rfl
  · rw [show methC 9 = 54 from by decide]; kernel_rfl
  · rw [show methC 10 = 55 from by decide]; kernel_rfl

/-! ### the methods -/
theorem part_len {o : OpC} (h : chkB o = true) (hk : o.kind = 3 ∨ o.kind = 8) : o.data.length ≤ 16777216 := by
  unfold chkB at h
  rcases hk with hk | hk <;> rw [hk] at h <;> simp [chkBB, chkE] at h <;> omega
theorem parts_len {o : OpC} (h : chkB o = true) (hk : o.kind = 9) : o.parts.length ≤ 10000 := by
  unfold chkB at h
  rw [hk] at h
  simp [chkG, partsB] at h
  omega
/-- What a method does is the step. -/
theorem meth_any {N : Nat} {W : World} {p v : Value} {S : StC} {F : Foot} {o : OpC} (h : Mach N W p S F) (ho : OpR W v o) (hc : chkB o = true) (hN : N < maxLen) (hL : Live S)
    (hl : o.kind = 6 → ∀ c, S.bs (sk o.bucket) = some c → Calls Try.prog 51 #[p, v] W (DoneR N W p F (listC c o) S)) :
    Calls Try.prog (methC o.kind) #[p, v] W (DoneR N W p F (stepC S o).1 (stepC S o).2) := by
  have hk := chk_kind hc
  have hd := part_len hc
  have hp := parts_len hc
  have : o.kind = 1 ∨ o.kind = 2 ∨ o.kind = 3 ∨ o.kind = 4 ∨ o.kind = 5 ∨ o.kind = 6 ∨ o.kind = 7 ∨ o.kind = 8 ∨ o.kind = 9 ∨ o.kind = 10 := by omega
  rcases this with e | e | e | e | e | e | e | e | e | e
  · rw [e, show methC 1 = 46 from by decide]
    cases hb : S.bs (sk o.bucket) with
    | none =>
      have hs : stepC S o = (stat 200, { S with bs := upd S.bs (sk o.bucket) (some (fun _ => none)) }) := by simp [stepC, e, hb]
      rw [hs]; exact make_new h ho hb hN
    | some c =>
      have hs : stepC S o = (stat 409, S) := by simp [stepC, e, hb]
      rw [hs]; exact make_old h ho hb
  · rw [e, show methC 2 = 47 from by decide]
    cases hb : S.bs (sk o.bucket) with
    | none =>
      have hs : stepC S o = (stat 404, S) := by simp [stepC, e, hb]
      rw [hs]; exact unmake_none h ho hb
    | some c =>
      by_cases hu : Used S o.bucket c
      · have hs : stepC S o = (stat 409, S) := by simp [stepC, e, hb, hu]
        rw [hs]; exact (unmake_some h ho hb).mono fun _ _ h => h.1 hu
      · have hs : stepC S o = (stat 200, { S with bs := upd S.bs (sk o.bucket) none }) := by simp [stepC, e, hb, hu]
        rw [hs]; exact (unmake_some h ho hb).mono fun _ _ h => h.2 hu
  · rw [e, show methC 3 = 48 from by decide]
    cases hb : S.bs (sk o.bucket) with
    | none =>
      have hs : stepC S o = (stat 404, S) := by simp [stepC, e, hb]
      rw [hs]; exact put_none h ho hb
    | some c =>
      have hs : stepC S o = (stat 200, { S with bs := upd S.bs (sk o.bucket) (some (upd c (sk o.key) (some o.data))) }) := by simp [stepC, e, hb]
      rw [hs]; exact put_some h ho hb hN (hd (.inl e))
  · rw [e, show methC 4 = 49 from by decide]
    cases hb : S.bs (sk o.bucket) with
    | none =>
      have hs : stepC S o = (stat 404, S) := by simp [stepC, e, hb]
      rw [hs]; exact get_no_bucket h ho hb
    | some c =>
      cases hx : c (sk o.key) with
      | none =>
        have hs : stepC S o = (stat 404, S) := by simp [stepC, e, hb, hx]
        rw [hs]; exact get_no_key h ho hb hx
      | some x =>
        have hs : stepC S o = (⟨200, 0, [], false, x⟩, S) := by simp [stepC, e, hb, hx]
        rw [hs]; exact get_some h ho hb hx
  · rw [e, show methC 5 = 50 from by decide]
    cases hb : S.bs (sk o.bucket) with
    | none =>
      have hs : stepC S o = (stat 404, S) := by simp [stepC, e, hb]
      rw [hs]; exact delete_no_bucket h ho hb
    | some c =>
      cases hx : c (sk o.key) with
      | none =>
        have hs : stepC S o = (stat 404, S) := by simp [stepC, e, hb, hx]
        rw [hs]; exact delete_no_key h ho hb hx
      | some x =>
        have hs : stepC S o = (stat 200, { S with bs := upd S.bs (sk o.bucket) (some (upd c (sk o.key) none)) }) := by simp [stepC, e, hb, hx]
        rw [hs]; exact delete_some h ho hb hx
  · rw [e, show methC 6 = 51 from by decide]
    cases hb : S.bs (sk o.bucket) with
    | none =>
      have hs : stepC S o = (stat 404, S) := by simp [stepC, e, hb]
      rw [hs]; exact list_none h ho hb
    | some c =>
      have hs : stepC S o = (listC c o, S) := by simp [stepC, e, hb]
      rw [hs]; exact hl e c hb
  · rw [e, show methC 7 = 52 from by decide]
    cases hb : S.bs (sk o.bucket) with
    | none =>
      have hs : stepC S o = (stat 404, S) := by simp [stepC, e, hb]
      rw [hs]; exact begin_none h ho hb
    | some c =>
      have hs : stepC S o = (⟨200, o.id, [], false, []⟩, { S with us := upd S.us (uk o.id) (some ⟨o.bucket, o.key, fun _ => none⟩) }) := by simp [stepC, e, hb]
      rw [hs]; exact begin_some h ho hb hN
  · rw [e, show methC 8 = 53 from by decide]
    cases hb : S.us (uk o.up) with
    | none =>
      have hs : stepC S o = (stat 404, S) := by simp [stepC, e, hb]
      rw [hs]; exact part_none h ho hb
    | some u =>
      have hs : stepC S o = (stat 200, { S with us := upd S.us (uk o.up) (some { u with parts := upd u.parts (ik o.n) (some o.data) }) }) := by simp [stepC, e, hb]
      rw [hs]; exact part_some h ho hb hN (hd (.inr e))
  · rw [e, show methC 9 = 54 from by decide]
    cases hb : S.us (uk o.up) with
    | none =>
      have hs : stepC S o = (stat 404, S) := by simp [stepC, e, hb]
      rw [hs]; exact complete_none h ho hb
    | some u =>
      obtain ⟨c, hcb⟩ := hL _ _ hb
      cases hx : cats u.parts o.parts with
      | none =>
        have hs : stepC S o = (stat 400, S) := by simp [stepC, e, hb, hx]
        rw [hs]; exact (complete_some h ho hb hcb hN (hp e)).mono fun _ _ h => h.1 hx
      | some acc =>
        have hs : stepC S o = (stat 200, { bs := upd S.bs (sk u.bucket) (some (upd c (sk u.key) (some acc))), us := upd S.us (uk o.up) none, ds := S.ds }) := by simp [stepC, e, hb, hx, hcb]
        rw [hs]; exact (complete_some h ho hb hcb hN (hp e)).mono fun _ _ h => h.2 acc hx
  · rw [e, show methC 10 = 55 from by decide]
    cases hb : S.us (uk o.up) with
    | none =>
      have hs : stepC S o = (stat 404, S) := by simp [stepC, e, hb]
      rw [hs]; exact abort_none h ho hb
    | some u =>
      have hs : stepC S o = (stat 200, { S with us := upd S.us (uk o.up) none }) := by simp [stepC, e, hb]
      rw [hs]; exact abort_some h ho hb
/-- What is kept bears no keys and no bytes. -/
theorem step_bare {S : StC} {o : OpC} (hc : chkB o = true) (h : rdB o.kind = false) : (stepC S o).1.keys = [] ∧ (stepC S o).1.data = [] := by
  have h4 : o.kind ≠ 4 := fun e => by simp [rdB, e] at h
  have h6 : o.kind ≠ 6 := fun e => by simp [rdB, e] at h
  unfold stepC
  rw [if_neg h4, if_neg h6]
  repeat' split
  all_goals exact ⟨rfl, rfl⟩
/-- Do. -/
theorem do_any {N : Nat} {w : World} {p v : Value} {S : StC} {F : Foot} {o : OpC} (h : Mach N w p S F) (ho : OpR w v o) (hN : N + 1 < maxLen) (hL : Live S)
    (hl : o.kind = 6 → chkB o = true → ∀ W, Mach N W p S F → OpR W v o → ∀ c, S.bs (sk o.bucket) = some c → Calls Try.prog 51 #[p, v] W (DoneR N W p F (listC c o) S)) :
    Calls Try.prog 14 #[p, v] w (DoneR (N + 1) w p F (doC S o).1 (doC S o).2) := by
  cases hc : chkB o with
  | false =>
    have hs : doC S o = (stat 400, S) := by simp [doC, hc]
    rw [hs]; exact (do_bad h ho hc).mono fun _ _ h => h.mono
  | true =>
    have hm : ∀ W, Mach N W p S F → OpR W v o → Calls Try.prog (methC o.kind) #[p, v] W (DoneR N W p F (stepC S o).1 (stepC S o).2) := fun W h1 h2 => meth_any h1 h2 hc (by omega) hL (fun e => hl e hc W h1 h2)
    have hk := chk_kind hc
    cases hr : rdB o.kind with
    | true =>
      have hs : doC S o = stepC S o := by simp [doC, hc, hr]
      rw [hs]; exact (do_read h ho hc hr (tab_at p hk) hm (meth_enter hk)).mono fun _ _ h => h.mono
    | false =>
      cases hd : S.ds (uk o.id) with
      | some r =>
        have hs : doC S o = (r, S) := by simp [doC, hc, hr, hd]
        rw [hs]; exact (do_old h ho hc hd hr).mono fun _ _ h => h.mono
      | none =>
        have hs : doC S o = ((stepC S o).1, { (stepC S o).2 with ds := upd (stepC S o).2.ds (uk o.id) (some (stepC S o).1) }) := by simp [doC, hc, hr, hd]
        obtain ⟨b1, b2⟩ := step_bare (S := S) hc hr
        rw [hs]; exact do_fresh h ho hc hd hr (tab_at p hk) hm (meth_enter hk) b1 b2 hN
end Go.Proofs.Ytkbmecjpjphngaa
