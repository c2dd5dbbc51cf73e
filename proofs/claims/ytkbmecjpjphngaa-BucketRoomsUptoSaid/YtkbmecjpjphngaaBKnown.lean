/-
  known: the chapter's example.
-/
import Derived.Test.YtkbmecjpjphngaaBRun
set_option linter.unusedVariables false
set_option linter.unusedSimpArgs false
namespace Go.Proofs.Ytkbmecjpjphngaa
open Go.RowKit Go.Maps

abbrev bB : ByteArray := ⟨#[98]⟩
abbrev kB : ByteArray := ⟨#[107]⟩
abbrev eB : ByteArray := ⟨#[]⟩
def op1 : OpC := ⟨1, 1, bB, eB, eB, 0, 0, [], []⟩
def op2 : OpC := ⟨7, 7, bB, kB, eB, 0, 0, [], []⟩
def op3 : OpC := ⟨2, 8, eB, eB, eB, 2, 7, [], [121, 121]⟩
def op4 : OpC := ⟨3, 8, eB, eB, eB, 1, 7, [], [120]⟩
def op5 : OpC := ⟨4, 9, eB, eB, eB, 0, 7, [1, 2], []⟩
def op6 : OpC := ⟨5, 4, bB, kB, eB, 0, 0, [], []⟩
def op7 : OpC := ⟨6, 2, bB, eB, eB, 0, 0, [], []⟩
def knownOps : List OpC := [op1, op2, op3, op4, op5, op6, op7]
theorem chk1 : chkB op1 = true := by decide +kernel
theorem chk2 : chkB op2 = true := by decide +kernel
theorem chk3 : chkB op3 = true := by decide +kernel
theorem chk4 : chkB op4 = true := by decide +kernel
theorem chk5 : chkB op5 = true := by decide +kernel
theorem chk6 : chkB op6 = true := by decide +kernel
theorem chk7 : chkB op7 = true := by decide +kernel
theorem uk_ne {a b : Int} (h : a ≠ b) : uk a ≠ uk b := fun e => by injection e with _ e; exact h e
theorem ik_ne {a b : Int} (h : a ≠ b) : ik a ≠ ik b := fun e => by injection e with _ e; exact h e
noncomputable def bs1 : Lit → Option Bk := upd (fun _ => none) (sk bB) (some (fun _ => none))
noncomputable def ds1 : Lit → Option ResC := upd (fun _ => none) (uk 1) (some (stat 200))
noncomputable def ds2 : Lit → Option ResC := upd ds1 (uk 7) (some ⟨200, 7, [], false, []⟩)
noncomputable def ds3 : Lit → Option ResC := upd ds2 (uk 2) (some (stat 200))
noncomputable def ds4 : Lit → Option ResC := upd ds3 (uk 3) (some (stat 200))
noncomputable def ds5 : Lit → Option ResC := upd ds4 (uk 4) (some (stat 200))
noncomputable def us2 : Lit → Option UplC := upd (fun _ => none) (uk 7) (some ⟨bB, kB, fun _ => none⟩)
noncomputable def us3 : Lit → Option UplC := upd us2 (uk 7) (some ⟨bB, kB, upd (fun _ => none) (ik 2) (some [121, 121])⟩)
noncomputable def us4 : Lit → Option UplC := upd us3 (uk 7) (some ⟨bB, kB, upd (upd (fun _ => none) (ik 2) (some [121, 121])) (ik 1) (some [120])⟩)
noncomputable def us5 : Lit → Option UplC := upd us4 (uk 7) none
noncomputable def bk5 : Bk := upd (fun _ => none) (sk kB) (some [120, 121, 121])
noncomputable def bs5 : Lit → Option Bk := upd bs1 (sk bB) (some bk5)
theorem doC_new {S S' : StC} {o : OpC} {r : ResC} (hc : chkB o = true) (hr : rdB o.kind = false) (hd : S.ds (uk o.id) = none) (hs : stepC S o = (r, S')) : doC S o = (r, { S' with ds := upd S'.ds (uk o.id) (some r) }) := by
  simp [doC, hc, hr, hd, hs]
theorem doC_read {S : StC} {o : OpC} (hc : chkB o = true) (hr : rdB o.kind = true) : doC S o = stepC S o := by
  simp [doC, hc, hr]
theorem s1 : doC StC.empty op1 = (stat 200, ⟨bs1, fun _ => none, ds1⟩) := doC_new (S' := ⟨bs1, fun _ => none, fun _ => none⟩) chk1 rfl rfl (by simp [stepC, op1, StC.empty, bs1])
theorem s2 : doC ⟨bs1, fun _ => none, ds1⟩ op2 = (⟨200, 7, [], false, []⟩, ⟨bs1, us2, ds2⟩) := by
  have h : ds1 (uk 7) = none := by unfold ds1; rw [upd_other _ _ (uk_ne (by decide))]
  have hb : bs1 (sk bB) = some (fun _ => none) := upd_same _ _ _
  have e : rdB op2.kind = false := rfl
  have hs : stepC ⟨bs1, fun _ => none, ds1⟩ op2 = (⟨200, 7, [], false, []⟩, ⟨bs1, us2, ds1⟩) := by
    unfold stepC
    simp only [op2]
    rw [if_neg (by decide), if_neg (by decide), if_neg (by decide), if_neg (by decide), if_neg (by decide), if_neg (by decide), if_pos (by decide), hb]
    rfl
  exact doC_new chk2 e h hs
theorem s3 : doC ⟨bs1, us2, ds2⟩ op3 = (stat 200, ⟨bs1, us3, ds3⟩) := by
  have h : ds2 (uk 2) = none := by unfold ds2 ds1; rw [upd_other _ _ (uk_ne (by decide)), upd_other _ _ (uk_ne (by decide))]
  have hu : us2 (uk 7) = some ⟨bB, kB, fun _ => none⟩ := upd_same _ _ _
  have e : rdB op3.kind = false := rfl
  have hs : stepC ⟨bs1, us2, ds2⟩ op3 = (stat 200, ⟨bs1, us3, ds2⟩) := by
    unfold stepC
    simp only [op3]
    rw [if_neg (by decide), if_neg (by decide), if_neg (by decide), if_neg (by decide), if_neg (by decide), if_neg (by decide), if_neg (by decide), if_pos (by decide), hu]
    rfl
  exact doC_new chk3 e h hs
theorem s4 : doC ⟨bs1, us3, ds3⟩ op4 = (stat 200, ⟨bs1, us4, ds4⟩) := by
  have h : ds3 (uk 3) = none := by unfold ds3 ds2 ds1; rw [upd_other _ _ (uk_ne (by decide)), upd_other _ _ (uk_ne (by decide)), upd_other _ _ (uk_ne (by decide))]
  have hu : us3 (uk 7) = some ⟨bB, kB, upd (fun _ => none) (ik 2) (some [121, 121])⟩ := upd_same _ _ _
  have e : rdB op4.kind = false := rfl
  have hs : stepC ⟨bs1, us3, ds3⟩ op4 = (stat 200, ⟨bs1, us4, ds3⟩) := by
    unfold stepC
    simp only [op4]
    rw [if_neg (by decide), if_neg (by decide), if_neg (by decide), if_neg (by decide), if_neg (by decide), if_neg (by decide), if_neg (by decide), if_pos (by decide), hu]
    rfl
  exact doC_new chk4 e h hs
theorem s5 : doC ⟨bs1, us4, ds4⟩ op5 = (stat 200, ⟨bs5, us5, ds5⟩) := by
  have h : ds4 (uk 4) = none := by unfold ds4 ds3 ds2 ds1; rw [upd_other _ _ (uk_ne (by decide)), upd_other _ _ (uk_ne (by decide)), upd_other _ _ (uk_ne (by decide)), upd_other _ _ (uk_ne (by decide))]
  have hu : us4 (uk 7) = some ⟨bB, kB, upd (upd (fun _ => none) (ik 2) (some [121, 121])) (ik 1) (some [120])⟩ := upd_same _ _ _
  have hb : bs1 (sk bB) = some (fun _ => none) := upd_same _ _ _
  have hc : cats (upd (upd (fun _ => none) (ik 2) (some [121, 121])) (ik 1) (some [120])) [1, 2] = some [120, 121, 121] := by
    simp only [cats]
    rw [upd_same, upd_other _ _ (ik_ne (by decide)), upd_same]
    rfl
  have e : rdB op5.kind = false := rfl
  have hs : stepC ⟨bs1, us4, ds4⟩ op5 = (stat 200, ⟨bs5, us5, ds4⟩) := by
    unfold stepC
    simp only [op5]
    rw [if_neg (by decide), if_neg (by decide), if_neg (by decide), if_neg (by decide), if_neg (by decide), if_neg (by decide), if_neg (by decide), if_neg (by decide), if_pos (by decide), hu]
    simp only [hc, hb]
    rfl
  exact doC_new chk5 e h hs
theorem s6 : doC ⟨bs5, us5, ds5⟩ op6 = (⟨200, 0, [], false, [120, 121, 121]⟩, ⟨bs5, us5, ds5⟩) := by
  have hb : bs5 (sk bB) = some bk5 := upd_same _ _ _
  have hk : bk5 (sk kB) = some [120, 121, 121] := upd_same _ _ _
  have e : rdB op6.kind = true := rfl
  rw [doC_read chk6 e]
  unfold stepC
  simp only [op6]
  rw [if_neg (by decide), if_neg (by decide), if_neg (by decide), if_pos (by decide), hb]
  simp only [hk]
theorem s7 : (doC ⟨bs5, us5, ds5⟩ op7).1 = stat 409 := by
  have h : ds5 (uk 6) = none := by unfold ds5 ds4 ds3 ds2 ds1; rw [upd_other _ _ (uk_ne (by decide)), upd_other _ _ (uk_ne (by decide)), upd_other _ _ (uk_ne (by decide)), upd_other _ _ (uk_ne (by decide)), upd_other _ _ (uk_ne (by decide))]
  have hb : bs5 (sk bB) = some bk5 := upd_same _ _ _
  have hk : bk5 (sk kB) = some [120, 121, 121] := upd_same _ _ _
  have e : rdB op7.kind = false := rfl
  have hs : (stepC ⟨bs5, us5, ds5⟩ op7).1 = stat 409 := by
    unfold stepC
    simp only [op7]
    rw [if_neg (by decide), if_pos (by decide), hb]
    have : Used ⟨bs5, us5, ds5⟩ bB bk5 := .inl ⟨sk kB, by rw [hk]; simp⟩
    simp [this]
  rw [doC_new (S' := (stepC ⟨bs5, us5, ds5⟩ op7).2) (r := stat 409) chk7 e h (by rw [← hs])]
theorem known_plain : ∃ r0 r2 r3 r4, (runC StC.empty knownOps).1 = [r0, ⟨200, 7, [], false, []⟩, r2, r3, r4, ⟨200, 0, [], false, [120, 121, 121]⟩, stat 409] := by
  refine ⟨stat 200, stat 200, stat 200, stat 200, ?_⟩
  simp only [knownOps, runC, s1, s2, s3, s4, s5, s6, s7]

/-- The seven ops as they lie in memory. -/
def opsCells (q : Nat) : Array Value := #[.int .u64 1, .int .i64 1, .string bB, .string eB, .string eB, .int .i64 0, .int .u64 0, .slice none 0 0, .slice none 0 0, .int .u64 7, .int .i64 7, .string bB, .string kB, .string eB, .int .i64 0, .int .u64 0, .slice none 0 0, .slice none 0 0, .int .u64 2, .int .i64 8, .string eB, .string eB, .string eB, .int .i64 2, .int .u64 7, .slice none 0 0, .slice (some ⟨q, 0, none⟩) 2 2, .int .u64 3, .int .i64 8, .string eB, .string eB, .string eB, .int .i64 1, .int .u64 7, .slice none 0 0, .slice (some ⟨q + 1, 0, none⟩) 1 1, .int .u64 4, .int .i64 9, .string eB, .string eB, .string eB, .int .i64 0, .int .u64 7, .slice (some ⟨q + 1 + 1, 0, none⟩) 2 2, .slice none 0 0, .int .u64 5, .int .i64 4, .string bB, .string kB, .string eB, .int .i64 0, .int .u64 0, .slice none 0 0, .slice none 0 0, .int .u64 6, .int .i64 2, .string bB, .string eB, .string eB, .int .i64 0, .int .u64 0, .slice none 0 0, .slice none 0 0]
/-- Within their kinds. -/
def W8 (o : OpC) : Prop := (Lit.int .u64 o.id).wf = true ∧ (Lit.int .i64 o.kind).wf = true ∧ (Lit.int .i64 o.n).wf = true ∧ (Lit.int .u64 o.up).wf = true ∧ (∀ x ∈ o.parts, (Lit.int .i64 x).wf = true) ∧ o.bucket.size ≤ maxLen ∧ o.key.size ≤ maxLen ∧ o.after.size ≤ maxLen
theorem wf1 : W8 op1 := ⟨by decide +kernel, by decide +kernel, by decide +kernel, by decide +kernel, by decide +kernel, by decide +kernel, by decide +kernel, by decide +kernel⟩
theorem wf2 : W8 op2 := ⟨by decide +kernel, by decide +kernel, by decide +kernel, by decide +kernel, by decide +kernel, by decide +kernel, by decide +kernel, by decide +kernel⟩
theorem wf3 : W8 op3 := ⟨by decide +kernel, by decide +kernel, by decide +kernel, by decide +kernel, by decide +kernel, by decide +kernel, by decide +kernel, by decide +kernel⟩
theorem wf4 : W8 op4 := ⟨by decide +kernel, by decide +kernel, by decide +kernel, by decide +kernel, by decide +kernel, by decide +kernel, by decide +kernel, by decide +kernel⟩
theorem wf5 : W8 op5 := ⟨by decide +kernel, by decide +kernel, by decide +kernel, by decide +kernel, by decide +kernel, by decide +kernel, by decide +kernel, by decide +kernel⟩
theorem wf6 : W8 op6 := ⟨by decide +kernel, by decide +kernel, by decide +kernel, by decide +kernel, by decide +kernel, by decide +kernel, by decide +kernel, by decide +kernel⟩
theorem wf7 : W8 op7 := ⟨by decide +kernel, by decide +kernel, by decide +kernel, by decide +kernel, by decide +kernel, by decide +kernel, by decide +kernel, by decide +kernel⟩
theorem nil_rd (W : World) : Rd W (.slice none 0 0) 0 1 [] := Rd.nil' (by simp [maxLen]) (fun _ => rfl)
theorem ops_known {W : World} {q : Nat} {f0 f1 : Nat × Nat} (h0 : W.heap[q]? = some (.cells #[.int .u8 121, .int .u8 121] 5 f0)) (h1 : W.heap[q + 1]? = some (.cells #[.int .u8 120] 5 f1)) (h2 : W.heap[q + 1 + 1]? = some (.cells #[.int .i64 1, .int .i64 2] 3)) (h3 : W.heap[q + 1 + 1 + 1]? = some (.cells (opsCells q) 26)) :
    OpsR W (.slice (some ⟨q + 1 + 1 + 1, 0, none⟩) 7 7) knownOps := by
  have hY : RdB W (.slice (some ⟨q, 0, none⟩) 2 2) [121, 121] := Rd.mk' (by simp [bvs]) (by simp) (by simp [maxLen]) (fun j u hu => by
    match j, hu with
    | 0, hu => simp [bvs] at hu; subst hu; simp [World.cell?, h0]
    | 1, hu => simp [bvs] at hu; subst hu; simp [World.cell?, h0]
    | j + 2, hu => simp [bvs] at hu)
  have hX : RdB W (.slice (some ⟨q + 1, 0, none⟩) 1 1) [120] := Rd.mk' (by simp [bvs]) (by simp) (by simp [maxLen]) (fun j u hu => by
    match j, hu with
    | 0, hu => simp [bvs] at hu; subst hu; simp [World.cell?, h1]
    | j + 1, hu => simp [bvs] at hu)
  have hP : Rd W (.slice (some ⟨q + 1 + 1, 0, none⟩) 2 2) 2 1 [.int .i64 1, .int .i64 2] := Rd.mk' (by simp) (by simp) (by simp [maxLen]) (fun j u hu => by
    match j, hu with
    | 0, hu => simp at hu; subst hu; simp [World.cell?, h2]
    | 1, hu => simp at hu; subst hu; simp [World.cell?, h2]
    | j + 2, hu => simp at hu)
  have hc : ∀ i, W.cell? ⟨q + 1 + 1 + 1, i, none⟩ = (opsCells q)[i]? := fun i => by simp [World.cell?, h3]
  refine ⟨_, 7, rfl, by decide, by simp [maxLen], fun j hj => ?_⟩
  match j, hj with
  | 0, _ => exact ⟨_, 0, (.int .u64 1), (.int .i64 1), (.string bB), (.string eB), (.string eB), (.int .i64 0), (.int .u64 0), (.slice none 0 0), (.slice none 0 0), rfl, ⟨_, _, rfl, nil_rd _, nil_rd _, wf1⟩, by rw [hc]; rfl, by rw [hc]; rfl, by rw [hc]; rfl, by rw [hc]; rfl, by rw [hc]; rfl, by rw [hc]; rfl, by rw [hc]; rfl, by rw [hc]; rfl, by rw [hc]; rfl⟩
  | 1, _ => exact ⟨_, 0, (.int .u64 7), (.int .i64 7), (.string bB), (.string kB), (.string eB), (.int .i64 0), (.int .u64 0), (.slice none 0 0), (.slice none 0 0), rfl, ⟨_, _, rfl, nil_rd _, nil_rd _, wf2⟩, by rw [hc]; rfl, by rw [hc]; rfl, by rw [hc]; rfl, by rw [hc]; rfl, by rw [hc]; rfl, by rw [hc]; rfl, by rw [hc]; rfl, by rw [hc]; rfl, by rw [hc]; rfl⟩
  | 2, _ => exact ⟨_, 0, (.int .u64 2), (.int .i64 8), (.string eB), (.string eB), (.string eB), (.int .i64 2), (.int .u64 7), (.slice none 0 0), (.slice (some ⟨q, 0, none⟩) 2 2), rfl, ⟨_, _, rfl, nil_rd _, hY, wf3⟩, by rw [hc]; rfl, by rw [hc]; rfl, by rw [hc]; rfl, by rw [hc]; rfl, by rw [hc]; rfl, by rw [hc]; rfl, by rw [hc]; rfl, by rw [hc]; rfl, by rw [hc]; rfl⟩
  | 3, _ => exact ⟨_, 0, (.int .u64 3), (.int .i64 8), (.string eB), (.string eB), (.string eB), (.int .i64 1), (.int .u64 7), (.slice none 0 0), (.slice (some ⟨q + 1, 0, none⟩) 1 1), rfl, ⟨_, _, rfl, nil_rd _, hX, wf4⟩, by rw [hc]; rfl, by rw [hc]; rfl, by rw [hc]; rfl, by rw [hc]; rfl, by rw [hc]; rfl, by rw [hc]; rfl, by rw [hc]; rfl, by rw [hc]; rfl, by rw [hc]; rfl⟩
  | 4, _ => exact ⟨_, 0, (.int .u64 4), (.int .i64 9), (.string eB), (.string eB), (.string eB), (.int .i64 0), (.int .u64 7), (.slice (some ⟨q + 1 + 1, 0, none⟩) 2 2), (.slice none 0 0), rfl, ⟨_, _, rfl, hP, nil_rd _, wf5⟩, by rw [hc]; rfl, by rw [hc]; rfl, by rw [hc]; rfl, by rw [hc]; rfl, by rw [hc]; rfl, by rw [hc]; rfl, by rw [hc]; rfl, by rw [hc]; rfl, by rw [hc]; rfl⟩
  | 5, _ => exact ⟨_, 0, (.int .u64 5), (.int .i64 4), (.string bB), (.string kB), (.string eB), (.int .i64 0), (.int .u64 0), (.slice none 0 0), (.slice none 0 0), rfl, ⟨_, _, rfl, nil_rd _, nil_rd _, wf6⟩, by rw [hc]; rfl, by rw [hc]; rfl, by rw [hc]; rfl, by rw [hc]; rfl, by rw [hc]; rfl, by rw [hc]; rfl, by rw [hc]; rfl, by rw [hc]; rfl, by rw [hc]; rfl⟩
  | 6, _ => exact ⟨_, 0, (.int .u64 6), (.int .i64 2), (.string bB), (.string eB), (.string eB), (.int .i64 0), (.int .u64 0), (.slice none 0 0), (.slice none 0 0), rfl, ⟨_, _, rfl, nil_rd _, nil_rd _, wf7⟩, by rw [hc]; rfl, by rw [hc]; rfl, by rw [hc]; rfl, by rw [hc]; rfl, by rw [hc]; rfl, by rw [hc]; rfl, by rw [hc]; rfl, by rw [hc]; rfl, by rw [hc]; rfl⟩
  | j + 7, hj => exact absurd hj (by simp [knownOps])
theorem no6 : ∀ o ∈ knownOps, o.kind ≠ 6 := by decide +kernel
theorem four_new {w1 W : World} {F : Foot} (hl : ∀ i, F i → i < w1.heap.size) {x0 x1 x2 x3 : Obj} (hW : Frm F ((((w1.alloc x0).alloc x1).alloc x2).alloc x3) W) :
    W.heap[w1.heap.size]? = some x0 ∧ W.heap[w1.heap.size + 1]? = some x1 ∧ W.heap[w1.heap.size + 1 + 1]? = some x2 ∧ W.heap[w1.heap.size + 1 + 1 + 1]? = some x3 := by
  have nf : ∀ i, w1.heap.size ≤ i → ¬ F i := fun i h e => by have := hl i e; omega
  refine ⟨?_, ?_, ?_, ?_⟩
  · rw [hW.block _ (by simp <;> omega) (nf _ (Nat.le_refl _)), alloc_same (by simp <;> omega), alloc_same (by simp <;> omega), alloc_same (by simp <;> omega)]
    exact heap_alloc_new _ _
  · rw [hW.block _ (by simp <;> omega) (nf _ (by omega)), alloc_same (by simp <;> omega), alloc_same (by simp <;> omega)]
    have := heap_alloc_new (w1.alloc x0) x1
    rw [alloc_size] at this; exact this
  · rw [hW.block _ (by simp <;> omega) (nf _ (by omega)), alloc_same (by simp <;> omega)]
    have := heap_alloc_new ((w1.alloc x0).alloc x1) x2
    rw [alloc_size, alloc_size] at this; exact this
  · rw [hW.block _ (by simp <;> omega) (nf _ (by omega))]
    have := heap_alloc_new (((w1.alloc x0).alloc x1).alloc x2) x3
    rw [alloc_size, alloc_size, alloc_size] at this; exact this
theorem flat5 : ∀ (l : List (List Value)), (∀ (j : Nat) (x : List Value), l[j]? = some x → x.length = 5) → ∀ (j : Nat) (x : List Value) (i : Nat), l[j]? = some x → i < 5 → l.flatten[j * 5 + i]? = x[i]?
  | [], _, j, x, i, h, _ => by simp at h
  | y :: r, hl, 0, x, i, h, hi => by
    simp at h; subst h
    have := hl 0 y (by simp)
    rw [List.flatten_cons, List.getElem?_append_left (by omega), Nat.zero_mul, Nat.zero_add]
  | y :: r, hl, j + 1, x, i, h, hi => by
    have hy := hl 0 y (by simp)
    rw [List.flatten_cons, List.getElem?_append_right (by omega)]
    have := flat5 r (fun (j : Nat) (x : List Value) h => hl (j + 1) x (by simpa using h)) j x i (by simpa using h) hi
    rw [← this]
    congr 1
    omega
/-- What Run hands back, cell by cell. -/
theorem runI_cells {N : Nat} {w : World} {p : Value} {F : Foot} {S : StC} {os : List OpC} {a : Value} {wr : World} (h : RunI N w p F S os os.length a wr) (h0 : 0 < os.length) : ∃ g off cap, a = .slice (some ⟨g, off, none⟩) os.length cap ∧ os.length ≤ cap ∧ cap ≤ maxLen ∧ Frm F w wr ∧
    ∀ j r, (runC S os).1[j]? = some r → ∃ kv dv, wr.cell? ⟨g, off + j * 5, none⟩ = some (.int .i64 r.st) ∧ wr.cell? ⟨g, off + j * 5 + 1, none⟩ = some (.int .u64 r.up) ∧ wr.cell? ⟨g, off + j * 5 + 2, none⟩ = some kv ∧ wr.cell? ⟨g, off + j * 5 + 3, none⟩ = some (.bool r.more) ∧
      wr.cell? ⟨g, off + j * 5 + 4, none⟩ = some dv ∧ RdB wr dv r.data ∧ RdS wr kv r.keys := by
  obtain ⟨F', rvs, hM, hF', hf, hrow, hlen, hown, hres⟩ := h.out
  obtain ⟨g, off, cap, rfl, a1, a2, _, hcs⟩ := (own_rd hrow).full h0 (by omega)
  refine ⟨g, off, cap, rfl, a1, a2, hf, fun j r hj => ?_⟩
  have hjl : j < os.length := by
    have := (List.getElem?_eq_some_iff.1 hj).1
    rw [runC_len] at this; exact this
  obtain ⟨rv, r', Fr, b1, b2, b3, ⟨kv, dv, e, hk, _, hd, _⟩, _⟩ := hres j hjl
  rw [List.take_length] at b3
  rw [hj] at b3
  cases b3
  have h5 : ∀ (j : Nat) (x : List Value), rvs[j]? = some x → x.length = 5 := fun j (x : List Value) hx => by
    have hjl : j < rvs.length := (List.getElem?_eq_some_iff.1 hx).1
    obtain ⟨rv, r', Fr, c1, c2, _⟩ := hres j (by omega)
    rw [hx] at c1; cases c1; exact c2
  have e' : rv = [.int .i64 r.st, .int .u64 r.up, kv, .bool r.more, dv] := by
    injection e with e
    have := congrArg Array.toList e
    simpa using this
  have fl := fun i hi => flat5 rvs h5 j rv i b1 hi
  refine ⟨kv, dv, hcs.at_ _ _ ?_, ?_, ?_, ?_, ?_, hd, hk⟩
  · have := fl 0 (by omega); rw [e'] at this; simpa using this
  · have := hcs.at_ (j * 5 + 1) (.int .u64 r.up) (by have := fl 1 (by omega); rw [e'] at this; simpa using this)
    rw [← Nat.add_assoc] at this; exact this
  · have := hcs.at_ (j * 5 + 2) kv (by have := fl 2 (by omega); rw [e'] at this; simpa using this)
    rw [← Nat.add_assoc] at this; exact this
  · have := hcs.at_ (j * 5 + 3) (.bool r.more) (by have := fl 3 (by omega); rw [e'] at this; simpa using this)
    rw [← Nat.add_assoc] at this; exact this
  · have := hcs.at_ (j * 5 + 4) dv (by have := fl 4 (by omega); rw [e'] at this; simpa using this)
    rw [← Nat.add_assoc] at this; exact this
set_option maxRecDepth 100000 in
set_option maxHeartbeats 4000000 in
theorem known_walk15 (w : World) : Calls Try.prog 7 #[] w fun e w' => e = .returned (.bool true) ∧ Below w.heap.size w w' := by
  go_enter Try.func7, Try.ntmps7
  go_wp2_with fail
  refine (bucketNew_any _).mono ?_
  rintro e w1 ⟨p, F, rfl, hM, hF, hb1⟩
  obtain ⟨g, B, U, D, FB, FU, FD, rfl, hm⟩ := hM.at_
  have HM := Lib.hid hM
  have HF := Lib.hid hF
  have HB1 := Lib.hid hb1
  clear hm hM hF hb1
  have kc := fun (w : World) (C : Array Value) (n c : Nat) => Lib.run_convert_bytes_const (P := Try.prog) w 24 5 C n c Try.underlying24 Try.underlying5
  have kc2 : ∀ (o : Obj) (C : Array Value) (n c : Nat), (convert 24 24 (.slice (some ⟨w1.heap.size + 1, 0, none⟩) n c)).run Try.prog ((w1.alloc o).alloc (.cells C 5)) = .ok (.slice (some ⟨w1.heap.size + 1, 0, none⟩) n c) ((w1.alloc o).alloc (.cells C 5 (C.size, C.size + 1))) := fun o C n c => by
    have h := kc (w1.alloc o) C n c
    rw [alloc_size] at h
    exact h
  go_wp2_with fail
  have hz1 := HB1.out.size
  have hN := no6
  refine (run_any (N := 0) (S := StC.empty) (F := F) (os := knownOps) (HM.out.framed (fun i hi => by have := HM.out.lower i hi; rw [alloc_same (by simp; omega), alloc_same (by simp; omega), alloc_same (by simp; omega), alloc_same this])) (fun W hW => by obtain ⟨a, b, c, d⟩ := four_new HM.out.lower hW; exact ops_known a b c d) (by simp [knownOps]) (by simp [knownOps]) (fun k => live_run live_empty _) (.inl hN)).mono ?_
  rintro e w5 ⟨a, rfl, hri⟩
  obtain ⟨gr, off, cap, rfl, h1, h2, hfr, hat⟩ := runI_cells hri (by simp [knownOps])
  have HB5 : Hid (Below w.heap.size w w5) := (HB1.out.trans ((((((Below.refl _ _).alloc (Nat.le_refl _) _).alloc (by simp) _).alloc (by simp; omega) _).alloc (by simp; omega) _).mono hz1)).trans (hfr.below (by simp; omega) HF.out)
  obtain ⟨r0, r2, r3, r4, hk⟩ := known_plain
  obtain ⟨kv1, dv1, x0, x1, x2, x3, x4, _, _⟩ := hat 1 _ (by rw [hk]; rfl)
  obtain ⟨kv5, dv5, y0, y1, y2, y3, y4, hd5, _⟩ := hat 5 _ (by rw [hk]; rfl)
  obtain ⟨kv6, dv6, z0, z1, z2, z3, z4, _, _⟩ := hat 6 _ (by rw [hk]; rfl)
  have hcs := conv_str hd5 Try.underlying24 Try.underlying5 Try.underlying9
  have hS := str_list [120, 121, 121]
  have z0' : w5.cell? ⟨gr, off + 6 * 5, none⟩ = some (.int .i64 409) := z0
  generalize str [120, 121, 121] = Sx at *
  simp only [knownOps, List.length_cons, List.length_nil] at h1
  clear z0 hat hk hd5 hri hfr x0 x2 x3 x4 y0 y1 y2 y3 z1 z2 z3 z4 kc kc2 hN
  unfold maxLen at h2
  go_wp2
  go_ret
  exact ⟨rfl, HB5.out⟩
end Go.Proofs.Ytkbmecjpjphngaa
