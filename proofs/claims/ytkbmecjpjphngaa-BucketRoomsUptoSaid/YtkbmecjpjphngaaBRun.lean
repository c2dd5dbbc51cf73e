/-
  Run.
-/
import Derived.Test.YtkbmecjpjphngaaBStep
set_option linter.unusedVariables false
set_option linter.unusedSimpArgs false
namespace Go.Proofs.Ytkbmecjpjphngaa
open Go.RowKit Go.Maps

/-- list keeps its word. -/
def ListOk : Prop := ∀ (N : Nat) (W : World) (p v : Value) (S : StC) (F : Foot) (o : OpC) (c : Bk), N ≤ 8000000000 → Mach N W p S F → OpR W v o → chkB o = true → o.kind = 6 → S.bs (sk o.bucket) = some c →
  Calls Try.prog 51 #[p, v] W (DoneR N W p F (listC c o) S)
/-- Ops one behind the other. -/
noncomputable def runC (S : StC) : List OpC → List ResC × StC
  | [] => ([], S)
  | o :: r => ((doC S o).1 :: (runC (doC S o).2 r).1, (runC (doC S o).2 r).2)
noncomputable def runS (S : StC) (os : List OpC) : StC := (runC S os).2
theorem runC_snoc (S : StC) (os : List OpC) (o : OpC) : runC S (os ++ [o]) = ((runC S os).1 ++ [(doC (runC S os).2 o).1], (doC (runC S os).2 o).2) := by
  induction os generalizing S with
  | nil => simp [runC]
  | cons x r ih => simp [runC, ih]
theorem runC_len (S : StC) (os : List OpC) : (runC S os).1.length = os.length := by
  induction os generalizing S with
  | nil => rfl
  | cons x r ih => simp [runC, ih]
theorem sk_inj {s t : ByteArray} (h : sk s = sk t) : s = t := by
  injection h with h
  rw [← str_of s, ← str_of t, h]
theorem live_bs {S : StC} (h : Live S) (j : Lit) (c : Bk) : Live { S with bs := upd S.bs j (some c) } := fun id u hu => by
  obtain ⟨c', hc'⟩ := h id u hu
  by_cases e : sk u.bucket = j
  · exact ⟨c, by show upd S.bs j (some c) (sk u.bucket) = _; rw [e, upd_same]⟩
  · exact ⟨c', by show upd S.bs j (some c) (sk u.bucket) = _; rw [upd_other _ _ e]; exact hc'⟩
theorem live_us_none {S : StC} (h : Live S) (j : Lit) : Live { S with us := upd S.us j none } := fun id u hu => by
  by_cases e : id = j
  · subst e; simp only [upd_same] at hu; cases hu
  · simp only [upd_other _ _ e] at hu; exact h id u hu
theorem live_us {S : StC} (h : Live S) (j : Lit) (u0 : UplC) {c : Bk} (hc : S.bs (sk u0.bucket) = some c) : Live { S with us := upd S.us j (some u0) } := fun id u hu => by
  by_cases e : id = j
  · subst e; simp only [upd_same] at hu; cases hu; exact ⟨c, hc⟩
  · simp only [upd_other _ _ e] at hu; exact h id u hu
theorem live_un {S : StC} (h : Live S) {s : ByteArray} {c : Bk} (hu : ¬ Used S s c) : Live { S with bs := upd S.bs (sk s) none } := fun id u hi => by
  obtain ⟨c', hc'⟩ := h id u hi
  refine ⟨c', ?_⟩
  show upd S.bs (sk s) none (sk u.bucket) = _
  rw [upd_other _ _ (fun e => hu (.inr ⟨id, u, hi, sk_inj e⟩))]
  exact hc'
/-- Every upload's bucket stays. -/
theorem live_step {S : StC} {o : OpC} (h : Live S) : Live (stepC S o).2 := by
  unfold stepC
  repeat' split
  all_goals first
    | exact h
    | exact live_bs h _ _
    | exact live_us_none h _
    | (rename_i hu; exact live_un h hu)
    | (rename_i c hc; exact live_us h _ _ hc)
    | (rename_i u hu; obtain ⟨c, hc⟩ := h _ _ hu; exact live_us h _ _ hc)
    | exact live_us_none (S := { S with bs := _ }) (live_bs h _ _) _
theorem live_do {S : StC} {o : OpC} (h : Live S) : Live (doC S o).2 := by
  unfold doC
  repeat' split
  · exact h
  · exact live_step h
  · exact h
  · exact live_step h
theorem live_run {S : StC} (h : Live S) (os : List OpC) : Live (runC S os).2 := by
  induction os generalizing S with
  | nil => exact h
  | cons o r ih => exact ih (live_do h)
theorem live_empty : Live StC.empty := fun id u h => by cases h
/-- A []api.Op. -/
def OpsR (w : World) (v : Value) (os : List OpC) : Prop :=
  ∃ A cap, v = .slice A os.length cap ∧ os.length ≤ cap ∧ cap ≤ maxLen ∧ ∀ j (h : j < os.length), ∃ g off c0 c1 c2 c3 c4 c5 c6 c7 c8, A = some ⟨g, off, none⟩ ∧ OpR w (.agg #[c0, c1, c2, c3, c4, c5, c6, c7, c8]) os[j] ∧
    w.cell? ⟨g, off + j * 9, none⟩ = some c0 ∧ w.cell? ⟨g, off + j * 9 + 1, none⟩ = some c1 ∧ w.cell? ⟨g, off + j * 9 + 2, none⟩ = some c2 ∧ w.cell? ⟨g, off + j * 9 + 3, none⟩ = some c3 ∧ w.cell? ⟨g, off + j * 9 + 4, none⟩ = some c4 ∧
    w.cell? ⟨g, off + j * 9 + 5, none⟩ = some c5 ∧ w.cell? ⟨g, off + j * 9 + 6, none⟩ = some c6 ∧ w.cell? ⟨g, off + j * 9 + 7, none⟩ = some c7 ∧ w.cell? ⟨g, off + j * 9 + 8, none⟩ = some c8
theorem tR : SliceT Try.prog 36 41 5 72 := SliceT.of (z := statV 0) Try.underlying36 (by kernel_rfl) rfl (by decide)
/-- A result laid into a block of its own, to be appended. -/
theorem src_res {w : World} (s u : Int) (A3 : Option Addr) (n3 q3 : Nat) (m : Bool) (A4 : Option Addr) (n4 q4 : Nat) {g : Nat} (hg : g = w.heap.size := by simp) :
    Src Try.prog 5 36 (.slice (some ⟨g, 0, none⟩) 1 1) 1 [.int .i64 s, .int .u64 u, .slice A3 n3 q3, .bool m, .slice A4 n4 q4] (w.alloc (.cells #[.int .i64 s, .int .u64 u, .slice A3 n3 q3, .bool m, .slice A4 n4 q4] 41)) := by
  subst hg
  refine Src.ofSlice _ Try.underlying36 _ _ _ _ (by simp) (fun j u hu => ?_) (by simp [Value.oneCell'])
  rw [Addr.add_lit, Nat.zero_add, cell_of_row _ _ j #[.int .i64 s, .int .u64 _, .slice A3 n3 q3, .bool m, .slice A4 n4 q4] 41 (0, 0) (heap_alloc_new w _)]
  simpa using hu
/-- Behind k ops. -/
structure RunI (N : Nat) (w : World) (p : Value) (F : Foot) (S : StC) (os : List OpC) (k : Nat) (a : Value) (wr : World) : Prop where
  out : ∃ (F' : Foot) (rvs : List (List Value)), Mach (N + 2 * k) wr p (runC S (os.take k)).2 F' ∧ (∀ i, F' i → F i ∨ w.heap.size ≤ i) ∧ Frm F w wr ∧ wr.ownsRow w.heap.size 41 5 a k rvs.flatten ∧ rvs.length = k ∧ (∀ g, a.ownBlock = some g → ¬ F' g) ∧
    ∀ j, j < k → ∃ rv r, ∃ Fr : Foot, rvs[j]? = some rv ∧ rv.length = 5 ∧ (runC S (os.take k)).1[j]? = some r ∧ ResR wr (.agg rv.toArray) r Fr ∧ ∀ i, Fr i → w.heap.size ≤ i ∧ ¬ F' i ∧ a.ownBlock ≠ some i
theorem runI_start {N : Nat} {w : World} {p : Value} {F : Foot} {S : StC} {os : List OpC} (h : Mach N w p S F) : RunI N w p F S os 0 (.slice none 0 0) w :=
  ⟨F, [], by simpa [runC] using h, fun i hi => .inl hi, Frm.refl _ _, World.ownsRow_nil w _ _ _, rfl, (fun g e => by cases e), fun j hj => by omega⟩
theorem own_same {w w' : World} {base e size : Nat} {v : Value} {n : Nat} {cs : List Value} (h : w.ownsRow base e size v n cs) (hs : ∀ g, v.ownBlock = some g → w'.heap[g]? = w.heap[g]?) : w'.ownsRow base e size v n cs := by
  obtain ⟨h1, h2⟩ := h
  refine ⟨h1, ?_⟩
  rcases h2 with h2 | ⟨g, cap, cur, rfl, hb, hh, r⟩
  · exact .inl h2
  · exact .inr ⟨g, cap, cur, rfl, hb, (hs g rfl).trans hh, r⟩
theorem own_lt {w : World} {base e size : Nat} {v : Value} {n : Nat} {cs : List Value} (h : w.ownsRow base e size v n cs) {g : Nat} (hg : v.ownBlock = some g) : base ≤ g ∧ g < w.heap.size := by
  rcases h.2 with ⟨rfl, rfl⟩ | ⟨g', cap, cur, rfl, hb, hh, r⟩
  · cases hg
  · cases hg; exact ⟨hb, block_lt hh⟩
/-- One op more. -/
theorem runI_step {N : Nat} {w wr w3 w4 : World} {p a v4 : Value} {F F' F3 Fr : Foot} {S : StC} {os : List OpC} {k : Nat} {o : OpC} {rvs : List (List Value)} {rv3 : List Value} {box box2 : Obj} (hlt : k < os.length) (hok : os[k] = o)
    (hF' : ∀ i, F' i → F i ∨ w.heap.size ≤ i) (hf : Frm F w wr) (hrow : wr.ownsRow w.heap.size 41 5 a k rvs.flatten) (hlen : rvs.length = k) (hown : ∀ g, a.ownBlock = some g → ¬ F' g) (hlow : ∀ i, F' i → i < wr.heap.size)
    (hres : ∀ j, j < k → ∃ rv r, ∃ Fr : Foot, rvs[j]? = some rv ∧ rv.length = 5 ∧ (runC S (os.take k)).1[j]? = some r ∧ ResR wr (.agg rv.toArray) r Fr ∧ ∀ i, Fr i → w.heap.size ≤ i ∧ ¬ F' i ∧ a.ownBlock ≠ some i)
    (hr3 : ResR w3 (.agg rv3.toArray) (doC (runC S (os.take k)).2 o).1 Fr) (h5 : rv3.length = 5) (hFr3 : ∀ i, Fr i → (wr.alloc box).heap.size ≤ i ∧ ¬ F3 i) (hM3 : Mach (N + 2 * k + 1 + 1) w3 p (doC (runC S (os.take k)).2 o).2 F3)
    (hF3 : ∀ i, F3 i → F' i ∨ (wr.alloc box).heap.size ≤ i) (hf3 : Frm F' (wr.alloc box) w3) (happ : AppO w.heap.size 41 5 (w3.alloc box2) w4 a v4 (k + 1) (rvs.flatten ++ rv3)) : RunI N w p F S os (k + 1) v4 w4 := by
  have hsz : (wr.alloc box).heap.size = wr.heap.size + 1 := by simp
  have z0 := hf.size
  have z3 := hf3.size
  have z4 := happ.grown.size
  have hsz3 : (w3.alloc box2).heap.size = w3.heap.size + 1 := by simp
  -- what was there and is neither the machine's nor the row's stays
  have k3 : ∀ i, i < wr.heap.size → ¬ F' i → w3.heap[i]? = wr.heap[i]? := fun i hi hn => (hf3.block i (by omega) hn).trans (alloc_same hi)
  have k4 : ∀ i, i < w3.heap.size → a.ownBlock ≠ some i → w4.heap[i]? = w3.heap[i]? := fun i hi hn => (happ.grown.block i (by omega) (fun e => hn e.symm)).trans (alloc_same hi)
  have r3 : ∀ i, F3 i → a.ownBlock ≠ some i := fun i hi e => by
    rcases hF3 i hi with h | h
    · exact hown i e h
    · have := (own_lt hrow e).2; omega
  have rr : ∀ i, Fr i → a.ownBlock ≠ some i := fun i hi e => by
    have := (hFr3 i hi).1; have := (own_lt hrow e).2; omega
  have new4 : ∀ i, v4.ownBlock = some i → a.ownBlock = some i ∨ w3.heap.size < i := fun i hi => by
    rcases happ.row with e | e
    · exact .inl (e ▸ hi)
    · exact .inr (by have := e i hi; omega)
  have hts : os.take (k + 1) = os.take k ++ [o] := by rw [take_snoc os k hlt, hok]
  have hrs : runC S (os.take (k + 1)) = ((runC S (os.take k)).1 ++ [(doC (runC S (os.take k)).2 o).1], (doC (runC S (os.take k)).2 o).2) := by rw [hts, runC_snoc]
  have hrl : (runC S (os.take k)).1.length = k := by rw [runC_len]; simp; omega
  refine ⟨F3, rvs ++ [rv3], ?_, fun i hi => ?_, ?_, ?_, by simp [hlen], fun g hg hi => ?_, fun j hj => ?_⟩
  · rw [hrs]
    exact hM3.framed (fun i hi => k4 i (hM3.lower i hi) (r3 i hi))
  · rcases hF3 i hi with h | h
    · exact hF' i h
    · exact .inr (by omega)
  · have h1 : Frm F w w3 := ((hf.alloc box).trans hf3 (fun i e => hF' i e))
    exact (h1.alloc box2).trans (F1 := fun i => a.ownBlock = some i) ⟨happ.grown.os, happ.grown.tape, happ.grown.output, happ.grown.size, fun i hi hn => happ.grown.block i hi (fun e => hn e.symm)⟩ (fun i e => .inr (own_lt hrow e).1)
  · rw [List.flatten_append]
    simpa using happ.own
  · rcases new4 g hg with h | h
    · exact r3 g hi h
    · have := hM3.lower g hi; omega
  · rw [hrs]
    by_cases hjk : j < k
    · obtain ⟨rv, r, Fj, b1, b2, b3, b4, b5⟩ := hres j hjk
      have hl := resR.lower b4
      refine ⟨rv, r, Fj, by rw [List.getElem?_append_left (by omega)]; exact b1, b2, by rw [List.getElem?_append_left (by omega)]; exact b3, ?_, fun i hi => ⟨(b5 i hi).1, fun e => ?_, fun e => ?_⟩⟩
      · refine resR.framed b4 (fun i hi => ?_)
        have := hl i hi
        rw [k4 i (by omega) (b5 i hi).2.2, k3 i this (b5 i hi).2.1]
      · rcases hF3 i e with h | h
        · exact (b5 i hi).2.1 h
        · have := hl i hi; omega
      · rcases new4 i e with h | h
        · exact (b5 i hi).2.2 h
        · have := hl i hi; omega
    · obtain rfl : j = k := by omega
      have hl := resR.lower hr3
      refine ⟨rv3, (doC (runC S (os.take j)).2 o).1, Fr, by rw [List.getElem?_append_right (by omega)]; simp [hlen], h5, by rw [List.getElem?_append_right (by omega)]; simp [hrl], ?_, fun i hi => ⟨by have := (hFr3 i hi).1; omega, (hFr3 i hi).2, fun e => ?_⟩⟩
      · exact resR.framed hr3 (fun i hi => k4 i (hl i hi) (rr i hi))
      · rcases new4 i e with h | h
        · exact rr i hi h
        · have := hl i hi; omega
set_option maxRecDepth 100000 in
set_option maxHeartbeats 4000000 in
theorem run_any {N : Nat} {w : World} {p v : Value} {S : StC} {F : Foot} {os : List OpC} (h : Mach N w p S F) (hops : ∀ W, Frm F w W → OpsR W v os) (hN : N + os.length * 2 + 1 ≤ 8000000000) (hn : os.length ≤ 1000000) (hL : ∀ k, Live (runC S (os.take k)).2) (hl : (∀ o ∈ os, o.kind ≠ 6) ∨ ListOk) :
    Calls Try.prog 13 #[p, v] w fun e w' => ∃ a, e = .returned a ∧ RunI N w p F S os os.length a w' := by
  obtain ⟨A, cap, e, hcap, hcm, hx⟩ := hops w (Frm.refl _ _)
  subst e
  clear hx
  have HM := Lib.hid h
  have HOPS := Lib.hid hops
  have HLV := Lib.hid hL
  have HL6 := Lib.hid hl
  clear hops h hL hl
  unfold maxLen at hcm
  go_enter Try.func13, Try.ntmps13
  go_wp2
  go_loopw [5, 10] (fun a i wr => ∃ k : Nat, k ≤ os.length ∧ i = .int .i64 k ∧ RunI N w p F S os k a wr) (fun _ i _ => os.length - (intOf i).toNat)
  case atStart => exact ⟨0, Nat.zero_le _, rfl, runI_start HM.out⟩
  case round =>
    obtain ⟨k, hk, rfl, hri⟩ := hrel
    have HRI := Lib.hid hri; clear hri
    by_cases hlt : k < os.length
    · obtain ⟨F', rvs, hM, hF', hf, hrow, hlen, hown, hres⟩ := HRI.out.out
      obtain ⟨A', cap', e, _, _, hat⟩ := HOPS.out wr hf
      cases e
      obtain ⟨g, off, c0, c1, c2, c3, c4, c5, c6, c7, c8, rfl, hop, x0, x1, x2, x3, x4, x5, x6, x7, x8⟩ := hat k hlt
      have HAT := Lib.hid hop
      have HMr := Lib.hid hM
      have HXX := Lib.hid (And.intro hF' (And.intro hf (And.intro hrow (And.intro hlen (And.intro hown hres)))))
      obtain ⟨pv, dv, e, hpv, hdv, _⟩ := hop
      cases e
      obtain ⟨A1, r1, rfl, _, _, _⟩ := Rd.form hpv
      obtain ⟨A2, r2, rfl, _, _, _⟩ := Rd.form hdv
      clear hat hpv hdv hM hF' hf hrow hlen hown hres
      generalize hok : os[k] = o at *
      have HOK := Lib.hid hok; clear hok
      go_wp2_with fail
      refine (do_any (HMr.out.framed (w' := wr.alloc (.cells #[.int .u64 o.id, .int .i64 o.kind, .string o.bucket, .string o.key, .string o.after, .int .i64 o.n, .int .u64 o.up, .slice A1 o.parts.length r1, .slice A2 o.data.length r2] 26)) (fun i hi => alloc_same (HMr.out.lower i hi))) (HAT.out.cells (cell_below ((Below.refl _ _).alloc (Nat.le_refl _) _))) (by unfold maxLen; omega) (HLV.out k) (fun e1 e2 W h1 h2 c h3 => by
        rcases HL6.out with h | h
        · exact absurd e1 (h _ (by rw [← HOK.out]; exact List.getElem_mem hlt))
        · exact h _ _ _ _ _ _ _ _ (by omega) h1 h2 e2 e1 h3)).mono ?_
      rintro e w3 ⟨⟨v3, Fr, F3, rfl, hr3, hFr3, hM3, hF3, hf3⟩⟩
      have HR3 := Lib.hid hr3
      obtain ⟨kv3, dv3, rfl, k1, _, k3, _, _⟩ := hr3
      obtain ⟨A3, q3, rfl, _, _, _⟩ := Rd.form k1
      obtain ⟨A4, q4, rfl, _, _, _⟩ := Rd.form k3
      have HD3 := Lib.hid (And.intro hFr3 (And.intro hM3 (And.intro hF3 hf3)))
      clear k1 k3 hFr3 hM3 hF3 hf3 x0 x1 x2 x3 x4 x5 x6 x7 x8
      have hrow3 := own_same (w' := w3) HXX.out.2.2.1 (fun q hq => (HD3.out.2.2.2.block q (by have := (own_lt HXX.out.2.2.1 hq).2; simp; omega) (HXX.out.2.2.2.2.1 q hq)).trans (alloc_same (own_lt HXX.out.2.2.1 hq).2))
      have HRW := Lib.hid hrow3
      have hz3 := HD3.out.2.2.2.size
      have hzr := HXX.out.2.1.size
      simp at hz3
      clear hrow3
      go_wp2_with (first | (at_builtin; refine wpList_app2 w.heap.size tR (HRW.out.alloc _) (src_res _ _ _ _ _ _ _ _ _) (by simp; omega) (by unfold maxLen; omega) (by omega) rfl rfl rfl rfl ?_) | fail)
      intro v4 w4 happ
      have HAP := Lib.hid happ; clear happ
      go_wp2
      go_roundw
      case rel => exact ⟨k + 1, by omega, by go_num, runI_step (rv3 := [.int .i64 _, .int .u64 _, _, .bool _, _]) hlt HOK.out HXX.out.1 HXX.out.2.1 HXX.out.2.2.1 HXX.out.2.2.2.1 HXX.out.2.2.2.2.1 HMr.out.lower HXX.out.2.2.2.2.2 HR3.out rfl HD3.out.1 HD3.out.2.1 HD3.out.2.2.1 HD3.out.2.2.2 HAP.out⟩
      case measure => simp [intOf]; omega
    · obtain rfl : k = os.length := by omega
      go_wp2
      go_ret
      exact ⟨_, rfl, HRI.out⟩
end Go.Proofs.Ytkbmecjpjphngaa
