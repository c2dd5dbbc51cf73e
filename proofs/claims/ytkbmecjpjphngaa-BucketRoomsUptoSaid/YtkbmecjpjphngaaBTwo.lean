/-
  Two machines and two maps of truths, side by side in memory.
-/
import Derived.Test.YtkbmecjpjphngaaBRoomsC
import Derived.Test.YtkbmecjpjphngaaBFew
set_option linter.unusedVariables false
set_option linter.unusedSimpArgs false
namespace Go.Proofs.Ytkbmecjpjphngaa
open Go.RowKit Go.Maps

theorem OpR.below {w w' : World} {v : Value} {o : OpC} (h : OpR w v o) (hb : Below w.heap.size w w') : OpR w' v o := h.cells (cell_below hb)
theorem OpsR.below {w w' : World} {v : Value} {os : List OpC} (h : OpsR w v os) (hb : Below w.heap.size w w') : OpsR w' v os := by
  obtain ⟨A, cap, rfl, h1, h2, h3⟩ := h
  have hk := cell_below hb
  refine ⟨A, cap, rfl, h1, h2, fun j hj => ?_⟩
  obtain ⟨g, off, c0, c1, c2, c3, c4, c5, c6, c7, c8, e, ho, x0, x1, x2, x3, x4, x5, x6, x7, x8⟩ := h3 j hj
  exact ⟨g, off, c0, c1, c2, c3, c4, c5, c6, c7, c8, e, ho.cells hk, hk _ _ x0, hk _ _ x1, hk _ _ x2, hk _ _ x3, hk _ _ x4, hk _ _ x5, hk _ _ x6, hk _ _ x7, hk _ _ x8⟩
/-- A map of truths. -/
structure MapB (w : World) (b n : Nat) (M : Lit → Prop) : Prop where
  out : ∃ f, MapV Try.prog 22 w b n f ∧ (∀ j, M j → f j = some (.bool true)) ∧ ∀ j, ¬ M j → f j = none
theorem MapB.same {w w' : World} {b n m : Nat} {M : Lit → Prop} (h : MapB w b n M) (hs : w'.heap[b]? = w.heap[b]?) (hm : n ≤ m) : MapB w' b m M := by
  obtain ⟨f, a, b, c⟩ := h.out
  exact ⟨f, (a.same hs).mono hm, b, c⟩
theorem MapB.lt {w : World} {b n : Nat} {M : Lit → Prop} (h : MapB w b n M) : b < w.heap.size := by
  obtain ⟨f, a, _⟩ := h.out
  exact a.lt
theorem MapB.made (w : World) {b : Nat} (hb : b = w.heap.size) : MapB (w.alloc (.map #[] 0)) b 0 (fun _ => False) :=
  ⟨fun _ => none, MapV.made _ _ _ hb, fun j h => h.elim, fun j _ => rfl⟩
theorem MapB.yes {w : World} {b n : Nat} {M : Lit → Prop} (h : MapB w b n M) {x : Int} (hx : (Lit.int .u64 x).wf = true) (hM : M (uk x)) (W : World) (hW : W.heap[b]? = w.heap[b]?) :
    (Instr.lookup 47 (.map (some b)) (.int .u64 x) false).run Try.prog W = .ok (.bool true) W := by
  obtain ⟨f, a, b, c⟩ := h.out
  have := (a.same hW).look Ku Try.underlying47 (z := .bool false) (by kernel_rfl) (ku_of hx)
  rw [b _ hM] at this
  exact this
theorem MapB.no {w : World} {b n : Nat} {M : Lit → Prop} (h : MapB w b n M) {x : Int} (hx : (Lit.int .u64 x).wf = true) (hM : ¬ M (uk x)) (W : World) (hW : W.heap[b]? = w.heap[b]?) :
    (Instr.lookup 47 (.map (some b)) (.int .u64 x) false).run Try.prog W = .ok (.bool false) W := by
  obtain ⟨f, a, b, c⟩ := h.out
  have := (a.same hW).look Ku Try.underlying47 (z := .bool false) (by kernel_rfl) (ku_of hx)
  rw [c _ hM] at this
  exact this
theorem MapB.store {w : World} {b n : Nat} {M : Lit → Prop} (h : MapB w b n M) (hn : n < maxLen) {x : Int} (hx : (Lit.int .u64 x).wf = true) :
    ∃ w', (Instr.mapUpdate 47 (.map (some b)) (.int .u64 x) (.bool true)).run Try.prog w = .ok () w' ∧ MapB w' b (n + 1) (fun j => M j ∨ j = uk x) ∧ Frm (fun i => i = b) w w' ∧ ∀ a, w'.cell? a = w.cell? a := by
  obtain ⟨f, a, y, z⟩ := h.out
  obtain ⟨w', hr, m, ht⟩ := a.store Ku Try.underlying47 hn (ku_of hx) (.bool true)
  refine ⟨w', hr, ⟨_, m, fun j hj => ?_, fun j hj => ?_⟩, Frm.of_turned ht rfl, turned_cell ht⟩
  · by_cases e : j = uk x
    · subst e; rw [upd_same]
    · rw [upd_other _ _ e]; exact y j (by rcases hj with h | h; exact h; exact absurd h e)
  · rw [upd_other _ _ (fun e => hj (.inr e))]; exact z j (fun e => hj (.inl e))

structure TwoAt (w0 : World) (pa pb : Value) (bm bs n : Nat) (S T : StC) (M Sn : Lit → Prop) (Fa Fb : Foot) (wr : World) : Prop where
  ma : Mach n wr pa S Fa
  mb : Mach n wr pb T Fb
  mm : MapB wr bm n M
  ms : MapB wr bs n Sn
  bel : Below w0.heap.size w0 wr
  a0 : ∀ i, Fa i → w0.heap.size ≤ i ∧ ¬ Fb i ∧ i ≠ bm ∧ i ≠ bs
  b0 : ∀ i, Fb i → w0.heap.size ≤ i ∧ i ≠ bm ∧ i ≠ bs
  m0 : w0.heap.size ≤ bm
  s0 : w0.heap.size ≤ bs
  ne : bm ≠ bs
section
variable {w0 : World} {pa pb : Value} {bm bs n : Nat} {S T : StC} {M Sn : Lit → Prop} {Fa Fb : Foot} {wr : World}
theorem TwoAt.below {w' : World} (h : TwoAt w0 pa pb bm bs n S T M Sn Fa Fb wr) (hb : Below wr.heap.size wr w') : TwoAt w0 pa pb bm bs n S T M Sn Fa Fb w' :=
  ⟨h.ma.framed (fun i hi => hb.block i (h.ma.lower i hi)), h.mb.framed (fun i hi => hb.block i (h.mb.lower i hi)), h.mm.same (hb.block _ h.mm.lt) (Nat.le_refl _), h.ms.same (hb.block _ h.ms.lt) (Nat.le_refl _), h.bel.trans (hb.mono h.bel.size), h.a0, h.b0, h.m0, h.s0, h.ne⟩
theorem TwoAt.mono {n' : Nat} (h : TwoAt w0 pa pb bm bs n S T M Sn Fa Fb wr) (hn : n ≤ n') : TwoAt w0 pa pb bm bs n' S T M Sn Fa Fb wr :=
  ⟨h.ma.mono hn, h.mb.mono hn, h.mm.same rfl hn, h.ms.same rfl hn, h.bel, h.a0, h.b0, h.m0, h.s0, h.ne⟩
theorem TwoAt.do_a {w' : World} {S' : StC} {F' : Foot} {m : Nat} (h : TwoAt w0 pa pb bm bs n S T M Sn Fa Fb wr) (hm : n ≤ m) (hM : Mach m w' pa S' F') (hF : ∀ i, F' i → Fa i ∨ wr.heap.size ≤ i) (hf : Frm Fa wr w') : TwoAt w0 pa pb bm bs m S' T M Sn F' Fb w' := by
  have z := h.bel.size
  have lm := h.mm.lt
  have ls := h.ms.lt
  refine ⟨hM, (h.mb.framed (fun i hi => hf.block i (h.mb.lower i hi) (fun e => (h.a0 i e).2.1 hi))).mono hm, h.mm.same (hf.block _ lm (fun e => (h.a0 _ e).2.2.1 rfl)) hm, h.ms.same (hf.block _ ls (fun e => (h.a0 _ e).2.2.2 rfl)) hm, h.bel.trans (hf.below z (fun i hi => (h.a0 i hi).1)), fun i hi => ?_, h.b0, h.m0, h.s0, h.ne⟩
  rcases hF i hi with e | e
  · exact h.a0 i e
  · exact ⟨by omega, fun e' => by have := h.mb.lower i e'; omega, by omega, by omega⟩
theorem TwoAt.do_b {w' : World} {T' : StC} {F' : Foot} {m : Nat} (h : TwoAt w0 pa pb bm bs n S T M Sn Fa Fb wr) (hm : n ≤ m) (hM : Mach m w' pb T' F') (hF : ∀ i, F' i → Fb i ∨ wr.heap.size ≤ i) (hf : Frm Fb wr w') : TwoAt w0 pa pb bm bs m S T' M Sn Fa F' w' := by
  have z := h.bel.size
  have lm := h.mm.lt
  have ls := h.ms.lt
  refine ⟨(h.ma.framed (fun i hi => hf.block i (h.ma.lower i hi) (fun e => (h.a0 i hi).2.1 e))).mono hm, hM, h.mm.same (hf.block _ lm (fun e => (h.b0 _ e).2.1 rfl)) hm, h.ms.same (hf.block _ ls (fun e => (h.b0 _ e).2.2 rfl)) hm, h.bel.trans (hf.below z (fun i hi => (h.b0 i hi).1)), fun i hi => ⟨(h.a0 i hi).1, fun e => ?_, (h.a0 i hi).2.2⟩, fun i hi => ?_, h.m0, h.s0, h.ne⟩
  · rcases hF i e with e | e
    · exact (h.a0 i hi).2.1 e
    · have := h.ma.lower i hi; omega
  · rcases hF i hi with e | e
    · exact h.b0 i e
    · exact ⟨by omega, by omega, by omega⟩
theorem TwoAt.st_m {w' : World} {M' : Lit → Prop} (h : TwoAt w0 pa pb bm bs n S T M Sn Fa Fb wr) (hM : MapB w' bm (n + 1) M') (hf : Frm (fun i => i = bm) wr w') : TwoAt w0 pa pb bm bs (n + 1) S T M' Sn Fa Fb w' :=
  ⟨(h.ma.framed (fun i hi => hf.block i (h.ma.lower i hi) (h.a0 i hi).2.2.1)).mono (Nat.le_succ _), (h.mb.framed (fun i hi => hf.block i (h.mb.lower i hi) (h.b0 i hi).2.1)).mono (Nat.le_succ _), hM, h.ms.same (hf.block _ h.ms.lt (fun e => h.ne e.symm)) (Nat.le_succ _), h.bel.trans (hf.below h.bel.size (fun i hi => by have : i = bm := hi; rw [this]; exact h.m0)), h.a0, h.b0, h.m0, h.s0, h.ne⟩
theorem TwoAt.st_s {w' : World} {M' : Lit → Prop} (h : TwoAt w0 pa pb bm bs n S T M Sn Fa Fb wr) (hM : MapB w' bs (n + 1) M') (hf : Frm (fun i => i = bs) wr w') : TwoAt w0 pa pb bm bs (n + 1) S T M M' Fa Fb w' :=
  ⟨(h.ma.framed (fun i hi => hf.block i (h.ma.lower i hi) (h.a0 i hi).2.2.2)).mono (Nat.le_succ _), (h.mb.framed (fun i hi => hf.block i (h.mb.lower i hi) (h.b0 i hi).2.2)).mono (Nat.le_succ _), h.mm.same (hf.block _ h.mm.lt h.ne) (Nat.le_succ _), hM, h.bel.trans (hf.below h.bel.size (fun i hi => by have : i = bs := hi; rw [this]; exact h.s0)), h.a0, h.b0, h.m0, h.s0, h.ne⟩
end
/-- Behind k ops. -/
structure RI (w0 : World) (name : ByteArray) (pa pb : Value) (bm bs k : Nat) (wr : World) : Prop where
  out : ∃ S T M Sn Fa Fb, TwoAt w0 pa pb bm bs (8 * k) S T M Sn Fa Fb wr ∧ RInv name S T M Sn ∧ Live S ∧ Live T
theorem ri_start {w0 w3 w4 w5 : World} {pa pb : Value} {Fa Fb : Foot} {name : ByteArray} (hb : Below w0.heap.size w0 w3) (ha : Mach 0 w4 pa StC.empty Fa) (hFa : ∀ i, Fa i → w3.heap.size ≤ i) (h34 : Below w3.heap.size w3 w4) (hbm : Mach 0 w5 pb StC.empty Fb) (hFb : ∀ i, Fb i → w4.heap.size ≤ i) (h45 : Below w4.heap.size w4 w5) :
    RI w0 name pa pb w5.heap.size (w5.heap.size + 1) 0 ((w5.alloc (.map #[] 0)).alloc (.map #[] 0)) := by
  have z3 := hb.size
  have z4 := h34.size
  have z5 := h45.size
  have la : ∀ i, Fa i → i < w5.heap.size := fun i hi => by have := ha.lower i hi; omega
  refine ⟨StC.empty, StC.empty, fun _ => False, fun _ => False, Fa, Fb, ⟨?_, ?_, ?_, ?_, ?_, fun i hi => ⟨?_, fun e => ?_, ?_, ?_⟩, fun i hi => ⟨?_, ?_, ?_⟩, by omega, by omega, by omega⟩, rinv_start _, live_empty, live_empty⟩
  · exact ha.framed (fun i hi => by rw [alloc_same (by have := la i hi; simp; omega), alloc_same (la i hi), h45.block i (ha.lower i hi)])
  · exact hbm.framed (fun i hi => by rw [alloc_same (by have := hbm.lower i hi; simp; omega), alloc_same (hbm.lower i hi)])
  · exact (MapB.made w5 rfl).same (alloc_same (by simp)) (Nat.le_refl _)
  · have := MapB.made (w5.alloc (.map #[] 0)) (b := w5.heap.size + 1) (by simp)
    exact this
  · exact (((hb.trans (h34.mono z3)).trans (h45.mono (by omega))).alloc (by omega) _).alloc (by simp; omega) _
  · have := hFa i hi; omega
  · have := hFb i e; have := ha.lower i hi; omega
  · have := la i hi; omega
  · have := la i hi; omega
  · have := hFb i hi; omega
  · have := hbm.lower i hi; omega
  · have := hbm.lower i hi; omega
end Go.Proofs.Ytkbmecjpjphngaa
