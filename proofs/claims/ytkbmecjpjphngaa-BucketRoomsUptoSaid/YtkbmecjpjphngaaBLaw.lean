/-
  What each step of the machine's methods does to what it holds: a map's store, its delete, an inner map's store and delete.
-/
import Derived.Test.YtkbmecjpjphngaaBW1
set_option linter.unusedVariables false
set_option linter.unusedSimpArgs false
namespace Go.Proofs.Ytkbmecjpjphngaa
open Go.RowKit Go.Maps

theorem turned_cell {w w' : World} {b : Nat} (h : w.mapTurned w' b) (a : Addr) : w'.cell? a = w.cell? a := by
  obtain ⟨es, clock, es', clock', hb, rfl⟩ := h
  by_cases e : a.block = b
  · have h1 : w.heap[a.block]? = some (.map es clock) := by rw [e]; exact hb
    have h2 : (ChangeMaps.setBlock w b (.map es' clock')).heap[a.block]? = some (.map es' clock') := by rw [e]; exact ChangeMaps.heap_setBlock_same hb _
    simp [World.cell?, h1, h2]
  · exact World.cell?_of_block (w := w) (ChangeMaps.heap_setBlock_other hb _ e)
/-- The machine, its parts named. -/
structure MachAt (N : Nat) (w : World) (g B U D : Nat) (S : StC) (FB FU FD F : Foot) : Prop where
  small : Small S
  lower : ∀ i, F i → i < w.heap.size
  cells : w.heap[g]? = some (.cells #[.map (some B), .map (some U), .map (some D)] 74)
  mb : MapR Try.prog (BktR N) 9 w B N S.bs FB
  mu : MapR Try.prog (UplR N) 22 w U N S.us FU
  md : MapR Try.prog ResR 22 w D N S.ds FD
  own : F g
  fb : ∀ i, FB i → F i ∧ i ≠ g
  fu : ∀ i, FU i → F i ∧ i ≠ g ∧ ¬ FB i
  fd : ∀ i, FD i → F i ∧ i ≠ g ∧ ¬ FB i ∧ ¬ FU i
theorem Mach.at_ {N : Nat} {w : World} {p : Value} {S : StC} {F : Foot} (h : Mach N w p S F) : ∃ g B U D FB FU FD, p = .pointer (some ⟨g, 0, none⟩) ∧ MachAt N w g B U D S FB FU FD F := by
  obtain ⟨h1, h2, g, B, U, D, FB, FU, FD, e, a1, a2, a3, a4, a5, a6, a7, a8⟩ := h
  exact ⟨g, B, U, D, FB, FU, FD, e, h1, h2, a1, a2, a3, a4, a5, a6, a7, a8⟩
section
variable {N : Nat} {w : World} {g B U D : Nat} {S : StC} {FB FU FD F : Foot}
theorem MachAt.mach (h : MachAt N w g B U D S FB FU FD F) : Mach N w (.pointer (some ⟨g, 0, none⟩)) S F :=
  ⟨h.small, h.lower, g, B, U, D, FB, FU, FD, rfl, h.cells, h.mb, h.mu, h.md, h.own, h.fb, h.fu, h.fd⟩
theorem MachAt.framed {w' : World} (h : MachAt N w g B U D S FB FU FD F) (hw : ∀ i, F i → w'.heap[i]? = w.heap[i]?) : MachAt N w' g B U D S FB FU FD F :=
  ⟨h.small, lower_of hw h.lower, (hw g h.own).trans h.cells, h.mb.framed (bktR N) (fun i hi => hw i (h.fb i hi).1), h.mu.framed (uplR N) (fun i hi => hw i (h.fu i hi).1), h.md.framed resR (fun i hi => hw i (h.fd i hi).1), h.own, h.fb, h.fu, h.fd⟩
/-- Its buckets turned. -/
theorem MachAt.new_b (h : MachAt N w g B U D S FB FU FD F) {w3 : World} (hf : Frm FB w w3) {N' : Nat} (hN : N ≤ N') {bs' : Lit → Option Bk} {FB' : Foot} (hm : MapR Try.prog (BktR N') 9 w3 B N' bs' FB') (hF : ∀ i, FB' i → FB i ∨ w.heap.size ≤ i)
    (hs : Small { S with bs := bs' }) : Mach N' w3 (.pointer (some ⟨g, 0, none⟩)) { S with bs := bs' } (fun i => F i ∨ FB' i) := by
  have kg : w3.heap[g]? = w.heap[g]? := hf.block g (h.lower g h.own) (fun e => (h.fb g e).2 rfl)
  have ku : ∀ i, FU i → w3.heap[i]? = w.heap[i]? := fun i hi => hf.block i (h.lower i (h.fu i hi).1) (h.fu i hi).2.2
  have kd : ∀ i, FD i → w3.heap[i]? = w.heap[i]? := fun i hi => hf.block i (h.lower i (h.fd i hi).1) (h.fd i hi).2.2.1
  refine ⟨hs, fun i hi => ?_, g, B, U, D, FB', FU, FD, rfl, kg.trans h.cells, hm, ((h.mu.framed (uplR N) ku).of (fun _ _ _ h => h.mono hN)).mono hN, (h.md.framed resR kd).mono hN, .inl h.own, fun i hi => ⟨.inr hi, ?_⟩, fun i hi => ⟨.inl (h.fu i hi).1, (h.fu i hi).2.1, fun e => ?_⟩, fun i hi => ⟨.inl (h.fd i hi).1, (h.fd i hi).2.1, fun e => ?_, (h.fd i hi).2.2.2⟩⟩
  · rcases hi with hi | hi
    · exact Nat.lt_of_lt_of_le (h.lower i hi) hf.size
    · exact hm.lower i hi
  · rcases hF i hi with e | e
    · exact (h.fb i e).2
    · have := h.lower g h.own; omega
  · rcases hF i e with e | e
    · exact (h.fu i hi).2.2 e
    · have := h.lower i (h.fu i hi).1; omega
  · rcases hF i e with e | e
    · exact (h.fd i hi).2.2.1 e
    · have := h.lower i (h.fd i hi).1; omega
/-- Its uploads turned. -/
theorem MachAt.new_u (h : MachAt N w g B U D S FB FU FD F) {w3 : World} (hf : Frm FU w w3) {N' : Nat} (hN : N ≤ N') {us' : Lit → Option UplC} {FU' : Foot} (hm : MapR Try.prog (UplR N') 22 w3 U N' us' FU') (hF : ∀ i, FU' i → FU i ∨ w.heap.size ≤ i)
    (hs : Small { S with us := us' }) : Mach N' w3 (.pointer (some ⟨g, 0, none⟩)) { S with us := us' } (fun i => F i ∨ FU' i) := by
  have kg : w3.heap[g]? = w.heap[g]? := hf.block g (h.lower g h.own) (fun e => (h.fu g e).2.1 rfl)
  have kb : ∀ i, FB i → w3.heap[i]? = w.heap[i]? := fun i hi => hf.block i (h.lower i (h.fb i hi).1) (fun e => (h.fu i e).2.2 hi)
  have kd : ∀ i, FD i → w3.heap[i]? = w.heap[i]? := fun i hi => hf.block i (h.lower i (h.fd i hi).1) (h.fd i hi).2.2.2
  refine ⟨hs, fun i hi => ?_, g, B, U, D, FB, FU', FD, rfl, kg.trans h.cells, ((h.mb.framed (bktR N) kb).of (fun _ _ _ h => h.mono hN)).mono hN, hm, (h.md.framed resR kd).mono hN, .inl h.own, fun i hi => ⟨.inl (h.fb i hi).1, (h.fb i hi).2⟩, fun i hi => ⟨.inr hi, ?_, fun e => ?_⟩, fun i hi => ⟨.inl (h.fd i hi).1, (h.fd i hi).2.1, (h.fd i hi).2.2.1, fun e => ?_⟩⟩
  · rcases hi with hi | hi
    · exact Nat.lt_of_lt_of_le (h.lower i hi) hf.size
    · exact hm.lower i hi
  · rcases hF i hi with e | e
    · exact (h.fu i e).2.1
    · have := h.lower g h.own; omega
  · rcases hF i hi with e' | e'
    · exact (h.fu i e').2.2 e
    · have := h.lower i (h.fb i e).1; omega
  · rcases hF i e with e | e
    · exact (h.fd i hi).2.2.2 e
    · have := h.lower i (h.fd i hi).1; omega
/-- What is kept turned. -/
theorem MachAt.new_d (h : MachAt N w g B U D S FB FU FD F) {w3 : World} (hf : Frm FD w w3) {N' : Nat} (hN : N ≤ N') {ds' : Lit → Option ResC} {FD' : Foot} (hm : MapR Try.prog ResR 22 w3 D N' ds' FD') (hF : ∀ i, FD' i → FD i ∨ w.heap.size ≤ i)
    (hs : Small { S with ds := ds' }) : Mach N' w3 (.pointer (some ⟨g, 0, none⟩)) { S with ds := ds' } (fun i => F i ∨ FD' i) := by
  have kg : w3.heap[g]? = w.heap[g]? := hf.block g (h.lower g h.own) (fun e => (h.fd g e).2.1 rfl)
  have kb : ∀ i, FB i → w3.heap[i]? = w.heap[i]? := fun i hi => hf.block i (h.lower i (h.fb i hi).1) (fun e => (h.fd i e).2.2.1 hi)
  have ku : ∀ i, FU i → w3.heap[i]? = w.heap[i]? := fun i hi => hf.block i (h.lower i (h.fu i hi).1) (fun e => (h.fd i e).2.2.2 hi)
  refine ⟨hs, fun i hi => ?_, g, B, U, D, FB, FU, FD', rfl, kg.trans h.cells, ((h.mb.framed (bktR N) kb).of (fun _ _ _ h => h.mono hN)).mono hN, ((h.mu.framed (uplR N) ku).of (fun _ _ _ h => h.mono hN)).mono hN, hm, .inl h.own, fun i hi => ⟨.inl (h.fb i hi).1, (h.fb i hi).2⟩, fun i hi => ⟨.inl (h.fu i hi).1, (h.fu i hi).2⟩, fun i hi => ⟨.inr hi, ?_, fun e => ?_, fun e => ?_⟩⟩
  · rcases hi with hi | hi
    · exact Nat.lt_of_lt_of_le (h.lower i hi) hf.size
    · exact hm.lower i hi
  · rcases hF i hi with e | e
    · exact (h.fd i e).2.1
    · have := h.lower g h.own; omega
  · rcases hF i hi with e' | e'
    · exact (h.fd i e').2.2.1 e
    · have := h.lower i (h.fb i e).1; omega
  · rcases hF i hi with e' | e'
    · exact (h.fd i e').2.2.2 e
    · have := h.lower i (h.fu i e).1; omega
end

/-! ### what the bytes may measure -/
theorem Small.bs {S : StC} (h : Small S) {j : Lit} {c : Bk} (hc : ∀ k x, c k = some x → x.length ≤ 167772160000) : Small { S with bs := upd S.bs j (some c) } := by
  refine ⟨fun i d k x hi hx => ?_, h.part, h.kept⟩
  by_cases e : i = j
  · subst e
    simp only [upd_same] at hi
    cases hi
    exact hc k x hx
  · simp only [upd_other _ _ e] at hi
    exact h.obj i d k x hi hx
theorem Small.bs_none {S : StC} (h : Small S) (j : Lit) : Small { S with bs := upd S.bs j none } := by
  refine ⟨fun i d k x hi hx => ?_, h.part, h.kept⟩
  by_cases e : i = j
  · subst e; simp only [upd_same] at hi; cases hi
  · simp only [upd_other _ _ e] at hi
    exact h.obj i d k x hi hx
theorem Small.us {S : StC} (h : Small S) {j : Lit} {u : UplC} (hc : ∀ k x, u.parts k = some x → x.length ≤ 16777216) : Small { S with us := upd S.us j (some u) } := by
  refine ⟨h.obj, fun i d k x hi hx => ?_, h.kept⟩
  by_cases e : i = j
  · subst e
    simp only [upd_same] at hi
    cases hi
    exact hc k x hx
  · simp only [upd_other _ _ e] at hi
    exact h.part i d k x hi hx
theorem Small.us_none {S : StC} (h : Small S) (j : Lit) : Small { S with us := upd S.us j none } := by
  refine ⟨h.obj, fun i d k x hi hx => ?_, h.kept⟩
  by_cases e : i = j
  · subst e; simp only [upd_same] at hi; cases hi
  · simp only [upd_other _ _ e] at hi
    exact h.part i d k x hi hx
theorem Small.ds {S : StC} (h : Small S) {j : Lit} {r : ResC} (h1 : r.keys = []) (h2 : r.data = []) : Small { S with ds := upd S.ds j (some r) } := by
  refine ⟨h.obj, h.part, fun i d hi => ?_⟩
  by_cases e : i = j
  · subst e
    simp only [upd_same] at hi
    cases hi
    exact ⟨h1, h2⟩
  · simp only [upd_other _ _ e] at hi
    exact h.kept i d hi
theorem small_upd {c : Lit → Option (List UInt8)} {M : Nat} (h : ∀ k x, c k = some x → x.length ≤ M) {j : Lit} {x : Option (List UInt8)} (hx : ∀ y, x = some y → y.length ≤ M) : ∀ k y, upd c j x k = some y → y.length ≤ M := by
  intro k y hk
  by_cases e : k = j
  · subst e
    rw [upd_same] at hk
    exact hx y hk
  · rw [upd_other _ _ e] at hk
    exact h k y hk

/-! ### the steps -/
section
variable {N : Nat} {w : World} {g B U D : Nat} {S : StC} {FB FU FD F : Foot}
/-- A bucket made. -/
theorem MachAt.make (h : MachAt N w g B U D S FB FU FD F) {s : ByteArray} (hs : s.size ≤ maxLen) (hN : N < maxLen) :
    ∃ w3, (Instr.mapUpdate 70 (.map (some B)) (.string s) (.map (some w.heap.size))).run Try.prog (w.alloc (.map #[] 0)).drew = .ok () w3 ∧
      ∃ F', Mach (N + 1) w3 (.pointer (some ⟨g, 0, none⟩)) { S with bs := upd S.bs (sk s) (some (fun _ => none)) } F' ∧ (∀ i, F' i → F i ∨ w.heap.size ≤ i) ∧ Frm F w w3 := by
  have hw : ∀ i, F i → (w.alloc (.map #[] 0)).drew.heap[i]? = w.heap[i]? := fun i hi => alloc_same (h.lower i hi)
  have hB := h.mb.lower B h.mb.own
  have m0 : BktR N (w.alloc (.map #[] 0)).drew (.map (some w.heap.size)) (fun _ => none) (fun i => i = w.heap.size) :=
    ⟨_, rfl, ((MapR.made Try.prog BytesR 9 w rfl).framed bytesR (fun i hi => rfl)).mono (Nat.zero_le N)⟩
  obtain ⟨w3, hr, hm, ht⟩ := (h.mb.framed (bktR N) (fun i hi => hw i (h.fb i hi).1)).store (bktR N) Ks Try.underlying70 hN (ks_of hs) m0 (fun i hi e => by have : i = w.heap.size := hi; have := h.mb.lower i e; omega)
  have hf : Frm FB w w3 := (((Frm.refl FB w).alloc _).drew).trans (Frm.of_turned ht h.mb.own) (fun i e => .inl e)
  refine ⟨w3, hr, _, h.new_b hf (Nat.le_succ N) ((hm.of (fun _ _ _ h => h.mono (Nat.le_succ N)))) (fun i hi => ?_) (h.small.bs (fun k x e => by cases e)), fun i hi => ?_, hf.mono (fun i _ e => (h.fb i e).1)⟩
  · rcases hi with hi | hi
    · exact .inl hi
    · exact .inr (by have : i = w.heap.size := hi; omega)
  · rcases hi with hi | hi | hi
    · exact .inl hi
    · exact .inl (h.fb i hi).1
    · exact .inr (by have : i = w.heap.size := hi; omega)
/-- A bucket dropped. -/
theorem MachAt.unmake (h : MachAt N w g B U D S FB FU FD F) {s : ByteArray} (hs : s.size ≤ maxLen) (ty : TypeId) :
    ∃ w3, (Builtin.delete_ #[70, 9] ty #[.map (some B), .string s]).run Try.prog w = .ok (.tuple #[]) w3 ∧
      ∃ F', Mach (N + 1) w3 (.pointer (some ⟨g, 0, none⟩)) { S with bs := upd S.bs (sk s) none } F' ∧ (∀ i, F' i → F i ∨ w.heap.size ≤ i) ∧ Frm F w w3 ∧ ∀ a, w3.cell? a = w.cell? a := by
  obtain ⟨w3, hr, hm, ht⟩ := h.mb.drop (bktR N) Ks Try.underlying70 (ks_of hs) ty
  have hf : Frm FB w w3 := Frm.of_turned ht h.mb.own
  refine ⟨w3, hr, _, h.new_b hf (Nat.le_succ N) ((hm.of (fun _ _ _ h => h.mono (Nat.le_succ N))).mono (Nat.le_succ N)) (fun i hi => .inl hi) (h.small.bs_none _), fun i hi => ?_, hf.mono (fun i _ e => (h.fb i e).1), turned_cell ht⟩
  rcases hi with hi | hi
  · exact .inl hi
  · exact .inl (h.fb i hi).1
/-- A look-up among the buckets: none. -/
theorem MachAt.no_bucket (h : MachAt N w g B U D S FB FU FD F) {s : ByteArray} (hs : s.size ≤ maxLen) (hc : S.bs (sk s) = none) {W : World} (hW : W.heap[B]? = w.heap[B]?) :
    (Instr.lookup 70 (.map (some B)) (.string s) false).run Try.prog W = .ok (.map none) W := by
  obtain ⟨gv, hm, h0, h1⟩ := h.mb.vals
  rw [(hm.same hW).look Ks Try.underlying70 (z := .map none) (by kernel_rfl) (ks_of hs), h0 _ hc]
  rfl
/-- .. a bucket, that may be turned. -/
theorem MachAt.bucket (h : MachAt N w g B U D S FB FU FD F) {s : ByteArray} (hs : s.size ≤ maxLen) {c : Bk} (hc : S.bs (sk s) = some c) :
    ∃ b, ∃ Fj : Foot, (∀ W : World, W.heap[B]? = w.heap[B]? → (Instr.lookup 70 (.map (some B)) (.string s) false).run Try.prog W = .ok (.map (some b)) W) ∧
      MapR Try.prog BytesR 9 w b N c Fj ∧ (∀ i, Fj i → FB i ∧ i ≠ B) ∧
      ∀ w' c' Fj', (∀ i, FB i → ¬ Fj i → w'.heap[i]? = w.heap[i]?) → MapR Try.prog BytesR 9 w' b (N + 1) c' Fj' → (∀ i, Fj' i → Fj i ∨ w.heap.size ≤ i) → w.heap.size ≤ w'.heap.size →
        MapR Try.prog (BktR (N + 1)) 9 w' B (N + 1) (upd S.bs (sk s) (some c')) (fun i => FB i ∨ Fj' i) := by
  obtain ⟨gv, hm, h0, v, Fj, hv, ⟨b, rfl, hb⟩, hj, ht⟩ := h.mb.turn (bktR N) (bktR (N + 1)) (fun h => h.mono (Nat.le_succ N)) hc
  refine ⟨b, Fj, fun W hW => ?_, hb, hj, fun w' c' Fj' h1 h2 h3 h4 => (ht w' c' Fj' h1 ⟨b, rfl, h2⟩ h3 h4).mono (Nat.le_succ N)⟩
  rw [(hm.same hW).look Ks Try.underlying70 (z := .map none) (by kernel_rfl) (ks_of hs), hv]
  rfl
/-- An object put: the inner map's store. -/
theorem MachAt.put (h : MachAt N w g B U D S FB FU FD F) {s k : ByteArray} (hs : s.size ≤ maxLen) (hk : k.size ≤ maxLen) (hN : N < maxLen) {c : Bk} (hc : S.bs (sk s) = some c) :
    ∃ b, ∃ Fj : Foot, (∀ W : World, W.heap[B]? = w.heap[B]? → (Instr.lookup 70 (.map (some B)) (.string s) false).run Try.prog W = .ok (.map (some b)) W) ∧
      ∀ w2, Frm (fun _ => False) w w2 → ∀ v xs Fv, BytesR w2 v xs Fv → (∀ i, Fv i → w.heap.size ≤ i) → xs.length ≤ 167772160000 →
    ∃ w3, (Instr.mapUpdate 86 (.map (some b)) (.string k) v).run Try.prog w2 = .ok () w3 ∧
      ∃ F', Mach (N + 1) w3 (.pointer (some ⟨g, 0, none⟩)) { S with bs := upd S.bs (sk s) (some (upd c (sk k) (some xs))) } F' ∧ (∀ i, F' i → F i ∨ Fv i) ∧ Frm F w w3 ∧ w2.mapTurned w3 b := by
  obtain ⟨b, Fj, hrun, hb, hj, ht⟩ := h.bucket hs hc
  refine ⟨b, Fj, hrun, fun w2 hw2 v xs Fv hv hFv hx => ?_⟩
  have hb2 := hb.framed bytesR (w' := w2) (fun i hi => hw2.block i (hb.lower i hi) (fun e => e))
  obtain ⟨w3, hr, hm, ht3⟩ := hb2.store bytesR Ks Try.underlying86 hN (ks_of hk) hv (fun i hi e => by have := hFv i hi; have := hb.lower i e; omega)
  have hf : Frm FB w w3 := (hw2.mono (fun i _ e => e.elim)).trans (F1 := Fj) (Frm.of_turned ht3 hb.own) (fun i e => .inl (hj i e).1)
  have hz := hw2.size
  have hz3 := ht3.grown.size
  have hfj : ∀ i, FB i → ¬ Fj i → w3.heap[i]? = w.heap[i]? := fun i hi hn => by
    rw [ht3.grown.block i (by have := h.mb.lower i hi; omega) (fun e => hn (by cases e; exact hb.own)), hw2.block i (h.mb.lower i hi) (fun e => e)]
  have hnew := ht w3 _ _ hfj hm (fun i hi => by
    rcases hi with hi | hi
    · exact .inl hi
    · exact .inr (hFv i hi)) (by omega)
  refine ⟨w3, hr, _, h.new_b hf (Nat.le_succ N) hnew (fun i hi => ?_) (h.small.bs (small_upd (h.small.obj _ c · · hc) (fun y e => by cases e; exact hx))), fun i hi => ?_, hf.mono (fun i _ e => (h.fb i e).1), ht3⟩
  · rcases hi with hi | hi | hi
    · exact .inl hi
    · exact .inl (hj i hi).1
    · exact .inr (hFv i hi)
  · rcases hi with hi | hi | hi | hi
    · exact .inl hi
    · exact .inl (h.fb i hi).1
    · exact .inl (h.fb i (hj i hi).1).1
    · exact .inr hi
/-- An object dropped. -/
theorem MachAt.delete (h : MachAt N w g B U D S FB FU FD F) {s k : ByteArray} (hs : s.size ≤ maxLen) (hk : k.size ≤ maxLen) {c : Bk} (hc : S.bs (sk s) = some c) (ty : TypeId) :
    ∃ b, ∃ w3, (∀ W : World, W.heap[B]? = w.heap[B]? → (Instr.lookup 70 (.map (some B)) (.string s) false).run Try.prog W = .ok (.map (some b)) W) ∧
      (Builtin.delete_ #[86, 9] ty #[.map (some b), .string k]).run Try.prog w = .ok (.tuple #[]) w3 ∧
      ∃ F', Mach (N + 1) w3 (.pointer (some ⟨g, 0, none⟩)) { S with bs := upd S.bs (sk s) (some (upd c (sk k) none)) } F' ∧ (∀ i, F' i → F i) ∧ Frm F w w3 ∧ ∀ a, w3.cell? a = w.cell? a := by
  obtain ⟨b, Fj, hrun, hb, hj, ht⟩ := h.bucket hs hc
  obtain ⟨w3, hr, hm, ht3⟩ := hb.drop bytesR Ks Try.underlying86 (ks_of hk) ty
  have hf : Frm FB w w3 := (Frm.of_turned ht3 hb.own).mono (fun i _ e => (hj i e).1)
  have hz3 := ht3.grown.size
  have hfj : ∀ i, FB i → ¬ Fj i → w3.heap[i]? = w.heap[i]? := fun i hi hn => ht3.grown.block i (h.mb.lower i hi) (fun e => hn (by cases e; exact hb.own))
  have hnew := ht w3 _ _ hfj (hm.mono (Nat.le_succ N)) (fun i hi => .inl hi) hz3
  refine ⟨b, w3, hrun, hr, _, h.new_b hf (Nat.le_succ N) hnew (fun i hi => ?_) (h.small.bs (small_upd (h.small.obj _ c · · hc) (fun y e => by cases e))), fun i hi => ?_, hf.mono (fun i _ e => (h.fb i e).1), turned_cell ht3⟩
  · rcases hi with hi | hi
    · exact .inl hi
    · exact .inl (hj i hi).1
  · rcases hi with hi | hi | hi
    · exact hi
    · exact (h.fb i hi).1
    · exact (h.fb i (hj i hi).1).1
/-- An object read. -/
theorem MachAt.object (h : MachAt N w g B U D S FB FU FD F) {s k : ByteArray} (hs : s.size ≤ maxLen) (hk : k.size ≤ maxLen) {c : Bk} (hc : S.bs (sk s) = some c) :
    ∃ b, b < w.heap.size ∧ (∀ W : World, W.heap[B]? = w.heap[B]? → (Instr.lookup 70 (.map (some B)) (.string s) false).run Try.prog W = .ok (.map (some b)) W) ∧
      ∃ v, (∀ W : World, W.heap[b]? = w.heap[b]? → (Instr.lookup 86 (.map (some b)) (.string k) true).run Try.prog W = .ok (.tuple #[v, .bool (c (sk k)).isSome]) W) ∧ RdB w v ((c (sk k)).getD []) := by
  obtain ⟨b, Fj, hrun, hb, hj, ht⟩ := h.bucket hs hc
  obtain ⟨gv, hm, h0, h1⟩ := hb.vals
  refine ⟨b, hm.lt, hrun, ?_⟩
  cases hck : c (sk k) with
  | none =>
    refine ⟨.slice none 0 0, fun W hW => ?_, Rd.nil' (by simp [maxLen]) (fun _ => rfl)⟩
    rw [(hm.same hW).look_ok Ks Try.underlying86 (z := .slice none 0 0) (by kernel_rfl) (ks_of hk), h0 _ hck]
    rfl
  | some x =>
    obtain ⟨v, hv, Fk, ⟨hr, _⟩, _⟩ := h1 _ x hck
    refine ⟨v, fun W hW => ?_, hr⟩
    rw [(hm.same hW).look_ok Ks Try.underlying86 (z := .slice none 0 0) (by kernel_rfl) (ks_of hk), hv]
    rfl
/-- How many objects a bucket has. -/
theorem MachAt.count (h : MachAt N w g B U D S FB FU FD F) {s : ByteArray} (hs : s.size ≤ maxLen) {c : Bk} (hc : S.bs (sk s) = some c) (ty : TypeId) :
    ∃ b, ∃ n : Nat, b < w.heap.size ∧ (∀ W : World, W.heap[B]? = w.heap[B]? → (Instr.lookup 70 (.map (some B)) (.string s) false).run Try.prog W = .ok (.map (some b)) W) ∧
      (∀ W : World, W.heap[b]? = w.heap[b]? → (Builtin.len_ #[86] ty #[.map (some b)]).run Try.prog W = .ok (.int .i64 n) W) ∧ (n = 0 ↔ ∀ k, c k = none) := by
  obtain ⟨b, Fj, hrun, hb, hj, ht⟩ := h.bucket hs hc
  obtain ⟨gv, hm, h0, h1⟩ := hb.vals
  obtain ⟨n, h2, h3, h4⟩ := hm.len Ks Try.underlying86 ty
  refine ⟨b, n, hm.lt, hrun, h2, h4.trans ⟨fun hn k => ?_, fun hn k => h0 k (hn k)⟩⟩
  cases hck : c k with
  | none => rfl
  | some x =>
    obtain ⟨v, hv, _⟩ := h1 k x hck
    rw [hn k] at hv
    cases hv

/-! ### uploads -/
theorem MachAt.no_upload (h : MachAt N w g B U D S FB FU FD F) {id : Int} (hi : (Lit.int .u64 id).wf = true) (hc : S.us (uk id) = none) {W : World} (hW : W.heap[U]? = w.heap[U]?) :
    (Instr.lookup 71 (.map (some U)) (.int .u64 id) false).run Try.prog W = .ok (.pointer none) W := by
  obtain ⟨gv, hm, h0, h1⟩ := h.mu.vals
  rw [(hm.same hW).look Ku Try.underlying71 (z := .pointer none) (by kernel_rfl) (ku_of hi), h0 _ hc]
  rfl
/-- An upload, that may be turned. -/
theorem MachAt.upload (h : MachAt N w g B U D S FB FU FD F) {id : Int} (hi : (Lit.int .u64 id).wf = true) {u : UplC} (hc : S.us (uk id) = some u) :
    ∃ ug mb, ∃ Fp : Foot, (∀ W : World, W.heap[U]? = w.heap[U]? → (Instr.lookup 71 (.map (some U)) (.int .u64 id) false).run Try.prog W = .ok (.pointer (some ⟨ug, 0, none⟩)) W) ∧
      w.heap[ug]? = some (.cells #[.string u.bucket, .string u.key, .map (some mb)] 122) ∧ MapR Try.prog BytesR 3 w mb N u.parts Fp ∧ u.bucket.size ≤ maxLen ∧ u.key.size ≤ maxLen ∧ (FU ug ∧ ug ≠ U) ∧ (∀ i, Fp i → FU i ∧ i ≠ U ∧ i ≠ ug) ∧
      ∀ w' c' Fp', (∀ i, FU i → ¬ Fp i → w'.heap[i]? = w.heap[i]?) → MapR Try.prog BytesR 3 w' mb (N + 1) c' Fp' → (∀ i, Fp' i → Fp i ∨ w.heap.size ≤ i) → w.heap.size ≤ w'.heap.size →
        ∃ FU', MapR Try.prog (UplR (N + 1)) 22 w' U (N + 1) (upd S.us (uk id) (some { u with parts := c' })) FU' ∧ ∀ i, FU' i → FU i ∨ Fp' i := by
  obtain ⟨gv, hm, h0, v, Fj, hv, ⟨ug, mb, Fp, rfl, hg, hp, p1, p2, p3, p4, p5, p6⟩, hj, ht⟩ := h.mu.turn (uplR N) (uplR (N + 1)) (fun h => h.mono (Nat.le_succ N)) hc
  refine ⟨ug, mb, Fp, fun W hW => ?_, hg, hp, p5, p6, ⟨(hj ug p1).1, (hj ug p1).2⟩, fun i hi => ⟨(hj i (p3 i hi)).1, (hj i (p3 i hi)).2, fun e => by subst e; exact p2 hi⟩, fun w' c' Fp' h1 h2 h3 h4 => ?_⟩
  · rw [(hm.same hW).look Ku Try.underlying71 (z := .pointer none) (by kernel_rfl) (ku_of hi), hv]
    rfl
  · have hgl := block_lt hg
    have hg' : w'.heap[ug]? = w.heap[ug]? := h1 ug (hj ug p1).1 p2
    have hn := ht w' { u with parts := c' } (fun i => i = ug ∨ Fp' i) (fun i hi hn => h1 i hi (fun e => hn (p3 i e)))
      ⟨ug, mb, Fp', rfl, hg'.trans hg, h2, .inl rfl, (fun e => by rcases h3 ug e with e | e; exact p2 e; omega), (fun i hi => .inr hi), (fun i hi => by rcases hi with hi | hi; subst hi; omega; exact h2.lower i hi), p5, p6⟩
      (fun i hi => by rcases hi with hi | hi; exact .inl (by subst hi; exact p1); rcases h3 i hi with e | e; exact .inl (p3 i e); exact .inr e) h4
    refine ⟨_, hn.mono (Nat.le_succ N), fun i hi => ?_⟩
    rcases hi with hi | hi | hi
    · exact .inl hi
    · subst hi; exact .inl (hj i p1).1
    · exact .inr hi
/-- The uploads, to be gone over. -/
theorem MachAt.range_u (h : MachAt N w g B U D S FB FU FD F) : ∃ D0 : DataW Value, w.ownsMap Try.prog 22 hold U N D0 ∧ (∀ kl, Maps.has D0 kl = (S.us kl).isSome) ∧
    ∀ kl c y, hold c = some y → (∀ zd, D0.atKey kl zd = y.1) → ∃ ug u mb, c = .pointer (some ⟨ug, 0, none⟩) ∧ S.us kl = some u ∧ w.heap[ug]? = some (.cells #[.string u.bucket, .string u.key, .map (some mb)] 122) := by
  obtain ⟨gv, ⟨D0, hown, hgt, hhas⟩, h0, h1⟩ := h.mu.vals
  refine ⟨D0, hown, fun kl => ?_, fun kl c y hy hat => ?_⟩
  · cases hk : Maps.has D0 kl with
    | true =>
      obtain ⟨v, hv⟩ := hhas kl hk
      have := hgt kl
      rw [gt_some hv] at this
      cases hu : S.us kl with
      | none => rw [h0 kl hu] at this; cases this
      | some u => rfl
    | false =>
      have := hgt kl
      rw [gt_none hk] at this
      cases hu : S.us kl with
      | none => rfl
      | some u =>
        obtain ⟨v, hv, _⟩ := h1 kl u hu
        rw [hv] at this; cases this
  · simp only [hold, Option.some.injEq] at hy
    subst hy
    have := hgt kl
    rw [gt_some hat] at this
    cases hu : S.us kl with
    | none => rw [h0 kl hu] at this; cases this
    | some u =>
      obtain ⟨v, hv, Fj, ⟨ug, mb, Fp, rfl, hg, _⟩, _⟩ := h1 kl u hu
      rw [hv] at this
      cases this
      exact ⟨ug, u, mb, rfl, rfl, hg⟩
/-- An upload begun: a map, an upload's block, its store. -/
theorem MachAt.begin (h : MachAt N w g B U D S FB FU FD F) {id : Int} (hi : (Lit.int .u64 id).wf = true) {bk ky : ByteArray} (h1 : bk.size ≤ maxLen) (h2 : ky.size ≤ maxLen) (hN : N < maxLen) :
    ∃ w3, (Instr.mapUpdate 71 (.map (some U)) (.int .u64 id) (.pointer (some ⟨w.heap.size + 1, 0, none⟩))).run Try.prog ((w.alloc (.map #[] 0)).alloc (.cells #[.string bk, .string ky, .map (some w.heap.size)] 122)).drew = .ok () w3 ∧
      ∃ F', Mach (N + 1) w3 (.pointer (some ⟨g, 0, none⟩)) { S with us := upd S.us (uk id) (some ⟨bk, ky, fun _ => none⟩) } F' ∧ (∀ i, F' i → F i ∨ w.heap.size ≤ i) ∧ Frm F w w3 := by
  have hw : ∀ i, i < w.heap.size → ((w.alloc (.map #[] 0)).alloc (.cells #[.string bk, .string ky, .map (some w.heap.size)] 122)).drew.heap[i]? = w.heap[i]? := fun i hi => by
    show ((w.alloc _).alloc _).heap[i]? = _
    rw [alloc_same (by simp; omega), alloc_same hi]
  have hU := h.mu.lower U h.mu.own
  have m0 : UplR N ((w.alloc (.map #[] 0)).alloc (.cells #[.string bk, .string ky, .map (some w.heap.size)] 122)).drew (.pointer (some ⟨w.heap.size + 1, 0, none⟩)) ⟨bk, ky, fun _ => none⟩ (fun i => i = w.heap.size ∨ i = w.heap.size + 1) :=
    ⟨w.heap.size + 1, w.heap.size, (fun i => i = w.heap.size), rfl, (two_new w _ _).2, ((MapR.made Try.prog BytesR 3 w rfl).framed bytesR (fun i hi => by
      have e : i = w.heap.size := hi
      subst e
      show ((w.alloc _).alloc _).heap[w.heap.size]? = _
      rw [alloc_same (by simp)])).mono (Nat.zero_le N), .inr rfl, (fun e => by omega), (fun i hi => .inl hi), (fun i hi => by show i < ((w.alloc _).alloc _).heap.size; simp; omega), h1, h2⟩
  obtain ⟨w3, hr, hm, ht⟩ := (h.mu.framed (uplR N) (fun i hi => hw i (h.mu.lower i hi))).store (uplR N) Ku Try.underlying71 hN (ku_of hi) m0 (fun i hi e => by have := h.mu.lower i e; omega)
  have hf : Frm FU w w3 := ((((Frm.refl FU w).alloc _).alloc _).drew).trans (Frm.of_turned ht h.mu.own) (fun i e => .inl e)
  refine ⟨w3, hr, _, h.new_u hf (Nat.le_succ N) ((hm.of (fun _ _ _ h => h.mono (Nat.le_succ N)))) (fun i hi => ?_) (h.small.us (fun k x e => by cases e)), fun i hi => ?_, hf.mono (fun i _ e => (h.fu i e).1)⟩
  · rcases hi with hi | hi
    · exact .inl hi
    · exact .inr (by omega)
  · rcases hi with hi | hi | hi
    · exact .inl hi
    · exact .inl (h.fu i hi).1
    · exact .inr (by omega)
/-- A part laid in. -/
theorem MachAt.part (h : MachAt N w g B U D S FB FU FD F) {id n : Int} (hi : (Lit.int .u64 id).wf = true) (hn : (Lit.int .i64 n).wf = true) (hN : N < maxLen) {u : UplC} (hc : S.us (uk id) = some u) :
    ∃ ug mb, (∀ W : World, W.heap[U]? = w.heap[U]? → (Instr.lookup 71 (.map (some U)) (.int .u64 id) false).run Try.prog W = .ok (.pointer (some ⟨ug, 0, none⟩)) W) ∧
      w.heap[ug]? = some (.cells #[.string u.bucket, .string u.key, .map (some mb)] 122) ∧ F ug ∧
      ∀ w2, Frm (fun _ => False) w w2 → ∀ v xs Fv, BytesR w2 v xs Fv → (∀ i, Fv i → w.heap.size ≤ i) → xs.length ≤ 16777216 →
    ∃ w3, (Instr.mapUpdate 38 (.map (some mb)) (.int .i64 n) v).run Try.prog w2 = .ok () w3 ∧
      ∃ F', Mach (N + 1) w3 (.pointer (some ⟨g, 0, none⟩)) { S with us := upd S.us (uk id) (some { u with parts := upd u.parts (ik n) (some xs) }) } F' ∧ (∀ i, F' i → F i ∨ Fv i) ∧ Frm F w w3 ∧ w2.mapTurned w3 mb := by
  obtain ⟨ug, mb, Fp, hrun, hg, hp, _, _, hug, hj, ht⟩ := h.upload hi hc
  refine ⟨ug, mb, hrun, hg, (h.fu ug hug.1).1, fun w2 hw2 v xs Fv hv hFv hx => ?_⟩
  have hb2 := hp.framed bytesR (w' := w2) (fun i hi => hw2.block i (hp.lower i hi) (fun e => e))
  obtain ⟨w3, hr, hm, ht3⟩ := hb2.store bytesR Ki Try.underlying38 hN (ki_of hn) hv (fun i hi e => by have := hFv i hi; have := hp.lower i e; omega)
  have hf : Frm FU w w3 := (hw2.mono (fun i _ e => e.elim)).trans (F1 := Fp) (Frm.of_turned ht3 hp.own) (fun i e => .inl (hj i e).1)
  have hz := hw2.size
  have hz3 := ht3.grown.size
  have hfj : ∀ i, FU i → ¬ Fp i → w3.heap[i]? = w.heap[i]? := fun i hi hn => by
    rw [ht3.grown.block i (by have := h.mu.lower i hi; omega) (fun e => hn (by cases e; exact hp.own)), hw2.block i (h.mu.lower i hi) (fun e => e)]
  obtain ⟨FU', hnew, hFU'⟩ := ht w3 _ _ hfj hm (fun i hi => by
    rcases hi with hi | hi
    · exact .inl hi
    · exact .inr (hFv i hi)) (by omega)
  have hFU : ∀ i, FU' i → FU i ∨ Fv i := fun i hi => by
    rcases hFU' i hi with e | e | e
    · exact .inl e
    · exact .inl (hj i e).1
    · exact .inr e
  refine ⟨w3, hr, _, h.new_u hf (Nat.le_succ N) hnew (fun i hi => ?_) (h.small.us (small_upd (h.small.part _ u · · hc) (fun y e => by cases e; exact hx))), fun i hi => ?_, hf.mono (fun i _ e => (h.fu i e).1), ht3⟩
  · rcases hFU i hi with e | e
    · exact .inl e
    · exact .inr (hFv i e)
  · rcases hi with hi | hi
    · exact .inl hi
    · rcases hFU i hi with e | e
      · exact .inl (h.fu i e).1
      · exact .inr e
/-- An upload dropped. -/
theorem MachAt.abort (h : MachAt N w g B U D S FB FU FD F) {id : Int} (hi : (Lit.int .u64 id).wf = true) (ty : TypeId) :
    ∃ w3, (Builtin.delete_ #[71, 22] ty #[.map (some U), .int .u64 id]).run Try.prog w = .ok (.tuple #[]) w3 ∧
      ∃ F', Mach N w3 (.pointer (some ⟨g, 0, none⟩)) { S with us := upd S.us (uk id) none } F' ∧ (∀ i, F' i → F i) ∧ Frm F w w3 ∧ ∀ a, w3.cell? a = w.cell? a := by
  obtain ⟨w3, hr, hm, ht⟩ := h.mu.drop (uplR N) Ku Try.underlying71 (ku_of hi) ty
  have hf : Frm FU w w3 := Frm.of_turned ht h.mu.own
  refine ⟨w3, hr, _, h.new_u hf (Nat.le_refl N) hm (fun i hi => .inl hi) (h.small.us_none _), fun i hi => ?_, hf.mono (fun i _ e => (h.fu i e).1), turned_cell ht⟩
  rcases hi with hi | hi
  · exact hi
  · exact (h.fu i hi).1

/-- A part looked up. -/
theorem part_look {w : World} {mb N : Nat} {parts : Lit → Option (List UInt8)} {Fp : Foot} (hp : MapR Try.prog BytesR 3 w mb N parts Fp) {n : Int} (hn : (Lit.int .i64 n).wf = true) :
    ∃ v, (∀ W : World, W.heap[mb]? = w.heap[mb]? → (Instr.lookup 38 (.map (some mb)) (.int .i64 n) true).run Try.prog W = .ok (.tuple #[v, .bool (parts (ik n)).isSome]) W) ∧ RdB w v ((parts (ik n)).getD []) := by
  obtain ⟨gv, hm, h0, h1⟩ := hp.vals
  cases hck : parts (ik n) with
  | none =>
    refine ⟨.slice none 0 0, fun W hW => ?_, Rd.nil' (by simp [maxLen]) (fun _ => rfl)⟩
    rw [(hm.same hW).look_ok Ki Try.underlying38 (z := .slice none 0 0) (by kernel_rfl) (ki_of hn), h0 _ hck]
    rfl
  | some x =>
    obtain ⟨v, hv, Fk, ⟨hr, _⟩, _⟩ := h1 _ x hck
    refine ⟨v, fun W hW => ?_, hr⟩
    rw [(hm.same hW).look_ok Ki Try.underlying38 (z := .slice none 0 0) (by kernel_rfl) (ki_of hn), hv]
    rfl

/-! ### what is kept -/
theorem MachAt.kept (h : MachAt N w g B U D S FB FU FD F) {id : Int} (hi : (Lit.int .u64 id).wf = true) :
    ∃ v, (∀ W : World, W.heap[D]? = w.heap[D]? → (Instr.lookup 72 (.map (some D)) (.int .u64 id) true).run Try.prog W = .ok (.tuple #[v, .bool (S.ds (uk id)).isSome]) W) ∧
      ∃ r, ∃ Fr : Foot, ResR w v r Fr ∧ (∀ i, Fr i → FD i) ∧ (∀ r0, S.ds (uk id) = some r0 → r = r0) ∧ (S.ds (uk id) = none → r = stat 0) := by
  obtain ⟨gv, hm, h0, h1⟩ := h.md.vals
  cases hc : S.ds (uk id) with
  | none =>
    refine ⟨statV 0, fun W hW => ?_, stat 0, (fun _ => False), ⟨_, _, rfl, Rd.nil' (by simp [maxLen]) (fun _ => rfl), (fun g off n cap e hn => by cases e), Rd.nil' (by simp [maxLen]) (fun _ => rfl), (fun g off n cap e hn => by cases e), (fun i h => h.elim)⟩, (fun i e => e.elim), (fun r0 e => by cases e), fun _ => rfl⟩
    rw [(hm.same hW).look_ok Ku Try.underlying72 (z := statV 0) (by kernel_rfl) (ku_of hi), h0 _ hc]
    rfl
  | some r =>
    obtain ⟨v, hv, Fr, hr, hFr⟩ := h1 _ r hc
    refine ⟨v, fun W hW => ?_, r, Fr, hr, (fun i e => (hFr i e).1), (fun r0 e => by cases e; rfl), fun e => by cases e⟩
    rw [(hm.same hW).look_ok Ku Try.underlying72 (z := statV 0) (by kernel_rfl) (ku_of hi), hv]
    rfl
/-- A result kept. -/
theorem MachAt.keep (h : MachAt N w g B U D S FB FU FD F) {id : Int} (hi : (Lit.int .u64 id).wf = true) (hN : N < maxLen) {w2 : World} (hw2 : Frm (fun _ => False) w w2) {v : Value} {r : ResC} {Fv : Foot} (hv : ResR w2 v r Fv) (hFv : ∀ i, Fv i → w.heap.size ≤ i) (h1 : r.keys = []) (h2 : r.data = []) :
    ∃ w3, (Instr.mapUpdate 72 (.map (some D)) (.int .u64 id) v).run Try.prog w2 = .ok () w3 ∧
      ∃ F', Mach (N + 1) w3 (.pointer (some ⟨g, 0, none⟩)) { S with ds := upd S.ds (uk id) (some r) } F' ∧ (∀ i, F' i → F i ∨ Fv i) ∧ Frm F w w3 ∧ w2.mapTurned w3 D := by
  have hb2 := h.md.framed resR (w' := w2) (fun i hi => hw2.block i (h.md.lower i hi) (fun e => e))
  obtain ⟨w3, hr, hm, ht⟩ := hb2.store resR Ku Try.underlying72 hN (ku_of hi) hv (fun i hi e => by have := hFv i hi; have := h.md.lower i e; omega)
  have hf : Frm FD w w3 := (hw2.mono (fun i _ e => e.elim)).trans (F1 := FD) (Frm.of_turned ht h.md.own) (fun i e => .inl e)
  refine ⟨w3, hr, _, h.new_d hf (Nat.le_succ N) hm (fun i hi => ?_) (h.small.ds h1 h2), fun i hi => ?_, hf.mono (fun i _ e => (h.fd i e).1), ht⟩
  · rcases hi with e | e
    · exact .inl e
    · exact .inr (hFv i e)
  · rcases hi with e | e | e
    · exact .inl e
    · exact .inl (h.fd i e).1
    · exact .inr e
end
end Go.Proofs.Ytkbmecjpjphngaa
