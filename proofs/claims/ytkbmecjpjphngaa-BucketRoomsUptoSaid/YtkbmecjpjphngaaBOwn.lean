/-
  What a machine of buckets holds in memory, with the blocks that it lies in; what a call of it leaves as it was.
-/
import Derived.Test.YtkbmecjpjphngaaGKit
import Derived.Test.YtkbmecjpjphngaaBMap
set_option linter.unusedVariables false
set_option linter.unusedSimpArgs false
namespace Go.Proofs.Ytkbmecjpjphngaa
open Go.RowKit Go.Maps

/-- Blocks. -/
abbrev Foot := Nat → Prop
/-- Only blocks of F (that were there) may have turned. -/
structure Frm (F : Foot) (w w' : World) : Prop where
  os : w'.os = w.os
  tape : w'.tape = w.tape
  output : w'.output = w.output
  size : w.heap.size ≤ w'.heap.size
  block : ∀ i, i < w.heap.size → ¬ F i → w'.heap[i]? = w.heap[i]?
theorem Frm.refl (F : Foot) (w : World) : Frm F w w := ⟨rfl, rfl, rfl, Nat.le_refl _, fun _ _ _ => rfl⟩
theorem Frm.trans {F F1 : Foot} {a b c : World} (h : Frm F a b) (k : Frm F1 b c) (hF : ∀ i, F1 i → F i ∨ a.heap.size ≤ i) : Frm F a c :=
  ⟨k.os.trans h.os, k.tape.trans h.tape, k.output.trans h.output, Nat.le_trans h.size k.size, fun i hi hn =>
    (k.block i (Nat.lt_of_lt_of_le hi h.size) (fun e => by rcases hF i e with e | e; exact hn e; omega)).trans (h.block i hi hn)⟩
theorem Frm.mono {F F1 : Foot} {a b : World} (h : Frm F a b) (hF : ∀ i, i < a.heap.size → F i → F1 i) : Frm F1 a b :=
  ⟨h.os, h.tape, h.output, h.size, fun i hi hn => h.block i hi (fun e => hn (hF i hi e))⟩
theorem Frm.of_below {a b : World} (h : Below a.heap.size a b) (F : Foot) : Frm F a b := ⟨h.os, h.tape, h.output, h.size, fun i hi _ => h.block i hi⟩
theorem Frm.below {F : Foot} {a b : World} (h : Frm F a b) {B : Nat} (hB : B ≤ a.heap.size) (hF : ∀ i, F i → B ≤ i) : Below B a b :=
  ⟨h.os, h.tape, h.output, h.size, fun i hi => h.block i (by omega) (fun e => by have := hF i e; omega)⟩
theorem Frm.alloc {F : Foot} {a w : World} (h : Frm F a w) (o : Obj) : Frm F a (w.alloc o) :=
  h.trans (F1 := fun _ => False) (Frm.of_below ((Below.refl _ _).alloc (Nat.le_refl _) o) _) (fun _ e => e.elim)
theorem Frm.drew {F : Foot} {a w : World} (h : Frm F a w) : Frm F a w.drew := ⟨h.os, h.tape, h.output, h.size, h.block⟩
theorem Frm.setCell {F : Foot} {a w : World} (h : Frm F a w) {p : Addr} (hp : F p.block ∨ a.heap.size ≤ p.block) (u : Value) : Frm F a (w.setCell p u) :=
  h.trans (F1 := fun i => i = p.block) ⟨rfl, rfl, rfl, by simp [World.setCell], fun i _ hn => Below.heap_setCell _ _ _ _ hn⟩ (fun i e => by subst e; exact hp)
theorem Frm.of_turned {w w' : World} {b : Nat} (h : w.mapTurned w' b) {F : Foot} (hF : F b) : Frm F w w' :=
  ⟨h.grown.os, h.grown.tape, h.grown.output, h.grown.size, fun i hi hn => h.grown.block i hi (fun e => by cases e; exact hn hF)⟩
theorem Frm.cell {F : Foot} {w w' : World} (h : Frm F w w') {p : Addr} (hp : p.block < w.heap.size) (hn : ¬ F p.block) : w'.cell? p = w.cell? p := World.cell?_of_block (w := w) (h.block p.block hp hn)
theorem Frm.frozen {F : Foot} {w w' : World} (h : Frm F w w') {p : Addr} (hp : p.block < w.heap.size) (hn : ¬ F p.block) : w'.frozen? p = w.frozen? p := World.frozen?_of_block (w := w) (h.block p.block hp hn)

/-- A reading of a value: it stands while its blocks do. -/
structure Reads {C : Type} (VR : World → Value → C → Foot → Prop) : Prop where
  framed : ∀ {w w' v x F}, VR w v x F → (∀ i, F i → w'.heap[i]? = w.heap[i]?) → VR w' v x F
  lower : ∀ {w v x F}, VR w v x F → ∀ i, F i → i < w.heap.size

noncomputable def swap (Fs : Lit → Foot) (k : Lit) (Fv : Foot) : Lit → Foot := fun j => @ite _ (j = k) (Classical.propDecidable _) Fv (Fs j)
theorem swap_same (Fs : Lit → Foot) (k : Lit) (Fv : Foot) : swap Fs k Fv k = Fv := by simp [swap]
theorem swap_other (Fs : Lit → Foot) {k j : Lit} (Fv : Foot) (h : j ≠ k) : swap Fs k Fv j = Fs j := by simp [swap, h]
/-- Block b is a map of at most n entries; its elements read as f. -/
def MapR {C : Type} (P : Program) (VR : World → Value → C → Foot → Prop) (k : TypeId) (w : World) (b n : Nat) (f : Lit → Option C) (F : Foot) : Prop :=
  ∃ (g : Lit → Option Value) (Fs : Lit → Foot), MapV P k w b n g ∧ F b ∧ (∀ j, f j = none → g j = none) ∧ (∀ j x, f j = some x → ∃ v, g j = some v ∧ VR w v x (Fs j)) ∧
    (∀ j x, f j = some x → ∀ i, Fs j i → F i ∧ i ≠ b) ∧ (∀ j j' x x', f j = some x → f j' = some x' → j ≠ j' → ∀ i, Fs j i → ¬ Fs j' i) ∧ (∀ i, F i → i < w.heap.size)

section
variable {C : Type} {P : Program} {VR : World → Value → C → Foot → Prop} {k : TypeId} {w : World} {b n : Nat} {f : Lit → Option C} {F : Foot}

theorem MapR.lower (h : MapR P VR k w b n f F) : ∀ i, F i → i < w.heap.size := by
  obtain ⟨g, Fs, _, _, _, _, _, _, h⟩ := h
  exact h
theorem MapR.own (h : MapR P VR k w b n f F) : F b := by
  obtain ⟨g, Fs, _, h, _⟩ := h
  exact h
theorem MapR.framed (hV : Reads VR) {w' : World} (h : MapR P VR k w b n f F) (hw : ∀ i, F i → w'.heap[i]? = w.heap[i]?) : MapR P VR k w' b n f F := by
  obtain ⟨g, Fs, h1, h2, h3, h4, h5, h6, h7⟩ := h
  refine ⟨g, Fs, h1.same (hw b h2), h2, h3, fun j x hj => ?_, h5, h6, fun i hi => ?_⟩
  · obtain ⟨v, hv, hr⟩ := h4 j x hj
    exact ⟨v, hv, hV.framed hr (fun i hi => hw i (h5 j x hj i hi).1)⟩
  · have := hw i hi
    rw [Array.getElem?_eq_getElem (h7 i hi)] at this
    exact (Array.getElem?_eq_some_iff.1 this).1
theorem MapR.wider (h : MapR P VR k w b n f F) {F' : Foot} (h1 : ∀ i, F i → F' i) (h2 : ∀ i, F' i → i < w.heap.size) : MapR P VR k w b n f F' := by
  obtain ⟨g, Fs, a1, a2, a3, a4, a5, a6, a7⟩ := h
  exact ⟨g, Fs, a1, h1 _ a2, a3, a4, fun j x hj i hi => ⟨h1 _ (a5 j x hj i hi).1, (a5 j x hj i hi).2⟩, a6, h2⟩
theorem MapR.mono (h : MapR P VR k w b n f F) {n' : Nat} (hn : n ≤ n') : MapR P VR k w b n' f F := by
  obtain ⟨g, Fs, a1, r⟩ := h
  exact ⟨g, Fs, a1.mono hn, r⟩
theorem MapR.made (P : Program) (VR : World → Value → C → Foot → Prop) (k : TypeId) (w : World) {b : Nat} (hb : b = w.heap.size) : MapR P VR k (w.alloc (.map #[] 0)) b 0 (fun _ => none) (fun i => i = b) := by
  refine ⟨fun _ => none, fun _ _ => False, MapV.made P k w hb, rfl, fun _ _ => rfl, ?_, ?_, ?_, ?_⟩
  · intro j x hj; cases hj
  · intro j x hj; cases hj
  · intro j j' x x' hj; cases hj
  · intro i hi; subst hb; have : i = w.heap.size := hi; rw [this]; simp
/-- What a look-up sees. -/
theorem MapR.vals (h : MapR P VR k w b n f F) : ∃ g, MapV P k w b n g ∧ (∀ j, f j = none → g j = none) ∧ ∀ j x, f j = some x → ∃ v, g j = some v ∧ ∃ Fj, VR w v x Fj ∧ ∀ i, Fj i → F i ∧ i ≠ b := by
  obtain ⟨g, Fs, a1, a2, a3, a4, a5, a6, a7⟩ := h
  exact ⟨g, a1, a3, fun j x hj => let ⟨v, hv, hr⟩ := a4 j x hj; ⟨v, hv, Fs j, hr, a5 j x hj⟩⟩
/-- An element turned in place. -/
theorem MapR.turn (hV : Reads VR) {VR' : World → Value → C → Foot → Prop} (hV' : Reads VR') (hup : ∀ {w v x F}, VR w v x F → VR' w v x F) (h : MapR P VR k w b n f F) {j : Lit} {x : C} (hj : f j = some x) :
    ∃ g, MapV P k w b n g ∧ (∀ j, f j = none → g j = none) ∧ ∃ v Fj, g j = some v ∧ VR w v x Fj ∧ (∀ i, Fj i → F i ∧ i ≠ b) ∧
      ∀ w' x' Fj', (∀ i, F i → ¬ Fj i → w'.heap[i]? = w.heap[i]?) → VR' w' v x' Fj' → (∀ i, Fj' i → Fj i ∨ w.heap.size ≤ i) → w.heap.size ≤ w'.heap.size → MapR P VR' k w' b n (upd f j (some x')) (fun i => F i ∨ Fj' i) := by
  obtain ⟨g, Fs, a1, a2, a3, a4, a5, a6, a7⟩ := h
  obtain ⟨v, hv, hr⟩ := a4 j x hj
  refine ⟨g, a1, a3, v, Fs j, hv, hr, a5 j x hj, fun w' x' Fj' h1 h2 h3 h4 => ?_⟩
  have hb := a5 j x hj
  refine ⟨g, swap Fs j Fj', a1.same (h1 b a2 (fun e => (hb b e).2 rfl)), .inl a2, fun i hi => ?_, fun i y hi => ?_, fun i y hi q hq => ?_, fun i i' y y' hi hi' hne q hq hq' => ?_, fun i hi => ?_⟩
  · by_cases e : i = j
    · subst e; rw [upd_same] at hi; cases hi
    · rw [upd_other f _ e] at hi; exact a3 i hi
  · by_cases e : i = j
    · subst e
      rw [upd_same] at hi
      cases hi
      exact ⟨v, hv, by rw [swap_same]; exact h2⟩
    · rw [upd_other f _ e] at hi
      obtain ⟨u, hu, hru⟩ := a4 i y hi
      refine ⟨u, hu, ?_⟩
      rw [swap_other _ _ e]
      exact hV'.framed (hup hru) (fun q hq => h1 q (a5 i y hi q hq).1 (a6 i j y x hi hj e q hq))
  · by_cases e : i = j
    · subst e
      rw [swap_same] at hq
      refine ⟨.inr hq, fun e => ?_⟩
      subst e
      rcases h3 q hq with e | e
      · exact (hb q e).2 rfl
      · have := a7 q a2; omega
    · rw [swap_other _ _ e] at hq
      rw [upd_other f _ e] at hi
      exact ⟨.inl (a5 i y hi q hq).1, (a5 i y hi q hq).2⟩
  · have far : ∀ r y, r ≠ j → f r = some y → ∀ q, Fs r q → ¬ Fj' q := fun r y hr hy q hq hq' => by
      rcases h3 q hq' with e | e
      · exact a6 r j y x hy hj hr q hq e
      · have := a7 q (a5 r y hy q hq).1; omega
    by_cases e : i = j
    · subst e
      rw [swap_same] at hq
      rw [swap_other _ _ (fun e => hne e.symm)] at hq'
      rw [upd_other f _ (fun e => hne e.symm)] at hi'
      exact far i' y' (fun e => hne e.symm) hi' q hq' hq
    · rw [swap_other _ _ e] at hq
      rw [upd_other f _ e] at hi
      by_cases e' : i' = j
      · subst e'
        rw [swap_same] at hq'
        exact far i y e hi q hq hq'
      · rw [swap_other _ _ e'] at hq'
        rw [upd_other f _ e'] at hi'
        exact a6 i i' y y' hi hi' hne q hq hq'
  · rcases hi with hi | hi
    · exact Nat.lt_of_lt_of_le (a7 i hi) h4
    · exact hV'.lower h2 i hi
/-- 'm[x] = v'. -/
theorem MapR.store (hV : Reads VR) {t e : TypeId} (h : MapR P VR k w b n f F) (K : Keyed P k) (ht : P.underlying t = some (.map k e)) (hn : n < maxLen) {key : Value} {kl : Lit} (hkey : keyOf P k key = some kl)
    {v : Value} {x : C} {Fv : Foot} (hv : VR w v x Fv) (hd : ∀ i, Fv i → ¬ F i) :
    ∃ w', (Instr.mapUpdate t (.map (some b)) key v).run P w = .ok () w' ∧ MapR P VR k w' b (n + 1) (upd f kl (some x)) (fun i => F i ∨ Fv i) ∧ w.mapTurned w' b := by
  obtain ⟨g, Fs, a1, a2, a3, a4, a5, a6, a7⟩ := h
  obtain ⟨w', hr, hm, ht⟩ := a1.store K ht hn hkey v
  have hbl := hV.lower hv
  have keep : ∀ i, i < w.heap.size → i ≠ b → w'.heap[i]? = w.heap[i]? := fun i hi hne => ht.grown.block i hi (fun e => hne (by cases e; rfl))
  refine ⟨w', hr, ⟨_, swap Fs kl Fv, hm, .inl a2, fun i hi => ?_, fun i y hi => ?_, fun i y hi q hq => ?_, fun i i' y y' hi hi' hne q hq hq' => ?_, fun i hi => ?_⟩, ht⟩
  · by_cases e : i = kl
    · subst e; rw [upd_same] at hi; cases hi
    · rw [upd_other f _ e] at hi; rw [upd_other g _ e]; exact a3 i hi
  · by_cases e : i = kl
    · subst e
      rw [upd_same] at hi
      cases hi
      exact ⟨v, upd_same _ _ _, by rw [swap_same]; exact hV.framed hv (fun q hq => keep q (hbl q hq) (fun e => by subst e; exact hd q hq a2))⟩
    · rw [upd_other f _ e] at hi
      obtain ⟨u, hu, hru⟩ := a4 i y hi
      refine ⟨u, by rw [upd_other g _ e]; exact hu, ?_⟩
      rw [swap_other _ _ e]
      exact hV.framed hru (fun q hq => keep q (a7 q (a5 i y hi q hq).1) (a5 i y hi q hq).2)
  · by_cases e : i = kl
    · subst e
      rw [swap_same] at hq
      exact ⟨.inr hq, fun e => by subst e; exact hd q hq a2⟩
    · rw [swap_other _ _ e] at hq
      rw [upd_other f _ e] at hi
      exact ⟨.inl (a5 i y hi q hq).1, (a5 i y hi q hq).2⟩
  · by_cases e : i = kl
    · subst e
      rw [swap_same] at hq
      rw [swap_other _ _ (fun e => hne e.symm)] at hq'
      rw [upd_other f _ (fun e => hne e.symm)] at hi'
      exact hd q hq (a5 i' y' hi' q hq').1
    · rw [swap_other _ _ e] at hq
      rw [upd_other f _ e] at hi
      by_cases e' : i' = kl
      · subst e'
        rw [swap_same] at hq'
        exact hd q hq' (a5 i y hi q hq).1
      · rw [swap_other _ _ e'] at hq'
        rw [upd_other f _ e'] at hi'
        exact a6 i i' y y' hi hi' hne q hq hq'
  · refine Nat.lt_of_lt_of_le ?_ ht.grown.size
    rcases hi with hi | hi
    · exact a7 i hi
    · exact hbl i hi
/-- 'delete(m, x)'. -/
theorem MapR.drop (hV : Reads VR) {t e : TypeId} (h : MapR P VR k w b n f F) (K : Keyed P k) (ht : P.underlying t = some (.map k e)) {key : Value} {kl : Lit} (hkey : keyOf P k key = some kl) (ty : TypeId) :
    ∃ w', (Builtin.delete_ #[t, k] ty #[.map (some b), key]).run P w = .ok (.tuple #[]) w' ∧ MapR P VR k w' b n (upd f kl none) F ∧ w.mapTurned w' b := by
  obtain ⟨g, Fs, a1, a2, a3, a4, a5, a6, a7⟩ := h
  obtain ⟨w', hr, hm, ht⟩ := a1.drop K ht hkey ty
  have keep : ∀ i, i < w.heap.size → i ≠ b → w'.heap[i]? = w.heap[i]? := fun i hi hne => ht.grown.block i hi (fun e => hne (by cases e; rfl))
  have up : ∀ {i y}, upd f kl none i = some y → i ≠ kl ∧ f i = some y := fun {i y} hi => by
    by_cases e : i = kl
    · subst e; rw [upd_same] at hi; cases hi
    · rw [upd_other f _ e] at hi; exact ⟨e, hi⟩
  refine ⟨w', hr, ⟨_, Fs, hm, a2, fun i hi => ?_, fun i y hi => ?_, fun i y hi q hq => ?_, fun i i' y y' hi hi' hne q hq hq' => ?_, fun i hi => ?_⟩, ht⟩
  · by_cases e : i = kl
    · subst e; exact upd_same _ _ _
    · rw [upd_other f _ e] at hi; rw [upd_other g _ e]; exact a3 i hi
  · obtain ⟨e, hi⟩ := up hi
    obtain ⟨u, hu, hru⟩ := a4 i y hi
    exact ⟨u, by rw [upd_other g _ e]; exact hu, hV.framed hru (fun q hq => keep q (a7 q (a5 i y hi q hq).1) (a5 i y hi q hq).2)⟩
  · obtain ⟨e, hi⟩ := up hi
    exact a5 i y hi q hq
  · exact a6 i i' y y' (up hi).2 (up hi').2 hne q hq hq'
  · exact Nat.lt_of_lt_of_le (a7 i hi) ht.grown.size
end

/-- A slice's blocks lie in F. -/
def InF (v : Value) (F : Foot) : Prop := ∀ g off n cap, v = .slice (some ⟨g, off, none⟩) n cap → 0 < n → F g
theorem InF.mono {v : Value} {F F' : Foot} (h : InF v F) (hF : ∀ i, F i → F' i) : InF v F' := fun g off n cap e hn => hF g (h g off n cap e hn)
theorem Rd.framed {w w' : World} {v : Value} {n size : Nat} {cs : List Value} {F : Foot} (h : Rd w v n size cs) (hv : InF v F) (hw : ∀ i, F i → w'.heap[i]? = w.heap[i]?) : Rd w' v n size cs := by
  obtain ⟨A, cap, rfl, hl, h1, h2, h3, hc⟩ := h
  refine ⟨A, cap, rfl, hl, h1, h2, h3, fun j u hu => ?_⟩
  obtain ⟨g, off, rfl, hcc⟩ := hc j u hu
  have hn : 0 < n := by
    rcases Nat.eq_zero_or_pos n with rfl | hn
    · rw [Nat.zero_mul] at hl
      have := List.eq_nil_of_length_eq_zero hl
      subst this
      simp at hu
    · exact hn
  exact ⟨g, off, rfl, (World.cell?_of_block (w := w) (hw g (hv g off n cap rfl hn))).trans hcc⟩
/-- A []byte and its blocks. -/
def BytesR (w : World) (v : Value) (xs : List UInt8) (F : Foot) : Prop := RdB w v xs ∧ InF v F ∧ ∀ i, F i → i < w.heap.size
theorem lower_of {w w' : World} {F : Foot} (hw : ∀ i, F i → w'.heap[i]? = w.heap[i]?) (h : ∀ i, F i → i < w.heap.size) : ∀ i, F i → i < w'.heap.size := fun i hi => by
  have := hw i hi
  rw [Array.getElem?_eq_getElem (h i hi)] at this
  exact (Array.getElem?_eq_some_iff.1 this).1
theorem bytesR : Reads BytesR := ⟨fun ⟨h1, h2, h3⟩ hw => ⟨Rd.framed h1 h2 hw, h2, lower_of hw h3⟩, fun ⟨_, _, h⟩ => h⟩
/-- A []string. -/
def RdS (w : World) (v : Value) (ks : List ByteArray) : Prop := Rd w v ks.length 1 (ks.map Value.string)
end Go.Proofs.Ytkbmecjpjphngaa
