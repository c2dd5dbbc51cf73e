/-
  The walks of the machine's methods that change its buckets: make.
-/
import Derived.Test.YtkbmecjpjphngaaBLaw
import Derived.BigRegion
set_option linter.unusedVariables false
set_option linter.unusedSimpArgs false
namespace Go.Proofs.Ytkbmecjpjphngaa
open Go.RowKit Go.Maps

/-- What a method does: its result lies in blocks of its own; the machine goes on. -/
structure DoneR (N : Nat) (w : World) (p : Value) (F : Foot) (r : ResC) (S' : StC) (e : Ending) (w' : World) : Prop where
  out : ∃ v, ∃ Fr F' : Foot, e = .returned v ∧ ResR w' v r Fr ∧ (∀ i, Fr i → w.heap.size ≤ i ∧ ¬ F' i) ∧ Mach (N + 1) w' p S' F' ∧ (∀ i, F' i → F i ∨ w.heap.size ≤ i) ∧ Frm F w w'
theorem stat_res (w : World) (n : Int) : ResR w (statV n) (stat n) (fun _ => False) :=
  ⟨_, _, rfl, Rd.nil' (by simp [maxLen]) (fun _ => rfl), (fun g off n cap e hn => by cases e), Rd.nil' (by simp [maxLen]) (fun _ => rfl), (fun g off n cap e hn => by cases e), (fun i h => h.elim)⟩
/-- A method that ends with a status alone. -/
theorem done_stat {N : Nat} {w w3 w4 w5 : World} {p : Value} {F F' : Foot} {S' : StC} {n : Int} (hM : Mach (N + 1) w3 p S' F') (hF : Frm F w w3) (hF' : ∀ i, F' i → F i ∨ w.heap.size + 2 ≤ i) (hl : ∀ i, F i → i < w.heap.size)
    (hb4 : Below w3.heap.size w3 w4) (hf5 : Frm (fun i => i = w.heap.size + 1) w4 w5) : DoneR N w p F (stat n) S' (.returned (statV n)) w5 := by
  have z4 := hb4.size
  refine ⟨_, fun _ => False, F', rfl, stat_res _ _, (fun i h => h.elim), ?_, fun i hi => ?_, ?_⟩
  · refine (hM.framed (w' := w4) (fun i hi => hb4.block i (hM.lower i hi))).framed (fun i hi => hf5.block i (by have := hM.lower i hi; omega) (fun e => ?_))
    rcases hF' i hi with h | h
    · have := hl i h; omega
    · omega
  · rcases hF' i hi with h | h
    · exact .inl h
    · exact .inr (by omega)
  · exact (hF.trans (Frm.of_below hb4 F) (fun i h => .inl h)).trans hf5 (fun i h => .inr (by omega))
theorem known_any {N : Nat} {w : World} {p v : Value} {S : StC} {F : Foot} {o : OpC} (h : Mach N w p S F) (ho : OpR w v o) :
    Calls Try.prog 63 #[p, v] w fun e w' => e = .returned (.bool (S.bs (sk o.bucket)).isSome) ∧ Below w.heap.size w w' := by
  obtain ⟨_, _, g, B, U, D, FB, FU, FD, rfl, hg, hB, hU, hD, _⟩ := h
  obtain ⟨pv, dv, rfl, _, _, _, _, _, _, _, hs, _⟩ := ho
  obtain ⟨gv, hm, h0, h1⟩ := hB.vals
  refine known_walk (v := (gv (sk o.bucket)).getD (.map none)) (mach_cells hg).1 (fun W hW => ?_) hm.lt ?_
  · exact (hm.same hW).look Ks Try.underlying70 (by kernel_rfl) (ks_of hs)
  · cases hc : S.bs (sk o.bucket) with
    | none => rw [h0 _ hc]; exact .inl ⟨rfl, rfl⟩
    | some c =>
      obtain ⟨v, hv, Fj, ⟨b, rfl, _⟩, _⟩ := h1 _ c hc
      rw [hv]
      exact .inr ⟨b, rfl, rfl⟩
/-- The two blocks that a method lays first. -/
theorem mach_two {N : Nat} {w : World} {p : Value} {S : StC} {F : Foot} (h : Mach N w p S F) (x y : Obj) : Mach N ((w.alloc x).alloc y) p S F :=
  h.framed fun i hi => by rw [alloc_same (by have := h.lower i hi; simp; omega), alloc_same (h.lower i hi)]
theorem cell_two {w : World} (x y : Obj) : ∀ a u, w.cell? a = some u → ((w.alloc x).alloc y).cell? a = some u :=
  cell_below (((Below.refl _ _).alloc (Nat.le_refl _) _).alloc (by simp) _)
theorem mach_b0 {N : Nat} {w w1 : World} {p : Value} {S : StC} {F : Foot} {x y : Obj} (h : Mach N w p S F) (hb : Below ((w.alloc x).alloc y).heap.size ((w.alloc x).alloc y) w1) : Mach N w1 p S F :=
  (mach_two h x y).framed fun i hi => hb.block i ((mach_two h x y).lower i hi)
theorem old_b {w w1 : World} {x y : Obj} (hb : Below ((w.alloc x).alloc y).heap.size ((w.alloc x).alloc y) w1) {g : Nat} {o : Obj} (hg : w.heap[g]? = some o) : w1.heap[g]? = some o := by
  have hl := block_lt hg
  rw [hb.block g (by simp; omega), alloc_same (by simp; omega), alloc_same hl, hg]
theorem mach_b {N : Nat} {w w1 : World} {p : Value} {S : StC} {F : Foot} {x y : Obj} (h : Mach N w p S F) (hb : Below ((w.alloc x).alloc y).heap.size ((w.alloc x).alloc y) w1) : Mach (N + 1) w1 p S F :=
  ((mach_two h x y).framed fun i hi => hb.block i ((mach_two h x y).lower i hi)).mono (Nat.le_succ N)
theorem frm_b {w w1 : World} {x y : Obj} (hb : Below ((w.alloc x).alloc y).heap.size ((w.alloc x).alloc y) w1) (F : Foot) : Frm F w w1 :=
  Frm.of_below ((((Below.refl _ _).alloc (Nat.le_refl _) _).alloc (by simp) _).trans (hb.mono (by simp; omega))) F
theorem MachAt.two {N : Nat} {w w1 : World} {g B U D : Nat} {S : StC} {FB FU FD F : Foot} {x y : Obj} (h : MachAt N w g B U D S FB FU FD F) (hb : Below ((w.alloc x).alloc y).heap.size ((w.alloc x).alloc y) w1) : MachAt N w1 g B U D S FB FU FD F :=
  h.framed fun i hi => by
    have := h.lower i hi
    rw [hb.block i (by simp; omega), alloc_same (by simp; omega), alloc_same this]
/-- The result's cells, still as they were laid. -/
theorem zres_keep {w w1 w3 w4 : World} {x : Obj} {F : Foot} (hl : ∀ i, F i → i < w.heap.size) (hb : Below ((w.alloc x).alloc zres).heap.size ((w.alloc x).alloc zres) w1) (hf : Frm F w1 w3) (hb4 : Below w3.heap.size w3 w4) : w4.heap[w.heap.size + 1]? = some zres := by
  have z1 := hb.size
  have z3 := hf.size
  simp at z1
  rw [hb4.block _ (by omega), hf.block _ (by omega) (fun e => by have := hl _ e; omega), hb.block _ (by simp), (two_new w x zres).2]
/-- A method that changed the machine and ends with a status. -/
theorem done_two {N : Nat} {w w1 w3 w4 w5 : World} {x : Obj} {p : Value} {F F' : Foot} {S' : StC} {n : Int} (hl : ∀ i, F i → i < w.heap.size) (hb : Below ((w.alloc x).alloc zres).heap.size ((w.alloc x).alloc zres) w1) (hM : Mach (N + 1) w3 p S' F') (hF' : ∀ i, F' i → F i ∨ w1.heap.size ≤ i) (hf : Frm F w1 w3)
    (hb4 : Below w3.heap.size w3 w4) (hf5 : Frm (fun i => i = w.heap.size + 1) w4 w5) : DoneR N w p F (stat n) S' (.returned (statV n)) w5 := by
  have z1 := hb.size
  simp at z1
  exact done_stat hM ((frm_b hb F).trans hf (fun i e => .inl e)) (fun i hi => by rcases hF' i hi with e | e; exact .inl e; exact .inr (by omega)) hl hb4 hf5

set_option maxRecDepth 100000 in
set_option maxHeartbeats 2000000 in
theorem make_old {N : Nat} {w : World} {p v : Value} {S : StC} {F : Foot} {o : OpC} (h : Mach N w p S F) (ho : OpR w v o) {c : Bk} (hc : S.bs (sk o.bucket) = some c) :
    Calls Try.prog 46 #[p, v] w (DoneR N w p F (stat 409) S) := by
  have hk := known_any (mach_two h (.cells v.cells 26) zres) (ho.cells (cell_two (.cells v.cells 26) zres))
  rw [hc] at hk
  have HK := Lib.hid hk; clear hk
  have HM := Lib.hid h
  obtain ⟨_, hlow, g, B, U, D, FB, FU, FD, rfl, _⟩ := h
  obtain ⟨pv, dv, rfl, _⟩ := ho
  have HL := Lib.hid hlow; clear hlow hc
  go_enter Try.func46, Try.ntmps46
  go_wp2_with fail
  refine HK.out.mono ?_
  rintro e w1 ⟨rfl, hb1⟩
  have HB1 := Lib.hid hb1; clear hb1
  go_wp2_with fail
  refine (status_any _ _).mono ?_
  rintro e w2 ⟨rfl, hb2⟩
  have HB2 := Lib.hid hb2; clear hb2
  have HE := Lib.hid ((HB2.out.block _ (by have := HB1.out.size; simp at this; omega)).trans ((HB1.out.block (w.heap.size + 1) (by simp)).trans (two_new _ _ _).2))
  obtain ⟨n0, n1, n2, n3, n4, nf⟩ := cells5 HE.out
  go_wp2
  clear n0 n1 n2 n3 n4 nf
  refine post_set5 HE.out ?_
  intro w4 hf4 he6
  obtain ⟨p0, p1, p2, p3, p4, pf⟩ := cells5 he6
  exact bodyPost_ret (v := statV 409) (by simp [results, Try.results46, go_sem, p0, p1, p2, p3, p4]) rfl
    (done_stat (mach_b HM.out HB1.out) (frm_b HB1.out F) (fun i hi => .inl hi) HL.out HB2.out hf4)

set_option maxRecDepth 100000 in
set_option maxHeartbeats 2000000 in
theorem make_new {N : Nat} {w : World} {p v : Value} {S : StC} {F : Foot} {o : OpC} (h : Mach N w p S F) (ho : OpR w v o) (hc : S.bs (sk o.bucket) = none) (hN : N < maxLen) :
    Calls Try.prog 46 #[p, v] w (DoneR N w p F (stat 200) { S with bs := upd S.bs (sk o.bucket) (some (fun _ => none)) }) := by
  have hk := known_any (mach_two h (.cells v.cells 26) zres) (ho.cells (cell_two (.cells v.cells 26) zres))
  rw [hc] at hk
  have HK := Lib.hid hk; clear hk
  have HC := Lib.hid hc; clear hc
  obtain ⟨g, B, U, D, FB, FU, FD, rfl, hm⟩ := h.at_
  have HM := Lib.hid hm; clear hm h
  obtain ⟨pv, dv, rfl, _, _, _, _, _, _, _, hs, _⟩ := ho
  have hgl := block_lt HM.out.cells
  have hmm := @run_makeMap Try.prog
  go_enter Try.func46, Try.ntmps46
  go_wp2_with fail
  refine HK.out.mono ?_
  rintro e w1 ⟨rfl, hb1⟩
  have HB1 := Lib.hid hb1; clear hb1
  have HM1 := Lib.hid (HM.out.two HB1.out)
  obtain ⟨o0, o1, o2, o3, o4, o5, o6, o7, o8, of⟩ := cells9 ((HB1.out.block w.heap.size (by simp; omega)).trans (two_new _ _ _).1)
  clear o0 o1 o3 o4 o5 o6 o7 o8 of
  obtain ⟨g1, g2, g3⟩ := mach_cells HM1.out.cells
  clear g2 g3
  have hz1 : w.heap.size + 2 ≤ w1.heap.size := by have := HB1.out.size; simp at this; omega
  have hz2 : w.heap.size < w1.heap.size := by omega
  have hz3 : g < w1.heap.size := by omega
  obtain ⟨w3, hru, F3, hM3, hF3, hf3⟩ := HM1.out.make hs hN
  have HM3 := Lib.hid hM3; clear hM3
  have HF3 := Lib.hid hf3; clear hf3
  go_wp2
  go_region
  go_wp2_with fail
  refine (status_any _ _).mono ?_
  rintro e w4 ⟨rfl, hb4⟩
  have HB4 := Lib.hid hb4; clear hb4
  have HE := Lib.hid (zres_keep HM.out.lower HB1.out HF3.out HB4.out)
  obtain ⟨n0, n1, n2, n3, n4, nf⟩ := cells5 HE.out
  go_wp2
  clear n0 n1 n2 n3 n4 nf
  refine post_set5 HE.out ?_
  intro w5 hf5 he6
  obtain ⟨p0, p1, p2, p3, p4, pf⟩ := cells5 he6
  exact bodyPost_ret (v := statV 200) (by simp [results, Try.results46, go_sem, p0, p1, p2, p3, p4]) rfl (done_two HM.out.lower HB1.out HM3.out hF3 HF3.out HB4.out hf5)
end Go.Proofs.Ytkbmecjpjphngaa
