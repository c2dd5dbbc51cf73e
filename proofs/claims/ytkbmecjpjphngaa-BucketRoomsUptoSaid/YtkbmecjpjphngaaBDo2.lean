/-
  Do, where the op is done.
-/
import Derived.Test.YtkbmecjpjphngaaBDo
import Derived.Deep.DeepCutAuto
set_option linter.unusedVariables false
set_option linter.unusedSimpArgs false
namespace Go.Proofs.Ytkbmecjpjphngaa
open Go.RowKit Go.Maps
attribute [local go_sem ↓] Go.wp_at_zero Go.wp_at_succ

theorem gen_set5 {R : Exit → Act → World → Prop} {e : Exit} {a : Act} {w : World} {g : Nat} {c0 c1 c2 c3 c4 d0 d1 d2 d3 d4 : Value} {T : TypeId} (hb : w.heap[g]? = some (.cells #[d0, d1, d2, d3, d4] T))
    (h : ∀ w4, Frm (fun i => i = g) w w4 → w4.heap[g]? = some (.cells #[c0, c1, c2, c3, c4] T) → R e a w4) :
    R e a (((((w.setCell ⟨g, 0, none⟩ c0).setCell ⟨g, 1, none⟩ c1).setCell ⟨g, 2, none⟩ c2).setCell ⟨g, 3, none⟩ c3).setCell ⟨g, 4, none⟩ c4) := by
  refine h _ ?_ ?_
  · exact Frm.setCell (Frm.setCell (Frm.setCell (Frm.setCell (Frm.setCell (Frm.refl (fun i => i = g) w) (p := ⟨g, 0, none⟩) (.inl rfl) _) (p := ⟨g, 1, none⟩) (.inl rfl) _) (p := ⟨g, 2, none⟩) (.inl rfl) _) (p := ⟨g, 3, none⟩) (.inl rfl) _) (p := ⟨g, 4, none⟩) (.inl rfl) _
  · simp [World.setCell, Array.getElem?_modify, hb]
theorem gen_new {R : Exit → Act → World → Prop} {e : Exit} {a : Act} {w : World} {g : Nat} {o : Obj} (hg : g = w.heap.size) (h : ∀ w4, Frm (fun i => i = g) w w4 → w4.heap[g]? = some o → R e a w4) : R e a (w.alloc o) :=
  h _ ((Frm.refl _ w).alloc o) (by rw [hg]; exact heap_alloc_new w o)

theorem cell_set5 {w : World} {g q j : Nat} {c0 c1 c2 c3 c4 u : Value} (hne : g ≠ q) (h : w.cell? ⟨q, j, none⟩ = some u) :
    (((((w.setCell ⟨g, 0, none⟩ c0).setCell ⟨g, 1, none⟩ c1).setCell ⟨g, 2, none⟩ c2).setCell ⟨g, 3, none⟩ c3).setCell ⟨g, 4, none⟩ c4).cell? ⟨q, j, none⟩ = some u := by
  have hf : Frm (fun i => i = g) w (((((w.setCell ⟨g, 0, none⟩ c0).setCell ⟨g, 1, none⟩ c1).setCell ⟨g, 2, none⟩ c2).setCell ⟨g, 3, none⟩ c3).setCell ⟨g, 4, none⟩ c4) :=
    Frm.setCell (Frm.setCell (Frm.setCell (Frm.setCell (Frm.setCell (Frm.refl (fun i => i = g) w) (p := ⟨g, 0, none⟩) (.inl rfl) _) (p := ⟨g, 1, none⟩) (.inl rfl) _) (p := ⟨g, 2, none⟩) (.inl rfl) _) (p := ⟨g, 3, none⟩) (.inl rfl) _) (p := ⟨g, 4, none⟩) (.inl rfl) _
  rw [hf.cell (p := ⟨q, j, none⟩) (World.block_lt_of_cell? _ _ h) (fun e => hne e.symm)]
  exact h
theorem cell_new {w : World} {q j : Nat} {o : Obj} {u : Value} (h : w.cell? ⟨q, j, none⟩ = some u) : (w.alloc o).cell? ⟨q, j, none⟩ = some u := cell_below ((Below.refl _ _).alloc (Nat.le_refl _) _) _ _ h
theorem set5_frm (w : World) (g : Nat) (c0 c1 c2 c3 c4 : Value) : Frm (fun i => i = g) w (((((w.setCell ⟨g, 0, none⟩ c0).setCell ⟨g, 1, none⟩ c1).setCell ⟨g, 2, none⟩ c2).setCell ⟨g, 3, none⟩ c3).setCell ⟨g, 4, none⟩ c4) :=
  Frm.setCell (Frm.setCell (Frm.setCell (Frm.setCell (Frm.setCell (Frm.refl (fun i => i = g) w) (p := ⟨g, 0, none⟩) (.inl rfl) _) (p := ⟨g, 1, none⟩) (.inl rfl) _) (p := ⟨g, 2, none⟩) (.inl rfl) _) (p := ⟨g, 3, none⟩) (.inl rfl) _) (p := ⟨g, 4, none⟩) (.inl rfl) _
theorem set5_heap {w : World} {g : Nat} {c0 c1 c2 c3 c4 d0 d1 d2 d3 d4 : Value} {T : TypeId} (hb : w.heap[g]? = some (.cells #[d0, d1, d2, d3, d4] T)) :
    (((((w.setCell ⟨g, 0, none⟩ c0).setCell ⟨g, 1, none⟩ c1).setCell ⟨g, 2, none⟩ c2).setCell ⟨g, 3, none⟩ c3).setCell ⟨g, 4, none⟩ c4).heap[g]? = some (.cells #[c0, c1, c2, c3, c4] T) := by
  simp [World.setCell, Array.getElem?_modify, hb]
/-- What the table gives: the look-up, the machine and the op as they were. -/
theorem tab_mid {N : Nat} {W wt : World} {p v : Value} {b n q : Nat} {S : StC} {F : Foot} {o : OpC} {f : Nat} {ob : Obj} (ht : Tab W wt b n (tableF p)) (hM : Mach N W p S F) (ho : OpR W v o) (hwk : (Lit.int .i64 o.kind).wf = true) (hf : tableF p (ik o.kind) = some (.func (.func f) #[p] #[])) (hq : W.heap[q]? = some ob) {q2 : Nat} {ob2 : Obj} (hq2 : W.heap[q2]? = some ob2) :
    (Instr.lookup 78 (.map (some b)) (.int .i64 o.kind) false).run Try.prog wt = .ok (.func (.func f) #[p] #[]) wt ∧
    (Instr.lookup 78 (.map (some b)) (.int .i64 o.kind) false).run Try.prog (wt.alloc zres) = .ok (.func (.func f) #[p] #[]) (wt.alloc zres) ∧
    Hid (Mach N wt p S F ∧ OpR wt v o) ∧ Hid (Frm (fun _ => False) W wt) ∧ wt.heap[q]? = some ob ∧ W.heap.size ≤ wt.heap.size ∧ Hid (wt.heap[q2]? = some ob2) := by
  have hl : ∀ Z : World, Z.heap[b]? = wt.heap[b]? → (Instr.lookup 78 (.map (some b)) (.int .i64 o.kind) false).run Try.prog Z = .ok (.func (.func f) #[p] #[]) Z := fun Z hZ => by
    rw [(ht.map.same hZ).look Ki Try.underlying78 (z := .nilFunc) (by kernel_rfl) (ki_of hwk), hf]
    rfl
  have hb : Below W.heap.size W wt := ht.frm.below (Nat.le_refl _) (fun i e => by have := ht.new; subst e; exact this)
  have hlb := ht.map.lt
  exact ⟨hl _ rfl, hl _ (alloc_same hlb), ⟨hM.framed (fun i hi => hb.block i (hM.lower i hi)), ho.cells (cell_below hb)⟩, ⟨hb.os, hb.tape, hb.output, hb.size, fun i hi _ => hb.block i hi⟩, (hb.block q (block_lt hq)).trans hq, hb.size, (hb.block q2 (block_lt hq2)).trans hq2⟩
/-- Behind the call: the result lies in a variable of Do's own. -/
structure Mid (N : Nat) (w : World) (p : Value) (F : Foot) (r : ResC) (S1 : StC) (bx : Obj) (v3 : Value) (w4 : World) (b7 : Nat) : Prop where
  mach : ∃ F3 Fr : Foot, Mach (N + 1) w4 p S1 F3 ∧ ResR w4 v3 r Fr ∧ (∀ i, F3 i → (F i ∨ w.heap.size + 2 ≤ i) ∧ i ≠ b7) ∧ (∀ i, Fr i → ¬ F3 i ∧ w.heap.size + 2 ≤ i)
  box : w4.heap[w.heap.size]? = some bx
  zr : w4.heap[w.heap.size + 1]? = some zres
  frm : Frm F w w4
  b7 : w.heap.size + 2 ≤ b7
theorem mid_of {N : Nat} {w w3 w4 : World} {p v3 : Value} {F F3 Fr : Foot} {r : ResC} {S1 : StC} {bx : Obj} {b7 z : Nat} (hM : Mach (N + 1) w3 p S1 F3) (hr : ResR w3 v3 r Fr) (hF3 : ∀ i, F3 i → F i ∨ z ≤ i) (hFr : ∀ i, Fr i → z ≤ i ∧ ¬ F3 i) (hz : w.heap.size + 2 ≤ z)
    (hb : w3.heap[w.heap.size]? = some bx) (hz3 : w3.heap[w.heap.size + 1]? = some zres) (hf : Frm F w w3) (hl : ∀ i, F i → i < w.heap.size) (hf4 : Frm (fun i => i = b7) w3 w4) (h7 : w.heap.size + 2 ≤ b7) (h7' : b7 < z ∨ w3.heap.size ≤ b7) : Mid N w p F r S1 bx v3 w4 b7 := by
  have hn3 : ∀ i, F3 i → i ≠ b7 := fun i hi e => by
    have := hM.lower i hi
    rcases hF3 i hi with e' | e'
    · have := hl i e'; omega
    · omega
  have hnr : ∀ i, Fr i → i ≠ b7 := fun i hi e => by
    have := resR.lower hr i hi
    have := (hFr i hi).1
    omega
  refine ⟨⟨F3, Fr, hM.framed (fun i hi => hf4.block i (hM.lower i hi) (hn3 i hi)), resR.framed hr (fun i hi => hf4.block i (resR.lower hr i hi) (hnr i hi)), fun i hi => ⟨?_, hn3 i hi⟩, fun i hi => ⟨(hFr i hi).2, ?_⟩⟩, ?_, ?_, hf.trans hf4 (fun i e => .inr (by subst e; omega)), h7⟩
  · rcases hF3 i hi with e | e
    · exact .inl e
    · exact .inr (by omega)
  · have := (hFr i hi).1; omega
  · rw [hf4.block _ (block_lt hb) (fun e => by omega)]; exact hb
  · rw [hf4.block _ (block_lt hz3) (fun e => by omega)]; exact hz3
/-- The end: the result was kept. -/
theorem done_keep {N : Nat} {w w4 w6 w7 : World} {p v : Value} {F F3 Fr F5 F6 : Foot} {r : ResC} {S' : StC} (hM : Mach (N + 1 + 1) w6 p S' F6) (hF6 : ∀ i, F6 i → F3 i ∨ F5 i) (hF5 : ∀ i, F5 i → w4.heap.size ≤ i) (hf6 : Frm F3 w4 w6) (hr : ResR w4 v r Fr) (hF3 : ∀ i, F3 i → F i ∨ w.heap.size + 2 ≤ i) (hFr : ∀ i, Fr i → ¬ F3 i ∧ w.heap.size + 2 ≤ i)
    (hf : Frm F w w4) (hl : ∀ i, F i → i < w.heap.size) (hz : w.heap.size + 2 ≤ w4.heap.size) (hf7 : Frm (fun i => i = w.heap.size + 1) w6 w7) : DoneR (N + 1) w p F r S' (.returned v) w7 := by
  have z6 := hf6.size
  have hF6' : ∀ i, F6 i → F i ∨ w.heap.size + 2 ≤ i := fun i hi => by
    rcases hF6 i hi with e | e
    · exact hF3 i e
    · exact .inr (by have := hF5 i e; omega)
  have hr6 : ResR w6 v r Fr := resR.framed hr (fun i hi => hf6.block i (resR.lower hr i hi) (hFr i hi).1)
  refine ⟨v, Fr, F6, rfl, resR.framed hr6 (fun i hi => hf7.block i (resR.lower hr6 i hi) (fun e => by have := (hFr i hi).2; omega)), fun i hi => ⟨by have := (hFr i hi).2; omega, fun e => ?_⟩, ?_, fun i hi => ?_, ?_⟩
  · rcases hF6 i e with e' | e'
    · exact (hFr i hi).1 e'
    · have := hF5 i e'; have := resR.lower hr i hi; omega
  · refine hM.framed (fun i hi => hf7.block i (hM.lower i hi) (fun e => ?_))
    rcases hF6' i hi with h | h
    · have := hl i h; omega
    · omega
  · rcases hF6' i hi with h | h
    · exact .inl h
    · exact .inr (by omega)
  · refine (hf.trans hf6 (fun i e => ?_)).trans hf7 (fun i e => .inr (by omega))
    rcases hF3 i e with h | h
    · exact .inl h
    · exact .inr (by omega)
set_option maxRecDepth 100000 in
set_option maxHeartbeats 8000000 in
theorem do_fresh {N : Nat} {w : World} {p v : Value} {S S1 : StC} {F : Foot} {o : OpC} {r : ResC} {f : Nat} (h : Mach N w p S F) (ho : OpR w v o) (hc : chkB o = true) (hr : S.ds (uk o.id) = none) (hrd : rdB o.kind = false) (hf : tableF p (ik o.kind) = some (.func (.func f) #[p] #[]))
    (hm : ∀ W, Mach N W p S F → OpR W v o → Calls Try.prog f #[p, v] W (DoneR N W p F r S1)) (hcf : ∀ args W, (callFunc f args).run Try.prog W = .ok (.enter f args) W) (hk0 : r.keys = []) (hd0 : r.data = []) (hN : N + 1 < maxLen) :
    Calls Try.prog 14 #[p, v] w (DoneR (N + 1) w p F r { S1 with ds := upd S1.ds (uk o.id) (some r) }) := by
  have hk := check_any _ _ _ (ho.cells (cell_two (.cells v.cells 26) zres))
  rw [hc] at hk
  have HK := Lib.hid hk; clear hk hc
  have HM0 := Lib.hid h
  have HOP := Lib.hid ho
  have HF := Lib.hid hf; clear hf
  have HMT := Lib.hid hm; clear hm
  obtain ⟨g, B, U, D, FB, FU, FD, rfl, hm⟩ := h.at_
  have HM := Lib.hid hm; clear hm h
  obtain ⟨pv, dv, rfl, hpv, hdv, hwi, hwk, hwn, hwu, hwp, hs, hks, has⟩ := ho
  clear hpv hdv hwp
  have hgl := block_lt HM.out.cells
  have HRD := Lib.hid hrd; clear hrd
  have HRR := Lib.hid hr; clear hr
  have HKD := Lib.hid (And.intro hk0 hd0); clear hk0 hd0
  go_enter Try.func14, Try.ntmps14
  go_wp2_with fail
  refine HK.out.mono ?_
  rintro e w1 ⟨rfl, hb1⟩
  have HB1 := Lib.hid hb1; clear hb1
  have HM1 := Lib.hid (HM.out.two HB1.out)
  have HO1 := Lib.hid ((HB1.out.block w.heap.size (by simp; omega)).trans (two_new _ _ _).1)
  have HOP1 := Lib.hid ((HOP.out.cells (cell_two (.cells #[.int .u64 o.id, .int .i64 o.kind, .string o.bucket, .string o.key, .string o.after, .int .i64 o.n, .int .u64 o.up, pv, dv] 26) zres)).cells (cell_below HB1.out))
  have hz1 : w.heap.size + 2 ≤ w1.heap.size := by have := HB1.out.size; simp at this; omega
  have hz2 : w.heap.size < w1.heap.size := by omega
  have hz3 : g < w1.heap.size := by omega
  obtain ⟨o0, o1, o2, o3, o4, o5, o6, o7, o8, of⟩ := cells9 HO1.out
  clear o1 o2 o3 o4 o5 o6 o7 o8 of
  obtain ⟨g1, g2, g3⟩ := mach_cells HM1.out.cells
  clear g1 g2
  obtain ⟨vr, hl, rr, Fr, hres, hFr, _, hrr⟩ := HM1.out.kept hwi
  obtain rfl := hrr HRR.out
  obtain ⟨kv, dv2, rfl, hks2, _, hds2, _⟩ := hres
  rw [HRR.out] at hl
  have hl1 := hl w1.drew rfl
  have hl2 := hl (w1.alloc zres).drew (alloc_same (HM1.out.md.lower D HM1.out.md.own))
  clear hl hFr hrr
  obtain ⟨A1, q1, rfl, _, _, _⟩ := Rd.form hks2
  obtain ⟨A2, q2, rfl, _, _, _⟩ := Rd.form hds2
  clear hks2 hds2
  simp only [errN]
  go_upto_region 3 with (fail)
  go_cut [5, 6] (fun s5 s6 wx => ∃ q : Nat, s5 = .pointer (some ⟨q, 0, none⟩) ∧ s6 = .bool false ∧ Below w1.heap.size w1 wx ∧ w1.heap.size < wx.heap.size)
  case first =>
    go_region
    all_goals (go_wp2_with fail; go_meet; exact ⟨w1.heap.size, rfl, rfl, ((Below.refl _ _).alloc (Nat.le_refl _) _).drew, by show _ < (w1.alloc _).heap.size; simp⟩)
  case rest =>
    obtain ⟨q5, rfl, rfl, hb2, hz4⟩ := hcut
    obtain ⟨w2, rfl⟩ : ∃ w2, w2 = wc := ⟨_, rfl⟩
    have HB2 := Lib.hid hb2
    clear hl1 hl2 o0 g3 hb2
    have HP2 := Lib.hid ((HB2.out.block w.heap.size hz2).trans HO1.out)
    have HM2 := Lib.hid ((HM1.out.framed (w' := w2) (fun i hi => HB2.out.block i (HM1.out.lower i hi))).mach)
    have HOP2 := Lib.hid (HOP1.out.cells (cell_below HB2.out))
    have HZ2 := Lib.hid ((HB2.out.block (w.heap.size + 1) (by omega)).trans ((HB1.out.block (w.heap.size + 1) (by simp)).trans (two_new _ _ _).2))
    have hz5 : w.heap.size < w2.heap.size := by omega
    obtain ⟨o0, o1, o2, o3, o4, o5, o6, o7, o8, of⟩ := cells9 HP2.out
    have HZ7 : ∀ {m : Nat}, (w2.alloc zres).drew.heap.size ≤ m → w2.heap.size + 1 ≤ m := fun {m} h => by have h' : (w2.alloc zres).heap.size ≤ m := h; simp at h'; exact h'
    have FR2 := Lib.hid ((frm_b HB1.out F).trans (F1 := fun _ => False) (Frm.of_below HB2.out _) (fun i e => e.elim))
    go_upto_region 6 with (fail)
    go_cut [7] (fun s7 wx => ∃ (b7 : Nat) (A3 A4 : Option Addr) (q3 q4 : Nat), s7 = .pointer (some ⟨b7, 0, none⟩) ∧ wx.heap[b7]? = some (.cells #[.int .i64 r.st, .int .u64 r.up, .slice A3 r.keys.length q3, .bool r.more, .slice A4 r.data.length q4] 41) ∧
      Mid N w (.pointer (some ⟨g, 0, none⟩)) F r S1 (.cells #[.int .u64 o.id, .int .i64 o.kind, .string o.bucket, .string o.key, .string o.after, .int .i64 o.n, .int .u64 o.up, pv, dv] 26) (.agg #[.int .i64 r.st, .int .u64 r.up, .slice A3 r.keys.length q3, .bool r.more, .slice A4 r.data.length q4]) wx b7)
    case first =>
      go_region_held3 (fun w' => w'.cell? ⟨w.heap.size, 0, none⟩ = some (.int .u64 o.id) ∧ w'.cell? ⟨w.heap.size, 1, none⟩ = some (.int .i64 o.kind) ∧ w'.cell? ⟨w.heap.size, 2, none⟩ = some (.string o.bucket) ∧ w'.cell? ⟨w.heap.size, 3, none⟩ = some (.string o.key) ∧ w'.cell? ⟨w.heap.size, 4, none⟩ = some (.string o.after) ∧ w'.cell? ⟨w.heap.size, 5, none⟩ = some (.int .i64 o.n) ∧ w'.cell? ⟨w.heap.size, 6, none⟩ = some (.int .u64 o.up) ∧ w'.cell? ⟨w.heap.size, 7, none⟩ = some pv ∧ w'.cell? ⟨w.heap.size, 8, none⟩ = some dv) (first | with_reducible exact ⟨o0, o1, o2, o3, o4, o5, o6, o7, o8⟩ | with_reducible exact ⟨t0, t1, t2, t3, t4, t5, t6, t7, t8⟩ | with_reducible exact ⟨s0, s1, s2, s3, s4, s5, s6, s7, s8⟩ | with_reducible exact ⟨cell_new s0, cell_new s1, cell_new s2, cell_new s3, cell_new s4, cell_new s5, cell_new s6, cell_new s7, cell_new s8⟩ | with_reducible exact ⟨cell_new t0, cell_new t1, cell_new t2, cell_new t3, cell_new t4, cell_new t5, cell_new t6, cell_new t7, cell_new t8⟩ | with_reducible exact ⟨cell_new o0, cell_new o1, cell_new o2, cell_new o3, cell_new o4, cell_new o5, cell_new o6, cell_new o7, cell_new o8⟩ | with_reducible exact ⟨cell_set5 (by omega) s0, cell_set5 (by omega) s1, cell_set5 (by omega) s2, cell_set5 (by omega) s3, cell_set5 (by omega) s4, cell_set5 (by omega) s5, cell_set5 (by omega) s6, cell_set5 (by omega) s7, cell_set5 (by omega) s8⟩ | go_keep)
      (first
        | (go_at_call 30; refine (table_any _ _).mono ?_; rintro e wt ⟨b, n, rfl, htab⟩; obtain ⟨hlt1, hlt2, HMt, HFt, hqt, hzt, HZt⟩ := tab_mid (W := w2.drew) htab (HM2.out.framed (w' := w2.drew) (fun i hi => rfl)) (HOP2.out.cells (fun a u h => h)) hwk HF.out HP2.out HZ2.out; have HQT := Lib.hid hqt; have HW0 := Lib.hid (FR2.out.drew.trans HFt.out (fun i e => e.elim)); have hzw : w2.heap.size ≤ wt.heap.size := hzt; obtain ⟨t0, t1, t2, t3, t4, t5, t6, t7, t8, tf⟩ := cells9 HQT.out; clear htab hqt tf hzt)
        | (go_at_call 30; refine (table_any _ _).mono ?_; rintro e wt ⟨b, n, rfl, htab⟩; obtain ⟨hlt1, hlt2, HMt, HFt, hqt, hzt, HZt⟩ := tab_mid (W := (w2.alloc zres).drew) htab (HM2.out.framed (w' := (w2.alloc zres).drew) (fun i hi => alloc_same (HM2.out.lower i hi))) (HOP2.out.cells (cell_below ((Below.refl _ _).alloc (Nat.le_refl _) zres).drew)) hwk HF.out ((alloc_same hz5).trans HP2.out) ((alloc_same (block_lt HZ2.out)).trans HZ2.out); have hz77 : w2.heap.size < wt.heap.size := HZ7 hzt; have HB7t := Lib.hid ((HFt.out.block w2.heap.size (by show w2.heap.size < (w2.alloc zres).heap.size; simp) (fun e => e)).trans (heap_alloc_new w2 zres)); have HQT := Lib.hid hqt; have HW0 := Lib.hid ((FR2.out.alloc zres).drew.trans HFt.out (fun i e => e.elim)); have hzw : w2.heap.size ≤ wt.heap.size := Nat.le_of_succ_le (HZ7 hzt); obtain ⟨t0, t1, t2, t3, t4, t5, t6, t7, t8, tf⟩ := cells9 HQT.out; clear htab hqt tf)
        | (refine (HMT.out _ HMt.out.1 HMt.out.2).mono ?_; rintro e w3 ⟨⟨v3, Fr, F3, rfl, hr3, hFr3, hM3, hF3, hf3⟩⟩; have HR3 := Lib.hid hr3; obtain ⟨kv3, dv3, rfl, k1, _, k3, _, _⟩ := hr3; obtain ⟨A3, q3, rfl, _, _, _⟩ := Rd.form k1; obtain ⟨A4, q4, rfl, _, _, _⟩ := Rd.form k3; have HFM3 := Lib.hid hf3; have HL3 := Lib.hid (And.intro hFr3 (And.intro hM3 hF3)); have HQ3 := Lib.hid ((hf3.block w.heap.size (by omega) (fun e => by have := HM.out.lower _ e; omega)).trans HQT.out); have HZ3 := Lib.hid ((hf3.block (w.heap.size + 1) (by omega) (fun e => by have := HM.out.lower _ e; omega)).trans HZt.out); have HW3 : Hid (Frm F wt w3) := hf3; have HZS : Hid (w.heap.size + 2 ≤ wt.heap.size) := (by show _ ≤ _; omega); (first | (have HB7 := Lib.hid ((hf3.block w2.heap.size (by omega) (fun e => by have := HM.out.lower _ e; omega)).trans HB7t.out); obtain ⟨m0, m1, m2, m3, m4, mf⟩ := cells5 HB7.out) | skip); clear k1 k3 hf3 hFr3 hM3 hF3 hlt1 hlt2 o0 o1 o2 o3 o4 o5 o6 o7 o8 t0 t1 t2 t3 t4 t5 t6 t7 t8; obtain ⟨s0, s1, s2, s3, s4, s5, s6, s7, s8, sf⟩ := cells9 HQ3.out; clear sf)
        | (refine (HMT.out _ (HMt.out.1.framed (w' := wt.alloc zres) (fun i hi => alloc_same (HMt.out.1.lower i hi))) (HMt.out.2.cells (cell_below ((Below.refl _ _).alloc (Nat.le_refl _) zres)))).mono ?_; rintro e w3 ⟨⟨v3, Fr, F3, rfl, hr3, hFr3, hM3, hF3, hf3⟩⟩; have HR3 := Lib.hid hr3; obtain ⟨kv3, dv3, rfl, k1, _, k3, _, _⟩ := hr3; obtain ⟨A3, q3, rfl, _, _, _⟩ := Rd.form k1; obtain ⟨A4, q4, rfl, _, _, _⟩ := Rd.form k3; have HFM3 := Lib.hid hf3; have HL3 := Lib.hid (And.intro hFr3 (And.intro hM3 hF3)); have HQ3 := Lib.hid ((hf3.block w.heap.size (by simp; omega) (fun e => by have := HM.out.lower _ e; omega)).trans ((alloc_same (by omega)).trans HQT.out)); have HZ3 := Lib.hid ((hf3.block (w.heap.size + 1) (by simp; omega) (fun e => by have := HM.out.lower _ e; omega)).trans ((alloc_same (by omega)).trans HZt.out)); have HW3 : Hid (Frm F wt w3) := (((Frm.refl F wt).alloc zres).trans hf3 (fun i e => .inl e)); have HZS : Hid (w.heap.size + 2 ≤ (wt.alloc zres).heap.size) := (by show _ ≤ _; simp; omega); have HB7 := Lib.hid ((hf3.block wt.heap.size (by simp) (fun e => by have := HM.out.lower _ e; omega)).trans (heap_alloc_new wt zres)); obtain ⟨m0, m1, m2, m3, m4, mf⟩ := cells5 HB7.out; clear k1 k3 hf3 hFr3 hM3 hF3 hlt1 hlt2 o0 o1 o2 o3 o4 o5 o6 o7 o8 t0 t1 t2 t3 t4 t5 t6 t7 t8; obtain ⟨s0, s1, s2, s3, s4, s5, s6, s7, s8, sf⟩ := cells9 HQ3.out; clear sf)
        | fail)
      all_goals
        clear s0 s1 s2 s3 s4 s5 s6 s7 s8
        go_wp2_with fail
        go_meet
        first
          | (refine ⟨w3.heap.size, A3, A4, q3, q4, by with_reducible rfl, ?_, ?_⟩
             · exact heap_alloc_new _ _
             · exact mid_of HL3.out.2.1 HR3.out HL3.out.2.2 HL3.out.1 HZS.out HQ3.out HZ3.out (HW0.out.trans HW3.out (fun i e => .inl e)) HM.out.lower ((Frm.refl _ w3).alloc _) (by have := HW3.out.size; omega) (.inr (Nat.le_refl _)))
          | (refine ⟨wt.heap.size, A3, A4, q3, q4, by with_reducible rfl, ?_, ?_⟩
             · exact set5_heap HB7.out
             · exact mid_of HL3.out.2.1 HR3.out HL3.out.2.2 HL3.out.1 HZS.out HQ3.out HZ3.out (HW0.out.trans HW3.out (fun i e => .inl e)) HM.out.lower (set5_frm _ _ _ _ _ _ _) (by omega) (.inl (by simp)))
          | (refine ⟨w2.heap.size, A3, A4, q3, q4, by with_reducible rfl, ?_, ?_⟩
             · exact set5_heap HB7.out
             · exact mid_of HL3.out.2.1 HR3.out HL3.out.2.2 HL3.out.1 HZS.out HQ3.out HZ3.out (HW0.out.trans HW3.out (fun i e => .inl e)) HM.out.lower (set5_frm _ _ _ _ _ _ _) (by omega) (.inl hz77))
    case rest =>
      obtain ⟨b7, A3, A4, q3, q4, rfl, he7, hmid⟩ := hcut
      obtain ⟨w4, rfl⟩ : ∃ w4, w4 = wc := ⟨_, rfl⟩
      have HE7 := Lib.hid he7; clear he7
      have hb7 := hmid.b7
      have HBX := Lib.hid hmid.box
      have HZR := Lib.hid hmid.zr
      have HFW := Lib.hid hmid.frm
      obtain ⟨F3, Fr, hM4, hr4, hF3, hFr⟩ := hmid.mach
      have HR4 := Lib.hid hr4
      obtain ⟨kv, dv3, e, hks4, _, hds4, _⟩ := hr4
      cases e
      have HKS := Lib.hid hks4
      have HDS := Lib.hid hds4
      have HX := Lib.hid (And.intro hF3 hFr)
      obtain ⟨gg, B', U', D', FB', FU', FD', e, hm4⟩ := hM4.at_
      obtain rfl : g = gg := by injection e with e; injection e with e; injection e
      have HM4 := Lib.hid hm4
      clear hmid hM4 hF3 hFr hks4 hds4 hm4 e o0 o1 o2 o3 o4 o5 o6 o7 o8
      have hz6 : w.heap.size + 2 ≤ w4.heap.size := by have := block_lt HZR.out; omega
      have hz7 : b7 < w4.heap.size := block_lt HE7.out
      have hz8 : w.heap.size < w4.heap.size := by omega
      have hz9 : g < w4.heap.size := block_lt HM4.out.cells
      obtain ⟨o0, o1, o2, o3, o4, o5, o6, o7, o8, of⟩ := cells9 HBX.out
      clear o2 o3 o4 o5 o6 o7 o8 of
      obtain ⟨g1, g2, g3⟩ := mach_cells HM4.out.cells
      clear g1 g2
      obtain ⟨m0, m1, m2, m3, m4, mf⟩ := cells5 HE7.out
      go_wp2_with (first | (go_at_call 10; refine (bReads_any _ _).mono ?_; rintro e w3 ⟨rfl, rfl⟩; rw [HRD.out]) | fail)
      have hax : ∀ W : World, Below w4.heap.size w4 W → Calls Try.prog 29 #[.agg #[.int .i64 r.st, .int .u64 r.up, .slice A3 r.keys.length q3, .bool r.more, .slice A4 r.data.length q4]] W (ResN W r) := fun W hW =>
        apart_walk (ks := r.keys) (xs := r.data) (Rd.below HKS.out hW) (Rd.below HDS.out hW) (by rw [HKD.out.1]; simp) (by rw [HKD.out.2]; simp)
      have HAX := Lib.hid hax; clear hax
      go_region_held3 (fun w' => w'.cell? ⟨g, 2, none⟩ = some (.map (some D')) ∧ w'.cell? ⟨w.heap.size, 0, none⟩ = some (.int .u64 o.id) ∧ w'.cell? ⟨b7, 0, none⟩ = some (.int .i64 r.st) ∧ w'.cell? ⟨b7, 1, none⟩ = some (.int .u64 r.up) ∧ w'.cell? ⟨b7, 2, none⟩ = some (.slice A3 r.keys.length q3) ∧ w'.cell? ⟨b7, 3, none⟩ = some (.bool r.more) ∧ w'.cell? ⟨b7, 4, none⟩ = some (.slice A4 r.data.length q4))
        (first | with_reducible exact ⟨g3, o0, m0, m1, m2, m3, m4⟩ | with_reducible exact ⟨hcc _ _ _ g3, hcc _ _ _ o0, hcc _ _ _ m0, hcc _ _ _ m1, hcc _ _ _ m2, hcc _ _ _ m3, hcc _ _ _ m4⟩ | (rw [hct, hct, hct, hct, hct, hct, hct]; with_reducible exact ⟨hcc _ _ _ g3, hcc _ _ _ o0, hcc _ _ _ m0, hcc _ _ _ m1, hcc _ _ _ m2, hcc _ _ _ m3, hcc _ _ _ m4⟩) | go_keep)
        (first
          | (go_at_call 29; refine (HAX.out _ (Below.refl _ _).drew).mono ?_; rintro e w5 ⟨⟨v5, F5, rfl, hr5, hlo5, hb5⟩⟩; obtain ⟨w6, hru, F6, hM6, hF6, hf6, ht6⟩ := HM4.out.keep hwi hN (w2 := w5) ⟨hb5.os, hb5.tape, hb5.output, hb5.size, fun i hi _ => hb5.block i hi⟩ hr5 hlo5 HKD.out.1 HKD.out.2; have hcc : ∀ g j u, w4.cell? ⟨g, j, none⟩ = some u → w5.cell? ⟨g, j, none⟩ = some u := (fun g j u hu => cell_below (w := w4) ⟨hb5.os, hb5.tape, hb5.output, hb5.size, hb5.block⟩ _ _ hu); have hct := turned_cell ht6; have HM6 := Lib.hid hM6; have HX6 := Lib.hid (And.intro hF6 (And.intro hlo5 hf6)); clear hr5 hlo5 hb5 hM6 hF6 hf6 ht6)
          | fail)
      clear g3 o0 o1 m0 m1 m2 m3 m4 mf hru hct hcc
      have n1 : ∀ i, i < w4.heap.size → ¬ F3 i → w6.heap[i]? = w4.heap[i]? := HX6.out.2.2.block
      have HN1 := Lib.hid n1; clear n1
      have HZ6 := Lib.hid ((HN1.out (w.heap.size + 1) (by omega) (fun e => by rcases (HX.out.1 _ e).1 with h | h; have := HM.out.lower _ h; omega; omega)).trans HZR.out)
      have HE6 := Lib.hid ((HN1.out b7 hz7 (fun e => (HX.out.1 _ e).2 rfl)).trans HE7.out)
      obtain ⟨m0, m1, m2, m3, m4, mf⟩ := cells5 HE6.out
      obtain ⟨n0, n1, n2, n3, n4, nf⟩ := cells5 HZ6.out
      go_wp2
      clear n0 n1 n2 n3 n4 nf m0 m1 m2 m3 m4 mf
      refine post_set5 HZ6.out ?_
      intro w7 hf7 he6
      obtain ⟨p0, p1, p2, p3, p4, pf⟩ := cells5 he6
      exact bodyPost_ret (v := .agg #[.int .i64 r.st, .int .u64 r.up, .slice A3 r.keys.length q3, .bool r.more, .slice A4 r.data.length q4]) (by simp [results, Try.results14, go_sem, p0, p1, p2, p3, p4]) rfl
        (done_keep (w4 := w4) HM6.out HX6.out.1 HX6.out.2.1 HX6.out.2.2 HR4.out (fun i hi => (HX.out.1 i hi).1) HX.out.2 HFW.out HM.out.lower hz6 hf7)
end Go.Proofs.Ytkbmecjpjphngaa
