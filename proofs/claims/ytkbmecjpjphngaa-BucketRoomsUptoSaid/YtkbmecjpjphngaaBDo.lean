/-
  table and Do.
-/
import Derived.Test.YtkbmecjpjphngaaBW6
import Derived.Test.YtkbmecjpjphngaaBChk3
set_option linter.unusedVariables false
set_option linter.unusedSimpArgs false
namespace Go.Proofs.Ytkbmecjpjphngaa
open Go.RowKit Go.Maps

/-- A map under way, made since w0. -/
structure Tab (w0 w : World) (b n : Nat) (f : Lit → Option Value) : Prop where
  map : MapV Try.prog 3 w b n f
  frm : Frm (fun i => i = b) w0 w
  new : w0.heap.size ≤ b
theorem wpList_insert {w0 w : World} {ops : Array Oper} {rest : List Oper} {o : Oper} {a : Act} {Q : Exit → Act → World → Prop} (hg : o.guard = none) (m x v : Operand) (t e : TypeId) (hop : o.op = Op.insert t m x v) (ht : Try.prog.underlying t = some (.map 3 e)) {b n : Nat} {f : Lit → Option Value}
    (hm : a.eval m = .map (some b)) (h : Tab w0 w b n f) (hn : n < maxLen) (i : Int) (hx : a.eval x = .int .i64 i) (hi : (Lit.int .i64 i).wf = true) (val : Value) (hv : a.eval v = val)
    (hK : ∀ w', Tab w0 w' b (n + 1) (upd f (ik i) (some val)) → wpList Try.prog ops Q rest (a.put o.dst undef) w') : wpList Try.prog ops Q (o :: rest) a w := by
  refine wpList_plain hg fun K' hK' => ?_
  obtain ⟨w', hrun, r1, r2⟩ := h.map.store Ki ht hn (ki_of hi) val
  unfold Oper.wp
  simp [execOp, hop, hm, hx, hv, hrun, Result.andThen]
  exact hK' _ _ (hK w' ⟨r1, h.frm.trans (Frm.of_turned r2 (F := fun i => i = b) rfl) (fun i e => .inl e), h.new⟩)
/-- What does each kind of ops. -/
noncomputable def tableF (p : Value) : Lit → Option Value :=
  upd (upd (upd (upd (upd (upd (upd (upd (upd (upd (fun _ => none) (ik 1) (some (.func (.func 46) #[p] #[]))) (ik 2) (some (.func (.func 47) #[p] #[]))) (ik 3) (some (.func (.func 48) #[p] #[])))
    (ik 4) (some (.func (.func 49) #[p] #[]))) (ik 5) (some (.func (.func 50) #[p] #[]))) (ik 6) (some (.func (.func 51) #[p] #[]))) (ik 7) (some (.func (.func 52) #[p] #[])))
    (ik 8) (some (.func (.func 53) #[p] #[]))) (ik 9) (some (.func (.func 54) #[p] #[]))) (ik 10) (some (.func (.func 55) #[p] #[]))
set_option maxRecDepth 100000 in
set_option maxHeartbeats 4000000 in
theorem table_any (p : Value) (w : World) : Calls Try.prog 30 #[p] w fun e w' => ∃ b n, e = .returned (.map (some b)) ∧ Tab w w' b n (tableF p) := by
  have hmm := @run_makeMap Try.prog
  have h0 : Tab w (w.alloc (.map #[] 0)) w.heap.size 0 (fun _ => none) := ⟨MapV.made _ _ _ rfl, (Frm.refl _ _).alloc _, Nat.le_refl _⟩
  go_enter Try.func30, Try.ntmps30
  go_wp2_with (first
    | (refine wpList_insert (w0 := w) (by rfl) _ _ _ 78 _ (by rfl) Try.underlying78 (by rfl) h0 (by decide) _ (by rfl) (by decide) _ (by rfl) ?_; clear h0; intro wn h0)
    | fail)
  go_ret
  exact ⟨_, _, rfl, h0⟩

/-! ### Do -/
theorem DoneR.mono {N : Nat} {w : World} {p : Value} {F : Foot} {r : ResC} {S : StC} {e : Ending} {w' : World} (h : DoneR N w p F r S e w') : DoneR (N + 1) w p F r S e w' := by
  obtain ⟨v, Fr, F', h1, h2, h3, h4, h5, h6⟩ := h.out
  exact ⟨v, Fr, F', h1, h2, h3, h4.mono (Nat.le_succ _), h5, h6⟩
set_option maxRecDepth 100000 in
set_option maxHeartbeats 4000000 in
theorem do_bad {N : Nat} {w : World} {p v : Value} {S : StC} {F : Foot} {o : OpC} (h : Mach N w p S F) (ho : OpR w v o) (hc : chkB o = false) : Calls Try.prog 14 #[p, v] w (DoneR N w p F (stat 400) S) := by
  have hk := check_any _ _ _ (ho.cells (cell_two (.cells v.cells 26) zres))
  rw [hc] at hk
  have HK := Lib.hid hk; clear hk hc
  have HM0 := Lib.hid h
  obtain ⟨g, B, U, D, FB, FU, FD, rfl, hm⟩ := h.at_
  have HM := Lib.hid hm; clear hm h
  obtain ⟨pv, dv, rfl, hpv, hdv, hwi, hwk, hwn, hwu, hwp, hs, hks, has⟩ := ho
  clear hpv hdv hwp
  go_enter Try.func14, Try.ntmps14
  go_wp2_with fail
  refine HK.out.mono ?_
  rintro e w1 ⟨rfl, hb1⟩
  have HB1 := Lib.hid hb1; clear hb1
  simp only [errN]
  go_wp2_with fail
  refine (status_any _ _).mono ?_
  rintro e w4 ⟨rfl, hb4⟩
  have HB4 := Lib.hid hb4; clear hb4
  have HE := Lib.hid ((HB4.out.block _ (by have := HB1.out.size; simp at this; omega)).trans ((HB1.out.block (w.heap.size + 1) (by simp)).trans (two_new _ _ _).2))
  obtain ⟨n0, n1, n2, n3, n4, nf⟩ := cells5 HE.out
  go_wp2
  clear n0 n1 n2 n3 n4 nf
  refine post_set5 HE.out ?_
  intro w5 hf5 he6
  obtain ⟨p0, p1, p2, p3, p4, pf⟩ := cells5 he6
  exact bodyPost_ret (v := statV 400) (by simp [results, Try.results14, go_sem, p0, p1, p2, p3, p4]) rfl
    (done_stat (mach_b HM0.out HB1.out) (frm_b HB1.out F) (fun i hi => .inl hi) HM.out.lower HB4.out hf5)
set_option maxRecDepth 100000 in
set_option maxHeartbeats 4000000 in
theorem do_old {N : Nat} {w : World} {p v : Value} {S : StC} {F : Foot} {o : OpC} (h : Mach N w p S F) (ho : OpR w v o) (hc : chkB o = true) {r : ResC} (hr : S.ds (uk o.id) = some r) (hrd : rdB o.kind = false) : Calls Try.prog 14 #[p, v] w (DoneR N w p F r S) := by
  have hk := check_any _ _ _ (ho.cells (cell_two (.cells v.cells 26) zres))
  rw [hc] at hk
  have HK := Lib.hid hk; clear hk hc
  have HM0 := Lib.hid h
  have hsm := h.small.kept _ _ hr
  have HSM := Lib.hid hsm; clear hsm
  obtain ⟨g, B, U, D, FB, FU, FD, rfl, hm⟩ := h.at_
  have HM := Lib.hid hm; clear hm h
  obtain ⟨pv, dv, rfl, hpv, hdv, hwi, hwk, hwn, hwu, hwp, hs, hks, has⟩ := ho
  clear hpv hdv hwp
  have hgl := block_lt HM.out.cells
  have HRD := Lib.hid hrd; clear hrd
  have HRR := Lib.hid hr; clear hr
  go_enter Try.func14, Try.ntmps14
  go_wp2_with fail
  refine HK.out.mono ?_
  rintro e w1 ⟨rfl, hb1⟩
  have HB1 := Lib.hid hb1; clear hb1
  have HM1 := Lib.hid (HM.out.two HB1.out)
  have HO1 := Lib.hid ((HB1.out.block w.heap.size (by simp; omega)).trans (two_new _ _ _).1)
  have hz1 : w.heap.size + 2 ≤ w1.heap.size := by have := HB1.out.size; simp at this; omega
  have hz2 : w.heap.size < w1.heap.size := by omega
  have hz3 : g < w1.heap.size := by omega
  obtain ⟨o0, o1, o2, o3, o4, o5, o6, o7, o8, of⟩ := cells9 HO1.out
  clear o2 o3 o4 o5 o6 o7 o8 of
  obtain ⟨g1, g2, g3⟩ := mach_cells HM1.out.cells
  clear g1 g2
  obtain ⟨vr, hl, rr, Fr, ⟨kv, dv2, rfl, hks2, _, hds2, _⟩, hFr, hrr, _⟩ := HM1.out.kept hwi
  obtain rfl := hrr r HRR.out
  rw [HRR.out] at hl
  have hl1 := hl w1.drew rfl
  have hl2 := hl (w1.alloc zres).drew (alloc_same (HM1.out.md.lower D HM1.out.md.own))
  clear hl hFr hrr
  obtain ⟨A1, q1, rfl, _, _, _⟩ := Rd.form hks2
  obtain ⟨A2, q2, rfl, _, _, _⟩ := Rd.form hds2
  have HKS := Lib.hid hks2; clear hks2
  have HDS := Lib.hid hds2; clear hds2
  simp only [errN]
  go_wp2
  go_region
  all_goals
    clear hl1 hl2 o0 g3
    obtain ⟨w2, hw2⟩ : ∃ w2, w2 = (w1.alloc (.cells #[.int .i64 rr.st, .int .u64 rr.up, .slice A1 rr.keys.length q1, .bool rr.more, .slice A2 rr.data.length q2] 41)).drew := ⟨_, rfl⟩
    rw [← hw2]
    have HB2 : Hid (Below w1.heap.size w1 w2) := by rw [hw2]; exact ((Below.refl _ _).alloc (Nat.le_refl _) _).drew
    have HO2 : Hid (w2.heap[w1.heap.size]? = some (.cells #[.int .i64 rr.st, .int .u64 rr.up, .slice A1 rr.keys.length q1, .bool rr.more, .slice A2 rr.data.length q2] 41)) := by rw [hw2]; exact heap_alloc_new _ _
    have hz4 : w1.heap.size < w2.heap.size := block_lt HO2.out
    clear hw2
    have HP2 := Lib.hid ((HB2.out.block w.heap.size hz2).trans HO1.out)
    obtain ⟨o0', o1', o2', o3', o4', o5', o6', o7', o8', of'⟩ := cells9 HP2.out
    clear o1 o0' o2' o3' o4' o5' o6' o7' o8' of'
    obtain ⟨n0, n1, n2, n3, n4, nf⟩ := cells5 HO2.out
    go_wp2_with (first | (go_at_call 10; refine (bReads_any _ _).mono ?_; rintro e w3 ⟨rfl, rfl⟩; rw [HRD.out]) | fail)
    clear n0 n1 n2 n3 n4 nf o1'
    refine (apart_walk (ks := rr.keys) (xs := rr.data) (Rd.below HKS.out HB2.out) (Rd.below HDS.out HB2.out) (by rw [HSM.out.1]; simp) (by rw [HSM.out.2]; simp)).mono ?_
    rintro e w4 ⟨⟨v4, F4, rfl, hr4, hlo4, hb4⟩⟩
    have HR4' := Lib.hid hr4
    obtain ⟨kv4, dv4, rfl, k1, k2, k3, k4, k5⟩ := hr4
    obtain ⟨A3, q3, rfl, _, _, _⟩ := Rd.form k1
    obtain ⟨A4, q4, rfl, _, _, _⟩ := Rd.form k3
    have HB4 := Lib.hid hb4
    have HLO := Lib.hid hlo4
    clear k1 k2 k3 k4 k5 hb4 hlo4
    have HE := Lib.hid ((HB4.out.block (w.heap.size + 1) (by omega)).trans ((HB2.out.block (w.heap.size + 1) (by omega)).trans ((HB1.out.block (w.heap.size + 1) (by simp)).trans (two_new _ _ _).2)))
    obtain ⟨n0, n1, n2, n3, n4, nf⟩ := cells5 HE.out
    go_wp2
    clear n0 n1 n2 n3 n4 nf
    refine post_set5 HE.out ?_
    intro w5 hf5 he6
    obtain ⟨p0, p1, p2, p3, p4, pf⟩ := cells5 he6
    exact bodyPost_ret (v := .agg #[.int .i64 rr.st, .int .u64 rr.up, .slice A3 rr.keys.length q3, .bool rr.more, .slice A4 rr.data.length q4]) (by simp [results, Try.results14, go_sem, p0, p1, p2, p3, p4]) rfl
      (done_gen ((HM1.out.framed (w' := w2) (fun i hi => HB2.out.block i (HM1.out.lower i hi))).mach.mono (Nat.le_succ N)) ((frm_b HB1.out F).trans (F1 := fun _ => False) (Frm.of_below HB2.out _) (fun i e => e.elim)) (fun i hi => .inl hi) HM.out.lower HB4.out HR4'.out HLO.out hf5)
end Go.Proofs.Ytkbmecjpjphngaa
