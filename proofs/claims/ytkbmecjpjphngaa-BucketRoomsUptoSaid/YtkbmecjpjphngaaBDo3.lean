/-
  Do, where the op reads.
-/
import Derived.Test.YtkbmecjpjphngaaBDo2
set_option linter.unusedVariables false
set_option linter.unusedSimpArgs false
namespace Go.Proofs.Ytkbmecjpjphngaa
open Go.RowKit Go.Maps
attribute [local go_sem ↓] Go.wp_at_zero Go.wp_at_succ

/-- The end: nothing is kept. -/
theorem done_read {N : Nat} {w w4 w7 : World} {p v : Value} {F F3 Fr : Foot} {r : ResC} {S' : StC} (hM : Mach (N + 1) w4 p S' F3) (hr : ResR w4 v r Fr) (hF3 : ∀ i, F3 i → F i ∨ w.heap.size + 2 ≤ i) (hFr : ∀ i, Fr i → ¬ F3 i ∧ w.heap.size + 2 ≤ i)
    (hf : Frm F w w4) (hl : ∀ i, F i → i < w.heap.size) (hf7 : Frm (fun i => i = w.heap.size + 1) w4 w7) : DoneR N w p F r S' (.returned v) w7 := by
  refine ⟨v, Fr, F3, rfl, resR.framed hr (fun i hi => hf7.block i (resR.lower hr i hi) (fun e => by have := (hFr i hi).2; omega)), fun i hi => ⟨by have := (hFr i hi).2; omega, (hFr i hi).1⟩, ?_, fun i hi => ?_, hf.trans hf7 (fun i e => .inr (by omega))⟩
  · refine hM.framed (fun i hi => hf7.block i (hM.lower i hi) (fun e => ?_))
    rcases hF3 i hi with h | h
    · have := hl i h; omega
    · omega
  · rcases hF3 i hi with h | h
    · exact .inl h
    · exact .inr (by omega)
set_option maxRecDepth 100000 in
set_option maxHeartbeats 8000000 in
theorem do_read {N : Nat} {w : World} {p v : Value} {S S1 : StC} {F : Foot} {o : OpC} {r : ResC} {f : Nat} (h : Mach N w p S F) (ho : OpR w v o) (hc : chkB o = true) (hrd : rdB o.kind = true) (hf : tableF p (ik o.kind) = some (.func (.func f) #[p] #[]))
    (hm : ∀ W, Mach N W p S F → OpR W v o → Calls Try.prog f #[p, v] W (DoneR N W p F r S1)) (hcf : ∀ args W, (callFunc f args).run Try.prog W = .ok (.enter f args) W) :
    Calls Try.prog 14 #[p, v] w (DoneR N w p F r S1) := by
  have hk := check_any _ _ _ (ho.cells (cell_two (.cells v.cells 26) zres))
  rw [hc] at hk
  have HK := Lib.hid hk; clear hk hc
  have HM0 := Lib.hid h
  have HOP := Lib.hid ho
  have HF := Lib.hid hf; clear hf
  have HMT := Lib.hid hm; clear hm
  obtain ⟨g, B, U, D, FB, FU, FD, rfl, hm⟩ := h.at_
  have HM := Lib.hid hm; clear hm h
  obtain ⟨pv, dv, rfl, hpv, hdv, hwi, hwk, hwn, hwu, hwp, hs, hks, has⟩ := ho
  clear hpv hdv hwp
  have hgl := block_lt HM.out.cells
  have HRD := Lib.hid hrd; clear hrd
  go_enter Try.func14, Try.ntmps14
  go_wp2_with fail
  refine HK.out.mono ?_
  rintro e w1 ⟨rfl, hb1⟩
  have HB1 := Lib.hid hb1; clear hb1
  have HM1 := Lib.hid (HM.out.two HB1.out)
  have HO1 := Lib.hid ((HB1.out.block w.heap.size (by simp; omega)).trans (two_new _ _ _).1)
  have HOP1 := Lib.hid ((HOP.out.cells (cell_two (.cells #[.int .u64 o.id, .int .i64 o.kind, .string o.bucket, .string o.key, .string o.after, .int .i64 o.n, .int .u64 o.up, pv, dv] 26) zres)).cells (cell_below HB1.out))
  have hz1 : w.heap.size + 2 ≤ w1.heap.size := by have := HB1.out.size; simp at this; omega
  have hz2 : w.heap.size < w1.heap.size := by omega
  have hz3 : g < w1.heap.size := by omega
  obtain ⟨o0, o1, o2, o3, o4, o5, o6, o7, o8, of⟩ := cells9 HO1.out
  clear o1 o2 o3 o4 o5 o6 o7 o8 of
  obtain ⟨g1, g2, g3⟩ := mach_cells HM1.out.cells
  clear g1 g2
  obtain ⟨vr, hl, rr, Fr, hres, hFr, _, hrr⟩ := HM1.out.kept hwi
  obtain ⟨kv, dv2, rfl, hks2, _, hds2, _⟩ := hres
  generalize (S.ds (uk o.id)).isSome = was at hl
  have hl1 := hl w1.drew rfl
  have hl2 := hl (w1.alloc zres).drew (alloc_same (HM1.out.md.lower D HM1.out.md.own))
  clear hl hFr hrr
  obtain ⟨A1, q1, rfl, _, _, _⟩ := Rd.form hks2
  obtain ⟨A2, q2, rfl, _, _, _⟩ := Rd.form hds2
  clear hks2 hds2
  simp only [errN]
  go_upto_region 3 with (fail)
  go_cut [5, 6] (fun s5 s6 wx => ∃ q : Nat, s5 = .pointer (some ⟨q, 0, none⟩) ∧ s6 = .bool was ∧ Below w1.heap.size w1 wx ∧ w1.heap.size < wx.heap.size)
  case first =>
    go_region
    all_goals (go_wp2_with fail; go_meet; exact ⟨w1.heap.size, rfl, rfl, ((Below.refl _ _).alloc (Nat.le_refl _) _).drew, by show _ < (w1.alloc _).heap.size; simp⟩)
  case rest =>
    obtain ⟨q5, rfl, rfl, hb2, hz4⟩ := hcut
    obtain ⟨w2, rfl⟩ : ∃ w2, w2 = wc := ⟨_, rfl⟩
    have HB2 := Lib.hid hb2
    clear hl1 hl2 o0 g3 hb2
    have HP2 := Lib.hid ((HB2.out.block w.heap.size hz2).trans HO1.out)
    have HM2 := Lib.hid ((HM1.out.framed (w' := w2) (fun i hi => HB2.out.block i (HM1.out.lower i hi))).mach)
    have HOP2 := Lib.hid (HOP1.out.cells (cell_below HB2.out))
    have HZ2 := Lib.hid ((HB2.out.block (w.heap.size + 1) (by omega)).trans ((HB1.out.block (w.heap.size + 1) (by simp)).trans (two_new _ _ _).2))
    have hz5 : w.heap.size < w2.heap.size := by omega
    obtain ⟨o0, o1, o2, o3, o4, o5, o6, o7, o8, of⟩ := cells9 HP2.out
    have HZ7 : ∀ {m : Nat}, (w2.alloc zres).drew.heap.size ≤ m → w2.heap.size + 1 ≤ m := fun {m} h => by have h' : (w2.alloc zres).heap.size ≤ m := h; simp at h'; exact h'
    have FR2 := Lib.hid ((frm_b HB1.out F).trans (F1 := fun _ => False) (Frm.of_below HB2.out _) (fun i e => e.elim))
    cases was
    all_goals
      go_upto_region 6 with (first | (go_at_call 10; refine (bReads_any _ _).mono ?_; rintro e w3 ⟨rfl, rfl⟩; rw [HRD.out]) | fail)
      go_cut [7] (fun s7 wx => ∃ (b7 : Nat) (A3 A4 : Option Addr) (q3 q4 : Nat), s7 = .pointer (some ⟨b7, 0, none⟩) ∧ wx.heap[b7]? = some (.cells #[.int .i64 r.st, .int .u64 r.up, .slice A3 r.keys.length q3, .bool r.more, .slice A4 r.data.length q4] 41) ∧
        Mid N w (.pointer (some ⟨g, 0, none⟩)) F r S1 (.cells #[.int .u64 o.id, .int .i64 o.kind, .string o.bucket, .string o.key, .string o.after, .int .i64 o.n, .int .u64 o.up, pv, dv] 26) (.agg #[.int .i64 r.st, .int .u64 r.up, .slice A3 r.keys.length q3, .bool r.more, .slice A4 r.data.length q4]) wx b7)
      case first =>
        go_region_held3 (fun w' => w'.cell? ⟨w.heap.size, 0, none⟩ = some (.int .u64 o.id) ∧ w'.cell? ⟨w.heap.size, 1, none⟩ = some (.int .i64 o.kind) ∧ w'.cell? ⟨w.heap.size, 2, none⟩ = some (.string o.bucket) ∧ w'.cell? ⟨w.heap.size, 3, none⟩ = some (.string o.key) ∧ w'.cell? ⟨w.heap.size, 4, none⟩ = some (.string o.after) ∧ w'.cell? ⟨w.heap.size, 5, none⟩ = some (.int .i64 o.n) ∧ w'.cell? ⟨w.heap.size, 6, none⟩ = some (.int .u64 o.up) ∧ w'.cell? ⟨w.heap.size, 7, none⟩ = some pv ∧ w'.cell? ⟨w.heap.size, 8, none⟩ = some dv) (first | with_reducible exact ⟨o0, o1, o2, o3, o4, o5, o6, o7, o8⟩ | with_reducible exact ⟨t0, t1, t2, t3, t4, t5, t6, t7, t8⟩ | with_reducible exact ⟨s0, s1, s2, s3, s4, s5, s6, s7, s8⟩ | with_reducible exact ⟨cell_new s0, cell_new s1, cell_new s2, cell_new s3, cell_new s4, cell_new s5, cell_new s6, cell_new s7, cell_new s8⟩ | with_reducible exact ⟨cell_new t0, cell_new t1, cell_new t2, cell_new t3, cell_new t4, cell_new t5, cell_new t6, cell_new t7, cell_new t8⟩ | with_reducible exact ⟨cell_new o0, cell_new o1, cell_new o2, cell_new o3, cell_new o4, cell_new o5, cell_new o6, cell_new o7, cell_new o8⟩ | with_reducible exact ⟨cell_set5 (by omega) s0, cell_set5 (by omega) s1, cell_set5 (by omega) s2, cell_set5 (by omega) s3, cell_set5 (by omega) s4, cell_set5 (by omega) s5, cell_set5 (by omega) s6, cell_set5 (by omega) s7, cell_set5 (by omega) s8⟩ | go_keep)
        (first
          | (go_at_call 30; refine (table_any _ _).mono ?_; rintro e wt ⟨b, n, rfl, htab⟩; obtain ⟨hlt1, hlt2, HMt, HFt, hqt, hzt, HZt⟩ := tab_mid (W := w2.drew) htab (HM2.out.framed (w' := w2.drew) (fun i hi => rfl)) (HOP2.out.cells (fun a u h => h)) hwk HF.out HP2.out HZ2.out; have HQT := Lib.hid hqt; have HW0 := Lib.hid (FR2.out.drew.trans HFt.out (fun i e => e.elim)); have hzw : w2.heap.size ≤ wt.heap.size := hzt; obtain ⟨t0, t1, t2, t3, t4, t5, t6, t7, t8, tf⟩ := cells9 HQT.out; clear htab hqt tf hzt)
          | (go_at_call 30; refine (table_any _ _).mono ?_; rintro e wt ⟨b, n, rfl, htab⟩; obtain ⟨hlt1, hlt2, HMt, HFt, hqt, hzt, HZt⟩ := tab_mid (W := (w2.alloc zres).drew) htab (HM2.out.framed (w' := (w2.alloc zres).drew) (fun i hi => alloc_same (HM2.out.lower i hi))) (HOP2.out.cells (cell_below ((Below.refl _ _).alloc (Nat.le_refl _) zres).drew)) hwk HF.out ((alloc_same hz5).trans HP2.out) ((alloc_same (block_lt HZ2.out)).trans HZ2.out); have hz77 : w2.heap.size < wt.heap.size := HZ7 hzt; have HB7t := Lib.hid ((HFt.out.block w2.heap.size (by show w2.heap.size < (w2.alloc zres).heap.size; simp) (fun e => e)).trans (heap_alloc_new w2 zres)); have HQT := Lib.hid hqt; have HW0 := Lib.hid ((FR2.out.alloc zres).drew.trans HFt.out (fun i e => e.elim)); have hzw : w2.heap.size ≤ wt.heap.size := Nat.le_of_succ_le (HZ7 hzt); obtain ⟨t0, t1, t2, t3, t4, t5, t6, t7, t8, tf⟩ := cells9 HQT.out; clear htab hqt tf)
          | (refine (HMT.out _ HMt.out.1 HMt.out.2).mono ?_; rintro e w3 ⟨⟨v3, Fr, F3, rfl, hr3, hFr3, hM3, hF3, hf3⟩⟩; have HR3 := Lib.hid hr3; obtain ⟨kv3, dv3, rfl, k1, _, k3, _, _⟩ := hr3; obtain ⟨A3, q3, rfl, _, _, _⟩ := Rd.form k1; obtain ⟨A4, q4, rfl, _, _, _⟩ := Rd.form k3; have HFM3 := Lib.hid hf3; have HL3 := Lib.hid (And.intro hFr3 (And.intro hM3 hF3)); have HQ3 := Lib.hid ((hf3.block w.heap.size (by omega) (fun e => by have := HM.out.lower _ e; omega)).trans HQT.out); have HZ3 := Lib.hid ((hf3.block (w.heap.size + 1) (by omega) (fun e => by have := HM.out.lower _ e; omega)).trans HZt.out); have HW3 : Hid (Frm F wt w3) := hf3; have HZS : Hid (w.heap.size + 2 ≤ wt.heap.size) := (by show _ ≤ _; omega); (first | (have HB7 := Lib.hid ((hf3.block w2.heap.size (by omega) (fun e => by have := HM.out.lower _ e; omega)).trans HB7t.out); obtain ⟨m0, m1, m2, m3, m4, mf⟩ := cells5 HB7.out) | skip); clear k1 k3 hf3 hFr3 hM3 hF3 hlt1 hlt2 o0 o1 o2 o3 o4 o5 o6 o7 o8 t0 t1 t2 t3 t4 t5 t6 t7 t8; obtain ⟨s0, s1, s2, s3, s4, s5, s6, s7, s8, sf⟩ := cells9 HQ3.out; clear sf)
          | (refine (HMT.out _ (HMt.out.1.framed (w' := wt.alloc zres) (fun i hi => alloc_same (HMt.out.1.lower i hi))) (HMt.out.2.cells (cell_below ((Below.refl _ _).alloc (Nat.le_refl _) zres)))).mono ?_; rintro e w3 ⟨⟨v3, Fr, F3, rfl, hr3, hFr3, hM3, hF3, hf3⟩⟩; have HR3 := Lib.hid hr3; obtain ⟨kv3, dv3, rfl, k1, _, k3, _, _⟩ := hr3; obtain ⟨A3, q3, rfl, _, _, _⟩ := Rd.form k1; obtain ⟨A4, q4, rfl, _, _, _⟩ := Rd.form k3; have HFM3 := Lib.hid hf3; have HL3 := Lib.hid (And.intro hFr3 (And.intro hM3 hF3)); have HQ3 := Lib.hid ((hf3.block w.heap.size (by simp; omega) (fun e => by have := HM.out.lower _ e; omega)).trans ((alloc_same (by omega)).trans HQT.out)); have HZ3 := Lib.hid ((hf3.block (w.heap.size + 1) (by simp; omega) (fun e => by have := HM.out.lower _ e; omega)).trans ((alloc_same (by omega)).trans HZt.out)); have HW3 : Hid (Frm F wt w3) := (((Frm.refl F wt).alloc zres).trans hf3 (fun i e => .inl e)); have HZS : Hid (w.heap.size + 2 ≤ (wt.alloc zres).heap.size) := (by show _ ≤ _; simp; omega); have HB7 := Lib.hid ((hf3.block wt.heap.size (by simp) (fun e => by have := HM.out.lower _ e; omega)).trans (heap_alloc_new wt zres)); obtain ⟨m0, m1, m2, m3, m4, mf⟩ := cells5 HB7.out; clear k1 k3 hf3 hFr3 hM3 hF3 hlt1 hlt2 o0 o1 o2 o3 o4 o5 o6 o7 o8 t0 t1 t2 t3 t4 t5 t6 t7 t8; obtain ⟨s0, s1, s2, s3, s4, s5, s6, s7, s8, sf⟩ := cells9 HQ3.out; clear sf)
          | fail)
        all_goals
          clear s0 s1 s2 s3 s4 s5 s6 s7 s8
          go_wp2_with fail
          go_meet
          first
            | (refine ⟨w3.heap.size, A3, A4, q3, q4, by with_reducible rfl, ?_, ?_⟩
               · exact heap_alloc_new _ _
               · exact mid_of HL3.out.2.1 HR3.out HL3.out.2.2 HL3.out.1 HZS.out HQ3.out HZ3.out (HW0.out.trans HW3.out (fun i e => .inl e)) HM.out.lower ((Frm.refl _ w3).alloc _) (by have := HW3.out.size; omega) (.inr (Nat.le_refl _)))
            | (refine ⟨wt.heap.size, A3, A4, q3, q4, by with_reducible rfl, ?_, ?_⟩
               · exact set5_heap HB7.out
               · exact mid_of HL3.out.2.1 HR3.out HL3.out.2.2 HL3.out.1 HZS.out HQ3.out HZ3.out (HW0.out.trans HW3.out (fun i e => .inl e)) HM.out.lower (set5_frm _ _ _ _ _ _ _) (by omega) (.inl (by simp)))
            | (refine ⟨w2.heap.size, A3, A4, q3, q4, by with_reducible rfl, ?_, ?_⟩
               · exact set5_heap HB7.out
               · exact mid_of HL3.out.2.1 HR3.out HL3.out.2.2 HL3.out.1 HZS.out HQ3.out HZ3.out (HW0.out.trans HW3.out (fun i e => .inl e)) HM.out.lower (set5_frm _ _ _ _ _ _ _) (by omega) (.inl hz77))
      case rest =>
        obtain ⟨b7, A3, A4, q3, q4, rfl, he7, hmid⟩ := hcut
        obtain ⟨w4, rfl⟩ : ∃ w4, w4 = wc := ⟨_, rfl⟩
        have HE7 := Lib.hid he7; clear he7
        have hb7 := hmid.b7
        have HBX := Lib.hid hmid.box
        have HZR := Lib.hid hmid.zr
        have HFW := Lib.hid hmid.frm
        obtain ⟨F3, Fr, hM4, hr4, hF3, hFr⟩ := hmid.mach
        have HR4 := Lib.hid hr4
        have HM4 := Lib.hid hM4
        have HX := Lib.hid (And.intro hF3 hFr)
        clear hmid hM4 hF3 hFr hr4 o0 o1 o2 o3 o4 o5 o6 o7 o8
        have hz8 : w.heap.size < w4.heap.size := by have := block_lt HZR.out; omega
        have hz7 : b7 < w4.heap.size := block_lt HE7.out
        obtain ⟨o0, o1, o2, o3, o4, o5, o6, o7, o8, of⟩ := cells9 HBX.out
        clear o0 o2 o3 o4 o5 o6 o7 o8 of
        obtain ⟨m0, m1, m2, m3, m4, mf⟩ := cells5 HE7.out
        obtain ⟨n0, n1, n2, n3, n4, nf⟩ := cells5 HZR.out
        go_wp2_with (first | (go_at_call 10; refine (bReads_any _ _).mono ?_; rintro e w3 ⟨rfl, rfl⟩; rw [HRD.out]) | fail)
        clear n0 n1 n2 n3 n4 nf m0 m1 m2 m3 m4 mf o1
        refine post_set5 HZR.out ?_
        intro w7 hf7 he6
        obtain ⟨p0, p1, p2, p3, p4, pf⟩ := cells5 he6
        exact bodyPost_ret (v := .agg #[.int .i64 r.st, .int .u64 r.up, .slice A3 r.keys.length q3, .bool r.more, .slice A4 r.data.length q4]) (by simp [results, Try.results14, go_sem, p0, p1, p2, p3, p4]) rfl
          (done_read HM4.out HR4.out (fun i hi => (HX.out.1 i hi).1) HX.out.2 HFW.out HM.out.lower hf7)
end Go.Proofs.Ytkbmecjpjphngaa
