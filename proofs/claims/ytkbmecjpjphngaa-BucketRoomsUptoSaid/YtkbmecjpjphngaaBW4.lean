/-
  The walks of the machine's methods, by program (genb.py): those that find no bucket or no upload; begin.
-/
import Derived.Test.YtkbmecjpjphngaaBW3
set_option linter.unusedVariables false
set_option linter.unusedSimpArgs false
namespace Go.Proofs.Ytkbmecjpjphngaa
open Go.RowKit Go.Maps
attribute [local go_sem ↓] Go.wp_at_zero Go.wp_at_succ
set_option maxRecDepth 100000 in
set_option maxHeartbeats 4000000 in
theorem put_none {N : Nat} {w : World} {p v : Value} {S : StC} {F : Foot} {o : OpC} (h : Mach N w p S F) (ho : OpR w v o) (hc : S.bs (sk o.bucket) = none) :
    Calls Try.prog 48 #[p, v] w (DoneR N w p F (stat 404) S) := by
  have hk := known_any (mach_two h (.cells v.cells 26) zres) (ho.cells (cell_two (.cells v.cells 26) zres))
  rw [hc] at hk
  have HK := Lib.hid hk; clear hk hc
  have HM0 := Lib.hid h
  obtain ⟨g, B, U, D, FB, FU, FD, rfl, hm⟩ := h.at_
  have HM := Lib.hid hm; clear hm h
  obtain ⟨pv, dv, rfl, hpv, hdv, hwi, hwk, hwn, hwu, hwp, hs, hks, has⟩ := ho
  have HD := Lib.hid hdv; clear hdv
  have HPV := Lib.hid hpv; clear hpv hwp
  have hgl := block_lt HM.out.cells
  go_enter Try.func48, Try.ntmps48
  go_wp2_with fail
  refine HK.out.mono ?_
  rintro e w1 ⟨rfl, hb1⟩
  have HB1 := Lib.hid hb1; clear hb1
  go_wp2_with fail
  refine (status_any _ _).mono ?_
  rintro e w4 ⟨rfl, hb4⟩
  have HB4 := Lib.hid hb4; clear hb4
  have HE := Lib.hid ((HB4.out.block _ (by have := HB1.out.size; simp at this; omega)).trans ((HB1.out.block (w.heap.size + 1) (by simp)).trans (two_new _ _ _).2))
  obtain ⟨n0, n1, n2, n3, n4, nf⟩ := cells5 HE.out
  go_wp2
  clear n0 n1 n2 n3 n4 nf
  refine post_set5 HE.out ?_
  intro w5 hf5 he6
  obtain ⟨p0, p1, p2, p3, p4, pf⟩ := cells5 he6
  exact bodyPost_ret (v := statV 404) (by simp [results, Try.results48, go_sem, p0, p1, p2, p3, p4]) rfl (done_stat (mach_b HM0.out HB1.out) (frm_b HB1.out F) (fun i hi => .inl hi) HM.out.lower HB4.out hf5)
set_option maxRecDepth 100000 in
set_option maxHeartbeats 4000000 in
theorem begin_none {N : Nat} {w : World} {p v : Value} {S : StC} {F : Foot} {o : OpC} (h : Mach N w p S F) (ho : OpR w v o) (hc : S.bs (sk o.bucket) = none) :
    Calls Try.prog 52 #[p, v] w (DoneR N w p F (stat 404) S) := by
  have hk := known_any (mach_two h (.cells v.cells 26) zres) (ho.cells (cell_two (.cells v.cells 26) zres))
  rw [hc] at hk
  have HK := Lib.hid hk; clear hk hc
  have HM0 := Lib.hid h
  obtain ⟨g, B, U, D, FB, FU, FD, rfl, hm⟩ := h.at_
  have HM := Lib.hid hm; clear hm h
  obtain ⟨pv, dv, rfl, hpv, hdv, hwi, hwk, hwn, hwu, hwp, hs, hks, has⟩ := ho
  have HD := Lib.hid hdv; clear hdv
  have HPV := Lib.hid hpv; clear hpv hwp
  have hgl := block_lt HM.out.cells
  go_enter Try.func52, Try.ntmps52
  go_wp2_with fail
  refine HK.out.mono ?_
  rintro e w1 ⟨rfl, hb1⟩
  have HB1 := Lib.hid hb1; clear hb1
  go_wp2_with fail
  refine (status_any _ _).mono ?_
  rintro e w4 ⟨rfl, hb4⟩
  have HB4 := Lib.hid hb4; clear hb4
  have HE := Lib.hid ((HB4.out.block _ (by have := HB1.out.size; simp at this; omega)).trans ((HB1.out.block (w.heap.size + 1) (by simp)).trans (two_new _ _ _).2))
  obtain ⟨n0, n1, n2, n3, n4, nf⟩ := cells5 HE.out
  go_wp2
  clear n0 n1 n2 n3 n4 nf
  refine post_set5 HE.out ?_
  intro w5 hf5 he6
  obtain ⟨p0, p1, p2, p3, p4, pf⟩ := cells5 he6
  exact bodyPost_ret (v := statV 404) (by simp [results, Try.results52, go_sem, p0, p1, p2, p3, p4]) rfl (done_stat (mach_b HM0.out HB1.out) (frm_b HB1.out F) (fun i hi => .inl hi) HM.out.lower HB4.out hf5)
set_option maxRecDepth 100000 in
set_option maxHeartbeats 4000000 in
theorem list_none {N : Nat} {w : World} {p v : Value} {S : StC} {F : Foot} {o : OpC} (h : Mach N w p S F) (ho : OpR w v o) (hc : S.bs (sk o.bucket) = none) :
    Calls Try.prog 51 #[p, v] w (DoneR N w p F (stat 404) S) := by
  have hk := known_any (mach_two h (.cells v.cells 26) zres) (ho.cells (cell_two (.cells v.cells 26) zres))
  rw [hc] at hk
  have HK := Lib.hid hk; clear hk hc
  have HM0 := Lib.hid h
  obtain ⟨g, B, U, D, FB, FU, FD, rfl, hm⟩ := h.at_
  have HM := Lib.hid hm; clear hm h
  obtain ⟨pv, dv, rfl, hpv, hdv, hwi, hwk, hwn, hwu, hwp, hs, hks, has⟩ := ho
  have HD := Lib.hid hdv; clear hdv
  have HPV := Lib.hid hpv; clear hpv hwp
  have hgl := block_lt HM.out.cells
  go_enter Try.func51, Try.ntmps51
  go_wp2_with fail
  refine HK.out.mono ?_
  rintro e w1 ⟨rfl, hb1⟩
  have HB1 := Lib.hid hb1; clear hb1
  go_wp2_with fail
  refine (status_any _ _).mono ?_
  rintro e w4 ⟨rfl, hb4⟩
  have HB4 := Lib.hid hb4; clear hb4
  have HE := Lib.hid ((HB4.out.block _ (by have := HB1.out.size; simp at this; omega)).trans ((HB1.out.block (w.heap.size + 1) (by simp)).trans (two_new _ _ _).2))
  obtain ⟨n0, n1, n2, n3, n4, nf⟩ := cells5 HE.out
  go_wp2
  clear n0 n1 n2 n3 n4 nf
  refine post_set5 HE.out ?_
  intro w5 hf5 he6
  obtain ⟨p0, p1, p2, p3, p4, pf⟩ := cells5 he6
  exact bodyPost_ret (v := statV 404) (by simp [results, Try.results51, go_sem, p0, p1, p2, p3, p4]) rfl (done_stat (mach_b HM0.out HB1.out) (frm_b HB1.out F) (fun i hi => .inl hi) HM.out.lower HB4.out hf5)
set_option maxRecDepth 100000 in
set_option maxHeartbeats 4000000 in
theorem unmake_none {N : Nat} {w : World} {p v : Value} {S : StC} {F : Foot} {o : OpC} (h : Mach N w p S F) (ho : OpR w v o) (hc : S.bs (sk o.bucket) = none) :
    Calls Try.prog 47 #[p, v] w (DoneR N w p F (stat 404) S) := by
  have hk := known_any (mach_two h (.cells v.cells 26) zres) (ho.cells (cell_two (.cells v.cells 26) zres))
  rw [hc] at hk
  have HK := Lib.hid hk; clear hk hc
  have HM0 := Lib.hid h
  obtain ⟨g, B, U, D, FB, FU, FD, rfl, hm⟩ := h.at_
  have HM := Lib.hid hm; clear hm h
  obtain ⟨pv, dv, rfl, hpv, hdv, hwi, hwk, hwn, hwu, hwp, hs, hks, has⟩ := ho
  have HD := Lib.hid hdv; clear hdv
  have HPV := Lib.hid hpv; clear hpv hwp
  have hgl := block_lt HM.out.cells
  go_enter Try.func47, Try.ntmps47
  go_wp2_with fail
  refine HK.out.mono ?_
  rintro e w1 ⟨rfl, hb1⟩
  have HB1 := Lib.hid hb1; clear hb1
  go_wp2_with fail
  refine (status_any _ _).mono ?_
  rintro e w4 ⟨rfl, hb4⟩
  have HB4 := Lib.hid hb4; clear hb4
  have HE := Lib.hid ((HB4.out.block _ (by have := HB1.out.size; simp at this; omega)).trans ((HB1.out.block (w.heap.size + 1) (by simp)).trans (two_new _ _ _).2))
  obtain ⟨n0, n1, n2, n3, n4, nf⟩ := cells5 HE.out
  go_wp2
  clear n0 n1 n2 n3 n4 nf
  refine post_set5 HE.out ?_
  intro w5 hf5 he6
  obtain ⟨p0, p1, p2, p3, p4, pf⟩ := cells5 he6
  exact bodyPost_ret (v := statV 404) (by simp [results, Try.results47, go_sem, p0, p1, p2, p3, p4]) rfl (done_stat (mach_b HM0.out HB1.out) (frm_b HB1.out F) (fun i hi => .inl hi) HM.out.lower HB4.out hf5)
set_option maxRecDepth 100000 in
set_option maxHeartbeats 4000000 in
theorem begin_some {N : Nat} {w : World} {p v : Value} {S : StC} {F : Foot} {o : OpC} (h : Mach N w p S F) (ho : OpR w v o) {c : Bk} (hc : S.bs (sk o.bucket) = some c) (hN : N < maxLen) :
    Calls Try.prog 52 #[p, v] w (DoneR N w p F ⟨200, o.id, [], false, []⟩ { S with us := upd S.us (uk o.id) (some ⟨o.bucket, o.key, fun _ => none⟩) }) := by
  have hk := known_any (mach_two h (.cells v.cells 26) zres) (ho.cells (cell_two (.cells v.cells 26) zres))
  rw [hc] at hk
  have HK := Lib.hid hk; clear hk hc
  obtain ⟨g, B, U, D, FB, FU, FD, rfl, hm⟩ := h.at_
  have HM := Lib.hid hm; clear hm h
  obtain ⟨pv, dv, rfl, hpv, hdv, hwi, hwk, hwn, hwu, hwp, hs, hks, has⟩ := ho
  have HD := Lib.hid hdv; clear hdv
  have HPV := Lib.hid hpv; clear hpv hwp
  have hgl := block_lt HM.out.cells
  have hmm := @run_makeMap Try.prog
  go_enter Try.func52, Try.ntmps52
  go_wp2_with fail
  refine HK.out.mono ?_
  rintro e w1 ⟨rfl, hb1⟩
  have HB1 := Lib.hid hb1; clear hb1
  have HM1 := Lib.hid (HM.out.two HB1.out)
  have HO1 := Lib.hid ((HB1.out.block w.heap.size (by simp; omega)).trans (two_new _ _ _).1)
  have hz1 : w.heap.size + 2 ≤ w1.heap.size := by have := HB1.out.size; simp at this; omega
  have hz2 : w.heap.size < w1.heap.size := by omega
  have hz3 : g < w1.heap.size := by omega
  obtain ⟨o0, o1, o2, o3, o4, o5, o6, o7, o8, of⟩ := cells9 HO1.out
  clear o1 o4 o5 o6 o7 o8 of
  obtain ⟨g1, g2, g3⟩ := mach_cells HM1.out.cells
  clear g1 g3
  obtain ⟨w3, hru, F3, hM3, hF3, hf3⟩ := HM1.out.begin hwi hs hks hN
  have HM3 := Lib.hid hM3; clear hM3
  have HF3 := Lib.hid hf3; clear hf3
  go_wp2
  go_region
  have HO3 := Lib.hid ((HF3.out.block w.heap.size hz2 (fun e => by have := HM.out.lower _ e; omega)).trans HO1.out)
  have HE3 := Lib.hid ((HF3.out.block (w.heap.size + 1) (by omega) (fun e => by have := HM.out.lower _ e; omega)).trans ((HB1.out.block (w.heap.size + 1) (by simp)).trans (two_new _ _ _).2))
  clear o0 o2 o3 g2 hru
  obtain ⟨o0, o1, o2, o3, o4, o5, o6, o7, o8, of⟩ := cells9 HO3.out
  clear o1 o2 o3 o4 o5 o6 o7 o8 of
  obtain ⟨n0, n1, n2, n3, n4, nf⟩ := cells5 HE3.out
  go_wp2
  clear n0 n1 n2 n3 n4 nf o0
  refine post_set5 HE3.out ?_
  intro w5 hf5 he6
  obtain ⟨p0, p1, p2, p3, p4, pf⟩ := cells5 he6
  have hz4 := HF3.out.size
  exact bodyPost_ret (v := .agg #[.int .i64 200, .int .u64 o.id, .slice none 0 0, .bool false, .slice none 0 0]) (by simp [results, Try.results52, go_sem, p0, p1, p2, p3, p4]) rfl
    (done_gen HM3.out ((frm_b HB1.out F).trans HF3.out (fun i e => .inl e)) (fun i hi => by rcases hF3 i hi with e | e; exact .inl e; exact .inr (by omega)) HM.out.lower (Below.refl _ _) ⟨_, _, rfl, Rd.nil' (by simp [maxLen]) (fun _ => rfl), (fun g off n cap e hn => by cases e), Rd.nil' (by simp [maxLen]) (fun _ => rfl), (fun g off n cap e hn => by cases e), (fun i (h : False) => h.elim)⟩ (fun i h => h.elim) hf5)
/-- A look-up in the nil map. -/
theorem look_nilmap (s : ByteArray) (W : World) : (Instr.lookup 86 (.map none) (.string s) true).run Try.prog W = .ok (.tuple #[.slice none 0 0, .bool false]) W := by kernel_rfl
set_option maxRecDepth 100000 in
set_option maxHeartbeats 4000000 in
theorem get_no_bucket {N : Nat} {w : World} {p v : Value} {S : StC} {F : Foot} {o : OpC} (h : Mach N w p S F) (ho : OpR w v o) (hc : S.bs (sk o.bucket) = none) :
    Calls Try.prog 49 #[p, v] w (DoneR N w p F (stat 404) S) := by
  have HM0 := Lib.hid h
  obtain ⟨g, B, U, D, FB, FU, FD, rfl, hm⟩ := h.at_
  have HM := Lib.hid hm; clear hm h
  obtain ⟨pv, dv, rfl, hpv, hdv, hwi, hwk, hwn, hwu, hwp, hs, hks, has⟩ := ho
  have HD := Lib.hid hdv; clear hdv
  have HPV := Lib.hid hpv; clear hpv hwp
  have hgl := block_lt HM.out.cells
  have hl1 : ∀ n x, (Instr.lookup 70 (.map (some B)) (.string o.bucket) false).run Try.prog (((w.alloc x).alloc zres).drewN n) = .ok (.map none) (((w.alloc x).alloc zres).drewN n) := fun n x => HM.out.no_bucket hs hc (W := ((w.alloc x).alloc zres).drewN n) (two_old (HM.out.mb.lower B HM.out.mb.own))
  have hl2 := look_nilmap o.key
  clear hc
  obtain ⟨g1, g2, g3⟩ := mach_cells HM.out.cells
  clear g2 g3
  go_enter Try.func49, Try.ntmps49
  go_wp2
  go_quiet (fail)
  clear hl1 hl2 g1
  go_wp2_with fail
  refine (status_any _ _).mono ?_
  rintro e w4 ⟨rfl, hb4⟩
  have HB4 := Lib.hid hb4; clear hb4
  have HE := Lib.hid ((HB4.out.block _ (by simp)).trans (two_new _ _ _).2)
  obtain ⟨n0, n1, n2, n3, n4, nf⟩ := cells5 HE.out
  go_wp2
  clear n0 n1 n2 n3 n4 nf
  refine post_set5 HE.out ?_
  intro w5 hf5 he6
  obtain ⟨p0, p1, p2, p3, p4, pf⟩ := cells5 he6
  exact bodyPost_ret (v := statV 404) (by simp [results, Try.results49, go_sem, p0, p1, p2, p3, p4]) rfl (done_stat (mach_b HM0.out (drewN_below _ _)) (frm_b (drewN_below _ _) F) (fun i hi => .inl hi) HM.out.lower HB4.out hf5)
set_option maxRecDepth 100000 in
set_option maxHeartbeats 4000000 in
theorem get_no_key {N : Nat} {w : World} {p v : Value} {S : StC} {F : Foot} {o : OpC} (h : Mach N w p S F) (ho : OpR w v o) {c : Bk} (hc : S.bs (sk o.bucket) = some c) (hck : c (sk o.key) = none) :
    Calls Try.prog 49 #[p, v] w (DoneR N w p F (stat 404) S) := by
  have HM0 := Lib.hid h
  obtain ⟨g, B, U, D, FB, FU, FD, rfl, hm⟩ := h.at_
  have HM := Lib.hid hm; clear hm h
  obtain ⟨pv, dv, rfl, hpv, hdv, hwi, hwk, hwn, hwu, hwp, hs, hks, has⟩ := ho
  have HD := Lib.hid hdv; clear hdv
  have HPV := Lib.hid hpv; clear hpv hwp
  have hgl := block_lt HM.out.cells
  obtain ⟨b, hbl, hl, v0, hl', _⟩ := HM.out.object hs hks hc
  rw [hck] at hl'
  have hl1 : ∀ n x, (Instr.lookup 70 (.map (some B)) (.string o.bucket) false).run Try.prog (((w.alloc x).alloc zres).drewN n) = .ok (.map (some b)) (((w.alloc x).alloc zres).drewN n) := fun n x => hl _ (two_old (HM.out.mb.lower B HM.out.mb.own))
  have hl2 : ∀ n x, (Instr.lookup 86 (.map (some b)) (.string o.key) true).run Try.prog (((w.alloc x).alloc zres).drewN n) = .ok (.tuple #[v0, .bool false]) (((w.alloc x).alloc zres).drewN n) := fun n x => hl' _ (two_old hbl)
  clear hc hck hl hl'
  obtain ⟨g1, g2, g3⟩ := mach_cells HM.out.cells
  clear g2 g3
  go_enter Try.func49, Try.ntmps49
  go_wp2
  go_quiet (fail)
  clear hl1 hl2 g1
  go_wp2_with fail
  refine (status_any _ _).mono ?_
  rintro e w4 ⟨rfl, hb4⟩
  have HB4 := Lib.hid hb4; clear hb4
  have HE := Lib.hid ((HB4.out.block _ (by simp)).trans (two_new _ _ _).2)
  obtain ⟨n0, n1, n2, n3, n4, nf⟩ := cells5 HE.out
  go_wp2
  clear n0 n1 n2 n3 n4 nf
  refine post_set5 HE.out ?_
  intro w5 hf5 he6
  obtain ⟨p0, p1, p2, p3, p4, pf⟩ := cells5 he6
  exact bodyPost_ret (v := statV 404) (by simp [results, Try.results49, go_sem, p0, p1, p2, p3, p4]) rfl (done_stat (mach_b HM0.out (drewN_below _ _)) (frm_b (drewN_below _ _) F) (fun i hi => .inl hi) HM.out.lower HB4.out hf5)
set_option maxRecDepth 100000 in
set_option maxHeartbeats 4000000 in
theorem delete_no_bucket {N : Nat} {w : World} {p v : Value} {S : StC} {F : Foot} {o : OpC} (h : Mach N w p S F) (ho : OpR w v o) (hc : S.bs (sk o.bucket) = none) :
    Calls Try.prog 50 #[p, v] w (DoneR N w p F (stat 404) S) := by
  have HM0 := Lib.hid h
  obtain ⟨g, B, U, D, FB, FU, FD, rfl, hm⟩ := h.at_
  have HM := Lib.hid hm; clear hm h
  obtain ⟨pv, dv, rfl, hpv, hdv, hwi, hwk, hwn, hwu, hwp, hs, hks, has⟩ := ho
  have HD := Lib.hid hdv; clear hdv
  have HPV := Lib.hid hpv; clear hpv hwp
  have hgl := block_lt HM.out.cells
  have hl1 : ∀ n x, (Instr.lookup 70 (.map (some B)) (.string o.bucket) false).run Try.prog (((w.alloc x).alloc zres).drewN n) = .ok (.map none) (((w.alloc x).alloc zres).drewN n) := fun n x => HM.out.no_bucket hs hc (W := ((w.alloc x).alloc zres).drewN n) (two_old (HM.out.mb.lower B HM.out.mb.own))
  have hl2 := look_nilmap o.key
  clear hc
  obtain ⟨g1, g2, g3⟩ := mach_cells HM.out.cells
  clear g2 g3
  go_enter Try.func50, Try.ntmps50
  go_wp2
  go_quiet (fail)
  clear hl1 hl2 g1
  go_wp2_with fail
  refine (status_any _ _).mono ?_
  rintro e w4 ⟨rfl, hb4⟩
  have HB4 := Lib.hid hb4; clear hb4
  have HE := Lib.hid ((HB4.out.block _ (by simp)).trans (two_new _ _ _).2)
  obtain ⟨n0, n1, n2, n3, n4, nf⟩ := cells5 HE.out
  go_wp2
  clear n0 n1 n2 n3 n4 nf
  refine post_set5 HE.out ?_
  intro w5 hf5 he6
  obtain ⟨p0, p1, p2, p3, p4, pf⟩ := cells5 he6
  exact bodyPost_ret (v := statV 404) (by simp [results, Try.results50, go_sem, p0, p1, p2, p3, p4]) rfl (done_stat (mach_b HM0.out (drewN_below _ _)) (frm_b (drewN_below _ _) F) (fun i hi => .inl hi) HM.out.lower HB4.out hf5)
set_option maxRecDepth 100000 in
set_option maxHeartbeats 4000000 in
theorem delete_no_key {N : Nat} {w : World} {p v : Value} {S : StC} {F : Foot} {o : OpC} (h : Mach N w p S F) (ho : OpR w v o) {c : Bk} (hc : S.bs (sk o.bucket) = some c) (hck : c (sk o.key) = none) :
    Calls Try.prog 50 #[p, v] w (DoneR N w p F (stat 404) S) := by
  have HM0 := Lib.hid h
  obtain ⟨g, B, U, D, FB, FU, FD, rfl, hm⟩ := h.at_
  have HM := Lib.hid hm; clear hm h
  obtain ⟨pv, dv, rfl, hpv, hdv, hwi, hwk, hwn, hwu, hwp, hs, hks, has⟩ := ho
  have HD := Lib.hid hdv; clear hdv
  have HPV := Lib.hid hpv; clear hpv hwp
  have hgl := block_lt HM.out.cells
  obtain ⟨b, hbl, hl, v0, hl', _⟩ := HM.out.object hs hks hc
  rw [hck] at hl'
  have hl1 : ∀ n x, (Instr.lookup 70 (.map (some B)) (.string o.bucket) false).run Try.prog (((w.alloc x).alloc zres).drewN n) = .ok (.map (some b)) (((w.alloc x).alloc zres).drewN n) := fun n x => hl _ (two_old (HM.out.mb.lower B HM.out.mb.own))
  have hl2 : ∀ n x, (Instr.lookup 86 (.map (some b)) (.string o.key) true).run Try.prog (((w.alloc x).alloc zres).drewN n) = .ok (.tuple #[v0, .bool false]) (((w.alloc x).alloc zres).drewN n) := fun n x => hl' _ (two_old hbl)
  clear hc hck hl hl'
  obtain ⟨g1, g2, g3⟩ := mach_cells HM.out.cells
  clear g2 g3
  go_enter Try.func50, Try.ntmps50
  go_wp2
  go_quiet (fail)
  clear hl1 hl2 g1
  go_wp2_with fail
  refine (status_any _ _).mono ?_
  rintro e w4 ⟨rfl, hb4⟩
  have HB4 := Lib.hid hb4; clear hb4
  have HE := Lib.hid ((HB4.out.block _ (by simp)).trans (two_new _ _ _).2)
  obtain ⟨n0, n1, n2, n3, n4, nf⟩ := cells5 HE.out
  go_wp2
  clear n0 n1 n2 n3 n4 nf
  refine post_set5 HE.out ?_
  intro w5 hf5 he6
  obtain ⟨p0, p1, p2, p3, p4, pf⟩ := cells5 he6
  exact bodyPost_ret (v := statV 404) (by simp [results, Try.results50, go_sem, p0, p1, p2, p3, p4]) rfl (done_stat (mach_b HM0.out (drewN_below _ _)) (frm_b (drewN_below _ _) F) (fun i hi => .inl hi) HM.out.lower HB4.out hf5)
/-- The new world behind a clone: the machine, the result's cells. -/
theorem machat_two {N : Nat} {w : World} {g B U D : Nat} {S : StC} {FB FU FD F : Foot} (h : MachAt N w g B U D S FB FU FD F) (x : Obj) (n : Nat) : MachAt N (((w.alloc x).alloc zres).drewN n) g B U D S FB FU FD F :=
  h.two (drewN_below _ _)
set_option maxRecDepth 100000 in
set_option maxHeartbeats 4000000 in
theorem get_some {N : Nat} {w : World} {p v : Value} {S : StC} {F : Foot} {o : OpC} (h : Mach N w p S F) (ho : OpR w v o) {c : Bk} (hc : S.bs (sk o.bucket) = some c) {xs : List UInt8} (hck : c (sk o.key) = some xs) :
    Calls Try.prog 49 #[p, v] w (DoneR N w p F ⟨200, 0, [], false, xs⟩ S) := by
  have HM0 := Lib.hid h
  have hsm := h.small.obj _ _ _ _ hc hck
  obtain ⟨g, B, U, D, FB, FU, FD, rfl, hm⟩ := h.at_
  have HM := Lib.hid hm; clear hm h
  obtain ⟨pv, dv, rfl, hpv, hdv, hwi, hwk, hwn, hwu, hwp, hs, hks, has⟩ := ho
  have HD := Lib.hid hdv; clear hdv
  have HPV := Lib.hid hpv; clear hpv hwp
  have hgl := block_lt HM.out.cells
  obtain ⟨b, hbl, hl, v0, hl', hr0⟩ := HM.out.object hs hks hc
  rw [hck] at hl' hr0
  have HR := Lib.hid hr0; clear hr0
  have hl1 : ∀ n x, (Instr.lookup 70 (.map (some B)) (.string o.bucket) false).run Try.prog (((w.alloc x).alloc zres).drewN n) = .ok (.map (some b)) (((w.alloc x).alloc zres).drewN n) := fun n x => hl _ (two_old (HM.out.mb.lower B HM.out.mb.own))
  have hl2 : ∀ n x, (Instr.lookup 86 (.map (some b)) (.string o.key) true).run Try.prog (((w.alloc x).alloc zres).drewN n) = .ok (.tuple #[v0, .bool true]) (((w.alloc x).alloc zres).drewN n) := fun n x => hl' _ (two_old hbl)
  clear hc hck hl hl'
  obtain ⟨g1, g2, g3⟩ := mach_cells HM.out.cells
  clear g2 g3
  go_enter Try.func49, Try.ntmps49
  go_wp2
  go_quiet (fail)
  clear hl1 hl2 g1
  go_wp2_with fail
  refine (cloneB_any _ xs _ (Rd.below HR.out ((((Below.refl _ _).alloc (Nat.le_refl _) _).alloc (by simp) _).trans ((drewN_below _ _).mono (by simp; omega)))) (by omega)).mono ?_
  rintro e w4 ⟨⟨v4, F4, rfl, hr4, hi4, hlo4, hb4⟩⟩
  obtain ⟨A4, cap4, rfl, _, _, _⟩ := Rd.form hr4
  have HB4 := Lib.hid hb4; clear hb4
  have HR4 := Lib.hid hr4; clear hr4
  have HLO := Lib.hid hlo4; clear hlo4
  have HE := Lib.hid ((HB4.out.block (w.heap.size + 1) (by simp)).trans ((congrArg (fun h => h[w.heap.size + 1]?) (drewN_heap _ _)).trans (two_new _ _ _).2))
  obtain ⟨n0, n1, n2, n3, n4, nf⟩ := cells5 HE.out
  go_wp2
  clear n0 n1 n2 n3 n4 nf
  refine post_set5 HE.out ?_
  intro w5 hf5 he6
  obtain ⟨p0, p1, p2, p3, p4, pf⟩ := cells5 he6
  have hz4 := HB4.out.size
  exact bodyPost_ret (v := .agg #[.int .i64 200, .int .u64 0, .slice none 0 0, .bool false, .slice A4 xs.length cap4]) (by simp [results, Try.results49, go_sem, p0, p1, p2, p3, p4]) rfl
    (done_gen (mach_b HM0.out (drewN_below _ _)) (frm_b (drewN_below _ _) F) (fun i hi => .inl hi) HM.out.lower HB4.out ⟨_, _, rfl, Rd.nil' (by simp [maxLen]) (fun _ => rfl), (fun g off n cap e hn => by cases e), HR4.out, hi4, (fun i hi => (HLO.out i hi).2)⟩ (fun i hi => (HLO.out i hi).1) hf5 (by simp))
/-- delete, as one step of a region that draws its order. -/
theorem step_delete {P : Program} {ops : Array Oper} {o : Oper} {a : Act} {w w3 : World} {K : Act → World → Prop} {Q : Exit → Act → World → Prop} {E : Prop} (hg : o.guard = none) (m x : Operand) (t k : TypeId)
    (hop : o.op = Op.call { callee := Callee.builtin Builtin.delete, args := #[m, x], argTypes := #[t, k] }) {mv xv : Value} (hm : a.eval m = mv) (hx : a.eval x = xv) (hrun : (Builtin.delete_ #[t, k] o.type #[mv, xv]).run P w = .ok (.tuple #[]) w3) (hK : K (a.put o.dst (.tuple #[])) w3) :
    if Region.wanted o (yielded ops a.tmps) = true then Oper.wp P o a w K Q else E := by
  have hw : Region.wanted o (yielded ops a.tmps) = true := by simp [Region.wanted, hg]
  rw [if_pos hw]
  unfold Oper.wp
  simp [execOp, hop, resolve, invoke, builtin, hm, hx, hrun, Result.andThen]
  exact hK
set_option maxRecDepth 100000 in
set_option maxHeartbeats 4000000 in
theorem delete_some {N : Nat} {w : World} {p v : Value} {S : StC} {F : Foot} {o : OpC} (h : Mach N w p S F) (ho : OpR w v o) {c : Bk} (hc : S.bs (sk o.bucket) = some c) {xs : List UInt8} (hck : c (sk o.key) = some xs) :
    Calls Try.prog 50 #[p, v] w (DoneR N w p F (stat 200) { S with bs := upd S.bs (sk o.bucket) (some (upd c (sk o.key) none)) }) := by
  obtain ⟨g, B, U, D, FB, FU, FD, rfl, hm⟩ := h.at_
  have HM := Lib.hid hm; clear hm h
  obtain ⟨pv, dv, rfl, hpv, hdv, hwi, hwk, hwn, hwu, hwp, hs, hks, has⟩ := ho
  have HD := Lib.hid hdv; clear hdv
  have HPV := Lib.hid hpv; clear hpv hwp
  have hgl := block_lt HM.out.cells
  have HC := Lib.hid hc
  obtain ⟨b, hbl, hl, v0, hl', hr0⟩ := HM.out.object hs hks hc
  rw [hck] at hl'
  clear hr0
  have hl1 : ∀ n x, (Instr.lookup 70 (.map (some B)) (.string o.bucket) false).run Try.prog (((w.alloc x).alloc zres).drewN n) = .ok (.map (some b)) (((w.alloc x).alloc zres).drewN n) := fun n x => hl _ (two_old (HM.out.mb.lower B HM.out.mb.own))
  have hl2 : ∀ n x, (Instr.lookup 86 (.map (some b)) (.string o.key) true).run Try.prog (((w.alloc x).alloc zres).drewN n) = .ok (.tuple #[v0, .bool true]) (((w.alloc x).alloc zres).drewN n) := fun n x => hl' _ (two_old hbl)
  clear hc hck hl hl'
  obtain ⟨g1, g2, g3⟩ := mach_cells HM.out.cells
  clear g2 g3
  go_enter Try.func50, Try.ntmps50
  go_wp2
  go_quiet (fail)
  clear hl1 hl2 g1
  have HB1 := Lib.hid (drewN_below ((w.alloc (.cells #[.int .u64 o.id, .int .i64 o.kind, .string o.bucket, .string o.key, .string o.after, .int .i64 o.n, .int .u64 o.up, pv, dv] 26)).alloc zres) nq)
  generalize (((w.alloc (.cells #[.int .u64 o.id, .int .i64 o.kind, .string o.bucket, .string o.key, .string o.after, .int .i64 o.n, .int .u64 o.up, pv, dv] 26)).alloc zres).drewN nq) = w1 at *
  have HM1 := Lib.hid (HM.out.two HB1.out)
  have HO1 := Lib.hid ((HB1.out.block w.heap.size (by simp; omega)).trans (two_new _ _ _).1)
  have hz1 : w.heap.size + 2 ≤ w1.heap.size := by have := HB1.out.size; simp at this; omega
  have hz2 : w.heap.size < w1.heap.size := by omega
  have hz3 : g < w1.heap.size := by omega
  obtain ⟨o0, o1, o2, o3, o4, o5, o6, o7, o8, of⟩ := cells9 HO1.out
  clear o0 o1 o4 o5 o6 o7 o8 of
  obtain ⟨g1, g2, g3⟩ := mach_cells HM1.out.cells
  clear g2 g3
  obtain ⟨b', w3, hl, hru, F3, hM3, hF3, hf3, hct⟩ := (machat_drew HM1.out).delete hs hks HC.out 0
  have hl1 := hl w1.drew rfl
  clear hl
  have HM3 := Lib.hid hM3; clear hM3
  have HF3 : Hid (Frm F w1 w3) := ⟨hf3.os, hf3.tape, hf3.output, hf3.size, hf3.block⟩
  clear hf3
  go_wp2
  have hct' : ∀ a, w3.cell? a = w1.cell? a := hct
  go_region_held3 (fun w' => w'.cell? ⟨g, 0, none⟩ = some (.map (some B)) ∧ w'.cell? ⟨w.heap.size, 2, none⟩ = some (.string o.bucket) ∧ w'.cell? ⟨w.heap.size, 3, none⟩ = some (.string o.key)) (first | go_keep | (rw [hct', hct', hct']; exact ⟨g1, o2, o3⟩)) ((refine step_delete (by rfl) _ _ _ _ (by rfl) (by rfl) (by rfl) hru ?_))
  clear hl1 hru o2 o3 g1 hct hct'
  go_wp2_with fail
  refine (status_any _ _).mono ?_
  rintro e w4 ⟨rfl, hb4⟩
  have HB4 := Lib.hid hb4; clear hb4
  have HE := Lib.hid (zres_keep HM.out.lower HB1.out HF3.out HB4.out)
  obtain ⟨n0, n1, n2, n3, n4, nf⟩ := cells5 HE.out
  go_wp2
  clear n0 n1 n2 n3 n4 nf
  refine post_set5 HE.out ?_
  intro w5 hf5 he6
  obtain ⟨p0, p1, p2, p3, p4, pf⟩ := cells5 he6
  exact bodyPost_ret (v := statV 200) (by simp [results, Try.results50, go_sem, p0, p1, p2, p3, p4]) rfl (done_two HM.out.lower HB1.out HM3.out (fun i hi => .inl (hF3 i hi)) HF3.out HB4.out hf5)
set_option maxRecDepth 100000 in
set_option maxHeartbeats 4000000 in
theorem part_none {N : Nat} {w : World} {p v : Value} {S : StC} {F : Foot} {o : OpC} (h : Mach N w p S F) (ho : OpR w v o) (hc : S.us (uk o.up) = none) :
    Calls Try.prog 53 #[p, v] w (DoneR N w p F (stat 404) S) := by
  have HM0 := Lib.hid h
  obtain ⟨g, B, U, D, FB, FU, FD, rfl, hm⟩ := h.at_
  have HM := Lib.hid hm; clear hm h
  obtain ⟨pv, dv, rfl, hpv, hdv, hwi, hwk, hwn, hwu, hwp, hs, hks, has⟩ := ho
  have HD := Lib.hid hdv; clear hdv
  have HPV := Lib.hid hpv; clear hpv hwp
  have hgl := block_lt HM.out.cells
  have hl1 : ∀ n x, (Instr.lookup 71 (.map (some U)) (.int .u64 o.up) false).run Try.prog (((w.alloc x).alloc zres).drewN n) = .ok (.pointer none) (((w.alloc x).alloc zres).drewN n) := fun n x => HM.out.no_upload hwu hc (W := ((w.alloc x).alloc zres).drewN n) (two_old (HM.out.mu.lower U HM.out.mu.own))
  clear hc
  obtain ⟨g1, g2, g3⟩ := mach_cells HM.out.cells
  clear g1 g3
  go_enter Try.func53, Try.ntmps53
  go_wp2
  go_quiet (fail)
  clear hl1 g2
  go_wp2_with fail
  refine (status_any _ _).mono ?_
  rintro e w4 ⟨rfl, hb4⟩
  have HB4 := Lib.hid hb4; clear hb4
  have HE := Lib.hid ((HB4.out.block _ (by simp)).trans (two_new _ _ _).2)
  obtain ⟨n0, n1, n2, n3, n4, nf⟩ := cells5 HE.out
  go_wp2
  clear n0 n1 n2 n3 n4 nf
  refine post_set5 HE.out ?_
  intro w5 hf5 he6
  obtain ⟨p0, p1, p2, p3, p4, pf⟩ := cells5 he6
  exact bodyPost_ret (v := statV 404) (by simp [results, Try.results53, go_sem, p0, p1, p2, p3, p4]) rfl (done_stat (mach_b HM0.out (drewN_below _ _)) (frm_b (drewN_below _ _) F) (fun i hi => .inl hi) HM.out.lower HB4.out hf5)
set_option maxRecDepth 100000 in
set_option maxHeartbeats 4000000 in
theorem abort_none {N : Nat} {w : World} {p v : Value} {S : StC} {F : Foot} {o : OpC} (h : Mach N w p S F) (ho : OpR w v o) (hc : S.us (uk o.up) = none) :
    Calls Try.prog 55 #[p, v] w (DoneR N w p F (stat 404) S) := by
  have HM0 := Lib.hid h
  obtain ⟨g, B, U, D, FB, FU, FD, rfl, hm⟩ := h.at_
  have HM := Lib.hid hm; clear hm h
  obtain ⟨pv, dv, rfl, hpv, hdv, hwi, hwk, hwn, hwu, hwp, hs, hks, has⟩ := ho
  have HD := Lib.hid hdv; clear hdv
  have HPV := Lib.hid hpv; clear hpv hwp
  have hgl := block_lt HM.out.cells
  have hl1 : ∀ n x, (Instr.lookup 71 (.map (some U)) (.int .u64 o.up) false).run Try.prog (((w.alloc x).alloc zres).drewN n) = .ok (.pointer none) (((w.alloc x).alloc zres).drewN n) := fun n x => HM.out.no_upload hwu hc (W := ((w.alloc x).alloc zres).drewN n) (two_old (HM.out.mu.lower U HM.out.mu.own))
  clear hc
  obtain ⟨g1, g2, g3⟩ := mach_cells HM.out.cells
  clear g1 g3
  go_enter Try.func55, Try.ntmps55
  go_wp2
  go_quiet (fail)
  clear hl1 g2
  go_wp2_with fail
  refine (status_any _ _).mono ?_
  rintro e w4 ⟨rfl, hb4⟩
  have HB4 := Lib.hid hb4; clear hb4
  have HE := Lib.hid ((HB4.out.block _ (by simp)).trans (two_new _ _ _).2)
  obtain ⟨n0, n1, n2, n3, n4, nf⟩ := cells5 HE.out
  go_wp2
  clear n0 n1 n2 n3 n4 nf
  refine post_set5 HE.out ?_
  intro w5 hf5 he6
  obtain ⟨p0, p1, p2, p3, p4, pf⟩ := cells5 he6
  exact bodyPost_ret (v := statV 404) (by simp [results, Try.results55, go_sem, p0, p1, p2, p3, p4]) rfl (done_stat (mach_b HM0.out (drewN_below _ _)) (frm_b (drewN_below _ _) F) (fun i hi => .inl hi) HM.out.lower HB4.out hf5)
set_option maxRecDepth 100000 in
set_option maxHeartbeats 4000000 in
theorem complete_none {N : Nat} {w : World} {p v : Value} {S : StC} {F : Foot} {o : OpC} (h : Mach N w p S F) (ho : OpR w v o) (hc : S.us (uk o.up) = none) :
    Calls Try.prog 54 #[p, v] w (DoneR N w p F (stat 404) S) := by
  have HM0 := Lib.hid h
  obtain ⟨g, B, U, D, FB, FU, FD, rfl, hm⟩ := h.at_
  have HM := Lib.hid hm; clear hm h
  obtain ⟨pv, dv, rfl, hpv, hdv, hwi, hwk, hwn, hwu, hwp, hs, hks, has⟩ := ho
  have HD := Lib.hid hdv; clear hdv
  have HPV := Lib.hid hpv; clear hpv hwp
  have hgl := block_lt HM.out.cells
  have hl1 : ∀ n x, (Instr.lookup 71 (.map (some U)) (.int .u64 o.up) false).run Try.prog (((w.alloc x).alloc zres).drewN n) = .ok (.pointer none) (((w.alloc x).alloc zres).drewN n) := fun n x => HM.out.no_upload hwu hc (W := ((w.alloc x).alloc zres).drewN n) (two_old (HM.out.mu.lower U HM.out.mu.own))
  clear hc
  obtain ⟨g1, g2, g3⟩ := mach_cells HM.out.cells
  clear g1 g3
  go_enter Try.func54, Try.ntmps54
  go_wp2
  go_quiet (fail)
  clear hl1 g2
  go_wp2_with fail
  refine (status_any _ _).mono ?_
  rintro e w4 ⟨rfl, hb4⟩
  have HB4 := Lib.hid hb4; clear hb4
  have HE := Lib.hid ((HB4.out.block _ (by simp)).trans (two_new _ _ _).2)
  obtain ⟨n0, n1, n2, n3, n4, nf⟩ := cells5 HE.out
  go_wp2
  clear n0 n1 n2 n3 n4 nf
  refine post_set5 HE.out ?_
  intro w5 hf5 he6
  obtain ⟨p0, p1, p2, p3, p4, pf⟩ := cells5 he6
  exact bodyPost_ret (v := statV 404) (by simp [results, Try.results54, go_sem, p0, p1, p2, p3, p4]) rfl (done_stat (mach_b HM0.out (drewN_below _ _)) (frm_b (drewN_below _ _) F) (fun i hi => .inl hi) HM.out.lower HB4.out hf5)
set_option maxRecDepth 100000 in
set_option maxHeartbeats 4000000 in
theorem abort_some {N : Nat} {w : World} {p v : Value} {S : StC} {F : Foot} {o : OpC} (h : Mach N w p S F) (ho : OpR w v o) {u : UplC} (hc : S.us (uk o.up) = some u) :
    Calls Try.prog 55 #[p, v] w (DoneR N w p F (stat 200) { S with us := upd S.us (uk o.up) none }) := by
  obtain ⟨g, B, U, D, FB, FU, FD, rfl, hm⟩ := h.at_
  have HM := Lib.hid hm; clear hm h
  obtain ⟨pv, dv, rfl, hpv, hdv, hwi, hwk, hwn, hwu, hwp, hs, hks, has⟩ := ho
  have HD := Lib.hid hdv; clear hdv
  have HPV := Lib.hid hpv; clear hpv hwp
  have hgl := block_lt HM.out.cells
  obtain ⟨ug, mb, Fp, hl, hug, hmb, hub, huk, hfu, hfp, _⟩ := HM.out.upload hwu hc
  have hl1 : ∀ n x, (Instr.lookup 71 (.map (some U)) (.int .u64 o.up) false).run Try.prog (((w.alloc x).alloc zres).drewN n) = .ok (.pointer (some ⟨ug, 0, none⟩)) (((w.alloc x).alloc zres).drewN n) := fun n x => hl _ (two_old (HM.out.mu.lower U HM.out.mu.own))
  obtain ⟨g1, g2, g3⟩ := mach_cells HM.out.cells
  clear g1 g3 hl hug hmb hfu hfp hc
  go_enter Try.func55, Try.ntmps55
  go_wp2
  go_quiet (fail)
  clear hl1 g2
  have HB1 := Lib.hid (drewN_below ((w.alloc (.cells #[.int .u64 o.id, .int .i64 o.kind, .string o.bucket, .string o.key, .string o.after, .int .i64 o.n, .int .u64 o.up, pv, dv] 26)).alloc zres) nq)
  generalize (((w.alloc (.cells #[.int .u64 o.id, .int .i64 o.kind, .string o.bucket, .string o.key, .string o.after, .int .i64 o.n, .int .u64 o.up, pv, dv] 26)).alloc zres).drewN nq) = w1 at *
  have HM1 := Lib.hid (HM.out.two HB1.out)
  have HO1 := Lib.hid ((HB1.out.block w.heap.size (by simp; omega)).trans (two_new _ _ _).1)
  have hz1 : w.heap.size + 2 ≤ w1.heap.size := by have := HB1.out.size; simp at this; omega
  have hz2 : w.heap.size < w1.heap.size := by omega
  have hz3 : g < w1.heap.size := by omega
  obtain ⟨o0, o1, o2, o3, o4, o5, o6, o7, o8, of⟩ := cells9 HO1.out
  clear o0 o1 o2 o3 o4 o5 o7 o8 of
  obtain ⟨g1, g2, g3⟩ := mach_cells HM1.out.cells
  clear g1 g3
  obtain ⟨w3, hru, F3, hM3, hF3, hf3, hct⟩ := (machat_drew HM1.out).abort hwu 0
  have HM3 := Lib.hid (hM3.mono (Nat.le_succ N)); clear hM3
  have HF3 : Hid (Frm F w1 w3) := ⟨hf3.os, hf3.tape, hf3.output, hf3.size, hf3.block⟩
  clear hf3
  have hct' : ∀ a, w3.cell? a = w1.cell? a := hct
  go_wp2
  go_region_held3 (fun w' => w'.cell? ⟨g, 1, none⟩ = some (.map (some U)) ∧ w'.cell? ⟨w.heap.size, 6, none⟩ = some (.int .u64 o.up)) (first | go_keep | (rw [hct', hct']; exact ⟨g2, o6⟩)) ((refine step_delete (by rfl) _ _ _ _ (by rfl) (by rfl) (by rfl) hru ?_))
  clear hru o6 g2 hct hct'
  go_wp2_with fail
  refine (status_any _ _).mono ?_
  rintro e w4 ⟨rfl, hb4⟩
  have HB4 := Lib.hid hb4; clear hb4
  have HE := Lib.hid (zres_keep HM.out.lower HB1.out HF3.out HB4.out)
  obtain ⟨n0, n1, n2, n3, n4, nf⟩ := cells5 HE.out
  go_wp2
  clear n0 n1 n2 n3 n4 nf
  refine post_set5 HE.out ?_
  intro w5 hf5 he6
  obtain ⟨p0, p1, p2, p3, p4, pf⟩ := cells5 he6
  exact bodyPost_ret (v := statV 200) (by simp [results, Try.results55, go_sem, p0, p1, p2, p3, p4]) rfl (done_two HM.out.lower HB1.out HM3.out (fun i hi => .inl (hF3 i hi)) HF3.out HB4.out hf5)
/-- Two look-ups of one upload. -/
theorem upl_same {r : Sem Value} {W : World} {a b : Nat} (h1 : r.run Try.prog W = .ok (.pointer (some ⟨a, 0, none⟩)) W) (h2 : r.run Try.prog W = .ok (.pointer (some ⟨b, 0, none⟩)) W) : a = b := by
  rw [h1] at h2
  injection h2 with h2
  injection h2 with h2
  injection h2 with h2
  injection h2
theorem cells3 {w : World} {g : Nat} {c0 c1 c2 : Value} {T : TypeId} (h : w.heap[g]? = some (.cells #[c0, c1, c2] T)) : w.cell? ⟨g, 0, none⟩ = some c0 ∧ w.cell? ⟨g, 1, none⟩ = some c1 ∧ w.cell? ⟨g, 2, none⟩ = some c2 := by
  refine ⟨?_, ?_, ?_⟩ <;> simp [World.cell?, h]
set_option maxRecDepth 100000 in
set_option maxHeartbeats 4000000 in
theorem part_some {N : Nat} {w : World} {p v : Value} {S : StC} {F : Foot} {o : OpC} (h : Mach N w p S F) (ho : OpR w v o) {u : UplC} (hc : S.us (uk o.up) = some u) (hN : N < maxLen) (hx : o.data.length ≤ 16777216) :
    Calls Try.prog 53 #[p, v] w (DoneR N w p F (stat 200) { S with us := upd S.us (uk o.up) (some { u with parts := upd u.parts (ik o.n) (some o.data) }) }) := by
  obtain ⟨g, B, U, D, FB, FU, FD, rfl, hm⟩ := h.at_
  have HM := Lib.hid hm; clear hm h
  obtain ⟨pv, dv, rfl, hpv, hdv, hwi, hwk, hwn, hwu, hwp, hs, hks, has⟩ := ho
  have HD := Lib.hid hdv; clear hdv
  have HPV := Lib.hid hpv; clear hpv hwp
  have hgl := block_lt HM.out.cells
  obtain ⟨ug, mb, Fp, hl, hug, hmb, hub, huk, hfu, hfp, _⟩ := HM.out.upload hwu hc
  have hl1 : ∀ n x, (Instr.lookup 71 (.map (some U)) (.int .u64 o.up) false).run Try.prog (((w.alloc x).alloc zres).drewN n) = .ok (.pointer (some ⟨ug, 0, none⟩)) (((w.alloc x).alloc zres).drewN n) := fun n x => hl _ (two_old (HM.out.mu.lower U HM.out.mu.own))
  obtain ⟨g1, g2, g3⟩ := mach_cells HM.out.cells
  have HC := Lib.hid hc
  have HLL := Lib.hid hl
  clear g1 g3 hl hug hmb hfu hfp hc
  go_enter Try.func53, Try.ntmps53
  go_wp2
  go_quiet (fail)
  clear hl1 g2
  have HB1 := Lib.hid (drewN_below ((w.alloc (.cells #[.int .u64 o.id, .int .i64 o.kind, .string o.bucket, .string o.key, .string o.after, .int .i64 o.n, .int .u64 o.up, pv, dv] 26)).alloc zres) nq)
  generalize (((w.alloc (.cells #[.int .u64 o.id, .int .i64 o.kind, .string o.bucket, .string o.key, .string o.after, .int .i64 o.n, .int .u64 o.up, pv, dv] 26)).alloc zres).drewN nq) = w1 at *
  have HM1 := Lib.hid (HM.out.two HB1.out)
  have HO1 := Lib.hid ((HB1.out.block w.heap.size (by simp; omega)).trans (two_new _ _ _).1)
  have hz1 : w.heap.size + 2 ≤ w1.heap.size := by have := HB1.out.size; simp at this; omega
  have hz2 : w.heap.size < w1.heap.size := by omega
  have hz3 : g < w1.heap.size := by omega
  obtain ⟨o0, o1, o2, o3, o4, o5, o6, o7, o8, of⟩ := cells9 HO1.out
  clear o0 o1 o2 o3 o4 o6 o7 of
  obtain ⟨ug', mb', hl', hug', hFu', hput⟩ := HM1.out.part hwu hwn hN HC.out
  obtain rfl : ug = ug' := upl_same (HLL.out w1 (by rw [HB1.out.block U (by have := HM.out.mu.lower U HM.out.mu.own; simp; omega)]; exact two_old (n := 0) (HM.out.mu.lower U HM.out.mu.own))) (hl' w1 rfl)
  have HP := Lib.hid hput; clear hput hl'
  obtain ⟨u0, u1, u2⟩ := cells3 hug'
  have hz4 : ug < w1.heap.size := block_lt hug'
  clear u0 u1 hug'
  have HD1 := Lib.hid (Rd.below HD.out (((((Below.refl _ _).alloc (Nat.le_refl _) (.cells #[.int .u64 o.id, .int .i64 o.kind, .string o.bucket, .string o.key, .string o.after, .int .i64 o.n, .int .u64 o.up, pv, dv] 26)).alloc (by simp) zres)).trans (HB1.out.mono (by simp; omega))))
  go_wp2
  go_region_held3 (fun w' => w'.cell? ⟨ug, 2, none⟩ = some (.map (some mb')) ∧ w'.cell? ⟨w.heap.size, 5, none⟩ = some (.int .i64 o.n) ∧ w'.cell? ⟨w.heap.size, 8, none⟩ = some dv) (first | go_keep | exact ⟨e0, e5, e8⟩ | (rw [hct, hct, hct]; exact ⟨e0, e5, e8⟩))
    (first
      | (go_at_call 45; refine (cloneB_any _ o.data _ (Rd.below HD1.out (Below.refl _ _).drew) (by omega)).mono ?_; rintro e w2 ⟨⟨v2, F2, rfl, hr2, hi2, hlo2, hb2⟩⟩; obtain ⟨hcc, hhe, w3, hru, F3, HM3, HF3, hct⟩ := put_mid (HP.out w2) hr2 hi2 hlo2 hb2 hx; have e0 := hcc _ _ _ u2; have e5 := hcc _ _ _ o5; have e8 := hcc _ _ _ o8; clear hcc hhe hr2 hi2 hlo2 hb2)
      | fail)
  clear hru hct e0 e5 e8 o5 o8 u2
  go_wp2_with fail
  refine (status_any _ _).mono ?_
  rintro e w4 ⟨rfl, hb4⟩
  have HB4 := Lib.hid hb4; clear hb4
  have HE := Lib.hid (zres_keep HM.out.lower HB1.out HF3.out.2 HB4.out)
  obtain ⟨n0, n1, n2, n3, n4, nf⟩ := cells5 HE.out
  go_wp2
  clear n0 n1 n2 n3 n4 nf
  refine post_set5 HE.out ?_
  intro w5 hf5 he6
  obtain ⟨p0, p1, p2, p3, p4, pf⟩ := cells5 he6
  exact bodyPost_ret (v := statV 200) (by simp [results, Try.results53, go_sem, p0, p1, p2, p3, p4]) rfl (done_two HM.out.lower HB1.out HM3.out HF3.out.1 HF3.out.2 HB4.out hf5)
end Go.Proofs.Ytkbmecjpjphngaa
