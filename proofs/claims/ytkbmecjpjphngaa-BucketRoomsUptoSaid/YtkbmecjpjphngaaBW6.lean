/-
  complete: the loop over the parts that are named; the object laid; the upload dropped.
-/
import Derived.Test.YtkbmecjpjphngaaBW5
import Derived.Test.YtkbmecjpjphngaaBCat
set_option linter.unusedVariables false
set_option linter.unusedSimpArgs false
namespace Go.Proofs.Ytkbmecjpjphngaa
open Go.RowKit Go.Maps
attribute [local go_sem ↓] Go.wp_at_zero Go.wp_at_succ

/-- What complete does. -/
def CompleteR (N : Nat) (w : World) (p : Value) (F : Foot) (S : StC) (o : OpC) (u : UplC) (c : Bk) (e : Ending) (w' : World) : Prop :=
  (cats u.parts o.parts = none → DoneR N w p F (stat 400) S e w') ∧
  ∀ acc, cats u.parts o.parts = some acc → DoneR N w p F (stat 200) { bs := upd S.bs (sk u.bucket) (some (upd c (sk u.key) (some acc))), us := upd S.us (uk o.up) none, ds := S.ds } e w'

set_option maxRecDepth 100000 in
set_option maxHeartbeats 8000000 in
theorem complete_some {N : Nat} {w : World} {p v : Value} {S : StC} {F : Foot} {o : OpC} (h : Mach N w p S F) (ho : OpR w v o) {u : UplC} (hc : S.us (uk o.up) = some u) {c : Bk} (hb : S.bs (sk u.bucket) = some c) (hN : N < maxLen) (hlen : o.parts.length ≤ 10000) :
    Calls Try.prog 54 #[p, v] w (CompleteR N w p F S o u c) := by
  have hsm : ∀ k x, u.parts k = some x → x.length ≤ 16777216 := (h.small.part _ u · · hc)
  have HSM := Lib.hid hsm; clear hsm
  obtain ⟨g, B, U, D, FB, FU, FD, rfl, hm⟩ := h.at_
  have HM := Lib.hid hm; clear hm h
  obtain ⟨pv, dv, rfl, hpv, hdv, hwi, hwk, hwn, hwu, hwp, hs, hks, has⟩ := ho
  have hpv' := hpv
  obtain ⟨A, cap, rfl, hcap, hcm, hA⟩ := Rd.form hpv
  have HPV := Lib.hid hpv'; clear hpv hpv' hdv hA
  have HWP := Lib.hid hwp; clear hwp
  have HB := Lib.hid hb; clear hb
  have hgl := block_lt HM.out.cells
  obtain ⟨ug, mb, Fp, hl, hug, hmb, hub, huk, hfu, hfp, _⟩ := HM.out.upload hwu hc
  have hl1 : ∀ n x, (Instr.lookup 71 (.map (some U)) (.int .u64 o.up) false).run Try.prog (((w.alloc x).alloc zres).drewN n) = .ok (.pointer (some ⟨ug, 0, none⟩)) (((w.alloc x).alloc zres).drewN n) := fun n x => hl _ (two_old (HM.out.mu.lower U HM.out.mu.own))
  have HC := Lib.hid hc; clear hc hl
  have HUG := Lib.hid hug
  have HMB := Lib.hid hmb
  have hz4 := block_lt hug
  clear hug hmb hfu hfp
  obtain ⟨g1, g2, g3⟩ := mach_cells HM.out.cells
  clear g1 g3
  go_enter Try.func54, Try.ntmps54
  go_wp2
  go_quiet (fail)
  clear hl1 g2
  have HB1 := Lib.hid (drewN_below ((w.alloc (.cells #[.int .u64 o.id, .int .i64 o.kind, .string o.bucket, .string o.key, .string o.after, .int .i64 o.n, .int .u64 o.up, .slice A o.parts.length cap, dv] 26)).alloc zres) nq)
  generalize (((w.alloc (.cells #[.int .u64 o.id, .int .i64 o.kind, .string o.bucket, .string o.key, .string o.after, .int .i64 o.n, .int .u64 o.up, .slice A o.parts.length cap, dv] 26)).alloc zres).drewN nq) = w1 at *
  have HM1 := Lib.hid (HM.out.two HB1.out)
  have HO1 := Lib.hid ((HB1.out.block w.heap.size (by simp; omega)).trans (two_new _ _ _).1)
  have hz1 : w.heap.size + 2 ≤ w1.heap.size := by have := HB1.out.size; simp at this; omega
  have hz2 : w.heap.size < w1.heap.size := by omega
  have hz3 : g < w1.heap.size := by omega
  have hz5 : ug < w1.heap.size := by omega
  have HUG1 := Lib.hid (old_b HB1.out HUG.out)
  have hold : ∀ i, i < w.heap.size → w1.heap[i]? = w.heap[i]? := fun i hi => by rw [HB1.out.block i (by simp; omega)]; exact two_old (n := 0) hi
  have HOLD := Lib.hid hold; clear hold
  have HMB1 := Lib.hid (HMB.out.framed bytesR (w' := w1) (fun i hi => HOLD.out i (HMB.out.lower i hi)))
  have HPV1 := Lib.hid (HPV.out.kept (w' := w1) (fun a u h => (World.cell?_of_block (w := w) (HOLD.out a.block (World.block_lt_of_cell? _ _ h))).trans h))
  obtain ⟨o0, o1, o2, o3, o4, o5, o6, o7, o8, of⟩ := cells9 HO1.out
  clear o0 o1 o2 o3 o4 o5 o6 o8 of
  go_wp2
  go_loopw [6, 24] (fun a i wr => ∃ (k : Nat) (acc : List UInt8), k ≤ o.parts.length ∧ i = .int .i64 k ∧ cats u.parts (o.parts.take k) = some acc ∧ OwnB 5 wr w1.heap.size a acc ∧ Below w1.heap.size w1 wr) (fun _ i _ => o.parts.length - (intOf i).toNat)
  case atStart => exact ⟨0, [], by omega, rfl, rfl, OwnB.nil _ _, Below.refl _ _⟩
  case round =>
    obtain ⟨k, acc, hk, rfl, hacc, hown, hbel⟩ := hrel
    have HA := Lib.hid hacc; clear hacc
    have HO := Lib.hid hown; clear hown
    have HBL := Lib.hid hbel; clear hbel
    have hzr := HBL.out.size
    clear o7
    by_cases hlt : k < o.parts.length
    · obtain ⟨g', off', cap', e, _, _, hgl', hcs⟩ := Rd.full HPV1.out (by omega) (by omega)
      cases e
      have hck : wr.cell? ⟨g', off' + k, none⟩ = some (.int .i64 o.parts[k]) := (HBL.out.cell (p := ⟨g', off' + k, none⟩) hgl').trans (hcs.at_ k _ (by simp [hlt]))
      have HWN := HWP.out o.parts[k] (List.getElem_mem hlt)
      obtain ⟨v0, hlk, hrv⟩ := part_look HMB1.out HWN
      have HRV := Lib.hid hrv; clear hrv
      have hlk1 := hlk wr (HBL.out.block mb (by have := HMB1.out.lower mb HMB1.out.own; omega))
      clear hlk hcs
      obtain ⟨u0, u1, u2⟩ := cells3 ((HBL.out.block ug hz5).trans HUG1.out)
      clear u0 u1
      have HT := Lib.hid (take_snoc o.parts k hlt)
      have HTS := Lib.hid (take_split o.parts k hlt)
      cases hpk : u.parts (ik o.parts[k]) with
      | none =>
        rw [hpk] at hlk1
        have HPK := Lib.hid hpk; clear hpk
        have HN0 : Hid (cats u.parts o.parts = none) := by
          have := cats_none u.parts (o.parts.take k) (o.parts.drop (k + 1)) _ HPK.out
          rw [HTS.out] at this
          exact this
        generalize o.parts[k] = nk at *
        have HEr := Lib.hid ((HBL.out.block (w.heap.size + 1) (by omega)).trans ((HB1.out.block (w.heap.size + 1) (by simp)).trans (two_new _ _ _).2))
        go_wp2_with fail
        refine (status_any _ _).mono ?_
        rintro e w4 ⟨rfl, hb4⟩
        have HB4 := Lib.hid hb4; clear hb4
        have HE := Lib.hid ((HB4.out.block _ (by omega)).trans HEr.out)
        obtain ⟨n0, n1, n2, n3, n4, nf⟩ := cells5 HE.out
        go_wp2
        clear n0 n1 n2 n3 n4 nf
        refine post_set5 HE.out ?_
        intro w5 hf5 he6
        obtain ⟨p0, p1, p2, p3, p4, pf⟩ := cells5 he6
        refine bodyPost_ret (v := statV 400) (by simp [results, Try.results54, go_sem, p0, p1, p2, p3, p4]) rfl ?_
        exact ⟨fun _ => done_stat ((HM1.out.framed (w' := wr) (fun i hi => HBL.out.block i (HM1.out.lower i hi))).mach.mono (Nat.le_succ N)) ((frm_b HB1.out F).trans (F1 := fun _ => False) (Frm.of_below HBL.out _) (fun i e => e.elim)) (fun i hi => .inl hi) HM.out.lower HB4.out hf5, fun acc e => by rw [HN0.out] at e; cases e⟩
      | some x =>
        rw [hpk] at hlk1 HRV
        have HPK := Lib.hid hpk; clear hpk
        have hxl := HSM.out _ x HPK.out
        have hal := cats_len HSM.out _ HA.out
        rw [List.length_take, Nat.min_eq_left hk] at hal
        have hal2 : acc.length ≤ 167772160000 := by omega
        clear hal
        have HN1 : Hid (cats u.parts (o.parts.take (k + 1)) = some (acc ++ x)) := by
          show _ = _
          rw [HT.out]
          exact cats_snoc u.parts _ _ HA.out HPK.out
        have HRX : Hid (RdB wr v0 x) := (RdB.below HRV.out HBL.out)
        obtain ⟨A0, cap0, rfl, _, _, _⟩ := Rd.form HRX.out
        generalize o.parts[k] = nk at *
        go_wp2_with (first
          | (at_builtin; refine wpList_app w1.heap.size tB HO.out (rd_src Try.underlying24 HRX.out (by omega) (bvs_one _)) hzr (by unfold maxLen; omega) (by omega) rfl rfl rfl rfl ?_)
          | fail)
        intro v2 w2 ho2 hg2
        have hb2 := below_grown HBL.out HO.out hg2 hzr
        have HO2 := Lib.hid (OwnB.of (xs := acc ++ x) ho2 (bvs_append _ _).symm)
        have HB2 := Lib.hid hb2
        clear ho2 hg2 hb2 hck hlk1 u2
        go_wp2
        go_roundw
        case rel => exact ⟨k + 1, acc ++ x, by omega, by go_num, HN1.out, HO2.out, HB2.out⟩
        case measure => simp [intOf]; omega
    · obtain rfl : o.parts.length = k := by omega
      have HA1 : Hid (cats u.parts o.parts = some acc) := by
        have := HA.out
        rw [List.take_length] at this
        exact this
      have hal := cats_len HSM.out _ HA1.out
      have hal2 : acc.length ≤ 167772160000 := by omega
      clear hal
      obtain ⟨b, Fj, hl, hput⟩ := HM1.out.put hub huk hN HB.out
      obtain ⟨Fv, hv1, hv2⟩ := own_in HO.out
      have HV2 := Lib.hid hv2
      have hB1 : B < w1.heap.size := HM1.out.mb.lower B HM1.out.mb.own
      have hl1 := hl wr.drew (HBL.out.block B hB1)
      obtain ⟨w3, hru, F3, hM3, hF3, hf3, ht3⟩ := hput wr.drew (Frm.drew (Frm.of_below HBL.out _)) _ acc Fv ⟨HO.out.rd, hv1, fun i hi => (HV2.out i hi).2⟩ (fun i hi => (HV2.out i hi).1) hal2
      have HM3 := Lib.hid hM3; clear hM3
      have HF3 := Lib.hid hf3; clear hf3
      have HX3 : Hid (∀ i, F3 i → F i ∨ w1.heap.size ≤ i) := fun i hi => by
        rcases hF3 i hi with e | e
        · exact .inl e
        · exact .inr (HV2.out i e).1
      have hct0 := turned_cell ht3
      have hct : ∀ a, w3.cell? a = wr.cell? a := hct0
      clear hct0
      clear hl hput hv1 hv2 hF3 ht3
      obtain ⟨g1, g2, g3⟩ := mach_cells ((HBL.out.block g hz3).trans HM1.out.cells)
      clear g2 g3
      obtain ⟨u0, u1, u2⟩ := cells3 ((HBL.out.block ug hz5).trans HUG1.out)
      clear u2
      have HEr := Lib.hid ((HBL.out.block (w.heap.size + 1) (by omega)).trans ((HB1.out.block (w.heap.size + 1) (by simp)).trans (two_new _ _ _).2))
      have HOr := Lib.hid ((HBL.out.block w.heap.size hz2).trans HO1.out)
      go_wp2
      go_region_held3 (fun w' => w'.cell? ⟨g, 0, none⟩ = some (.map (some B)) ∧ w'.cell? ⟨ug, 0, none⟩ = some (.string u.bucket) ∧ w'.cell? ⟨ug, 1, none⟩ = some (.string u.key)) (first | go_keep | (rw [hct, hct, hct]; exact ⟨g1, u0, u1⟩)) (fail)
      clear hl1 hru hct g1 u0 u1
      have hnf : ∀ i, w.heap.size ≤ i → i < w1.heap.size → ¬ F3 i := fun i h1 h2 e => by
        rcases HX3.out i e with e | e
        · have := HM.out.lower i e; omega
        · omega
      have HNF := Lib.hid hnf; clear hnf
      have k3 : ∀ i, w.heap.size ≤ i → i < w1.heap.size → w3.heap[i]? = w1.heap[i]? := fun i h1 h2 => HF3.out.block i h2 (fun e => by have := HM.out.lower i e; omega)
      have K3 := Lib.hid k3; clear k3
      have hz6 := HF3.out.size
      have HO3 := Lib.hid ((K3.out w.heap.size (by omega) hz2).trans HO1.out)
      obtain ⟨o0, o1, o2, o3, o4, o5, o6, o7, o8, of⟩ := cells9 HO3.out
      clear o0 o1 o2 o3 o4 o5 o7 o8 of
      obtain ⟨gg, B', U', D', FB', FU', FD', e, hm3⟩ := HM3.out.at_
      obtain rfl : g = gg := by injection e with e; injection e with e; injection e
      have HM4 := Lib.hid hm3; clear hm3 e
      obtain ⟨g1, g2, g3⟩ := mach_cells HM4.out.cells
      clear g1 g3
      obtain ⟨w6, hru, F6, hM6, hF6, hf6, hct⟩ := (machat_drew HM4.out).abort hwu 0
      have HM6 := Lib.hid hM6; clear hM6
      have HF6 : Hid (Frm F3 w3 w6) := ⟨hf6.os, hf6.tape, hf6.output, hf6.size, hf6.block⟩
      clear hf6
      have hct' : ∀ a, w6.cell? a = w3.cell? a := hct
      have hz7 : g < w3.heap.size := by omega
      have hz8 : w.heap.size < w3.heap.size := by omega
      go_wp2
      go_region_held3 (fun w' => w'.cell? ⟨g, 1, none⟩ = some (.map (some U')) ∧ w'.cell? ⟨w.heap.size, 6, none⟩ = some (.int .u64 o.up)) (first | go_keep | (rw [hct', hct']; exact ⟨g2, o6⟩)) ((refine step_delete (by rfl) _ _ _ _ (by rfl) (by rfl) (by rfl) hru ?_))
      clear hru o6 g2 hct hct'
      have hz9 := HF6.out.size
      go_wp2_with fail
      refine (status_any _ _).mono ?_
      rintro e w4 ⟨rfl, hb4⟩
      have HB4 := Lib.hid hb4; clear hb4
      have HE := Lib.hid ((HB4.out.block _ (by omega)).trans ((HF6.out.block _ (by omega) (HNF.out _ (by omega) (by omega))).trans ((K3.out _ (by omega) (by omega)).trans ((HB1.out.block (w.heap.size + 1) (by simp)).trans (two_new _ _ _).2))))
      obtain ⟨n0, n1, n2, n3, n4, nf⟩ := cells5 HE.out
      go_wp2
      clear n0 n1 n2 n3 n4 nf
      refine post_set5 HE.out ?_
      intro w5 hf5 he6
      obtain ⟨p0, p1, p2, p3, p4, pf⟩ := cells5 he6
      refine bodyPost_ret (v := statV 200) (by simp [results, Try.results54, go_sem, p0, p1, p2, p3, p4]) rfl ?_
      refine ⟨(fun e => by rw [HA1.out] at e; cases e), fun acc' e => ?_⟩
      rw [HA1.out] at e
      cases e
      exact done_stat HM6.out (((frm_b HB1.out F).trans HF3.out (fun i e => .inl e)).trans HF6.out (fun i e => by rcases HX3.out i e with e | e; exact .inl e; exact .inr (by omega))) (fun i hi => by rcases HX3.out i (hF6 i hi) with e | e; exact .inl e; exact .inr (by omega)) HM.out.lower HB4.out hf5
end Go.Proofs.Ytkbmecjpjphngaa
