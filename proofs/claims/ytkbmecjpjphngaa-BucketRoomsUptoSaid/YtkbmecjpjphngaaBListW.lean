/-
  list, walked.
-/
import Derived.Test.YtkbmecjpjphngaaBList
import Derived.Test.YtkbmecjpjphngaaBRun
import Derived.Laws.Cover1
set_option linter.unusedVariables false
set_option linter.unusedSimpArgs false
namespace Go.Proofs.Ytkbmecjpjphngaa
open Go.RowKit Go.Maps

/-- What is picked of the first k keys. -/
noncomputable def pkk (c : Bk) (o : OpC) (k : Nat) : List (List UInt8) := ((keysC c).take k).filter (okK o)
theorem pkk_zero (c : Bk) (o : OpC) : pkk c o 0 = [] := by simp [pkk]
theorem pkk_yes {c : Bk} {o : OpC} {k : Nat} (h : k < (keysC c).length) (hp : okK o (keysC c)[k] = true) : pkk c o (k + 1) = pkk c o k ++ [(keysC c)[k]] := by
  unfold pkk; rw [filter_take _ _ _ h, if_pos hp]
theorem pkk_no {c : Bk} {o : OpC} {k : Nat} (h : k < (keysC c).length) (hp : okK o (keysC c)[k] = false) : pkk c o (k + 1) = pkk c o k := by
  unfold pkk; rw [filter_take _ _ _ h, if_neg (by simp [hp])]; simp
theorem pkk_all (c : Bk) (o : OpC) : pkk c o (keysC c).length = pickC c o := by
  unfold pkk; rw [List.take_length, pickC_eq]
theorem listC_all {c : Bk} {o : OpC} (h : (pkk c o (keysC c).length).length ≤ o.n.toNat) : listC c o = ⟨200, 0, (pkk c o (keysC c).length).map str, false, []⟩ := by
  rw [pkk_all] at h ⊢
  unfold listC
  rw [List.take_of_length_le h]
  congr 1
  simp; omega
theorem listC_more {c : Bk} {o : OpC} {k : Nat} (h : k < (keysC c).length) (hp : okK o (keysC c)[k] = true) (hn : (pkk c o k).length = o.n.toNat) : listC c o = ⟨200, 0, (pkk c o k).map str, true, []⟩ := by
  have hs : pickC c o = pkk c o k ++ ((keysC c)[k] :: ((keysC c).drop (k + 1)).filter (okK o)) := by
    rw [pickC_eq]
    unfold pkk
    conv => lhs; rw [← List.take_append_drop k (keysC c), List.drop_eq_getElem_cons h, List.filter_append, List.filter_cons, if_pos hp]
  unfold listC
  rw [hs, ← hn, List.take_left]
  congr 1
  simp
theorem list_n {o : OpC} (h : chkB o = true) (hk : o.kind = 6) : 1 ≤ o.n ∧ o.n ≤ 1000 := by
  unfold chkB at h
  rw [hk] at h
  simp [chkD] at h
  omega
theorem okK_at {o : OpC} {x : List UInt8} : okK o x = (Lib.hasPrefix x o.key.data.toList && !(Op.bytesLess (str x).toList o.after.toList || (str x).toList == o.after.toList)) := by
  rw [str_list, toList_data]; rfl
/-- Behind k keys. -/
structure ListI (w3 : World) (gr : Nat) (c : Bk) (o : OpC) (k : Nat) (wr : World) : Prop where
  out : ∃ kv, wr.heap[gr]? = some (.cells #[.int .i64 200, .int .u64 0, kv, .bool false, .slice none 0 0] 41) ∧ wr.ownsRow w3.heap.size 9 1 kv (pkk c o k).length ((pkk c o k).map encStr) ∧ (pkk c o k).length ≤ o.n.toNat ∧ Frm (fun i => i = gr) w3 wr
theorem listI_start {w3 : World} {gr : Nat} {c : Bk} {o : OpC} (h : w3.heap[gr]? = some (.cells #[.int .i64 200, .int .u64 0, .slice none 0 0, .bool false, .slice none 0 0] 41)) : ListI w3 gr c o 0 w3 :=
  ⟨_, h, by rw [pkk_zero]; exact World.ownsRow_nil w3 _ _ _, by rw [pkk_zero]; simp, Frm.refl _ _⟩
theorem listI_no {w3 wr : World} {gr : Nat} {c : Bk} {o : OpC} {k : Nat} (h : ListI w3 gr c o k wr) (hk : k < (keysC c).length) (hp : okK o (keysC c)[k] = false) : ListI w3 gr c o (k + 1) wr := by
  obtain ⟨kv, a, b, d, e⟩ := h.out
  exact ⟨kv, a, by rw [pkk_no hk hp]; exact b, by rw [pkk_no hk hp]; exact d, e⟩

theorem set3 {w : World} {g : Nat} {c0 c1 c2 c3 c4 v : Value} {T : TypeId} (h : w.heap[g]? = some (.cells #[c0, c1, c2, c3, c4] T)) :
    Frm (fun i => i = g) w (w.setCell ⟨g, 3, none⟩ v) ∧ (w.setCell ⟨g, 3, none⟩ v).heap[g]? = some (.cells #[c0, c1, c2, v, c4] T) := by
  refine ⟨Frm.setCell (Frm.refl (fun i => i = g) w) (p := ⟨g, 3, none⟩) (.inl rfl) v, ?_⟩
  simp [World.setCell, Array.getElem?_modify, h]
theorem set2 {w : World} {g : Nat} {c0 c1 c2 c3 c4 v : Value} {T : TypeId} (h : w.heap[g]? = some (.cells #[c0, c1, c2, c3, c4] T)) :
    Frm (fun i => i = g) w (w.setCell ⟨g, 2, none⟩ v) ∧ (w.setCell ⟨g, 2, none⟩ v).heap[g]? = some (.cells #[c0, c1, v, c3, c4] T) := by
  refine ⟨Frm.setCell (Frm.refl (fun i => i = g) w) (p := ⟨g, 2, none⟩) (.inl rfl) v, ?_⟩
  simp [World.setCell, Array.getElem?_modify, h]
/-- A key was appended. -/
theorem listI_yes {w3 wr w4 : World} {gr : Nat} {c : Bk} {o : OpC} {k m : Nat} {kv v4 : Value} {x : List UInt8} {box : Obj} (hm : (pkk c o k).length = m) (hg : gr < w3.heap.size) (hrb : wr.heap[gr]? = some (.cells #[.int .i64 200, .int .u64 0, kv, .bool false, .slice none 0 0] 41))
    (hrow : wr.ownsRow w3.heap.size 9 1 kv m ((pkk c o k).map encStr)) (hfr : Frm (fun i => i = gr) w3 wr) (hpk : pkk c o (k + 1) = pkk c o k ++ [x]) (hn : m + 1 ≤ o.n.toNat)
    (happ : AppO w3.heap.size 9 1 ((wr.setCell ⟨gr, 3, none⟩ (.bool false)).alloc box) w4 kv v4 (m + 1) ((pkk c o k).map encStr ++ [.string (str x)])) : w4.heap[gr]? = some (.cells #[.int .i64 200, .int .u64 0, kv, .bool false, .slice none 0 0] 41) ∧ ListI w3 gr c o (k + 1) (w4.setCell ⟨gr, 2, none⟩ v4) := by
  subst hm
  obtain ⟨f1, f2⟩ := set3 (v := .bool false) hrb
  have zr := hfr.size
  have z1 := f1.size
  have hl : (pkk c o (k + 1)).length = (pkk c o k).length + 1 := by rw [hpk]; simp
  have hne : ∀ i, kv.ownBlock = some i → w3.heap.size ≤ i := fun i hi => (own_lt hrow hi).1
  have hg4 : w4.heap[gr]? = some (.cells #[.int .i64 200, .int .u64 0, kv, .bool false, .slice none 0 0] 41) := by
    rw [happ.grown.block gr (by simp; omega) (fun e => by have := hne gr e.symm; omega), alloc_same (by omega), f2]
  obtain ⟨g1, g2⟩ := set2 (v := v4) hg4
  have z4 := happ.grown.size
  simp at z4
  have hv4 : ∀ i, v4.ownBlock = some i → w3.heap.size ≤ i := fun i hi => (own_lt happ.own hi).1
  refine ⟨hg4, v4, g2, ?_, by rw [hl]; exact hn, ?_⟩
  · rw [hl, hpk, List.map_append]
    refine own_same happ.own (fun i hi => g1.block i (own_lt happ.own hi).2 (fun e => by have := hv4 i hi; omega))
  · have a1 : Frm (fun i => i = gr) w3 ((wr.setCell ⟨gr, 3, none⟩ (.bool false)).alloc box) := (hfr.trans f1 (fun i e => .inl e)).alloc box
    have a2 : Frm (fun i => i = gr) w3 w4 := a1.trans (F1 := fun i => kv.ownBlock = some i) ⟨happ.grown.os, happ.grown.tape, happ.grown.output, happ.grown.size, fun i hi hn => happ.grown.block i hi (fun e => hn e.symm)⟩ (fun i e => .inr (hne i e))
    exact a2.trans g1 (fun i e => .inl e)
/-- The end of list. -/
theorem list_end {N : Nat} {w w3 wr w5 w6 : World} {p kv : Value} {S : StC} {F : Foot} {gr m : Nat} {ks : List (List UInt8)} {b : Bool} (hM : Mach N w p S F) (h1 : Below w.heap.size w w3) (hg : w.heap.size + 1 < gr) (hg3 : gr < w3.heap.size) (hfr : Frm (fun i => i = gr) w3 wr)
    (hm : ks.length = m) (hrow : wr.ownsRow w3.heap.size 9 1 kv m (ks.map encStr)) (h5 : Frm (fun i => i = gr) wr w5) (h6 : Frm (fun i => i = w.heap.size + 1) w5 w6) : DoneR N w p F ⟨200, 0, ks.map str, b, []⟩ S (.returned (.agg #[.int .i64 200, .int .u64 0, kv, .bool b, .slice none 0 0])) w6 := by
  subst hm
  have z3 := h1.size
  have zr := hfr.size
  have z5 := h5.size
  have z6 := h6.size
  obtain ⟨Fv, hv1, hv2⟩ := own_in hrow
  have hall : Frm F w w6 := ((((Frm.of_below h1 F).trans hfr (fun i e => .inr (by have : i = gr := e; omega))).trans h5 (fun i e => .inr (by have : i = gr := e; omega))).trans h6 (fun i e => .inr (by have : i = w.heap.size + 1 := e; omega)))
  have hkeep : ∀ i, F i → w6.heap[i]? = w.heap[i]? := fun i hi => by
    have := hM.lower i hi
    rw [h6.block i (by omega) (by omega), h5.block i (by omega) (by omega), hfr.block i (by omega) (by omega), h1.block i this]
  refine ⟨_, Fv, F, rfl, ⟨kv, _, rfl, ?_, hv1, Rd.nil' (by simp [maxLen]) (fun _ => rfl), (fun g off n cap e hn => by cases e), fun i hi => ?_⟩, fun i hi => ⟨?_, fun e => ?_⟩, (hM.framed hkeep).mono (Nat.le_succ N), fun i hi => .inl hi, hall⟩
  · have hr := own_rd hrow
    show Rd w6 kv (ks.map str).length 1 ((ks.map str).map Value.string)
    rw [List.length_map, List.map_map]
    exact Rd.framed hr hv1 (fun i hi => by
      have := hv2 i hi
      rw [h6.block i (by omega) (by omega), h5.block i (by omega) (by omega)])
  · have := hv2 i hi; omega
  · have := hv2 i hi; omega
  · have := hv2 i hi; have := hM.lower i e; omega

set_option maxRecDepth 100000 in
set_option maxHeartbeats 8000000 in
theorem list_some {N : Nat} {w : World} {p v : Value} {S : StC} {F : Foot} {o : OpC} {c : Bk} (hN : N ≤ 8000000000) (h : Mach N w p S F) (ho : OpR w v o) (hck : chkB o = true) (hk6 : o.kind = 6) (hc : S.bs (sk o.bucket) = some c) :
    Calls Try.prog 51 #[p, v] w (DoneR N w p F (listC c o) S) := by
  have hk := known_any (mach_two h (.cells v.cells 26) zres) (ho.cells (cell_two (.cells v.cells 26) zres))
  rw [hc] at hk
  have HK := Lib.hid hk; clear hk
  have HC := Lib.hid hc; clear hc
  obtain ⟨hn1, hn2⟩ := list_n hck hk6
  clear hck hk6
  obtain ⟨g, B, U, D, FB, FU, FD, rfl, hm⟩ := h.at_
  have HM := Lib.hid hm; clear hm h
  obtain ⟨pv, dv, rfl, _, _, _, _, _, _, _, hs, hks, has⟩ := ho
  go_enter Try.func51, Try.ntmps51
  go_wp2_with fail
  refine HK.out.mono ?_
  rintro e w1 ⟨rfl, hb1⟩
  have HB1 := Lib.hid hb1; clear hb1
  have HM1 := Lib.hid (HM.out.two HB1.out)
  go_wp2_with fail
  refine (status_any _ _).mono ?_
  rintro e w2 ⟨rfl, hb2⟩
  have HB2 := Lib.hid hb2; clear hb2
  have hz1 := HB1.out.size
  have hz2 := HB2.out.size
  simp at hz1
  have HO2 := Lib.hid ((HB2.out.block w.heap.size (by omega)).trans ((HB1.out.block w.heap.size (by simp; omega)).trans (two_new _ _ _).1))
  obtain ⟨o0, o1, o2, o3, o4, o5, o6, o7, o8, of⟩ := cells9 HO2.out
  clear o0 o1 o3 o4 o5 o6 o7 o8 of
  have hz3 : w.heap.size < w2.heap.size := by omega
  go_wp2_with fail
  have HBW := Lib.hid ((Below.refl w2.heap.size w2).alloc (Nat.le_refl _) (.cells #[.int .i64 200, .int .u64 0, .slice none 0 0, .bool false, .slice none 0 0] 41))
  refine (objects_any (((HM1.out.framed (fun i hi => HB2.out.block i (HM1.out.lower i hi))).framed (w' := w2.alloc (.cells #[.int .i64 200, .int .u64 0, .slice none 0 0, .bool false, .slice none 0 0] 41)) (fun i hi => alloc_same (by have := HM1.out.lower i hi; omega))).mach) hs (by omega)).mono ?_
  rintro e w3 ⟨kv, rfl, hrow, hb3⟩
  have hz3' := hb3.size
  simp at hz3'
  rw [HC.out] at hrow
  simp only [Option.getD_some] at hrow
  have HO3 := Lib.hid ((hb3.block w.heap.size (by simp; omega)).trans ((alloc_same hz3).trans HO2.out))
  have HZ3 : Hid (w3.heap[w.heap.size + 1]? = some zres) := (hb3.block (w.heap.size + 1) (by simp; omega)).trans ((alloc_same (by omega)).trans ((HB2.out.block (w.heap.size + 1) (by omega)).trans ((HB1.out.block (w.heap.size + 1) (by simp)).trans (two_new _ _ _).2)))
  have HR3 := Lib.hid ((hb3.block w2.heap.size (by simp)).trans (heap_alloc_new w2 (.cells #[.int .i64 200, .int .u64 0, .slice none 0 0, .bool false, .slice none 0 0] 41)))
  have HW3 : Hid (Below w1.heap.size w1 w3) := (HB2.out.alloc hz2 _).trans (hb3.mono (by simp; omega))
  have HRD := Lib.hid (own_rd hrow)
  obtain ⟨A, cap, rfl, a1, a2, _⟩ := Rd.form HRD.out
  have hkb : (keysC c).length ≤ maxLen := Nat.le_trans a1 a2
  unfold maxLen at hkb
  have HKW := Lib.hid (fun g (hg : (Value.slice A (keysC c).length cap).ownBlock = some g) => own_lt hrow hg)
  clear hrow hb3 HBW o2
  generalize hgr : w2.heap.size = gr at *
  go_wp2
  go_loopw [19] (fun i wr => ∃ k : Nat, k ≤ (keysC c).length ∧ i = .int .i64 k ∧ ListI w3 gr c o k wr) (fun i _ => (keysC c).length - (intOf i).toNat)
  case atStart => exact ⟨0, Nat.zero_le _, rfl, listI_start HR3.out⟩
  case round =>
    obtain ⟨k, hk, rfl, hli⟩ := hrel
    have HLI := Lib.hid hli; clear hli
    obtain ⟨rv, hrb, hrow, hnn, hfr⟩ := HLI.out.out
    have HRB := Lib.hid hrb
    have HROW := Lib.hid hrow
    have HFR := Lib.hid hfr
    obtain ⟨A5, q5, rfl, d1, d2, _⟩ := Rd.form (own_rd hrow)
    obtain ⟨r0, r1, r2, r3, r4, rf⟩ := cells5 hrb
    have HOr := Lib.hid ((hfr.block w.heap.size (by omega) (by omega)).trans HO3.out)
    obtain ⟨o0, o1, o2, o3, o4, o5, o6, o7, o8, of⟩ := cells9 HOr.out
    have hzr := hfr.size
    have HZr := Lib.hid ((hfr.block (w.heap.size + 1) (by omega) (by omega)).trans HZ3.out)
    have hz4 : w.heap.size + 1 < gr := by omega
    clear hrb hrow hfr o0 o1 o2 o6 o7 o8 of
    by_cases hlt : k < (keysC c).length
    · obtain ⟨g', off', cap', e, _, _, hgl', hcs⟩ := Rd.full HRD.out (by omega) (by omega)
      cases e
      have hgg : gr < g' := by have := (HKW.out g' rfl).1; simp at this; omega
      have m1 : wr.cell? ⟨g', off' + k, none⟩ = some (.string (str (keysC c)[k])) := (Frm.cell HFR.out (p := ⟨g', off' + k, none⟩) hgl' (by simp only; omega)).trans (hcs.at_ k _ (by simp [hlt, str]))
      have HPA := Lib.hid (fun W => hasPrefix_any (str (keysC c)[k]) o.key W)
      have HNO := Lib.hid (fun h => listI_no HLI.out hlt h)
      have HPY := Lib.hid (fun h => pkk_yes (o := o) hlt h)
      have HMO := Lib.hid (fun h1 h2 => listC_more (o := o) hlt h1 h2)
      clear hcs
      generalize (keysC c)[k] = x at *
      by_cases hp : Lib.hasPrefix x o.key.data.toList = true
      · have HPB : Hid (∀ W, Calls Try.prog 64 #[.string (str x), .string o.key] W fun e w' => e = .returned (.bool true) ∧ W = w') := fun W => by
          have := HPA.out W
          rwa [show (str x).data.toList = x by simp [str], hp] at this
        have HQ := Lib.hid (okK_at (o := o) (x := x))
        cases hb : Op.bytesLess (str x).toList o.after.toList with
        | true =>
          have HK0 := Lib.hid (HNO.out (by rw [HQ.out, hp, hb]; rfl))
          clear hp
          go_wp2_with (first | (go_at_call 64; refine (HPB.out _).mono ?_; rintro e w' ⟨rfl, rfl⟩) | fail)
          go_roundw
          case rel => exact ⟨k + 1, by omega, by go_num, HK0.out⟩
          case measure => simp [intOf]; omega
        | false =>
          cases hq : ((str x).toList == o.after.toList) with
          | true =>
            have HK0 := Lib.hid (HNO.out (by rw [HQ.out, hp, hb, hq]; rfl))
            clear hp
            go_wp2_with (first | (go_at_call 64; refine (HPB.out _).mono ?_; rintro e w' ⟨rfl, rfl⟩) | fail)
            go_roundw
            case rel => exact ⟨k + 1, by omega, by go_num, HK0.out⟩
            case measure => simp [intOf]; omega
          | false =>
            have hok : okK o x = true := by rw [HQ.out, hp, hb, hq]; rfl
            have HPK := Lib.hid (HPY.out hok)
            have HMK := Lib.hid (HMO.out hok)
            clear hp hok
            have HNN := Lib.hid hnn
            generalize hm : (pkk c o k).length = m at *
            have HMM := Lib.hid hm; clear hm
            by_cases hmn : (m : Int) = o.n
            · have HMR := Lib.hid (HMK.out (by omega))
              have q1 : ((m : Int) == o.n) = true := by rw [beq_iff_eq]; exact hmn
              have HF3 := Lib.hid (set3 (v := .bool true) HRB.out)
              obtain ⟨n0, n1, n2, n3, n4, nf⟩ := cells5 HZr.out
              clear hmn
              go_wp2_with (first | (go_at_call 64; refine (HPB.out _).mono ?_; rintro e w' ⟨rfl, rfl⟩) | fail)
              refine post_set5 ((HF3.out.1.block (w.heap.size + 1) (block_lt HZr.out) (by omega)).trans HZr.out) ?_
              intro w6 hf6 he6
              obtain ⟨p0, p1, p2, p3, p4, pf⟩ := cells5 he6
              rw [HMR.out]
              exact bodyPost_ret (v := .agg #[.int .i64 200, .int .u64 0, .slice A5 m q5, .bool true, .slice none 0 0]) (by simp [results, Try.results51, go_sem, p0, p1, p2, p3, p4]) rfl
                (list_end HM.out.mach ((frm_b HB1.out (fun _ => False)).below (Nat.le_refl _) (fun i e => e.elim) |>.trans (HW3.out.mono (by omega))) (by omega) (by omega) HFR.out HMM.out HROW.out HF3.out.1 hf6)
            · have q1 : ((m : Int) == o.n) = false := by rw [beq_eq_false_iff_ne]; exact hmn
              have HF3 := Lib.hid (set3 (v := .bool false) HRB.out)
              have hm1 : m + 1 ≤ o.n.toNat := by omega
              clear hmn
              go_wp2_with (first
                | (go_at_call 64; refine (HPB.out _).mono ?_; rintro e w' ⟨rfl, rfl⟩)
                | (at_builtin; refine wpList_app2 w3.heap.size tS ((own_same HROW.out (fun i hi => HF3.out.1.block i (own_lt HROW.out hi).2 (fun e => by have := (own_lt HROW.out hi).1; omega))).alloc _) (src_new Try.underlying39 [.string (str x)] _ (by simp [Value.oneCell']) 1 rfl) (by simp; omega) (by unfold maxLen; omega) (by omega) rfl rfl rfl rfl ?_)
                | fail)
              intro v4 w4 happ
              obtain ⟨hg4, hl4⟩ := listI_yes HMM.out (by omega) HRB.out HROW.out HFR.out HPK.out hm1 happ
              have HL4 := Lib.hid hl4
              obtain ⟨A7, q7, rfl, _, _, _⟩ := Rd.form (own_rd happ.own)
              obtain ⟨s0, s1, s2, s3, s4, sf⟩ := cells5 hg4
              clear happ hg4 hl4 r0 r1 r2 r3 r4 rf
              go_wp2
              go_roundw
              case rel => exact ⟨k + 1, by omega, by go_num, HL4.out⟩
              case measure => simp [intOf]; omega
      · have hp' : Lib.hasPrefix x o.key.data.toList = false := by simpa using hp
        have HPB : Hid (∀ W, Calls Try.prog 64 #[.string (str x), .string o.key] W fun e w' => e = .returned (.bool false) ∧ W = w') := fun W => by
          have := HPA.out W
          rwa [show (str x).data.toList = x by simp [str], hp'] at this
        have HK0 := Lib.hid (HNO.out (by rw [okK_at, hp']; rfl))
        clear hp hp'
        go_wp2_with (first | (go_at_call 64; refine (HPB.out _).mono ?_; rintro e w' ⟨rfl, rfl⟩) | fail)
        go_roundw
        case rel => exact ⟨k + 1, by omega, by go_num, HK0.out⟩
        case measure => simp [intOf]; omega
    · obtain rfl : (keysC c).length = k := by omega
      have HNN := Lib.hid hnn
      have HMR := Lib.hid (listC_all hnn)
      generalize hm : (pkk c o (keysC c).length).length = m at *
      have HMM := Lib.hid hm; clear hm
      obtain ⟨n0, n1, n2, n3, n4, nf⟩ := cells5 HZr.out
      go_wp2
      refine post_set5 HZr.out ?_
      intro w6 hf6 he6
      obtain ⟨p0, p1, p2, p3, p4, pf⟩ := cells5 he6
      rw [HMR.out]
      exact bodyPost_ret (v := .agg #[.int .i64 200, .int .u64 0, .slice A5 m q5, .bool false, .slice none 0 0]) (by simp [results, Try.results51, go_sem, p0, p1, p2, p3, p4]) rfl
        (list_end HM.out.mach ((frm_b HB1.out (fun _ => False)).below (Nat.le_refl _) (fun i e => e.elim) |>.trans (HW3.out.mono (by omega))) (by omega) (by omega) HFR.out HMM.out HROW.out (Frm.refl _ _) hf6)
/-- list keeps its word. -/
theorem listOk : ListOk := fun N W p v S F o c hN h ho hc hk hb => list_some hN h ho hc hk hb
end Go.Proofs.Ytkbmecjpjphngaa
