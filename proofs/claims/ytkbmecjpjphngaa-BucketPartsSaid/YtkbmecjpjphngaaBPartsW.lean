/-
  BucketParts: the walk.
-/
import Derived.Test.YtkbmecjpjphngaaBParts
set_option linter.unusedVariables false
set_option linter.unusedSimpArgs false
namespace Go.Proofs.Ytkbmecjpjphngaa.bucketParts
open Go.Proofs.Ytkbmecjpjphngaa
open Go.RowKit Go.Maps

set_option maxRecDepth 100000 in
set_option maxHeartbeats 4000000 in
theorem walk_skip (A1 A2 A3 : Option Addr) (l1 l2 l3 c1 c2 c3 : Nat) (w : World) (m1 : l1 ≤ 2 ^ 63 - 1) (m2 : l2 ≤ 2 ^ 63 - 1) (m3 : l3 ≤ 2 ^ 63 - 1) (h : 100 < l1 ∨ l2 ≠ l1 ∨ 100 < l3) :
    Calls Try.prog 4 #[.slice A1 l1 c1, .slice A2 l2 c2, .slice A3 l3 c3] w fun e w' => e = .returned (.bool true) ∧ Below w.heap.size w w' := by
  by_cases g1 : 100 < l1
  · have g1' : (100 : Int) < l1 := by omega
    clear h
    go_enter Try.func4, Try.ntmps4
    go_wp2_with fail
    refine (known_walk15 _).mono ?_
    rintro e w1 ⟨rfl, hb1⟩
    go_wp2_with fail
    go_ret
    exact ⟨rfl, hb1⟩
  have g1' : (l1 : Int) ≤ 100 := by omega
  by_cases g2 : l2 = l1
  · subst g2
    have g3 : (100 : Int) < l3 := by omega
    clear h
    go_enter Try.func4, Try.ntmps4
    go_wp2_with fail
    refine (known_walk15 _).mono ?_
    rintro e w1 ⟨rfl, hb1⟩
    go_wp2_with fail
    go_ret
    exact ⟨rfl, hb1⟩
  · have g2' : ((l2 : Int) == (l1 : Int)) = false := by rw [beq_eq_false_iff_ne]; omega
    clear h
    go_enter Try.func4, Try.ntmps4
    go_wp2_with fail
    refine (known_walk15 _).mono ?_
    rintro e w1 ⟨rfl, hb1⟩
    go_wp2_with fail
    go_ret
    exact ⟨rfl, hb1⟩

theorem check_no {w : World} {v : Value} {o : OpC} (ho : OpR w v o) (hc : chkB o = false) : Calls Try.prog 8 #[v] w fun e w' => e = .returned (.int .i64 1) ∧ Below w.heap.size w w' := by
  have := check_any w v o ho
  rw [hc] at this
  exact this
theorem check_yes {w : World} {v : Value} {o : OpC} (ho : OpR w v o) (hc : chkB o = true) : Calls Try.prog 8 #[v] w fun e w' => e = .returned (.int .i64 0) ∧ Below w.heap.size w w' := by
  have := check_any w v o ho
  rw [hc] at this
  exact this
theorem end_op {w W : World} {A3 : Option Addr} {nm : List Int} {c3 : Nat} (h3 : Rd w (.slice A3 nm.length c3) nm.length 1 (nm.map (Value.int .i64))) (wf3 : ∀ n ∈ nm, (Lit.int .i64 n).wf = true) (hW : Below w.heap.size w W) :
    OpR W (.agg #[.int .u64 3, .int .i64 9, .string eB, .string eB, .string eB, .int .i64 0, .int .u64 2, .slice A3 nm.length c3, .slice none 0 0]) (endOp nm) :=
  ⟨_, _, rfl, Rd.below h3 hW, nil_rd _, (show (Lit.int .u64 3).wf = true by decide +kernel), (show (Lit.int .i64 9).wf = true by decide +kernel), (show (Lit.int .i64 0).wf = true by decide +kernel), (show (Lit.int .u64 2).wf = true by decide +kernel), wf3, (show eB.size ≤ maxLen by decide +kernel), (show eB.size ≤ maxLen by decide +kernel), (show eB.size ≤ maxLen by decide +kernel)⟩
theorem get_op (W : World) : OpR W (.agg #[.int .u64 0, .int .i64 4, .string bB, .string kB, .string eB, .int .i64 0, .int .u64 0, .slice none 0 0, .slice none 0 0]) getOp :=
  ⟨_, _, rfl, nil_rd _, nil_rd _, (show (Lit.int .u64 0).wf = true by decide +kernel), (show (Lit.int .i64 4).wf = true by decide +kernel), (show (Lit.int .i64 0).wf = true by decide +kernel), (show (Lit.int .u64 0).wf = true by decide +kernel), (fun y h => by simp [getOp] at h), (show bB.size ≤ maxLen by decide +kernel), (show kB.size ≤ maxLen by decide +kernel), (show eB.size ≤ maxLen by decide +kernel)⟩
theorem ab_op (W : World) : OpR W (.agg #[.int .u64 4, .int .i64 10, .string eB, .string eB, .string eB, .int .i64 0, .int .u64 2, .slice none 0 0, .slice none 0 0]) abOp :=
  ⟨_, _, rfl, nil_rd _, nil_rd _, (show (Lit.int .u64 4).wf = true by decide +kernel), (show (Lit.int .i64 10).wf = true by decide +kernel), (show (Lit.int .i64 0).wf = true by decide +kernel), (show (Lit.int .u64 2).wf = true by decide +kernel), (fun y h => by simp [abOp] at h), (show eB.size ≤ maxLen by decide +kernel), (show eB.size ≤ maxLen by decide +kernel), (show eB.size ≤ maxLen by decide +kernel)⟩
theorem part_op {w W : World} {k : Nat} {n : Int} {A4 : Option Addr} {x : List UInt8} {c4 : Nat} (hk : k < 100) (hn : (Lit.int .i64 n).wf = true) (hur : RdB w (.slice A4 x.length c4) x) (hW : Below w.heap.size w W) :
    OpR W (.agg #[.int .u64 (10 + k), .int .i64 8, .string eB, .string eB, .string eB, .int .i64 n, .int .u64 2, .slice none 0 0, .slice A4 x.length c4]) (partOp k n x) :=
  ⟨_, _, rfl, nil_rd _, RdB.below hur hW, (show (Lit.int .u64 (10 + (k : Int))).wf = true from WalkArith.wf_u64 (by omega)), (show (Lit.int .i64 8).wf = true by decide +kernel), hn, (show (Lit.int .u64 2).wf = true by decide +kernel), (fun y h => by simp [partOp] at h), (show eB.size ≤ maxLen by decide +kernel), (show eB.size ≤ maxLen by decide +kernel), (show eB.size ≤ maxLen by decide +kernel)⟩
set_option maxRecDepth 100000 in
set_option maxHeartbeats 8000000 in
theorem walk_do (A1 A2 A3 : Option Addr) (c1 c2 c3 : Nat) (ns nm : List Int) (ds : List (List UInt8)) (w : World) (h1 : Rd w (.slice A1 ns.length c1) ns.length 1 (ns.map (Value.int .i64))) (wf1 : ∀ n ∈ ns, (Lit.int .i64 n).wf = true)
    (hl : ds.length = ns.length) (h2 : RdLL w (.slice A2 ns.length c2) ds) (h3 : Rd w (.slice A3 nm.length c3) nm.length 1 (nm.map (Value.int .i64))) (wf3 : ∀ n ∈ nm, (Lit.int .i64 n).wf = true) (g1 : ns.length ≤ 100) (g3 : nm.length ≤ 100) :
    Calls Try.prog 4 #[.slice A1 ns.length c1, .slice A2 ns.length c2, .slice A3 nm.length c3] w fun e w' => e = .returned (.bool true) ∧ Below w.heap.size w w' := by
  obtain ⟨vs, h2r, h2e⟩ := h2
  rw [hl] at h2r
  have H1 := Lib.hid h1
  have W1 := Lib.hid wf1
  have H2 := Lib.hid (And.intro h2r h2e)
  have H3 := Lib.hid h3
  have W3 := Lib.hid wf3
  have HL := Lib.hid hl
  clear h1 wf1 h2r h2e h3 wf3 hl
  go_enter Try.func4, Try.ntmps4
  go_wp2_with fail
  refine (known_walk15 _).mono ?_
  rintro e w1 ⟨rfl, hb1⟩
  have HB1 := Lib.hid hb1; clear hb1
  go_wp2_with fail
  refine (bucketNew_any _).mono ?_
  rintro e w2 ⟨p, F, rfl, hM, hF, hb2⟩
  obtain ⟨g, B, U, D, FB, FU, FD, rfl, hm⟩ := hM.at_
  have HM := Lib.hid hM
  have HF := Lib.hid hF
  have hz1 := HB1.out.size
  have HB2 := Lib.hid (HB1.out.trans (hb2.mono hz1))
  clear hm hM hF hb2
  go_wp2_with fail
  have hN : ∀ o ∈ [op1, beginOp], o.kind ≠ 6 := by decide +kernel
  refine (run_any (N := 0) (S := StC.empty) (F := F) (os := [op1, beginOp]) (HM.out.framed (fun i hi => alloc_same (HM.out.lower i hi))) (fun W hW => ops_two (by rw [hW.block _ (by simp) (fun e => by have := HM.out.lower _ e; omega)]; exact heap_alloc_new _ _)) (by unfold maxLen; simp) (by simp) (fun k => live_run live_empty _) (.inl hN)).mono ?_
  rintro e w3 ⟨a, rfl, hri⟩
  have HLS := Lib.hid (lp_start (w0 := w) (fun i hi => by have := HF.out i hi; omega) HB2.out hri)
  clear hri hN
  have hmm := @run_makeMap Try.prog
  go_wp2_with fail
  generalize hbl : w3.heap.size = bl at *
  go_loopw [9] (fun i wr => ∃ k : Nat, k ≤ ns.length ∧ i = .int .i64 k ∧ LP w (.pointer (some ⟨g, 0, none⟩)) bl k wr) (fun i _ => ns.length - (intOf i).toNat)
  case atStart => exact ⟨0, Nat.zero_le _, rfl, HLS.out⟩
  case round =>
    obtain ⟨k, hk, rfl, hlp⟩ := hrel
    clear HLS hbl
    have HLP := Lib.hid hlp; clear hlp
    by_cases hlt : k < ns.length
    · obtain ⟨S, P, F5, hM, hP, hL, hF5, hnb, hlast, hb, h0⟩ := HLP.out.out
      obtain ⟨u, hu, hur⟩ := H2.out.2 k (by rw [HL.out]; exact hlt)
      obtain ⟨A4, c4, rfl, x1, x2, _⟩ := Rd.form hur
      obtain ⟨q1, o1, r1, e, _, _, _, hc1⟩ := Rd.full H1.out (by omega) (by omega)
      cases e
      obtain ⟨q2, o2, r2, e, _, _, _, hc2⟩ := Rd.full H2.out.1 (by omega) (by omega)
      cases e
      have m1 : w.cell? ⟨q1, o1 + k, none⟩ = some (.int .i64 ns[k]) := hc1.at_ k _ (by simp [hlt])
      have m2 : w.cell? ⟨q2, o2 + k, none⟩ = some (.slice A4 (ds[k]'(by rw [HL.out]; exact hlt)).length c4) := hc2.at_ k _ hu
      have n1 := cell_below hb _ _ m1
      have n2 := cell_below hb _ _ m2
      have hq1 : q1 < wr.heap.size := World.block_lt_of_cell? _ _ n1
      have hq2 : q2 < wr.heap.size := World.block_lt_of_cell? _ _ n2
      have hwn := W1.out ns[k] (List.getElem_mem hlt)
      generalize ns[k] = n at *
      generalize (ds[k]'(by rw [HL.out]; exact hlt)) = x at *
      have HMM := Lib.hid (And.intro m1 m2)
      have HM5 := Lib.hid hM
      have HX := Lib.hid (And.intro hP (And.intro hL (And.intro hF5 (And.intro hnb (And.intro hlast (And.intro hb (And.intro h0 hur)))))))
      have HOP := Lib.hid (fun W (hW : Below w.heap.size w W) => part_op (by omega : k < 100) hwn hur hW)
      clear m1 m2 hM hP hL hF5 hnb hlast hb h0 hur hc1 hc2 hu
      unfold maxLen at x2
      have hzr := HX.out.2.2.2.2.2.1.size
      by_cases hbig : 1000 < x.length
      · have hbig' : (1000 : Int) < x.length := by omega
        go_wp2_with fail
        go_ret
        exact ⟨rfl, HX.out.2.2.2.2.2.1⟩
      go_wp2_with fail
      go_region
      go_wp2_with fail
      have HA := Lib.hid (((Below.refl wr.heap.size wr).alloc (Nat.le_refl _) (.cells #[.int .u64 (10 + k), .int .i64 8, .string eB, .string eB, .string eB, .int .i64 n, .int .u64 2, .slice none 0 0, .slice A4 x.length c4] 26)).drew)
      have HBA := Lib.hid (HX.out.2.2.2.2.2.1.trans (HA.out.mono hzr))
      refine (do_any (HM5.out.framed (w' := (wr.alloc (.cells #[.int .u64 (10 + k), .int .i64 8, .string eB, .string eB, .string eB, .int .i64 n, .int .u64 2, .slice none 0 0, .slice A4 x.length c4] 26)).drew) (fun i hi => alloc_same (HM5.out.lower i hi))) (HOP.out _ HBA.out) (by unfold maxLen; omega) HX.out.2.1 (fun e1 => by simp [partOp] at e1)).mono ?_
      rintro e w5 ⟨⟨v5, Fr, F6, rfl, hr5, hFr5, hM6, hF6, hf6⟩⟩
      have HE5 := Lib.hid ((hf6.block wr.heap.size (by simp) (fun e => by have := HM5.out.lower _ e; omega)).trans (heap_alloc_new wr _))
      have hz5 := block_lt HE5.out
      have HB5 := Lib.hid (HBA.out.trans (hf6.below (by simp; omega) HX.out.2.2.1))
      obtain ⟨s0, s1, s2, s3, s4, s5, s6, s7, s8, sf⟩ := cells9 HE5.out
      have HB6 := fun (o : Obj) => Lib.hid (HB5.out.alloc (by have := HB5.out.size; exact this) o)
      cases hc : chkB (partOp k n x) with
      | false =>
        rw [doC_bad hc] at hr5 hM6
        obtain ⟨kv5, dv5, rfl, k1, _, k3, _, _⟩ := hr5
        obtain ⟨A5, q5, rfl, _⟩ := Rd.form k1
        obtain ⟨A6, q6, rfl, _⟩ := Rd.form k3
        simp only [stat]
        have HD := Lib.hid (And.intro hM6 (And.intro hF6 hf6))
        have HC := Lib.hid hc
        clear hM6 hF6 hf6 hFr5 k1 k3 hc
        go_wp2_with fail
        refine (check_no (HOP.out _ (HB6 _).out) HC.out).mono ?_
        rintro e w7 ⟨rfl, hb7⟩
        have HE7 := Lib.hid ((hb7.block w5.heap.size (by simp)).trans (heap_alloc_new _ _))
        have HB7 := Lib.hid (((Below.refl w5.heap.size w5).alloc (Nat.le_refl _) _).trans (hb7.mono (by simp)))
        have hz7 := block_lt HE7.out
        obtain ⟨t0, t1, t2, t3, t4, tf⟩ := cells5 HE7.out
        clear s0 s1 s2 s3 s4 s5 s6 s7 s8 sf hb7 HB6
        go_wp2_with fail
        go_roundw
        case rel => exact ⟨k + 1, by omega, by go_num, lp_bad HX.out.1 HX.out.2.1 HX.out.2.2.1 HX.out.2.2.2.1 HX.out.2.2.2.2.1 HM5.out.lower HX.out.2.2.2.2.2.1 HX.out.2.2.2.2.2.2.1 HA.out HD.out.1 HD.out.2.1 HD.out.2.2 HB7.out⟩
        case measure => simp [intOf]; omega
      | true =>
        have hst := (good HX.out.1 hc).1
        rw [hst] at hr5
        obtain ⟨kv5, dv5, rfl, k1, _, k3, _, _⟩ := hr5
        obtain ⟨A5, q5, rfl, _⟩ := Rd.form k1
        obtain ⟨A6, q6, rfl, _⟩ := Rd.form k3
        simp only [stat]
        have HD := Lib.hid (And.intro hM6 (And.intro hF6 hf6))
        have HC := Lib.hid hc
        clear hM6 hF6 hf6 hFr5 k1 k3 hc hst
        go_wp2_with fail
        refine (check_yes (HOP.out _ (HB6 _).out) HC.out).mono ?_
        rintro e w7 ⟨rfl, hb7⟩
        have HE7 := Lib.hid ((hb7.block w5.heap.size (by simp)).trans (heap_alloc_new _ _))
        have HB7 := Lib.hid (((Below.refl w5.heap.size w5).alloc (Nat.le_refl _) _).trans (hb7.mono (by simp)))
        have HW7 := Lib.hid (HB5.out.trans (HB7.out.mono HB5.out.size))
        have hz7 := block_lt HE7.out
        obtain ⟨t0, t1, t2, t3, t4, tf⟩ := cells5 HE7.out
        clear s0 s1 s2 s3 s4 s5 s6 s7 s8 sf hb7 HB6 n1 n2 hq1 hq2
        have n1 := cell_below HW7.out _ _ HMM.out.1
        have n2 := cell_below HW7.out _ _ HMM.out.2
        obtain ⟨w8, hru, hlp8⟩ := lp_good (w7 := w7.drew) HX.out.1 HX.out.2.1 HX.out.2.2.1 HX.out.2.2.2.1 HX.out.2.2.2.2.1 HM5.out.lower HX.out.2.2.2.2.2.1 HX.out.2.2.2.2.2.2.1 HA.out HC.out HD.out.1 HD.out.2.1 HD.out.2.2 HB7.out.drew (by omega) hwn HX.out.2.2.2.2.2.2.2
        have HL8 := Lib.hid hlp8; clear hlp8
        go_wp2_with fail
        go_region
        go_wp2_with fail
        go_roundw
        case rel => exact ⟨k + 1, by omega, by go_num, HL8.out⟩
        case measure => simp [intOf]; omega
    · obtain rfl : ns.length = k := by omega
      obtain ⟨S, P, F5, hM, hP, hL, hF5, hnb, hlast, hb, h0⟩ := HLP.out.out
      have hzr := hb.size
      have hsm : ∀ j x, P j = some x → x.length ≤ 16777216 := fun j x hj => hM.small.part (uk 2) ⟨bB, kB, P⟩ j x (by rw [hP.us]; exact upd_same _ _ _) hj
      have hck := fun W (hW : Below w.heap.size w W) => check_any W _ (endOp nm) (end_op H3.out W3.out hW)
      have he : (errN (chkB (endOp nm)) == 0) = chkB (endOp nm) := by cases chkB (endOp nm) <;> rfl
      generalize hcq : chkB (endOp nm) = c at hck he
      generalize errN c = q at hck he
      have HSM := Lib.hid hsm
      have HM5 := Lib.hid hM
      have HX := Lib.hid (And.intro hP (And.intro hL (And.intro hF5 (And.intro hnb (And.intro hlast (And.intro hb h0))))))
      have HC := Lib.hid hcq
      have HCK := Lib.hid hck
      clear hM hP hL hF5 hnb hlast hb h0 hsm hcq hck HLP hlt hk
      have HA := Lib.hid ((Below.refl wr.heap.size wr).alloc (Nat.le_refl _) (.cells #[.int .u64 3, .int .i64 9, .string eB, .string eB, .string eB, .int .i64 0, .int .u64 2, .slice A3 nm.length c3, .slice none 0 0] 26))
      go_wp2_with fail
      refine (HCK.out _ (HX.out.2.2.2.2.2.1.trans (HA.out.mono hzr))).mono ?_
      rintro e w5 ⟨rfl, hb5⟩
      have HB5 := Lib.hid (HA.out.trans (hb5.mono (by simp)))
      have HE5 := Lib.hid ((hb5.block wr.heap.size (by simp)).trans (heap_alloc_new wr _))
      have hz5 := block_lt HE5.out
      have HW5 := Lib.hid (HX.out.2.2.2.2.2.1.trans (HB5.out.mono hzr))
      clear hb5
      go_wp2_with fail
      generalize hbx : wr.heap.size = bx at *
      have HBX := Lib.hid hbx
      clear hbx
      go_loopw [13, 14, 15] (fun a b i wl => ∃ (k : Nat) (al : Bool) (acc : List UInt8), k ≤ nm.length ∧ i = .int .i64 k ∧ a = .bool al ∧ OwnB 5 wl w5.heap.size b acc ∧ acc.length ≤ k * 16777216 ∧ Below w5.heap.size w5 wl ∧ Hid (al = true → c = true ∧ cats P (nm.take k) = some acc) ∧ Hid (al = false → c = false ∨ cats P nm = none)) (fun _ _ i _ => nm.length - (intOf i).toNat)
      case atStart => exact ⟨0, c, [], Nat.zero_le _, rfl, rfl, OwnB.nil _ _, by simp, Below.refl _ _, Lib.hid (fun e => ⟨e, rfl⟩), Lib.hid (fun e => .inl e)⟩
      case round =>
        obtain ⟨k, al, acc, hk, rfl, rfl, hown, hacc, hbel, HT, HN⟩ := hrel
        have HO := Lib.hid hown; clear hown
        have HBL := Lib.hid hbel; clear hbel
        have hzl := HBL.out.size
        clear he
        by_cases hgo : k < nm.length ∧ al = true
        · obtain ⟨hlt, rfl⟩ := hgo
          obtain ⟨f, f1, f2, f3⟩ := HX.out.2.2.2.2.1.out
          obtain ⟨q3, o3, r3, e, _, _, _, hc3⟩ := Rd.full H3.out (by omega) (by omega)
          cases e
          have n1 := cell_below (HW5.out.trans (HBL.out.mono HW5.out.size)) _ _ (hc3.at_ k _ (by simp [hlt] : _ = some (.int .i64 nm[k])))
          have hwn := W3.out nm[k] (List.getElem_mem hlt)
          have hlk := (f1.same (w' := wr) ((HBL.out.block bl (by have := f1.lt; have := HB5.out.size; omega)).trans (HB5.out.block bl (by have := f1.lt; have := HBX.out; omega)))).look_ok Ki Try.underlying38 (z := .slice none 0 0) (by rfl) (ki_of hwn)
          have HTK := Lib.hid (take_snoc nm k hlt)
          have HTS := Lib.hid (take_split nm k hlt)
          have hkb : k ≤ 100 := by omega
          cases hpk : P (ik nm[k]) with
          | none =>
            rw [f2 _ hpk] at hlk
            simp only [Option.getD_none, Option.isSome_none] at hlk
            have HN0 : Hid (cats P nm = none) := by
              have := cats_none P (nm.take k) (nm.drop (k + 1)) _ hpk
              rw [HTS.out] at this
              exact this
            obtain ⟨xe, hxe, HRX⟩ : ∃ xe : List UInt8, xe.length = 0 ∧ Hid (RdB wr (.slice none 0 0) xe) := ⟨[], rfl, rdb_nil _⟩
            clear f1 f2 f3 hc3 hpk
            generalize nm[k] = nk at *
            go_wp2_with (first
              | (at_builtin; refine wpList_app w5.heap.size tB HO.out (rd_src Try.underlying24 HRX.out (by omega) (bvs_one _)) hzl (by unfold maxLen; omega) (by omega) rfl rfl rfl rfl ?_)
              | fail)
            intro v2 w2 ho2 hg2
            have hb2 := below_grown HBL.out HO.out hg2 hzl
            have HO2 := Lib.hid (OwnB.of (xs := acc ++ xe) ho2 (bvs_append _ _).symm)
            have HB2 := Lib.hid hb2
            clear ho2 hg2 hb2 hlk
            go_wp2
            go_roundw
            case rel => exact ⟨k + 1, false, acc ++ xe, by omega, by go_num, rfl, HO2.out, by simp; omega, HB2.out, Lib.hid (fun e => by cases e), Lib.hid (fun _ => .inr HN0.out)⟩
            case measure => simp [intOf]; omega
          | some x =>
            obtain ⟨v, hv, hrv⟩ := f3 _ x hpk
            rw [hv] at hlk
            simp only [Option.getD_some, Option.isSome_some] at hlk
            have hxl := HSM.out _ x hpk
            have HN1 : Hid (c = true ∧ cats P (nm.take (k + 1)) = some (acc ++ x)) := ⟨(HT.out rfl).1, by rw [HTK.out]; exact cats_snoc P _ _ (HT.out rfl).2 hpk⟩
            have HRX : Hid (RdB wr v x) := RdB.below hrv (HW5.out.trans (HBL.out.mono HW5.out.size))
            obtain ⟨A0, cap0, rfl, _, _, _⟩ := Rd.form HRX.out
            clear f1 f2 f3 hc3 hpk hv hrv
            generalize nm[k] = nk at *
            go_wp2_with (first
              | (at_builtin; refine wpList_app w5.heap.size tB HO.out (rd_src Try.underlying24 HRX.out (by omega) (bvs_one _)) hzl (by unfold maxLen; omega) (by omega) rfl rfl rfl rfl ?_)
              | fail)
            intro v2 w2 ho2 hg2
            have hb2 := below_grown HBL.out HO.out hg2 hzl
            have HO2 := Lib.hid (OwnB.of (xs := acc ++ x) ho2 (bvs_append _ _).symm)
            have HB2 := Lib.hid hb2
            clear ho2 hg2 hb2 hlk
            go_wp2
            go_roundw
            case rel => exact ⟨k + 1, true, acc ++ x, by omega, by go_num, rfl, HO2.out, by simp; omega, HB2.out, Lib.hid (fun _ => HN1.out), Lib.hid (fun e => by cases e)⟩
            case measure => simp [intOf]; omega
        · have hns : ns.length ≤ 100 := g1
          have HMr := Lib.hid (HM5.out.framed (w' := wr) (fun i hi => by have h1 := HM5.out.lower i hi; rw [HBL.out.block i (by have := HB5.out.size; omega), HB5.out.block i (by have := HBX.out; omega)]))
          have HEr := Lib.hid ((HBL.out.block bx hz5).trans HE5.out)
          have HWr := Lib.hid (HW5.out.trans (HBL.out.mono HW5.out.size))
          have hzx : bx < wr.heap.size := by omega
          obtain ⟨s0, s1, s2, s3, s4, s5, s6, s7, s8, sf⟩ := cells9 HEr.out
          cases al with
          | false =>
            have hfn : c = false ∨ cats P nm = none := HN.out rfl
            have hfn2 : chkB (endOp nm) = false ∨ cats P nm = none := hfn.imp (fun e => by rw [HC.out]; exact e) id
            have HST := Lib.hid (fin_none HX.out.1 hfn2)
            clear hgo hfn hfn2
            go_wp2_with fail
            all_goals
              refine (do_any HMr.out (end_op H3.out W3.out HWr.out) (by unfold maxLen; omega) HX.out.2.1 (fun e1 => by simp [endOp] at e1)).mono ?_
              rintro e w6 ⟨⟨v6, Fr6, F6, rfl, hr6, hFr6, hM6, hF6, hf6⟩⟩
              rw [HST.out.1] at hr6
              obtain ⟨kv6, dv6, rfl, k1, _, k3, _, _⟩ := hr6
              obtain ⟨A5, q5, rfl, _⟩ := Rd.form k1
              obtain ⟨A6, q6, rfl, _⟩ := Rd.form k3
              simp only [stat]
              have HM6 := Lib.hid hM6
              have HF6 : Hid (∀ i, F6 i → w.heap.size ≤ i) := fun i hi => by
                rcases hF6 i hi with h | h
                · exact HX.out.2.2.1 i h
                · have := HWr.out.size; omega
              have HW6 := Lib.hid (HWr.out.trans (hf6.below HWr.out.size HX.out.2.2.1))
              have HK6 := Lib.hid (And.intro hF6 hf6)
              clear k1 k3 hM6 hF6 hf6 hFr6 s0 s1 s2 s3 s4 s5 s6 s7 s8 sf
              go_wp2_with fail
              refine (do_any (HM6.out.framed (fun i hi => alloc_same (HM6.out.lower i hi))) (get_op _) (by unfold maxLen; omega) (live_do HX.out.2.1) (fun e1 => by simp [getOp] at e1)).mono ?_
              rintro e w7 ⟨⟨v7, Fr7, F7, rfl, hr7, hFr7, hM7, hF7, hf7⟩⟩
              rw [HST.out.2] at hr7
              obtain ⟨kv7, dv7, rfl, k1, _, k3, hi7, hl7⟩ := hr7
              obtain ⟨A7, q7, rfl, _⟩ := Rd.form k1
              have hd7 := k3
              obtain ⟨A8, q8, rfl, _⟩ := Rd.form k3
              have HE7 := Lib.hid ((hf7.block w6.heap.size (by simp) (fun e => by have := HM6.out.lower _ e; omega)).trans (heap_alloc_new _ _))
              have hz7 := block_lt HE7.out
              have HM7 := Lib.hid hM7
              have HF7 : Hid (∀ i, F7 i → w.heap.size ≤ i) := fun i hi => by
                rcases hF7 i hi with h | h
                · exact HF6.out i h
                · have := HW6.out.size; simp at h; omega
              have HW7 := Lib.hid ((HW6.out.alloc HW6.out.size _).trans (hf7.below (by have := HW6.out.size; simp; omega) HF6.out))
              have HK7 := Lib.hid (And.intro hF7 hf7)
              have HI7 := Lib.hid (And.intro hd7 (And.intro hi7 (And.intro hl7 hFr7)))
              clear k1 k3 hM7 hF7 hf7 hFr7 hd7 hi7 hl7
              simp only [stat]
              obtain ⟨t0, t1, t2, t3, t4, tf⟩ := cells5 HE7.out
              go_wp2_with fail
              go_ret
              exact ⟨rfl, HW7.out.alloc HW7.out.size _⟩
          | true =>
            have hkl : k = nm.length := by
              by_cases h : k < nm.length
              · exact absurd ⟨h, rfl⟩ hgo
              · omega
            obtain ⟨hc1, hc2⟩ := HT.out rfl
            rw [hkl, List.take_length] at hc2
            have HST := Lib.hid (fin_some HX.out.1 (by rw [HC.out]; exact hc1) hc2)
            subst hkl
            clear hgo hc1 hc2
            go_wp2_with fail
            refine (do_any HMr.out (end_op H3.out W3.out HWr.out) (by unfold maxLen; omega) HX.out.2.1 (fun e1 => by simp [endOp] at e1)).mono ?_
            rintro e w6 ⟨⟨v6, Fr6, F6, rfl, hr6, hFr6, hM6, hF6, hf6⟩⟩
            rw [HST.out.1] at hr6
            obtain ⟨kv6, dv6, rfl, k1, _, k3, _, _⟩ := hr6
            obtain ⟨A5, q5, rfl, _⟩ := Rd.form k1
            obtain ⟨A6, q6, rfl, _⟩ := Rd.form k3
            simp only [stat]
            have HM6 := Lib.hid hM6
            have HF6 : Hid (∀ i, F6 i → w.heap.size ≤ i) := fun i hi => by
              rcases hF6 i hi with h | h
              · exact HX.out.2.2.1 i h
              · have := HWr.out.size; omega
            have HW6 := Lib.hid (HWr.out.trans (hf6.below HWr.out.size HX.out.2.2.1))
            have HK6 := Lib.hid (And.intro hF6 hf6)
            clear k1 k3 hM6 hF6 hf6 hFr6 s0 s1 s2 s3 s4 s5 s6 s7 s8 sf
            go_wp2_with fail
            refine (do_any (HM6.out.framed (fun i hi => alloc_same (HM6.out.lower i hi))) (get_op _) (by unfold maxLen; omega) (live_do HX.out.2.1) (fun e1 => by simp [getOp] at e1)).mono ?_
            rintro e w7 ⟨⟨v7, Fr7, F7, rfl, hr7, hFr7, hM7, hF7, hf7⟩⟩
            rw [HST.out.2.1] at hr7
            obtain ⟨kv7, dv7, rfl, k1, _, k3, hi7, hl7⟩ := hr7
            obtain ⟨A7, q7, rfl, _⟩ := Rd.form k1
            have hd7 := k3
            obtain ⟨A8, q8, rfl, _⟩ := Rd.form k3
            have HE7 := Lib.hid ((hf7.block w6.heap.size (by simp) (fun e => by have := HM6.out.lower _ e; omega)).trans (heap_alloc_new _ _))
            have hz7 := block_lt HE7.out
            have HM7 := Lib.hid hM7
            have HF7 : Hid (∀ i, F7 i → w.heap.size ≤ i) := fun i hi => by
              rcases hF7 i hi with h | h
              · exact HF6.out i h
              · have := HW6.out.size; simp at h; omega
            have HW7 := Lib.hid ((HW6.out.alloc HW6.out.size _).trans (hf7.below (by have := HW6.out.size; simp; omega) HF6.out))
            have HK7 := Lib.hid (And.intro hF7 hf7)
            have HI7 := Lib.hid (And.intro hd7 (And.intro hi7 (And.intro hl7 hFr7)))
            clear k1 k3 hM7 hF7 hf7 hFr7 hd7 hi7 hl7
            go_wp2_with fail
            refine (do_any (HM7.out.framed (fun i hi => alloc_same (HM7.out.lower i hi))) (ab_op _) (by unfold maxLen; omega) (live_do (live_do HX.out.2.1)) (fun e1 => by simp [abOp] at e1)).mono ?_
            rintro e w8 ⟨⟨v8, Fr8, F8, rfl, hr8, hFr8, hM8, hF8, hf8⟩⟩
            rw [HST.out.2.2] at hr8
            obtain ⟨kv8, dv8, rfl, k1, _, k3, _, _⟩ := hr8
            obtain ⟨A9, q9, rfl, _⟩ := Rd.form k1
            obtain ⟨A10, q10, rfl, _⟩ := Rd.form k3
            simp only [stat]
            have z6 := HK6.out.2.size
            have z7 := HK7.out.2.size
            have z8 := hf8.size
            simp at z7 z8
            have n7 : ∀ i, i < w7.heap.size → ¬ F7 i → w8.heap[i]? = w7.heap[i]? := fun i hi hn => (hf8.block i (by simp; omega) hn).trans (alloc_same hi)
            have hn6 : ¬ F7 w6.heap.size := fun e => by
              have h1 := HK7.out.1 _ e
              rw [alloc_size] at h1
              rcases h1 with h | h
              · have := HM6.out.lower _ h; omega
              · omega
            have HE8 := Lib.hid ((n7 w6.heap.size (by omega) hn6).trans HE7.out)
            have HG8 := Lib.hid ((hf8.block w7.heap.size (by simp) (fun e => by have := HM7.out.lower _ e; omega)).trans (heap_alloc_new _ _))
            have HW8 := Lib.hid ((HW7.out.alloc HW7.out.size _).trans (hf8.below (by have := HW7.out.size; simp; omega) HF7.out))
            have hd8 := Rd.framed HI7.out.1 HI7.out.2.1 (fun i hi => n7 i (HI7.out.2.2.1 i hi) (HI7.out.2.2.2 i hi).2)
            have hw8 := own_rd (own_same (w' := w8) HO.out (fun i hi => by
              obtain ⟨b1, b2⟩ := own_lt HO.out hi
              have f5 : ¬ F5 i := fun e => by have := HM5.out.lower i e; have := HBX.out; omega
              have f6 : ¬ F6 i := fun e => by rcases HK6.out.1 i e with h | h; exact f5 h; omega
              have f7 : ¬ F7 i := fun e => by
                have h1 := HK7.out.1 i e
                rw [alloc_size] at h1
                rcases h1 with h | h
                · exact f6 h
                · omega
              rw [n7 i (by omega) f7, HK7.out.2.block i (by simp; omega) f6, alloc_same (by omega), HK6.out.2.block i (by omega) f5]))
            have hc8 := fun o => conv_str (Rd.below hd8 ((Below.refl _ w8).alloc (Nat.le_refl _) o)) Try.underlying24 Try.underlying5 Try.underlying9
            have hc9 := fun o => conv_str (Rd.below hw8 ((Below.refl _ w8).alloc (Nat.le_refl _) o)) Try.underlying24 Try.underlying5 Try.underlying9
            generalize str acc = z at *
            clear k1 k3 hM8 hF8 hf8 hFr8 n7 hd8 hw8
            obtain ⟨t0, t1, t2, t3, t4, tf⟩ := cells5 HE8.out
            obtain ⟨x0, x1, x2, x3, x4, xf⟩ := cells5 HG8.out
            have hz68 : w6.heap.size < w8.heap.size := block_lt HE8.out
            have hz78 : w7.heap.size < w8.heap.size := block_lt HG8.out
            go_wp2_with fail
            go_ret
            exact ⟨rfl, HW8.out.alloc HW8.out.size _⟩
end Go.Proofs.Ytkbmecjpjphngaa.bucketParts
