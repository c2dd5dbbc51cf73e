/-
  BucketRooms: the walk.
-/
import Derived.Test.YtkbmecjpjphngaaBTwo
import Derived.Test.YtkbmecjpjphngaaBSame
import Derived.Test.YtkbmecjpjphngaaBListW
import Derived.Test.YtkbmecjpjphngaaBKnown
set_option linter.unusedVariables false
set_option linter.unusedSimpArgs false
namespace Go.Proofs.Ytkbmecjpjphngaa.bucketRooms
open Go.Proofs.Ytkbmecjpjphngaa
open Go.RowKit Go.Maps

set_option maxRecDepth 100000 in
set_option maxHeartbeats 4000000 in
theorem walk_skip {A : Option Addr} {cap : Nat} {os : List OpC} {name : ByteArray} {w : World} (h : OpsR w (.slice A os.length cap) os) (hb : opsSz os ≤ 1000000000) (hf : fewB os = false) :
    Calls Try.prog 5 #[.slice A os.length cap, .string name] w fun e w' => e = .returned (.bool true) ∧ Below w.heap.size w w' := by
  have HO := Lib.hid h; clear h
  have HF := Lib.hid hf; clear hf
  go_enter Try.func5, Try.ntmps5
  go_wp2_with fail
  refine (known_walk15 _).mono ?_
  rintro e w1 ⟨rfl, hb1⟩
  have HB1 := Lib.hid hb1; clear hb1
  have hfw := few_any (HO.out.below HB1.out) hb
  rw [HF.out] at hfw
  have HFW := Lib.hid hfw; clear hfw
  go_wp2_with fail
  refine HFW.out.mono ?_
  rintro e w2 ⟨rfl, hb2⟩
  have HB2 := Lib.hid (HB1.out.trans (hb2.mono HB1.out.size)); clear hb2
  go_wp2_with fail
  go_ret
  exact ⟨rfl, HB2.out⟩

set_option maxRecDepth 100000 in
set_option maxHeartbeats 8000000 in
theorem walk_do {A : Option Addr} {cap : Nat} {os : List OpC} {name : ByteArray} {w : World} (h : OpsR w (.slice A os.length cap) os) (hl : os.length ≤ 400) (hz : opsSz os ≤ 131072) (hname : name.size ≤ maxLen) :
    Calls Try.prog 5 #[.slice A os.length cap, .string name] w fun e w' => e = .returned (.bool true) ∧ Below w.heap.size w w' := by
  have HO := Lib.hid h; clear h
  have HFW := Lib.hid (fun W (hW : Below w.heap.size w W) => few_any (HO.out.below hW) (by omega))
  rw [fewB_yes hl hz] at HFW
  clear hz
  go_enter Try.func5, Try.ntmps5
  go_wp2_with fail
  refine (known_walk15 _).mono ?_
  rintro e w1 ⟨rfl, hb1⟩
  have HB1 := Lib.hid hb1; clear hb1
  go_wp2_with fail
  refine (HFW.out _ HB1.out).mono ?_
  rintro e w2 ⟨rfl, hb2⟩
  have HB2 := Lib.hid (HB1.out.trans (hb2.mono HB1.out.size)); clear hb2
  go_wp2_with fail
  refine (bucketNew_any _).mono ?_
  rintro e w3 ⟨pa, Fa, rfl, hMa, hFa, hb3⟩
  obtain ⟨ga, Ba, Ua, Da, FBa, FUa, FDa, rfl, _⟩ := hMa.at_
  have HA := Lib.hid (And.intro hMa (And.intro hFa hb3))
  clear hMa hFa hb3
  go_wp2_with fail
  refine (bucketNew_any _).mono ?_
  rintro e w4 ⟨pb, Fb, rfl, hMb, hFb, hb4⟩
  obtain ⟨gb, Bb, Ub, Db, FBb, FUb, FDb, rfl, _⟩ := hMb.at_
  have HST := Lib.hid (ri_start (name := name) HB2.out HA.out.1 HA.out.2.1 HA.out.2.2 hMb hFb hb4)
  have HB4 := Lib.hid ((HB2.out.trans (HA.out.2.2.mono HB2.out.size)).trans (hb4.mono (by have := HB2.out.size; have := HA.out.2.2.size; omega)))
  clear hMb hFb hb4 HA
  have hmm := @run_makeMap Try.prog
  go_wp2_with fail
  generalize hbm : w4.heap.size = bm at *
  have HBM := Lib.hid hbm; clear hbm
  go_loopw [9] (fun i wr => ∃ k : Nat, k ≤ os.length ∧ i = .int .i64 k ∧ RI w name (.pointer (some ⟨ga, 0, none⟩)) (.pointer (some ⟨gb, 0, none⟩)) bm (bm + 1) k wr) (fun i _ => os.length - (intOf i).toNat)
  case atStart => exact ⟨0, Nat.zero_le _, rfl, HST.out⟩
  case round =>
    obtain ⟨k, hk, rfl, hri⟩ := hrel
    clear HST hmm
    obtain ⟨S, T, M, Sn, Fa, Fb, hta, hri, hL, hLT⟩ := hri.out
    have HTA := Lib.hid hta; clear hta
    have HRI := Lib.hid (And.intro hri (And.intro hL hLT)); clear hri hL hLT
    by_cases hlt : k < os.length
    · obtain ⟨A', cap', e, hcap, hcm, hat⟩ := HO.out
      cases e
      obtain ⟨g, off, c0, c1, c2, c3, c4, c5, c6, c7, c8, rfl, hop, v0, v1, v2, v3, v4, v5, v6, v7, v8⟩ := hat k hlt
      have HOP0 := Lib.hid hop
      have HOP := Lib.hid (hop.below HTA.out.bel)
      have hcb := cell_below HTA.out.bel
      have x0 := hcb _ _ v0
      have x1 := hcb _ _ v1
      have x2 := hcb _ _ v2
      have x3 := hcb _ _ v3
      have x4 := hcb _ _ v4
      have x5 := hcb _ _ v5
      have x6 := hcb _ _ v6
      have x7 := hcb _ _ v7
      have x8 := hcb _ _ v8
      clear hcb v0 v1 v2 v3 v4 v5 v6 v7 v8
      obtain ⟨pv, dv, e, hpv, hdv, hwi, hwk, hwn, hwu, hwp, hs, hks, has⟩ := hop
      cases e
      obtain ⟨A1, r1, rfl, _, _, _⟩ := Rd.form hpv
      obtain ⟨A2, r2, rfl, _, _, _⟩ := Rd.form hdv
      generalize os[k] = o at *
      have HWI := Lib.hid hwi
      have HWU := Lib.hid hwu
      have hzw := HTA.out.bel.size
      have hbs := HTA.out.ms.lt
      have hbm := HTA.out.mm.lt
      unfold maxLen at hcm
      clear hat hpv hdv hwi hwk hwn hwu hwp hs hks has
      have hwa : Below wr.heap.size wr (wr.alloc (.cells #[.int .u64 o.id, .int .i64 o.kind, .string o.bucket, .string o.key, .string o.after, .int .i64 o.n, .int .u64 o.up, .slice A1 o.parts.length r1, .slice A2 o.data.length r2] 26)) := (Below.refl _ _).alloc (Nat.le_refl _) _
      have HWA := Lib.hid hwa; clear hwa
      by_cases hsn : Sn (uk o.id)
      · have hlk := HTA.out.ms.yes HWI.out hsn _ (HWA.out.block _ hbs)
        clear hsn
        go_wp2_with fail
        go_roundw
        case rel => exact ⟨k + 1, by omega, by go_num, ⟨S, T, M, Sn, Fa, Fb, (HTA.out.below HWA.out).mono (by omega), HRI.out.1, HRI.out.2.1, HRI.out.2.2⟩⟩
        case measure => simp [intOf]; omega
      · have hlk := HTA.out.ms.no HWI.out hsn _ (HWA.out.block _ hbs)
        have HSN := Lib.hid hsn; clear hsn
        have HCK := Lib.hid (check_any _ _ o (HOP.out.below HWA.out))
        have HE0 := Lib.hid (heap_alloc_new wr (.cells #[.int .u64 o.id, .int .i64 o.kind, .string o.bucket, .string o.key, .string o.after, .int .i64 o.n, .int .u64 o.up, .slice A1 o.parts.length r1, .slice A2 o.data.length r2] 26))
        cases hc : chkB o with
        | false =>
          rw [hc] at HCK
          clear hc
          go_wp2_with fail
          refine HCK.out.mono ?_
          rintro e w5 ⟨rfl, hb5⟩
          have HB5 := Lib.hid (HWA.out.trans (hb5.mono HWA.out.size)); clear hb5
          simp only [errN]
          go_wp2_with fail
          go_roundw
          case rel => exact ⟨k + 1, by omega, by go_num, ⟨S, T, M, Sn, Fa, Fb, (HTA.out.below HB5.out).mono (by omega), HRI.out.1, HRI.out.2.1, HRI.out.2.2⟩⟩
          case measure => simp [intOf]; omega
        | true =>
          rw [hc] at HCK
          have HC := Lib.hid hc; clear hc
          go_wp2_with fail
          refine HCK.out.mono ?_
          rintro e w5 ⟨rfl, hb5⟩
          simp only [errN]
          have HE5 := Lib.hid ((hb5.block wr.heap.size (by simp)).trans HE0.out)
          have HB5 := Lib.hid (HWA.out.trans (hb5.mono HWA.out.size)); clear hb5
          have HT5 := Lib.hid (HTA.out.below HB5.out)
          obtain ⟨s0, s1, s2, s3, s4, s5, s6, s7, s8, sf⟩ := cells9 HE5.out
          obtain ⟨w6, hru, hm6, hf6, hct⟩ := HT5.out.ms.store (by unfold maxLen; omega) HWI.out
          have HT6 := Lib.hid (HT5.out.st_s hm6 hf6)
          have HE6 := Lib.hid ((hf6.block wr.heap.size (block_lt HE5.out) (by omega)).trans HE5.out)
          obtain ⟨t0, t1, t2, t3, t4, t5, t6, t7, t8, tf⟩ := cells9 HE6.out
          have HW6 := Lib.hid (hf6.size)
          have HO6 := Lib.hid ((HOP.out.below HB5.out).cells (fun a u h => (hct a).trans h))
          clear hm6 hf6 hct
          go_wp2_with fail
          refine (do_any HT6.out.ma HO6.out (by unfold maxLen; omega) HRI.out.2.1 (fun e1 e2 W h1 h2 c h3 => listOk _ _ _ _ _ _ _ _ (by omega) h1 h2 e2 e1 h3)).mono ?_
          rintro e w7 ⟨⟨v7, Fr, F7, rfl, hr7, hFr7, hM7, hF7, hf7⟩⟩
          have HR7 := Lib.hid hr7
          have HFR7 := Lib.hid hFr7
          have HT7 := Lib.hid (HT6.out.do_a (m := 8 * k + 1 + 1 + 1) (by omega) hM7 hF7 hf7)
          have HE7 := Lib.hid ((hf7.block wr.heap.size (block_lt HE6.out) (fun e => by have := HTA.out.ma.lower _ e; omega)).trans HE6.out)
          obtain ⟨kv7, dv7, rfl, k1, _, k3, _, _⟩ := hr7
          obtain ⟨A5, q5, rfl, _, _, _⟩ := Rd.form k1
          obtain ⟨A6, q6, rfl, _, _, _⟩ := Rd.form k3
          have HL1 := Lib.hid (live_do (o := o) HRI.out.2.1)
          have HD := Lib.hid (chk_way HC.out)
          have HAB := Lib.hid (away_b HRI.out.1 HC.out HSN.out)
          have HAU := Lib.hid (away_u HRI.out.1 HC.out HSN.out)
          have HHB := Lib.hid (here_b HRI.out.1 HC.out HSN.out)
          have HHU := Lib.hid (here_u HRI.out.1 HC.out HSN.out)
          clear hFr7 hM7 hF7 hf7 k1 k3 s0 s1 s2 s3 s4 s5 s6 s7 s8 sf t0 t1 t2 t3 t4 t5 t6 t7 t8 tf
          obtain ⟨t0, t1, t2, t3, t4, t5, t6, t7, t8, tf⟩ := cells9 HE7.out
          generalize (doC S o).1 = r at *
          generalize (doC S o).2 = S1 at *
          have hwb : Below w7.heap.size w7 (w7.alloc (.cells #[.int .i64 r.st, .int .u64 r.up, .slice A5 r.keys.length q5, .bool r.more, .slice A6 r.data.length q6] 41)) := (Below.refl _ _).alloc (Nat.le_refl _) _
          have HWB := Lib.hid hwb; clear hwb
          have HT8 := Lib.hid (HT7.out.below HWB.out)
          have HE8 := Lib.hid ((HWB.out.block _ (block_lt HE7.out)).trans HE7.out)
          have HB8 := Lib.hid (heap_alloc_new w7 (.cells #[.int .i64 r.st, .int .u64 r.up, .slice A5 r.keys.length q5, .bool r.more, .slice A6 r.data.length q6] 41))
          have hb7 : wr.heap.size < w7.heap.size := block_lt HE7.out
          have HRX := Lib.hid (HR7.out)
          have hne : ∀ s : ByteArray, s.size = 0 → s.toList = [] := fun s h => by rw [toList_data]; exact List.eq_nil_of_length_eq_zero (by simpa using h)
          have hne2 : ∀ s : ByteArray, s.toList = [] → s.size = 0 := fun s h => by rw [toList_data] at h; have := congrArg List.length h; simpa using this
          have hcase : (o.bucket.toList = [] ∧ ¬ M (uk o.up)) ∨ (o.bucket.toList ≠ [] ∧ o.bucket ≠ name) ∨ (o.bucket.toList = [] ∧ M (uk o.up) ∧ o.kind ≠ 7) ∨ (o.bucket.toList ≠ [] ∧ o.bucket = name ∧ o.kind ≠ 7) ∨ (o.bucket.toList ≠ [] ∧ o.bucket = name ∧ o.kind = 7 ∧ r.st ≠ 200) ∨ (o.bucket.toList ≠ [] ∧ o.bucket = name ∧ o.kind = 7 ∧ r.st = 200) := by
            have hd := HD.out
            by_cases c1 : o.bucket.toList = []
            · have h7 : o.kind ≠ 7 := fun e => by
                rcases hd with h | h
                · have := hne2 _ c1; omega
                · omega
              by_cases c2 : M (uk o.up)
              · exact .inr (.inr (.inl ⟨c1, c2, h7⟩))
              · exact .inl ⟨c1, c2⟩
            · by_cases c2 : o.bucket = name
              · by_cases c3 : o.kind = 7
                · by_cases c4 : r.st = 200
                  · exact .inr (.inr (.inr (.inr (.inr ⟨c1, c2, c3, c4⟩))))
                  · exact .inr (.inr (.inr (.inr (.inl ⟨c1, c2, c3, c4⟩))))
                · exact .inr (.inr (.inr (.inl ⟨c1, c2, c3⟩)))
              · exact .inr (.inl ⟨c1, c2⟩)
          have hB : o.bucket.toList ≠ [] → 1 ≤ o.kind ∧ o.kind ≤ 7 := fun h => by
            rcases HD.out with e | e
            · exact ⟨e.1, e.2.1⟩
            · exact absurd e.2.2 h
          have hU : o.bucket.toList = [] → 8 ≤ o.kind ∧ o.kind ≤ 10 := fun h => by
            rcases HD.out with e | e
            · have := hne2 _ h; omega
            · exact ⟨e.1, e.2.1⟩
          have HHK := Lib.hid (And.intro hB hU)
          clear hne hne2 hB hU
          rcases hcase with ⟨hbe, hM⟩ | ⟨hbe, hbn⟩ | ⟨hbe, hM, hk7⟩ | ⟨hbe, hbn, hk7⟩ | ⟨hbe, hbn, hk7, hst⟩ | ⟨hbe, hbn, hk7, hst⟩
          case' inl =>
            have hq1 : o.bucket.toList.isEmpty = true := by rw [hbe]; rfl
            have hlm := HT8.out.mm.no HWU.out hM (w7.alloc (.cells #[.int .i64 r.st, .int .u64 r.up, .slice A5 r.keys.length q5, .bool r.more, .slice A6 r.data.length q6] 41)) rfl
            have HFI := Lib.hid (HAU.out (HHK.out.2 hbe) hM)
            clear hM
            go_wp2_with fail
            go_roundw
            case rel => exact ⟨k + 1, by omega, by go_num, ⟨S1, T, M, _, F7, Fb, HT8.out.mono (by omega), HFI.out, HL1.out, HRI.out.2.2⟩⟩
            case measure => simp [intOf]; omega
          case' inr.inl =>
            have hq1 : o.bucket.toList.isEmpty = false := by simpa using hbe
            have hq2 : (o.bucket.toList == name.toList) = false := by rw [Bool.eq_false_iff]; exact fun h => hbn (ba_eq.1 h)
            have HFI := Lib.hid (HAB.out (HHK.out.1 hbe) hbn)
            clear hbn
            go_wp2_with fail
            go_roundw
            case rel => exact ⟨k + 1, by omega, by go_num, ⟨S1, T, M, _, F7, Fb, HT8.out.mono (by omega), HFI.out, HL1.out, HRI.out.2.2⟩⟩
            case measure => simp [intOf]; omega
          case' inr.inr.inl =>
            have hq1 : o.bucket.toList.isEmpty = true := by rw [hbe]; rfl
            have hlm := HT8.out.mm.yes HWU.out hM (w7.alloc (.cells #[.int .i64 r.st, .int .u64 r.up, .slice A5 r.keys.length q5, .bool r.more, .slice A6 r.data.length q6] 41)) rfl
            have hq3 : (o.kind == 7) = false := by rw [beq_eq_false_iff_ne]; exact hk7
            obtain ⟨heq, hfi⟩ := HHU.out (HHK.out.2 hbe) hM
            have HEQ := Lib.hid heq
            have HM : Hid (∃ MM, RInv name S1 (doC T o).2 MM (seenNow Sn o) ∧ TwoAt w (.pointer (some ⟨ga, 0, none⟩)) (.pointer (some ⟨gb, 0, none⟩)) bm (bm + 1) (8 * k + 4) S1 T MM (seenNow Sn o) F7 Fb (w7.alloc (.cells #[.int .i64 r.st, .int .u64 r.up, .slice A5 r.keys.length q5, .bool r.more, .slice A6 r.data.length q6] 41))) := ⟨M, hfi, HT8.out.mono (by omega)⟩
            have HRX := Lib.hid (resR.framed HR7.out (fun i hi => HWB.out.block i (resR.lower HR7.out i hi)))
            clear hM heq hfi hk7
            go_wp2_with fail
            clear hlm
            generalize w7.alloc (.cells #[.int .i64 r.st, .int .u64 r.up, .slice A5 r.keys.length q5, .bool r.more, .slice A6 r.data.length q6] 41) = w8 at *
          case' inr.inr.inr.inl =>
            have hq1 : o.bucket.toList.isEmpty = false := by simpa using hbe
            have hq2 : (o.bucket.toList == name.toList) = true := ba_eq.2 hbn
            have hq3 : (o.kind == 7) = false := by rw [beq_eq_false_iff_ne]; exact hk7
            obtain ⟨heq, M', hfi, _, hM'⟩ := HHB.out (HHK.out.1 hbe) hbn
            obtain rfl := hM' (fun e => hk7 e.1)
            have HEQ := Lib.hid heq
            have HM : Hid (∃ MM, RInv name S1 (doC T o).2 MM (seenNow Sn o) ∧ TwoAt w (.pointer (some ⟨ga, 0, none⟩)) (.pointer (some ⟨gb, 0, none⟩)) bm (bm + 1) (8 * k + 4) S1 T MM (seenNow Sn o) F7 Fb (w7.alloc (.cells #[.int .i64 r.st, .int .u64 r.up, .slice A5 r.keys.length q5, .bool r.more, .slice A6 r.data.length q6] 41))) := ⟨M', hfi, HT8.out.mono (by omega)⟩
            have HRX := Lib.hid (resR.framed HR7.out (fun i hi => HWB.out.block i (resR.lower HR7.out i hi)))
            clear heq hfi hk7 hM' hbn
            go_wp2_with fail
            generalize w7.alloc (.cells #[.int .i64 r.st, .int .u64 r.up, .slice A5 r.keys.length q5, .bool r.more, .slice A6 r.data.length q6] 41) = w8 at *
          case' inr.inr.inr.inr.inl =>
            have hq1 : o.bucket.toList.isEmpty = false := by simpa using hbe
            have hq2 : (o.bucket.toList == name.toList) = true := ba_eq.2 hbn
            have hq3 : (o.kind == 7) = true := by rw [beq_iff_eq]; exact hk7
            have hq4 : (r.st == 200) = false := by rw [beq_eq_false_iff_ne]; exact hst
            obtain ⟨heq, M', hfi, _, hM'⟩ := HHB.out (HHK.out.1 hbe) hbn
            obtain rfl := hM' (fun e => hst e.2)
            have HEQ := Lib.hid heq
            have HM : Hid (∃ MM, RInv name S1 (doC T o).2 MM (seenNow Sn o) ∧ TwoAt w (.pointer (some ⟨ga, 0, none⟩)) (.pointer (some ⟨gb, 0, none⟩)) bm (bm + 1) (8 * k + 4) S1 T MM (seenNow Sn o) F7 Fb (w7.alloc (.cells #[.int .i64 r.st, .int .u64 r.up, .slice A5 r.keys.length q5, .bool r.more, .slice A6 r.data.length q6] 41))) := ⟨M', hfi, HT8.out.mono (by omega)⟩
            have HRX := Lib.hid (resR.framed HR7.out (fun i hi => HWB.out.block i (resR.lower HR7.out i hi)))
            clear heq hfi hk7 hst hM' hbn
            obtain ⟨z0, z1, z2, z3, z4, zf⟩ := cells5 HB8.out
            go_wp2_with fail
            clear z0 z1 z2 z3 z4 zf
            generalize w7.alloc (.cells #[.int .i64 r.st, .int .u64 r.up, .slice A5 r.keys.length q5, .bool r.more, .slice A6 r.data.length q6] 41) = w8 at *
          case' inr.inr.inr.inr.inr =>
            have hq1 : o.bucket.toList.isEmpty = false := by simpa using hbe
            have hq2 : (o.bucket.toList == name.toList) = true := ba_eq.2 hbn
            have hq3 : (o.kind == 7) = true := by rw [beq_iff_eq]; exact hk7
            have hq4 : (r.st == 200) = true := by rw [beq_iff_eq]; exact hst
            obtain ⟨heq, M', hfi, hM', _⟩ := HHB.out (HHK.out.1 hbe) hbn
            obtain rfl := hM' ⟨hk7, hst⟩
            have HEQ := Lib.hid heq
            obtain ⟨w8, hrm, hm8, hf8, hct8⟩ := HT8.out.mm.store (by unfold maxLen; omega) HWI.out
            have HM : Hid (∃ MM, RInv name S1 (doC T o).2 MM (seenNow Sn o) ∧ TwoAt w (.pointer (some ⟨ga, 0, none⟩)) (.pointer (some ⟨gb, 0, none⟩)) bm (bm + 1) (8 * k + 4) S1 T MM (seenNow Sn o) F7 Fb w8) := ⟨_, hfi, HT8.out.st_m hm8 hf8⟩
            have HRX : Hid (ResR w8 (.agg #[.int .i64 r.st, .int .u64 r.up, .slice A5 r.keys.length q5, .bool r.more, .slice A6 r.data.length q6]) r Fr) := (resR.framed (resR.framed HR7.out (fun i hi => HWB.out.block i (resR.lower HR7.out i hi))) (fun i hi => hf8.block i (by have := resR.lower HR7.out i hi; have := HWB.out.size; omega) (fun e => by have := (HFR7.out i hi).1; have : i = bm := e; have := HW6.out; have := HB5.out.size; omega)))
            have HE8 := Lib.hid ((hf8.block _ (block_lt HE8.out) (by omega)).trans HE8.out)
            have HB8 := Lib.hid ((hf8.block _ (block_lt HB8.out) (by omega)).trans HB8.out)
            obtain ⟨z0, z1, z2, z3, z4, zf⟩ := cells5 HB8.out
            clear heq hfi hk7 hst hM' hbn hm8 hf8 hct8
            go_wp2_with fail
            clear z0 z1 z2 z3 z4 zf hrm
          all_goals
            clear hq1 hbe t0 t1 t2 t3 t4 t5 t6 t7 t8 tf hru hlk
            obtain ⟨MM, hfi, hta⟩ := HM.out
            have HFI := Lib.hid hfi
            have HTX := Lib.hid hta
            have hz8 := hta.bel.size
            clear hfi hta HM HT8 HT7 HT6
            have HOX := Lib.hid (HOP0.out.below HTX.out.bel)
            obtain ⟨z0, z1, z2, z3, z4, zf⟩ := cells5 HB8.out
            obtain ⟨y0, y1, y2, y3, y4, y5, y6, y7, y8, yf⟩ := cells9 HE8.out
            clear zf yf x0 x1 x2 x3 x4 x5 x6 x7 x8
            have HMB6 : Hid (∀ i, Fr i → ¬ Fb i) := fun i hi e => by
              have := (HFR7.out i hi).1
              have := HTA.out.mb.lower i e
              have := HW6.out
              have := HB5.out.size
              omega
            go_region_held3 (fun w' => w'.cell? ⟨w7.heap.size, 0, none⟩ = some (.int .i64 r.st) ∧ w'.cell? ⟨w7.heap.size, 1, none⟩ = some (.int .u64 r.up) ∧ w'.cell? ⟨w7.heap.size, 2, none⟩ = some (.slice A5 r.keys.length q5) ∧ w'.cell? ⟨w7.heap.size, 3, none⟩ = some (.bool r.more) ∧ w'.cell? ⟨w7.heap.size, 4, none⟩ = some (.slice A6 r.data.length q6) ∧
                w'.cell? ⟨wr.heap.size, 0, none⟩ = some (.int .u64 o.id) ∧ w'.cell? ⟨wr.heap.size, 1, none⟩ = some (.int .i64 o.kind) ∧ w'.cell? ⟨wr.heap.size, 2, none⟩ = some (.string o.bucket) ∧ w'.cell? ⟨wr.heap.size, 3, none⟩ = some (.string o.key) ∧ w'.cell? ⟨wr.heap.size, 4, none⟩ = some (.string o.after) ∧ w'.cell? ⟨wr.heap.size, 5, none⟩ = some (.int .i64 o.n) ∧ w'.cell? ⟨wr.heap.size, 6, none⟩ = some (.int .u64 o.up) ∧ w'.cell? ⟨wr.heap.size, 7, none⟩ = some (.slice A1 o.parts.length r1) ∧ w'.cell? ⟨wr.heap.size, 8, none⟩ = some (.slice A2 o.data.length r2))
              (first | with_reducible exact ⟨z0, z1, z2, z3, z4, y0, y1, y2, y3, y4, y5, y6, y7, y8⟩ | with_reducible exact ⟨p0, p1, p2, p3, p4, q0, q1, q2, q3, q4, q5', q6', q7, q8⟩ | go_keep)
              (first
                | (go_at_call 14; refine (do_any (HTX.out.mb.framed (w' := w8.drew) (fun i hi => rfl)) (HOX.out.cells (fun a u h => h)) (by unfold maxLen; omega) HRI.out.2.2 (fun e1 e2 W h1 h2 c h3 => listOk _ _ _ _ _ _ _ _ (by omega) h1 h2 e2 e1 h3)).mono ?_; rintro e w9 ⟨⟨v9, Fr9, F9, rfl, hr9, hFr9, hM9, hF9, hf9⟩⟩; rw [← HEQ.out] at hr9; have HR9 := Lib.hid hr9; obtain ⟨kv9, dv9, rfl, k1, _, k3, _, _⟩ := hr9; obtain ⟨A7, q7', rfl, _, _, _⟩ := Rd.form k1; obtain ⟨A8, q8', rfl, _, _, _⟩ := Rd.form k3; have HT9 := Lib.hid ((HTX.out.below (w' := w8.drew) ((Below.refl _ _).drew)).do_b (m := 8 * k + 6) (by omega) hM9 hF9 hf9); have HB9 := Lib.hid ((hf9.block _ (by exact block_lt HB8.out) (fun e => by have := HTA.out.mb.lower _ e; omega)).trans HB8.out); have HE9 := Lib.hid ((hf9.block _ (by exact block_lt HE8.out) (fun e => by have := HTA.out.mb.lower _ e; omega)).trans HE8.out); have HRX9 := Lib.hid (resR.framed HRX.out (fun i hi => hf9.block i (by exact resR.lower HRX.out i hi) (HMB6.out i hi))); obtain ⟨p0, p1, p2, p3, p4, pf⟩ := cells5 HB9.out; obtain ⟨q0, q1, q2, q3, q4, q5', q6', q7, q8, qf⟩ := cells9 HE9.out; clear k1 k3 hFr9 hM9 hF9 hf9 pf qf)
                | (go_at_call 16; have hsm := same_any HRX9.out HR9.out; rw [sameB_self] at hsm; refine hsm.mono ?_; clear hsm; rintro e w10 ⟨rfl, hb10⟩; clear p0 p1 p2 p3 p4 q0 q1 q2 q3 q4 q5' q6' q7 q8; obtain ⟨p0, p1, p2, p3, p4, pf⟩ := cells5 ((hb10.block _ (block_lt HB9.out)).trans HB9.out); obtain ⟨q0, q1, q2, q3, q4, q5', q6', q7, q8, qf⟩ := cells9 ((hb10.block _ (block_lt HE9.out)).trans HE9.out); have HB10 := Lib.hid hb10; clear hb10 pf qf)
                | fail)
            all_goals
              clear z0 z1 z2 z3 z4 y0 y1 y2 y3 y4 y5 y6 y7 y8 p0 p1 p2 p3 p4 q0 q1 q2 q3 q4 q5' q6' q7 q8
              go_wp2_with fail
              go_roundw
              case rel => exact ⟨k + 1, by omega, by go_num, ⟨S1, _, MM, _, F7, F9, (HT9.out.below HB10.out).mono (by omega), HFI.out, HL1.out, live_do HRI.out.2.2⟩⟩
              case measure => simp [intOf]; omega
    · obtain rfl : k = os.length := by omega
      have hb := HRI.out.1.bs
      have HBS := Lib.hid hb; clear hb
      have hzr := HTA.out.bel.size
      go_wp2_with fail
      refine (objects_any HTA.out.ma hname (by omega)).mono ?_
      rintro e w5 ⟨va, rfl, hra, hb5⟩
      rw [HBS.out] at hra
      have HT5 := Lib.hid (HTA.out.below hb5)
      have HRA := Lib.hid (own_rd hra)
      clear hra hb5
      go_wp2_with fail
      refine (objects_any HT5.out.mb hname (by omega)).mono ?_
      rintro e w6 ⟨vb, rfl, hrb, hb6⟩
      have HRA6 := Lib.hid (HRA.out.below hb6)
      have HRB := Lib.hid (own_rd hrb)
      have HW6 := Lib.hid ((HT5.out.below hb6).bel)
      clear hrb hb6
      generalize keysC ((T.bs (sk name)).getD fun _ => none) = ks at *
      obtain ⟨Aa, ca, rfl, d1, d2, _⟩ := Rd.form HRA6.out
      obtain ⟨Ab, cb, rfl, d3, d4, _⟩ := Rd.form HRB.out
      unfold maxLen at d2 d4
      have q1 : ((ks.length : Int) == (ks.length : Int)) = true := by simp
      go_wp2_with fail
      clear q1
      go_loopw [15] (fun i wl => ∃ k : Nat, k ≤ ks.length ∧ i = .int .i64 k ∧ Below w6.heap.size w6 wl) (fun i _ => ks.length - (intOf i).toNat)
      case atStart => exact ⟨0, Nat.zero_le _, rfl, Below.refl _ _⟩
      case round =>
        obtain ⟨k, hk, rfl, hbl⟩ := hrel
        have HBL := Lib.hid hbl; clear hbl
        by_cases hlt : k < ks.length
        · obtain ⟨g, off, cap, e, _, _, hgl, hc⟩ := Rd.full HRA6.out (by omega) (by omega)
          cases e
          obtain ⟨g', off', cap', e, _, _, hgl', hc'⟩ := Rd.full HRB.out (by omega) (by omega)
          cases e
          have x1 : wr.cell? ⟨g, off + k, none⟩ = some (.string (str ks[k])) := (HBL.out.cell (p := ⟨g, off + k, none⟩) hgl).trans (hc.at_ k _ (by simp [hlt, str]))
          have x2 : wr.cell? ⟨g', off' + k, none⟩ = some (.string (str ks[k])) := (HBL.out.cell (p := ⟨g', off' + k, none⟩) hgl').trans (hc'.at_ k _ (by simp [hlt, str]))
          generalize str ks[k] = xa at *
          have e1 : (xa.toList == xa.toList) = true := by simp
          have e2 : (xa.toList != xa.toList) = false := by simp
          clear hc hc'
          go_wp2
          go_quiet (fail)
          clear e1 e2
          go_wp2
          go_roundw
          case rel => exact ⟨k + 1, by omega, by go_num, HBL.out.trans ((drewN_below _ _).mono HBL.out.size)⟩
          case measure => simp [intOf]; omega
        · obtain rfl : k = ks.length := by omega
          go_wp2
          go_ret
          exact ⟨rfl, HW6.out.trans (HBL.out.mono HW6.out.size)⟩
end Go.Proofs.Ytkbmecjpjphngaa.bucketRooms
