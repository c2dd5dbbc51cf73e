/-
  Of a front of frames those that are whole are read, and no others: for every parts and every cut.
-/
import Derived.Test.YtoliikpbhmfjnaaRows
import Derived.Test.YtoliikpbhmfjnaaGKit
import Derived.Test.YtoliikpbhmfjnaaGKit2
import Derived.Test.YtoliikpbhmfjnaaCodecLaws3
import Derived.Test.YtoliikpbhmfjnaaCodecSmall
import Derived.Test.YtoliikpbhmfjnaaCodecSize
import Derived.Test.YtoliikpbhmfjnaaCodecFrame
import Derived.Test.YtoliikpbhmfjnaaCodecFrames
import Derived.Test.YtoliikpbhmfjnaaCodecKnown
import Derived.Test.YtoliikpbhmfjnaaCodecFrs
import Derived.Test.YtoliikpbhmfjnaaCodecRef2
set_option linter.unusedVariables false
set_option linter.unusedSimpArgs false
namespace Go.Proofs.Ytoliikpbhmfjnaa.codecFronts
open Go.RowKit Codec

set_option maxRecDepth 100000 in
set_option maxHeartbeats 1000000 in
theorem walk_skip (lv : Value) (l : List (List UInt8)) (cut : Int) (w : World) (h : RdLL w lv l) (ht : tot l ≤ 1048576) (hbig : 65536 < tot l ∨ 1000 < l.length) :
    Calls Try.prog 8 #[lv, .int .i64 cut] w fun e w' => e = .returned (.bool true) ∧ Below w.heap.size w w' := by
  have HL := Lib.hid h
  obtain ⟨A, cap, rfl, _⟩ := h.form
  clear h
  have hlm := HL.out.le
  unfold maxLen at hlm
  by_cases h1 : 65536 < tot l
  · go_enter Try.func8, Try.ntmps8
    go_wp2_with fail
    refine (known_any _).mono ?_
    rintro e w1 ⟨rfl, hb1⟩
    have HL1 := Lib.hid (HL.out.below hb1)
    go_wp2_with fail
    refine (total_any _ _ _ HL1.out (by omega)).mono ?_
    rintro e w2 ⟨rfl, rfl⟩
    generalize tot l = T at *
    go_wp2
    go_ret
    exact ⟨rfl, hb1⟩
  · have h2 : 1000 < l.length := by omega
    go_enter Try.func8, Try.ntmps8
    go_wp2_with fail
    refine (known_any _).mono ?_
    rintro e w1 ⟨rfl, hb1⟩
    have HL1 := Lib.hid (HL.out.below hb1)
    go_wp2_with fail
    refine (total_any _ _ _ HL1.out (by omega)).mono ?_
    rintro e w2 ⟨rfl, rfl⟩
    generalize tot l = T at *
    go_wp2
    go_ret
    exact ⟨rfl, hb1⟩

/-- A cut that lies outside. -/
theorem flen {l : List (List UInt8)} (ht : tot l ≤ 65536) (hl : l.length ≤ 1000) : (framesOf l).length ≤ 79536 := by
  have := framesOf_len_le l (by omega) l.length (Nat.le_refl _)
  rw [List.take_length] at this
  omega

set_option maxRecDepth 100000 in
set_option maxHeartbeats 1000000 in
theorem walk_out (lv : Value) (l : List (List UInt8)) (cut : Int) (w : World) (h : RdLL w lv l) (ht : tot l ≤ 65536) (hl : l.length ≤ 1000) (hc : cut < 0 ∨ (framesOf l).length < cut) :
    Calls Try.prog 8 #[lv, .int .i64 cut] w fun e w' => e = .returned (.bool true) ∧ Below w.heap.size w w' := by
  have HL := Lib.hid h
  obtain ⟨A, cap, rfl, _⟩ := h.form
  clear h
  have hfl := flen ht hl
  by_cases h1 : cut < 0
  · clear hc
    go_enter Try.func8, Try.ntmps8
    go_wp2_with fail
    refine (known_any _).mono ?_
    rintro e w1 ⟨rfl, hb1⟩
    have HL1 := Lib.hid (HL.out.below hb1)
    have hz1 := hb1.size
    go_wp2_with fail
    refine (total_any _ _ _ HL1.out (by omega)).mono ?_
    rintro e w2 ⟨rfl, rfl⟩
    go_wp2_with fail
    refine (framesW_any _ _ _ HL1.out (by omega) (by omega)).mono ?_
    rintro e w2 ⟨v2, rfl, ho2, hb2⟩
    have hb3 := below_then hb1 hz1 hb2
    obtain ⟨A2, cap2, rfl, _⟩ := Rd.form ho2.rd
    generalize (framesOf l).length = F at *
    go_wp2
    go_ret
    exact ⟨rfl, hb3⟩
  · have h2 : (framesOf l).length < cut := by omega
    clear hc
    go_enter Try.func8, Try.ntmps8
    go_wp2_with fail
    refine (known_any _).mono ?_
    rintro e w1 ⟨rfl, hb1⟩
    have HL1 := Lib.hid (HL.out.below hb1)
    have hz1 := hb1.size
    go_wp2_with fail
    refine (total_any _ _ _ HL1.out (by omega)).mono ?_
    rintro e w2 ⟨rfl, rfl⟩
    go_wp2_with fail
    refine (framesW_any _ _ _ HL1.out (by omega) (by omega)).mono ?_
    rintro e w2 ⟨v2, rfl, ho2, hb2⟩
    have hb3 := below_then hb1 hz1 hb2
    obtain ⟨A2, cap2, rfl, _⟩ := Rd.form ho2.rd
    have HO2 := Lib.hid ho2; clear ho2
    generalize (framesOf l).length = F at *
    go_wp2
    go_ret
    exact ⟨rfl, hb3⟩

set_option maxRecDepth 100000 in
set_option maxHeartbeats 1000000 in
theorem walk_nil (lv : Value) (w : World) (h : RdLL w lv []) :
    Calls Try.prog 8 #[lv, .int .i64 0] w fun e w' => e = .returned (.bool true) ∧ Below w.heap.size w w' := by
  have HL := Lib.hid h
  obtain ⟨A, cap, rfl, _⟩ := h.form
  clear h
  go_enter Try.func8, Try.ntmps8
  go_wp2_with fail
  refine (known_any _).mono ?_
  rintro e w1 ⟨rfl, hb1⟩
  have HL1 := Lib.hid (HL.out.below hb1)
  have hz1 := hb1.size
  go_wp2_with fail
  refine (total_any _ [] _ HL1.out (by decide)).mono ?_
  rintro e w2 ⟨rfl, rfl⟩
  rw [show tot [] = 0 from rfl]
  go_wp2_with fail
  refine (framesW_any _ [] _ HL1.out (by decide) (by decide)).mono ?_
  rintro e w2 ⟨v2, rfl, ho2, hb2⟩
  have hb3 := below_then hb1 hz1 hb2
  have hz3 := hb3.size
  rw [framesOf_nil] at ho2
  obtain ⟨A2, cap2, rfl, _, hm2, ha2⟩ := Rd.form ho2.rd
  have HE := Lib.hid (rdb_empty (w := w2) hm2 ha2)
  clear hb2 ho2
  simp only [List.length_nil]
  have hcm : cap2 ≤ 9223372036854775807 := by unfold maxLen at hm2; omega
  cases A2 with
  | none =>
    obtain rfl := ha2 rfl
    go_wp2_with fail
    refine (readFrames_any _ [] _ HE.out (by decide)).mono ?_
    rintro e w3 ⟨v3, rfl, hr3, hb4⟩
    have hb5 := below_then hb3 hz3 hb4
    rw [frames_nil] at hr3 ⊢
    obtain ⟨A3, cap3, rfl, _⟩ := hr3.form
    clear hr3 hb4
    go_wp2
    refine wp_loop_rounds 1 ?_
    rw [rounds_succ]
    go_wp2
    refine wp_loop_rounds 1 ?_
    rw [rounds_succ]
    go_wp2
    go_ret
    exact ⟨rfl, hb5⟩
  | some a =>
    obtain ⟨g, off, el⟩ := a
    go_wp2_with fail
    refine (readFrames_any _ [] _ HE.out (by decide)).mono ?_
    rintro e w3 ⟨v3, rfl, hr3, hb4⟩
    have hb5 := below_then hb3 hz3 hb4
    rw [frames_nil] at hr3 ⊢
    obtain ⟨A3, cap3, rfl, _⟩ := hr3.form
    clear hr3 hb4
    go_wp2
    refine wp_loop_rounds 1 ?_
    rw [rounds_succ]
    go_wp2
    refine wp_loop_rounds 1 ?_
    rw [rounds_succ]
    go_wp2
    go_ret
    exact ⟨rfl, hb5⟩

theorem fronts_err {F : List UInt8} {c k : Nat} {l : List (List UInt8)} {n er : Nat} {pl : List (List UInt8)} (h : (pl, n, er) = (l.take k, (framesOf (l.take k)).length, if (framesOf (l.take k)).length = c then 0 else 11)) (hk : k ≤ l.length) :
    k = pl.length ∧ n = (framesOf (l.take k)).length ∧ pl = l.take k ∧ (n = c ∧ er = 0 ∨ n ≠ c ∧ er = 11) := by
  simp only [Prod.mk.injEq] at h
  obtain ⟨rfl, rfl, rfl⟩ := h
  refine ⟨by simp; omega, rfl, rfl, ?_⟩
  split
  · exact .inl ⟨by assumption, rfl⟩
  · exact .inr ⟨by assumption, rfl⟩
theorem done_mono (l : List (List UInt8)) (k : Nat) (hk : k < l.length) : (framesOf (l.take (k + 1))).length = (framesOf (l.take k)).length + (frameOf l[k]).length := by
  rw [framesOf_succ l k hk, List.length_append]

set_option maxRecDepth 100000 in
set_option maxHeartbeats 2000000 in
theorem walk_do (lv : Value) (l : List (List UInt8)) (c : Nat) (w : World) (h : RdLL w lv l) (ht : tot l ≤ 65536) (hl : l.length ≤ 1000) (hl0 : 0 < l.length) (hc : c ≤ (framesOf l).length) :
    Calls Try.prog 8 #[lv, .int .i64 c] w fun e w' => e = .returned (.bool true) ∧ Below w.heap.size w w' := by
  have HL := Lib.hid h
  obtain ⟨gl, offl, capl, rfl, _, _, _, hcl⟩ := h.full hl0
  clear h
  have hfl := flen ht hl
  have hfp : 0 < (framesOf l).length := by
    have h1 := done_mono l 0 hl0
    have h2 := frameOf_len l[0]
    have h3 : (framesOf (l.take 1)).length ≤ (framesOf l).length := by
      conv => rhs; rw [← List.take_append_drop 1 l]
      simp [framesOf]
    simp only [Nat.zero_add] at h1
    omega
  have hlaw : ∀ k, k ≤ l.length → (framesOf (l.take k)).length ≤ c → (k < l.length → c < (framesOf (l.take (k + 1))).length) → frames ((framesOf l).take c) = (l.take k, (framesOf (l.take k)).length, if (framesOf (l.take k)).length = c then 0 else 11) := fun k h1 h2 h3 => fronts_law l c k (by omega) h1 h2 h3 hc
  have HLAW := Lib.hid hlaw; clear hlaw
  have HCL := Lib.hid hcl; clear hcl
  have hdone : ∀ k (h : k < l.length), (framesOf (l.take (k + 1))).length = (framesOf (l.take k)).length + (frameOf l[k]).length ∧ (frameOf l[k]).length ≤ 65550 ∧ l[k].length ≤ 65536 := fun k h => by
    have h4 := tot_le l (k + 1)
    have h5 := tot_succ l k h
    have h6 := enc_len l[k].length (by omega)
    exact ⟨done_mono l k h, by rw [frameOf_len]; omega, by omega⟩
  have HD := Lib.hid hdone; clear hdone
  go_enter Try.func8, Try.ntmps8
  go_wp2_with fail
  refine (known_any _).mono ?_
  rintro e w1 ⟨rfl, hb1⟩
  have HL1 := Lib.hid (HL.out.below hb1)
  have hz1 := hb1.size
  go_wp2_with fail
  refine (total_any _ _ _ HL1.out (by omega)).mono ?_
  rintro e w2 ⟨rfl, rfl⟩
  go_wp2_with fail
  refine (framesW_any _ _ _ HL1.out (by omega) (by omega)).mono ?_
  rintro e w2 ⟨v2, rfl, ho2, hb2⟩
  have hb3 := below_then hb1 hz1 hb2
  have hz3 := hb3.size
  have HR2 := Lib.hid ho2.rd
  obtain ⟨g, off, cap2, rfl, hcap, hcm, _, _⟩ := Rd.full HR2.out hfp (by omega)
  have hcm' : cap2 ≤ 9223372036854775807 := by unfold maxLen at hcm; omega
  have HS := Lib.hid (RdB.sub (l := 0) (h := c) HR2.out (Nat.zero_le _) hc rfl rfl rfl rfl)
  simp only [List.drop_zero, Nat.add_zero, Nat.sub_zero] at HS
  have hrc := readFrames_any _ _ _ HS.out (by simp; omega)
  generalize hF : (framesOf l).length = F at *
  generalize frames ((framesOf l).take c) = r at *
  obtain ⟨pl, n, er⟩ := r
  have HC := Lib.hid hrc; clear hrc
  clear ho2 hb2 hb1 hF
  go_wp2_with fail
  refine HC.out.mono ?_
  rintro e w3 ⟨v3, rfl, hr3, hb4⟩
  simp only at hr3
  have hb5 := below_then hb3 hz3 hb4
  have hz5 := hb5.size
  have HP := Lib.hid hr3
  obtain ⟨A3, cap3, rfl, _⟩ := hr3.form
  have hplm := HP.out.le
  unfold maxLen at hplm
  have HL5 := Lib.hid (HL.out.below hb5)
  clear hr3 hb4 hb3 hz3 hz1 HC HS HR2 HL1
  go_wp2
  go_loopw [9, 10] (fun at_ i wr => ∃ k : Nat, k ≤ l.length ∧ i = .int .i64 k ∧ at_ = .int .i64 (framesOf (l.take k)).length ∧ (framesOf (l.take k)).length ≤ c ∧ Below w.heap.size w wr ∧ Below w3.heap.size w3 wr) (fun _ i _ => l.length - (intOf i).toNat)
  case atStart => exact ⟨0, by omega, rfl, rfl, by simp [framesOf], hb5, Below.refl _ _⟩
  case round =>
    obtain ⟨k, hk, rfl, rfl, hdc, hb, hb3r⟩ := hrel
    have hz := hb.size
    have HPr := Lib.hid (HP.out.below hb3r)
    have HLr := Lib.hid (HL.out.below hb)
    by_cases hgo : ∃ h : k < l.length, (framesOf (l.take (k + 1))).length ≤ c
    · obtain ⟨hlt, hnc⟩ := hgo
      obtain ⟨hds, hfk, hlk⟩ := HD.out k hlt
      obtain ⟨u, hcell, hu⟩ := (HCL.out.below hb).at_ k hlt
      have HU := Lib.hid hu; clear hu
      rw [hds] at hnc
      have HC := Lib.hid (frameW_any _ _ _ HU.out (by omega))
      have HDS := Lib.hid hds; clear hds
      generalize l[k] = xs at *
      obtain ⟨A4, cap4, rfl, _⟩ := Rd.form HU.out
      generalize (framesOf (l.take k)).length = d at *
      go_wp2_with fail
      refine HC.out.mono ?_
      rintro e w4 ⟨v4, rfl, ho4, hb6⟩
      have hb7 := below_then hb hz hb6
      have hz7 := hb7.size
      have hb8 := hb3r.trans (hb6.mono hb3r.size)
      obtain ⟨A5, cap5, rfl, _⟩ := Rd.form ho4.rd
      obtain ⟨u', hcell', hu'⟩ := (HCL.out.below hb7).at_ k hlt
      have HU4 := Lib.hid (HU.out.below hb6)
      have hcell4 := cell_below hb6 _ _ hcell
      have HC4 := Lib.hid (frameW_any _ _ _ HU4.out (by omega))
      clear ho4 hb6 HC hu' hcell' hcell
      go_wp2_with fail
      refine HC4.out.mono ?_
      rintro e w5 ⟨v5, rfl, ho5, hb9⟩
      have hb10 := below_then hb7 hz7 hb9
      have hb11 := hb8.trans (hb9.mono hb8.size)
      obtain ⟨A6, cap6, rfl, _⟩ := Rd.form ho5.rd
      clear ho5 hb9 HC4
      go_wp2
      go_roundw
      case rel => exact ⟨k + 1, by omega, by go_num, i64v (by rw [HDS.out]; omega), by rw [HDS.out]; omega, hb10, hb11⟩
      case measure => simp [intOf]; omega
    · have hF := fronts_err (F := []) (HLAW.out k hk hdc (fun h => Nat.lt_of_not_le fun h2 => hgo ⟨h, h2⟩)) hk
      obtain ⟨hkp, hnd, hpl, her⟩ := hF
      have HPj : Hid (∀ j (h1 : j < pl.length) (h2 : j < l.length), pl[j] = l[j]) := Lib.hid (fun j h1 h2 => by simp only [hpl, List.getElem_take])
      have HEX : Hid (∀ h : k < l.length, c < (framesOf (l.take k)).length + (frameOf l[k]).length) := Lib.hid fun h => by
        have := (HD.out k h).1
        exact Nat.lt_of_not_le fun h2 => hgo ⟨h, by omega⟩
      clear hgo hpl
      rw [← hnd] at hdc HEX
      have hnd' : ((framesOf (l.take k)).length : Int) = n := by rw [hnd]
      rw [← hnd]
      clear hnd hnd'
      subst hkp
      have t1 : ((pl.length : Int) != (pl.length : Int)) = false := by simp
      have t2 : ((n : Int) != (n : Int)) = false := by simp
      rcases Nat.lt_or_ge pl.length l.length with hlt | hlt
      case' inl =>
        obtain ⟨_, hfk, hlk⟩ := HD.out _ hlt
        obtain ⟨u, hcell, hu⟩ := (HCL.out.below hb).at_ _ hlt
        have HU := Lib.hid hu; clear hu
        have hex := HEX.out hlt
        clear HEX
        have HC := Lib.hid (frameW_any _ _ _ HU.out (by omega))
        generalize l[pl.length] = xs at *
        obtain ⟨A4, cap4, rfl, _⟩ := Rd.form HU.out
        go_wp2_with fail
        refine HC.out.mono ?_
        rintro e w4 ⟨v4, rfl, ho4, hb6⟩
        have hb7 := below_then hb hz hb6
        obtain ⟨A5, cap5, rfl, _⟩ := Rd.form ho4.rd
        have HPx := Lib.hid (HPr.out.below hb6)
        have HLx := Lib.hid (HLr.out.below hb6)
        clear ho4 hb6 HC HU hcell HPr HLr hb
      case' inr =>
        have hb7 := hb
        have HPx := HPr
        have HLx := HLr
        clear HPr HLr hb
      all_goals
        rcases her with ⟨rfl, rfl⟩ | ⟨hne, rfl⟩
        case' inl =>
          have t3 : ((n : Int) == (n : Int)) = true := by simp
        case' inr =>
          have t3 : ((n : Int) == (c : Int)) = false := by rw [beq_eq_false_iff_ne]; omega
          have t4 : ((n : Int) != (c : Int)) = true := by rw [bne_iff_ne]; omega
        all_goals
          go_wp2
          go_loopw [11] (fun i wr => ∃ j : Nat, j ≤ pl.length ∧ i = .int .i64 j ∧ Below w.heap.size w wr ∧ RdLL wr (.slice A3 pl.length cap3) pl) (fun i _ => pl.length - (intOf i).toNat)
          case atStart => exact ⟨0, by omega, rfl, hb7, HPx.out⟩
          case round =>
            obtain ⟨j, hj, rfl, hbj, hpj⟩ := hrel
            by_cases hjl : j < pl.length
            · obtain ⟨g6, off6, cap6, e6, _, _, _, hc6⟩ := hpj.full (by omega)
              cases e6
              obtain ⟨u6, hcell6, hu6⟩ := hc6.at_ j hjl
              obtain ⟨u7, hcell7, hu7⟩ := (HCL.out.below hbj).at_ j (by omega)
              have hS : ∀ m, Calls Try.prog 17 #[u6, u7] (wr.drewN m) fun e w' => e = .returned (.bool true) ∧ w' = wr.drewN m := fun m =>
                (same_any _ _ _ _ _ (RdB.drewN hu6 m) (RdB.drewN hu7 m)).mono fun _ _ hh => ⟨by rw [hh.1, decide_eq_true (HPj.out j hjl (by omega))], hh.2.symm⟩
              have HS := Lib.hid hS; clear hS
              have HPJ := Lib.hid hpj; clear hpj
              obtain ⟨A8, cap8, rfl, _⟩ := Rd.form hu6
              obtain ⟨A9, cap9, rfl, _⟩ := Rd.form hu7
              have hjl2 : j < l.length := by omega
              clear hu6 hu7 hc6
              go_wp2
              go_quiet ((go_at_call 17; exact Calls.quiet_of_same (HS.out _)))
              go_wp2
              go_roundw
              case rel => exact ⟨j + 1, by omega, by go_num, below_then hbj hbj.size (drewN_below _ _), HPJ.out.below (drewN_below _ _)⟩
              case measure => simp [intOf]; omega
            · clear hpj
              go_wp2
              go_ret
              exact ⟨rfl, hbj⟩

theorem walk (lv : Value) (l : List (List UInt8)) (cut : Int) (w : World) (h : RdLL w lv l) (ht : tot l ≤ 1048576) (wf : (Lit.int .i64 cut).wf = true) :
    Calls Try.prog 8 #[lv, .int .i64 cut] w fun e w' => e = .returned (.bool true) ∧ Below w.heap.size w w' := by
  by_cases hbig : 65536 < tot l ∨ 1000 < l.length
  · exact walk_skip lv l cut w h ht hbig
  · by_cases hc : cut < 0 ∨ (framesOf l).length < cut
    · exact walk_out lv l cut w h (by omega) (by omega) hc
    · obtain ⟨c, rfl⟩ : ∃ c : Nat, cut = c := ⟨cut.toNat, by omega⟩
      by_cases h0 : l = []
      · subst h0
        have h2 : ¬ ((framesOf []).length : Int) < c := fun h => hc (.inr h)
        rw [framesOf_nil] at h2
        obtain rfl : c = 0 := by simp at h2; omega
        exact walk_nil lv w h
      · exact walk_do lv l c w h (by omega) (by omega) (List.length_pos_iff.2 h0) (by omega)
end Go.Proofs.Ytoliikpbhmfjnaa.codecFronts
