/-
  Frames within frames are read again, layer by layer: for every bytes and every depth.
-/
import Derived.Test.YtoliikpbhmfjnaaRows
import Derived.Test.YtoliikpbhmfjnaaGKit
import Derived.Test.YtoliikpbhmfjnaaGKit2
import Derived.Test.YtoliikpbhmfjnaaCodecLaws2
import Derived.Test.YtoliikpbhmfjnaaCodecSize
import Derived.Test.YtoliikpbhmfjnaaCodecSmall
import Derived.Test.YtoliikpbhmfjnaaCodecFrame
import Derived.Test.YtoliikpbhmfjnaaCodecKnown
import Derived.Test.YtoliikpbhmfjnaaCodecRd2
set_option linter.unusedVariables false
set_option linter.unusedSimpArgs false
namespace Go.Proofs.Ytoliikpbhmfjnaa.codecNests
open Go.RowKit Codec

/-- What stands there behind k layers. -/
def nest (x : List UInt8) : Nat → List UInt8
  | 0 => x
  | k + 1 => if k % 2 = 0 then frameOf (nest x k) else enc (nest x k).length ++ nest x k
theorem nest_len (x : List UInt8) (hx : x.length ≤ 1000) (k : Nat) (hk : k ≤ 200) : (nest x k).length ≤ 1000 + 14 * k := by
  induction k with
  | zero => simpa [nest] using hx
  | succ k ih =>
    have h1 := ih (by omega)
    have h2 := enc_len (nest x k).length (by omega)
    simp only [nest]
    split
    · rw [frameOf_len]; omega
    · rw [List.length_append]; omega
theorem nest_even (x : List UInt8) (k : Nat) (h : k % 2 = 0) : nest x (k + 1) = frameOf (nest x k) := by simp [nest, h]
theorem nest_odd (x : List UInt8) (k : Nat) (h : ¬ k % 2 = 0) : nest x (k + 1) = enc (nest x k).length ++ nest x k := by simp [nest, h]
theorem nest_read_even (x : List UInt8) (hx : x.length ≤ 1000) (k : Nat) (hk : k < 200) (h : k % 2 = 0) : readFrameN (nest x (k + 1)) = (nest x k, (nest x (k + 1)).length, 0) := by
  have h1 := nest_len x hx k (by omega)
  have := readFrameN_frame (nest x k) [] (by omega)
  rw [List.append_nil] at this
  rw [nest_even x k h, this]
theorem nest_read_odd (x : List UInt8) (hx : x.length ≤ 1000) (k : Nat) (hk : k < 200) (h : ¬ k % 2 = 0) : readBytesN (nest x (k + 1)) (nest x (k + 1)).length = (nest x k, (nest x (k + 1)).length, 0) := by
  have h1 := nest_len x hx k (by omega)
  have := readBytesN_bytes (nest x k) [] (enc (nest x k).length ++ nest x k).length (by rw [List.length_append]; omega) (by omega)
  rw [List.append_nil] at this
  rw [nest_odd x k h, this]

set_option maxRecDepth 100000 in
set_option maxHeartbeats 1000000 in
theorem walk_big (v : Value) (x : List UInt8) (deep : Int) (w : World) (h : RdB w v x) (hbig : 1000 < x.length ∨ deep < 0 ∨ 200 < deep) :
    Calls Try.prog 10 #[v, .int .i64 deep] w fun e w' => e = .returned (.bool true) ∧ Below w.heap.size w w' := by
  obtain ⟨A, cap, rfl, _⟩ := Rd.form h
  clear h
  by_cases h1 : 1000 < x.length
  · go_enter Try.func10, Try.ntmps10
    go_wp2_with fail
    refine (known_any _).mono ?_
    rintro e w1 ⟨rfl, hb1⟩
    go_wp2
    go_ret
    exact ⟨rfl, hb1⟩
  · by_cases h2 : deep < 0
    · go_enter Try.func10, Try.ntmps10
      go_wp2_with fail
      refine (known_any _).mono ?_
      rintro e w1 ⟨rfl, hb1⟩
      go_wp2
      go_ret
      exact ⟨rfl, hb1⟩
    · have h3 : 200 < deep := by omega
      go_enter Try.func10, Try.ntmps10
      go_wp2_with fail
      refine (known_any _).mono ?_
      rintro e w1 ⟨rfl, hb1⟩
      go_wp2
      go_ret
      exact ⟨rfl, hb1⟩

set_option maxRecDepth 100000 in
set_option maxHeartbeats 1000000 in
theorem walk_small (v : Value) (x : List UInt8) (d : Nat) (w : World) (h : RdB w v x) (hx : x.length ≤ 1000) (hd : d ≤ 200) :
    Calls Try.prog 10 #[v, .int .i64 d] w fun e w' => e = .returned (.bool true) ∧ Below w.heap.size w w' := by
  have h' := h
  obtain ⟨A, cap, rfl, hcap, hcm, _⟩ := Rd.form h
  have HH := Lib.hid h'; clear h h'
  have hnl := nest_len x hx
  have hev := nest_read_even x hx
  have hod := nest_read_odd x hx
  have hne := nest_even x
  have hno := nest_odd x
  have HNL := Lib.hid hnl; clear hnl
  have HEV := Lib.hid hev; clear hev
  have HOD := Lib.hid hod; clear hod
  have HNE := Lib.hid hne; clear hne
  have HNO := Lib.hid hno; clear hno
  go_enter Try.func10, Try.ntmps10
  go_wp2_with fail
  refine (known_any _).mono ?_
  rintro e w1 ⟨rfl, hb1⟩
  have hz1 := hb1.size
  have HH1 := Lib.hid (HH.out.below hb1)
  go_wp2_with (at_builtin; refine wpList_app w.heap.size tB (World.ownsRow_made (base := w.heap.size) (e := 5) (size := 1) w1 #[] 0 hz1 (by simp [maxLen]) rfl) (rd_src Try.underlying28 (Rd.below HH1.out ((Below.refl _ _).alloc (Nat.le_refl _) _)) (by omega) (bvs_one _)) (by simp; omega) (by unfold maxLen; omega) (by omega) rfl rfl rfl rfl ?_)
  intro v2 w2 ho2 hg2
  have hb2 : Below w.heap.size w w2 := below_grown (hb1.alloc hz1 _) (World.ownsRow_made (base := w.heap.size) (e := 5) (size := 1) w1 #[] 0 hz1 (by simp [maxLen]) rfl) hg2 (by simp; omega)
  have HO2 : Hid (RdB w2 v2 x) := (OwnB.of (xs := x) ho2 rfl).rd
  clear ho2 hg2 HH1 hb1
  go_wp2
  go_loopw [5, 6] (fun b i wr => ∃ k : Nat, k ≤ d ∧ i = .int .i64 k ∧ RdB wr b (nest x k) ∧ Below w.heap.size w wr) (fun _ i _ => d - (intOf i).toNat)
  case atStart => exact ⟨0, by omega, rfl, HO2.out, hb2⟩
  case round =>
    obtain ⟨k, hk, rfl, hr, hb⟩ := hrel
    clear HO2 hb2
    have hz := hb.size
    have hl := HNL.out k (by omega)
    have HR := Lib.hid hr; clear hr
    by_cases hlt : k < d
    · by_cases hpar : k % 2 = 0
      · have ht : ((k : Int) % 2 == 0) = true := by rw [beq_iff_eq]; omega
        have HE := Lib.hid (HNE.out k hpar); clear hpar
        go_wp2_with fail
        refine (frameW_any _ _ _ HR.out (by omega)).mono ?_
        rintro e w3 ⟨v3, rfl, ho3, hb3⟩
        have hb4 := below_then hb hz hb3
        have HO3 := Lib.hid ho3.rd
        clear ho3 hb3 hb HR
        go_wp2
        go_roundw
        case rel => exact ⟨k + 1, by omega, by go_num, by rw [HE.out]; exact HO3.out, hb4⟩
        case measure => simp [intOf]; omega
      · have ht : ((k : Int) % 2 == 0) = false := by rw [beq_eq_false_iff_ne]; omega
        have HE := Lib.hid (HNO.out k hpar); clear hpar
        have htot : tot [nest x k] = (nest x k).length := by simp [tot]
        have hcat : cat [nest x k] = nest x k := by simp [cat]
        have HT := Lib.hid htot; clear htot
        have HC := Lib.hid hcat; clear hcat
        obtain ⟨A5, cap5, rfl, _⟩ := Rd.form HR.out
        go_wp2_with fail
        refine (bytes_any _ _ [] [nest x k] _ (rdb_nil _) (rdll_one HR.out _ (hg := rfl)) (by simp) (by rw [HT.out]; omega)).mono ?_
        rintro e w3 ⟨v3, rfl, ho3, hb3⟩
        have hb4 := below_then (hb.alloc hz _) (by simp; omega) hb3
        rw [HT.out, HC.out, List.nil_append] at ho3
        have HO3 := Lib.hid ho3.rd
        clear ho3 hb3 hb HR
        go_wp2
        go_roundw
        case rel => exact ⟨k + 1, by omega, by go_num, by rw [HE.out]; exact HO3.out, hb4⟩
        case measure => simp [intOf]; omega
    · have hkd : k = d := by omega
      have HR' : Hid (RdB wr u5 (nest x d)) := by rw [← hkd]; exact HR.out
      clear HR hkd hl
      go_wp2
      go_loopw [5, 7] (fun b i wr => ∃ (k : Nat) (q : Int), k ≤ d ∧ i = .int .i64 q ∧ q = (k : Int) - 1 ∧ RdB wr b (nest x k) ∧ Below w.heap.size w wr) (fun _ i _ => (intOf i + 1).toNat)
      case atStart => exact ⟨d, _, by omega, rfl, by omega, HR'.out, hb⟩
      case round =>
        obtain ⟨m, q, hm, rfl, hq, hr, hb⟩ := hrel
        clear HR'
        have hz := hb.size
        rcases Nat.eq_zero_or_pos m with hm0 | hm0
        · subst hm0
          obtain rfl : q = -1 := by omega
          clear hq
          have HR : Hid (RdB wr u5 x) := hr
          clear hr
          have HX := Lib.hid (HH.out.below hb)
          go_wp2_with fail
          refine (same_any _ _ _ _ _ HR.out HX.out).mono ?_
          rintro e w3 ⟨rfl, rfl⟩
          rw [decide_eq_true rfl]
          go_wp2
          go_ret
          exact ⟨rfl, hb⟩
        · obtain ⟨j, rfl⟩ : ∃ j, m = j + 1 := ⟨m - 1, by omega⟩
          obtain rfl : q = (j : Int) := by omega
          clear hq
          have hl := HNL.out (j + 1) (by omega)
          have hr' := hr
          obtain ⟨A2, cap2, rfl, hcap2, hcm2, _⟩ := Rd.form hr
          have HR := Lib.hid hr'; clear hr hr'
          by_cases hpar : j % 2 = 0
          · have ht : ((j : Int) % 2 == 0) = true := by rw [beq_iff_eq]; omega
            have hc := readFrame_any _ _ _ HR.out (by omega)
            rw [HEV.out j (by omega) hpar] at hc
            have HC := Lib.hid hc; clear hc hpar
            generalize (nest x (j + 1)).length = L at *
            have hLL : ((L : Int) != (L : Int)) = false := by simp
            go_wp2_with fail
            refine HC.out.mono ?_
            rintro e w3 ⟨v3, rfl, hr3, hb3⟩
            have hb4 := below_then hb hz hb3
            have HR3 := Lib.hid hr3
            clear hr3 hb3 hb HR HC
            go_wp2
            go_roundw
            case rel => exact ⟨j, _, by omega, rfl, rfl, HR3.out, hb4⟩
            case measure => simp [intOf] <;> omega
          · have ht : ((j : Int) % 2 == 0) = false := by rw [beq_eq_false_iff_ne]; omega
            have hc := readBytes_any _ ((nest x (j + 1)).length : Int) (nest x (j + 1)).length (by omega) (by omega) _ _ HR.out (by omega)
            rw [HOD.out j (by omega) hpar] at hc
            have HC := Lib.hid hc; clear hc hpar
            generalize (nest x (j + 1)).length = L at *
            have hLL : ((L : Int) != (L : Int)) = false := by simp
            go_wp2_with fail
            refine HC.out.mono ?_
            rintro e w3 ⟨v3, rfl, hr3, hb3⟩
            have hb4 := below_then hb hz hb3
            have HR3 := Lib.hid hr3
            clear hr3 hb3 hb HR HC
            go_wp2
            go_roundw
            case rel => exact ⟨j, _, by omega, rfl, rfl, HR3.out, hb4⟩
            case measure => simp [intOf] <;> omega

theorem walk (v : Value) (x : List UInt8) (deep : Int) (w : World) (h : RdB w v x) (wf : (Lit.int .i64 deep).wf = true) :
    Calls Try.prog 10 #[v, .int .i64 deep] w fun e w' => e = .returned (.bool true) ∧ Below w.heap.size w w' := by
  by_cases hbig : 1000 < x.length ∨ deep < 0 ∨ 200 < deep
  · exact walk_big v x deep w h hbig
  · obtain ⟨d, rfl⟩ : ∃ d : Nat, deep = d := ⟨deep.toNat, by omega⟩
    exact walk_small v x d w h (by omega) (by omega)
end Go.Proofs.Ytoliikpbhmfjnaa.codecNests
