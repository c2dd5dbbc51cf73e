/-
  ReadFrames: the reference's.
-/
import Derived.Test.YtoliikpbhmfjnaaProg
import Derived.Test.YtoliikpbhmfjnaaGKit
import Derived.Test.YtoliikpbhmfjnaaGKit2
import Derived.Test.YtoliikpbhmfjnaaCodecPlain
import Derived.Test.YtoliikpbhmfjnaaCodecLaws
import Derived.Test.YtoliikpbhmfjnaaCodecLaws2
import Derived.Test.YtoliikpbhmfjnaaCodecSmall
import Derived.Test.YtoliikpbhmfjnaaCodecFrs
import Derived.Test.YtoliikpbhmfjnaaCodecRef2
set_option linter.unusedVariables false
set_option linter.unusedSimpArgs false
namespace Go.Proofs.Ytoliikpbhmfjnaa
open Go.RowKit Codec

set_option maxRecDepth 100000 in
set_option maxHeartbeats 800000 in
theorem refReadFrames_any (v : Value) (xs : List UInt8) (w : World) (h : RdB w v xs) (hx : xs.length ≤ 100000000000) :
    Calls Try.prog 31 #[v] w fun e w' => ReadLL w (frames xs) e w' := by
  rcases Nat.eq_zero_or_pos xs.length with h0 | h0
  · obtain ⟨A, cap, rfl, _⟩ := Rd.form h
    obtain rfl : xs = [] := List.eq_nil_of_length_eq_zero h0
    clear h
    go_enter Try.func31, Try.ntmps31
    go_wp2
    refine wp_loop_rounds 1 ?_
    rw [rounds_succ]
    go_wp2
    go_ret3
    exact ⟨_, rfl, (OwnLL.nil 28 w 0).rd, Below.refl _ _⟩
  · have HH := Lib.hid h
    obtain ⟨g, off, cap, rfl, hcap, hcm, hg, _⟩ := Rd.full h h0 (by omega)
    have hcm' : cap ≤ 9223372036854775807 := by unfold maxLen at hcm; omega
    clear h
    go_enter Try.func31, Try.ntmps31
    go_wp2
    go_loopw [5, 6] (fun o i wr => ∃ (k : Nat) (l : List (List UInt8)), k ≤ xs.length ∧ l.length ≤ k ∧ i = .int .i64 k ∧ OwnLL 28 wr w.heap.size o l ∧ Below w.heap.size w wr ∧ Hid (frames xs = (l ++ (frames (xs.drop k)).1, k + (frames (xs.drop k)).2.1, (frames (xs.drop k)).2.2))) (fun _ i _ => xs.length - (intOf i).toNat)
    case atStart => exact ⟨0, [], by omega, by simp, rfl, OwnLL.nil _ _ _, Below.refl _ _, Lib.hid (by simp)⟩
    case round =>
      obtain ⟨k, l, hk, hlk, rfl, ho, hb, HF⟩ := hrel
      have hz := hb.size
      have HO := Lib.hid ho; clear ho
      by_cases hlt : k < xs.length
      · have hdl : (xs.drop k).length = xs.length - k := by simp
        have hRk : RdB wr (.slice (some ⟨g, off + k, none⟩) (xs.length - k) (cap - k)) (xs.drop k) := by
          have h1 := RdB.sub (l := k) (h := xs.length) (HH.out.below hb) (by omega) (Nat.le_refl _) rfl rfl rfl rfl
          rwa [List.take_of_length_le (by omega)] at h1
        have hc := refReadFrame_any _ _ _ hRk (by omega)
        have hfit := @readFrameN_len (xs.drop k)
        have hne : xs.drop k ≠ [] := fun e => by rw [e] at hdl; simp at hdl; omega
        have hfe := @frames_err (xs.drop k) hne
        have hfm := @frames_more (xs.drop k) hne
        clear hne
        rw [hdl] at hfit
        generalize hy : xs.drop k = y at *
        have HY := Lib.hid hy; clear hy
        generalize readFrameN y = r at *
        obtain ⟨ys, to_, er⟩ := r
        simp only at hfit hfe hfm
        have HC := Lib.hid hc; clear hc
        have hcpk : ¬ cap = k := by omega
        have HFE := Lib.hid hfe; clear hfe
        have HFM := Lib.hid hfm; clear hfm
        clear hRk
        by_cases her : er = 0
        · subst her
          obtain ⟨f2, f3⟩ := hfit rfl
          have hnext : y.drop to_ = xs.drop (k + to_) := by rw [← HY.out, List.drop_drop]
          have hfin := HFM.out rfl
          rw [hnext] at hfin
          have hF := HF.out
          rw [hfin] at hF
          simp only at hF
          have HF2 := Lib.hid hF
          clear hfin hF hnext HF HFE HFM hdl HY hfit
          go_wp2_with fail
          refine HC.out.mono ?_
          rintro e w3 ⟨v3, rfl, hr3, hlie, hb3⟩
          have hb4 := below_then hb hz hb3
          have hz4 := hb4.size
          obtain ⟨vs, hvl, hvo, hve⟩ := (HO.out.below hb3).own
          have hsep : ∀ g', lies v3 g' → u5.ownBlock ≠ some g' := fun g' hg' e' => by
            obtain ⟨_, _, _, e1, _⟩ := hlie g' hg'
            cases e1
            have h2 := (hvo.lt g e').1
            omega
          have HSEP := Lib.hid hsep
          have HVE := Lib.hid hve
          have HVO := Lib.hid hvo
          have HR4 := Lib.hid (hr3.below hb3)
          clear hsep hve hvo hr3 hlie hb3 HO HC hb
          obtain ⟨A4, cap4, rfl, _⟩ := Rd.form HR4.out
          go_wp2_with (at_builtin; refine wpList_app2 w.heap.size tLL (HVO.out.alloc _) (src_new Try.underlying22 [_] 28 (slice_one _ _ _) 1 rfl) (by simp; omega) (by unfold maxLen; omega) (by omega) rfl rfl rfl rfl ?_)
          intro v5 w5 ha
          have hb7 : Below w.heap.size w w5 := below_grown (hb4.alloc hz4 _) (HVO.out.alloc _) ha.grown (by simp; omega)
          have HO5 := Lib.hid (OwnLL.push hvl HVE.out HR4.out HSEP.out _ ha rfl (by simp))
          clear ha HVO HVE HSEP HR4 hb4
          go_wp2
          go_roundw
          case rel => exact ⟨k + to_, l ++ [ys], by omega, by simp; omega, by go_num, HO5.out, hb7, Lib.hid (by rw [HF2.out]; simp; omega)⟩
          case measure => simp [intOf]; omega
        · have hne : ((er : Int) != 0) = true := by rw [bne_iff_ne]; omega
          clear hfit hdl
          go_wp2_with fail
          refine HC.out.mono ?_
          rintro e w3 ⟨v3, rfl, hr3, hlie, hb3⟩
          have hb4 := below_then hb hz hb3
          have HO3 := Lib.hid (HO.out.below hb3).rd
          clear HC HO hb3 hb hr3 hlie
          go_wp2
          go_ret3
          have hfin := HF.out
          rw [HFE.out her] at hfin
          rw [hfin]
          exact ⟨_, rfl, by simpa using HO3.out, hb4⟩
      · have hd : xs.drop k = [] := List.drop_eq_nil_of_le (by omega)
        have hF := HF.out
        rw [hd, frames_nil] at hF
        have HFF := Lib.hid hF
        clear hF hd HF
        go_wp2
        go_ret3
        rw [HFF.out]
        exact ⟨_, rfl, by simpa using HO.out.rd, hb⟩
end Go.Proofs.Ytoliikpbhmfjnaa
