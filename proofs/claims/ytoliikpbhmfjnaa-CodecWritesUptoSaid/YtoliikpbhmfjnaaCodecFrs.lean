/-
  ReadFrames: the program's and the reference's; Frames.
-/
import Derived.Test.YtoliikpbhmfjnaaProg
import Derived.Test.YtoliikpbhmfjnaaGKit
import Derived.Test.YtoliikpbhmfjnaaGKit2
import Derived.Test.YtoliikpbhmfjnaaCodecPlain
import Derived.Test.YtoliikpbhmfjnaaCodecLaws
import Derived.Test.YtoliikpbhmfjnaaCodecLaws2
import Derived.Test.YtoliikpbhmfjnaaCodecSmall
import Derived.Test.YtoliikpbhmfjnaaCodecRd
import Derived.Test.YtoliikpbhmfjnaaCodecRd2
set_option linter.unusedVariables false
set_option linter.unusedSimpArgs false
namespace Go.Proofs.Ytoliikpbhmfjnaa
open Go.RowKit Codec

theorem tLL : SliceT Try.prog 22 28 1 24 := SliceT.of (z := .slice none 0 0) Try.underlying22 (by kernel_rfl) rfl (by decide)
/-- A call hands back parts, a number and an error. -/
structure ReadLL (w : World) (r : List (List UInt8) × Nat × Nat) (e : Ending) (w' : World) : Prop where
  out : ∃ v, e = .returned (.tuple #[v, .int .i64 r.2.1, .int .i64 r.2.2]) ∧ RdLL w' v r.1 ∧ Below w.heap.size w w'
theorem lies_own {E : TypeId} {w : World} {base : Nat} {v : Value} {xs : List UInt8} (h : OwnB E w base v xs) {g : Nat} (hg : lies v g) : base ≤ g := by
  obtain ⟨off, n, cap, rfl, _⟩ := hg
  exact (World.ownsRow.lt h g rfl).1
theorem slice_one (A : Option Addr) (n cap : Nat) : ∀ u ∈ [Value.slice A n cap], u.oneCell' = true := fun u hu => by
  rw [List.mem_singleton.1 hu]
  rfl

set_option maxRecDepth 100000 in
set_option maxHeartbeats 600000 in
theorem readFrames_any (v : Value) (xs : List UInt8) (w : World) (h : RdB w v xs) (hx : xs.length ≤ 100000000000) :
    Calls Try.prog 26 #[v] w fun e w' => ReadLL w (frames xs) e w' := by
  rcases Nat.eq_zero_or_pos xs.length with h0 | h0
  · obtain ⟨A, cap, rfl, _⟩ := Rd.form h
    obtain rfl : xs = [] := List.eq_nil_of_length_eq_zero h0
    clear h
    go_enter Try.func26, Try.ntmps26
    go_wp2
    refine wp_loop_rounds 1 ?_
    rw [rounds_succ]
    go_wp2
    go_ret3
    exact ⟨_, rfl, (OwnLL.nil 28 w 0).rd, Below.refl _ _⟩
  · have HH := Lib.hid h
    obtain ⟨g, off, cap, rfl, hcap, hcm, hg, _⟩ := Rd.full h h0 (by omega)
    have hcm' : cap ≤ 9223372036854775807 := by unfold maxLen at hcm; omega
    clear h
    go_enter Try.func26, Try.ntmps26
    go_wp2
    go_loopw [5, 6] (fun o i wr => ∃ (k : Nat) (l : List (List UInt8)), k ≤ xs.length ∧ l.length ≤ k ∧ i = .int .i64 k ∧ OwnLL 28 wr w.heap.size o l ∧ Below w.heap.size w wr ∧ Hid (frames xs = (l ++ (frames (xs.drop k)).1, k + (frames (xs.drop k)).2.1, (frames (xs.drop k)).2.2))) (fun _ i _ => xs.length - (intOf i).toNat)
    case atStart => exact ⟨0, [], by omega, by simp, rfl, OwnLL.nil _ _ _, Below.refl _ _, Lib.hid (by simp)⟩
    case round =>
      obtain ⟨k, l, hk, hlk, rfl, ho, hb, HF⟩ := hrel
      have hz := hb.size
      have HO := Lib.hid ho; clear ho
      by_cases hlt : k < xs.length
      · have hdl : (xs.drop k).length = xs.length - k := by simp
        have hRk : RdB wr (.slice (some ⟨g, off + k, none⟩) (xs.length - k) (cap - k)) (xs.drop k) := by
          have h1 := RdB.sub (l := k) (h := xs.length) (HH.out.below hb) (by omega) (Nat.le_refl _) rfl rfl rfl rfl
          rwa [List.take_of_length_le (by omega)] at h1
        have hc := frameR_any _ _ _ hRk (by omega)
        have hfit := @frameN_fits (xs.drop k)
        have hne : xs.drop k ≠ [] := fun e => by rw [e] at hdl; simp at hdl; omega
        have hfe := @frames_err (xs.drop k) hne
        have hfm := @frames_more (xs.drop k) hne
        clear hne
        rw [hdl] at hfit
        generalize hy : xs.drop k = y at *
        have HY := Lib.hid hy; clear hy
        have hrf : readFrameN y = if (frameN y).2.2 ≠ 0 then ([], 0, (frameN y).2.2) else ((y.drop (frameN y).1).take ((frameN y).2.1 - (frameN y).1), (frameN y).2.1, 0) := rfl
        generalize frameN y = r at *
        obtain ⟨from_, to_, er⟩ := r
        simp only at hc hfit hrf
        have HC := Lib.hid hc; clear hc
        have hcpk : ¬ cap = k := by omega
        have HFE := Lib.hid hfe; clear hfe
        have HFM := Lib.hid hfm; clear hfm
        have HRK := Lib.hid hRk; clear hRk
        by_cases her : er = 0
        · subst her
          rw [if_neg (by simp)] at hrf
          obtain ⟨f1, f2, f3⟩ := hfit rfl
          have hys : RdB wr (.slice (some ⟨g, if cap = k + from_ then off else off + (k + from_), none⟩) (k + to_ - (k + from_)) (cap - (k + from_))) ((y.drop from_).take (to_ - from_)) := by
            rw [← HY.out, List.drop_drop]
            by_cases hcp : cap = k + from_
            · rw [if_pos hcp]
              have h0 : to_ = from_ := by omega
              subst h0
              rw [hcp, Nat.sub_self, Nat.sub_self]
              exact Rd.nil' (by simp [maxLen]) (fun h => by cases h)
            · rw [if_neg hcp]
              have h1 := RdB.sub (l := k + from_) (h := k + to_) (HH.out.below hb) (by omega) (by omega) rfl rfl rfl rfl
              rwa [show k + to_ - (k + from_) = to_ - from_ by omega] at h1 ⊢
          have hylen : ((y.drop from_).take (to_ - from_)).length ≤ 1000000000000 := by rw [List.length_take]; omega
          have hnext : y.drop to_ = xs.drop (k + to_) := by rw [← HY.out, List.drop_drop]
          have hfin := HFM.out (by rw [hrf])
          rw [hrf] at hfin
          simp only at hfin
          rw [hnext] at hfin
          have hF := HF.out
          rw [hfin] at hF
          simp only at hF
          have HF2 := Lib.hid hF
          clear hfin hF hnext hrf HF HFE HFM hdl HRK
          generalize (y.drop from_).take (to_ - from_) = ys at *
          clear HY hfit
          by_cases hcq : cap = k + from_
          · have hft : to_ = from_ := by omega
            subst hft
            subst hcq
            rw [if_pos rfl, Nat.sub_self] at hys
            have HS := Lib.hid hys; clear hys
            rw [Nat.add_sub_cancel_left] at HC
            go_wp2_with fail
            refine HC.out.mono ?_
            rintro e w3 ⟨rfl, hb3⟩
            have hb4 := below_then hb hz hb3
            have hz4 := hb4.size
            have HO3 := Lib.hid (HO.out.below hb3)
            have HS3 := Lib.hid (HS.out.below hb3)
            clear HC HO HS hb3 hb
            go_wp2_with fail
            refine (clone_any _ ys _ HS3.out (by omega)).mono ?_
            rintro e w4 ⟨v4, rfl, ho4, hb5⟩
            have hb6 := below_then hb4 hz4 hb5
            have hz6 := hb6.size
            obtain ⟨vs, hvl, hvo, hve⟩ := (HO3.out.below hb5).own
            have hsep : ∀ g', lies v4 g' → u5.ownBlock ≠ some g' := fun g' hg' e' => by
              have h1 := lies_own ho4 hg'
              obtain ⟨vs3, _, hvo3, _⟩ := HO3.out.own
              have h2 := (hvo3.lt g' e').2
              omega
            have HSEP := Lib.hid hsep
            have HVE := Lib.hid hve
            have HVO := Lib.hid hvo
            have HR4 := Lib.hid ho4.rd
            clear hsep hve hvo ho4 hb5 HO3 HS3 hb4
            obtain ⟨A4, cap4, rfl, _⟩ := Rd.form HR4.out
            go_wp2_with (at_builtin; refine wpList_app2 w.heap.size tLL (HVO.out.alloc _) (src_new Try.underlying22 [_] 28 (slice_one _ _ _) 1 rfl) (by simp; omega) (by unfold maxLen; omega) (by omega) rfl rfl rfl rfl ?_)
            intro v5 w5 ha
            have hb7 : Below w.heap.size w w5 := below_grown (hb6.alloc hz6 _) (HVO.out.alloc _) ha.grown (by simp; omega)
            have HO5 := Lib.hid (OwnLL.push hvl HVE.out HR4.out HSEP.out _ ha rfl (by simp))
            clear ha HVO HVE HSEP HR4 hb6
            go_wp2
            go_roundw
            case rel => exact ⟨k + to_, l ++ [ys], by omega, by simp; omega, by go_num, HO5.out, hb7, Lib.hid (by rw [HF2.out]; simp; omega)⟩
            case measure => simp [intOf]; omega
          · rw [if_neg hcq] at hys
            have HS := Lib.hid hys; clear hys
            go_wp2_with fail
            refine HC.out.mono ?_
            rintro e w3 ⟨rfl, hb3⟩
            have hb4 := below_then hb hz hb3
            have hz4 := hb4.size
            have HO3 := Lib.hid (HO.out.below hb3)
            have HS3 := Lib.hid (HS.out.below hb3)
            clear HC HO HS hb3 hb
            go_wp2_with fail
            refine (clone_any _ ys _ HS3.out (by omega)).mono ?_
            rintro e w4 ⟨v4, rfl, ho4, hb5⟩
            have hb6 := below_then hb4 hz4 hb5
            have hz6 := hb6.size
            obtain ⟨vs, hvl, hvo, hve⟩ := (HO3.out.below hb5).own
            have hsep : ∀ g', lies v4 g' → u5.ownBlock ≠ some g' := fun g' hg' e' => by
              have h1 := lies_own ho4 hg'
              obtain ⟨vs3, _, hvo3, _⟩ := HO3.out.own
              have h2 := (hvo3.lt g' e').2
              omega
            have HSEP := Lib.hid hsep
            have HVE := Lib.hid hve
            have HVO := Lib.hid hvo
            have HR4 := Lib.hid ho4.rd
            clear hsep hve hvo ho4 hb5 HO3 HS3 hb4
            obtain ⟨A4, cap4, rfl, _⟩ := Rd.form HR4.out
            go_wp2_with (at_builtin; refine wpList_app2 w.heap.size tLL (HVO.out.alloc _) (src_new Try.underlying22 [_] 28 (slice_one _ _ _) 1 rfl) (by simp; omega) (by unfold maxLen; omega) (by omega) rfl rfl rfl rfl ?_)
            intro v5 w5 ha
            have hb7 : Below w.heap.size w w5 := below_grown (hb6.alloc hz6 _) (HVO.out.alloc _) ha.grown (by simp; omega)
            have HO5 := Lib.hid (OwnLL.push hvl HVE.out HR4.out HSEP.out _ ha rfl (by simp))
            clear ha HVO HVE HSEP HR4 hb6
            go_wp2
            go_roundw
            case rel => exact ⟨k + to_, l ++ [ys], by omega, by simp; omega, by go_num, HO5.out, hb7, Lib.hid (by rw [HF2.out]; simp; omega)⟩
            case measure => simp [intOf]; omega
        · rw [if_pos her] at hrf
          have hne : ((er : Int) != 0) = true := by rw [bne_iff_ne]; omega
          have HRF := Lib.hid hrf
          clear hrf hfit hdl
          go_wp2_with fail
          refine HC.out.mono ?_
          rintro e w3 ⟨rfl, hb3⟩
          have hb4 := below_then hb hz hb3
          have HO3 := Lib.hid (HO.out.below hb3).rd
          clear HC HO hb3 hb
          go_wp2
          go_ret3
          have hfin := HF.out
          rw [HFE.out (by rw [HRF.out]; exact her), HRF.out] at hfin
          rw [hfin]
          exact ⟨_, rfl, by simpa using HO3.out, hb4⟩
      · have hd : xs.drop k = [] := List.drop_eq_nil_of_le (by omega)
        have hF := HF.out
        rw [hd, frames_nil] at hF
        have HFF := Lib.hid hF
        clear hF hd HF
        go_wp2
        go_ret3
        rw [HFF.out]
        exact ⟨_, rfl, by simpa using HO.out.rd, hb⟩
end Go.Proofs.Ytoliikpbhmfjnaa
