/-
  The reference's Name, key, parts, Reads (printed by genref.py).
-/
import Derived.Test.YtkbmecjpjphngaaBChk
import Derived.BigQuiet
set_option linter.unusedVariables false
set_option linter.unusedSimpArgs false
namespace Go.Proofs.Ytkbmecjpjphngaa
open Go.RowKit Go.Maps

set_option maxRecDepth 100000 in
set_option maxHeartbeats 4000000 in
theorem refName_any (s : ByteArray) (w : World) (hs : s.size ≤ maxLen) : Calls Try.prog 25 #[.string s] w fun e w' => e = .returned (.bool (nameB s)) ∧ w = w' := by
  have hs' := hs
  unfold maxLen at hs
  by_cases g1 : s.size < 1
  · have hv : nameB s = false := by simp [nameB, lngB]; omega
    rw [hv]
    have h3 : (s.size : Int) < 1 := by omega
    go_enter Try.func25, Try.ntmps25
    go_wp2
    go_ret
    exact ⟨rfl, rfl⟩
  by_cases g2 : 64 < s.size
  · have hv : nameB s = false := by simp [nameB, lngB]; omega
    rw [hv]
    have h3 : (64 : Int) < (s.size : Int) := by omega
    go_enter Try.func25, Try.ntmps25
    go_wp2
    go_ret
    exact ⟨rfl, rfl⟩
  go_enter Try.func25, Try.ntmps25
  go_wp2
  go_loop [3] (fun i => ∃ k : Nat, k ≤ s.size ∧ i = .int .i64 k ∧ (s.data.toList.take k).all okc = true) (fun i => s.size - (intOf i).toNat)
  case atStart => exact ⟨0, Nat.zero_le _, rfl, rfl⟩
  case round =>
    obtain ⟨k, hk, rfl, hall⟩ := hrel
    have HAL := Lib.hid hall; clear hall
    by_cases hlt : k < s.size
    · have hts := take_snocB s k hlt
      have HT := Lib.hid hts; clear hts
      have hoc := okc_int s[k]
      have HOC := Lib.hid hoc; clear hoc
      have hb : ((97 : Int) ≤ s[k].toNat ∧ (s[k].toNat : Int) ≤ 122) ∨ ((48 : Int) ≤ s[k].toNat ∧ (s[k].toNat : Int) ≤ 57) ∨ (s[k].toNat : Int) = 45 ∨ (s[k].toNat : Int) = 46 ∨ ((s[k].toNat : Int) < 48 ∧ (s[k].toNat : Int) ≠ 45 ∧ (s[k].toNat : Int) ≠ 46) ∨ ((57 : Int) < s[k].toNat ∧ (s[k].toNat : Int) < 97) ∨ (122 : Int) < s[k].toNat := by omega
      rcases hb with ⟨h1, h2⟩ | ⟨h1, h2⟩ | h1 | h1 | ⟨h1, h2, h3⟩ | ⟨h1, h2⟩ | h1
      · skip
        have hok : okc s[k] = true := HOC.out.2 (by omega)
        go_wp2
        go_round
        case rel => exact ⟨k + 1, by omega, by go_num, by rw [HT.out, List.all_append, HAL.out]; simp [hok]⟩
        case measure => simp [intOf]; omega
      · have h3 : (s[k].toNat : Int) < 97 := by omega
        have hok : okc s[k] = true := HOC.out.2 (by omega)
        go_wp2
        go_round
        case rel => exact ⟨k + 1, by omega, by go_num, by rw [HT.out, List.all_append, HAL.out]; simp [hok]⟩
        case measure => simp [intOf]; omega
      · have h3 : (s[k].toNat : Int) < 48 := by omega
        have h4 : (s[k].toNat : Int) < 97 := by omega
        have h5 : ((s[k].toNat : Int) == 45) = true := by rw [beq_iff_eq]; exact h1
        have hok : okc s[k] = true := HOC.out.2 (by omega)
        clear h1
        go_wp2
        go_round
        case rel => exact ⟨k + 1, by omega, by go_num, by rw [HT.out, List.all_append, HAL.out]; simp [hok]⟩
        case measure => simp [intOf]; omega
      · have h3 : (s[k].toNat : Int) < 48 := by omega
        have h4 : (s[k].toNat : Int) < 97 := by omega
        have h5 : ((s[k].toNat : Int) == 46) = true := by rw [beq_iff_eq]; exact h1
        have h6 : ((s[k].toNat : Int) == 45) = false := by rw [beq_eq_false_iff_ne]; omega
        have hok : okc s[k] = true := HOC.out.2 (by omega)
        clear h1
        go_wp2
        go_round
        case rel => exact ⟨k + 1, by omega, by go_num, by rw [HT.out, List.all_append, HAL.out]; simp [hok]⟩
        case measure => simp [intOf]; omega
      · have h4 : (s[k].toNat : Int) < 97 := by omega
        have h5 : ((s[k].toNat : Int) == 45) = false := by rw [beq_eq_false_iff_ne]; omega
        have h6 : ((s[k].toNat : Int) == 46) = false := by rw [beq_eq_false_iff_ne]; omega
        have hok : okc s[k] = false := by
          rw [← Bool.not_eq_true]
          exact fun h => by have := HOC.out.1 h; omega
        have HOK := Lib.hid (name_no s k hlt hok)
        clear hok
        go_wp2
        go_ret
        exact ⟨ret_b HOK.out.symm, rfl⟩
      · have h3 : (48 : Int) ≤ s[k].toNat := by omega
        have h8 : decide ((s[k].toNat : Int) ≤ 57) = false := by rw [decide_eq_false_iff_not]; omega
        have h5 : ((s[k].toNat : Int) == 45) = false := by rw [beq_eq_false_iff_ne]; omega
        have h6 : ((s[k].toNat : Int) == 46) = false := by rw [beq_eq_false_iff_ne]; omega
        have hok : okc s[k] = false := by
          rw [← Bool.not_eq_true]
          exact fun h => by have := HOC.out.1 h; omega
        have HOK := Lib.hid (name_no s k hlt hok)
        clear hok
        go_wp2
        go_ret
        exact ⟨ret_b HOK.out.symm, rfl⟩
      · have h3 : (97 : Int) ≤ s[k].toNat := by omega
        have h4 : (57 : Int) < s[k].toNat := by omega
        have h7 : (48 : Int) ≤ s[k].toNat := by omega
        have h8 : decide ((s[k].toNat : Int) ≤ 57) = false := by rw [decide_eq_false_iff_not]; omega
        have h9 : decide ((s[k].toNat : Int) ≤ 122) = false := by rw [decide_eq_false_iff_not]; omega
        have h5 : ((s[k].toNat : Int) == 45) = false := by rw [beq_eq_false_iff_ne]; omega
        have h6 : ((s[k].toNat : Int) == 46) = false := by rw [beq_eq_false_iff_ne]; omega
        have hok : okc s[k] = false := by
          rw [← Bool.not_eq_true]
          exact fun h => by have := HOC.out.1 h; omega
        have HOK := Lib.hid (name_no s k hlt hok)
        clear hok
        go_wp2
        go_ret
        exact ⟨ret_b HOK.out.symm, rfl⟩
    · have hfin : nameB s = true := by
        have : k = s.size := by omega
        subst this
        have h1 := HAL.out
        rw [List.take_of_length_le (by simp)] at h1
        simp [nameB, h1, lngB]
        omega
      have HFIN := Lib.hid hfin
      clear hfin
      go_wp2
      go_ret
      exact ⟨ret_b HFIN.out.symm, rfl⟩
set_option maxRecDepth 100000 in
theorem refKey_any (s : ByteArray) (w : World) (hs : s.size ≤ maxLen) : Calls Try.prog 26 #[.string s] w fun e w' => e = .returned (.bool (lngB s 1 1024)) ∧ w = w' := by
  unfold maxLen at hs
  by_cases h1 : (1 : Int) ≤ (s.size : Int)
  · have hv : lngB s 1 1024 = decide ((s.size : Int) ≤ 1024) := by simp only [lngB, h1, decide_true, Bool.true_and]
    rw [hv]
    go_enter Try.func26, Try.ntmps26
    go_wp2
    go_ret
    exact ⟨rfl, rfl⟩
  · have hv : lngB s 1 1024 = false := by simp only [lngB, h1, decide_false, Bool.false_and]
    rw [hv]
    have h3 : (s.size : Int) < 1 := by omega
    go_enter Try.func26, Try.ntmps26
    go_wp2
    go_ret
    exact ⟨rfl, rfl⟩
set_option maxRecDepth 100000 in
set_option maxHeartbeats 4000000 in
theorem refParts_any (v : Value) (l : List Int) (w : World) (h : Rd w v l.length 1 (l.map (Value.int .i64))) (hw : ∀ x ∈ l, (Lit.int .i64 x).wf = true) : Calls Try.prog 27 #[v] w fun e w' => e = .returned (.bool (partsB l)) ∧ ∃ n, w' = w.drewN n := by
  have h' := h
  obtain ⟨A, cap, rfl, hcap, hcm, hA⟩ := Rd.form h
  have HH := Lib.hid h'; clear h h' hA
  have HW := Lib.hid hw; clear hw
  unfold maxLen at hcm
  by_cases h1 : 1 ≤ l.length
  · by_cases h2 : l.length ≤ 10000
    · have hpb : partsB l = risB l := by simp [partsB, h1, h2]
      rw [hpb]; clear hpb
      have HRI := Lib.hid (risB_iff l)
      obtain ⟨g, off, cap', e, _, _, hgl, hcs⟩ := Rd.full HH.out (by omega) (by omega)
      cases e
      go_enter Try.func27, Try.ntmps27
      go_wp2
      go_loopw [3] (fun i wr => ∃ k : Nat, k ≤ l.length ∧ i = .int .i64 k ∧ (∀ j, j < k → risAt l j) ∧ ∃ n, wr = w.drewN n) (fun i _ => l.length - (intOf i).toNat)
      case atStart => exact ⟨0, Nat.zero_le _, rfl, fun j hj => by omega, 0, rfl⟩
      case round =>
        obtain ⟨k, hk, rfl, hall, nd, rfl⟩ := hrel
        have HAL := Lib.hid hall; clear hall
        by_cases hlt : k < l.length
        · have hck : w.cell? ⟨g, off + k, none⟩ = some (.int .i64 (l.getD k 0)) := by
            rw [hcs.at_ k (.int .i64 (l.getD k 0)) (by simp [hlt])]
          generalize hx : l.getD k 0 = x at *
          have HX := Lib.hid hx; clear hx
          have HNO : Hid (¬ risAt l k → risB l = false) := fun hn => by
            rw [← Bool.not_eq_true, HRI.out]
            exact fun h => hn (h k hlt)
          have HSU : Hid (risAt l k → ∀ j, j < k + 1 → risAt l j) := fun h j hj => by
            rcases Nat.lt_or_eq_of_le (Nat.le_of_lt_succ hj) with e | e
            · exact HAL.out j e
            · rw [e]; exact h
          by_cases g1 : 1 ≤ x
          · have d1 : decide (x < 1) = false := by rw [decide_eq_false_iff_not]; omega
            by_cases g2 : x ≤ 10000
            · have d2 : decide (10000 < x) = false := by rw [decide_eq_false_iff_not]; omega
              rcases Nat.eq_zero_or_pos k with h0 | h0
              · have d3 : decide ((0 : Int) < (k : Int)) = false := by rw [decide_eq_false_iff_not]; omega
                have HS : Hid (∀ j, j < k + 1 → risAt l j) := HSU.out ⟨by rw [HX.out]; exact g1, by rw [HX.out]; exact g2, fun e => by omega⟩
                have d4 : decide (0 < k) = false := by rw [decide_eq_false_iff_not]; omega
                clear h0
                go_wp2
                go_quiet (fail)
                go_wp2
                go_roundw
                case rel => exact ⟨k + 1, by omega, by go_num, HS.out, _, rfl⟩
                case measure => simp [intOf]; omega
              · have hcp : w.cell? ⟨g, off + (k - 1), none⟩ = some (.int .i64 (l.getD (k - 1) 0)) := by
                  rw [hcs.at_ (k - 1) (.int .i64 (l.getD (k - 1) 0)) (by simp [show k - 1 < l.length by omega])]
                generalize hy : l.getD (k - 1) 0 = y at *
                have HY := Lib.hid hy; clear hy
                obtain ⟨q, hq⟩ : ∃ q, q = k - 1 := ⟨_, rfl⟩
                have hqk : k = q + 1 := by omega
                subst hqk
                rw [← hq] at hcp
                clear hq
                have d3 : decide ((0 : Int) < ((q + 1 : Nat) : Int)) = true := by rw [decide_eq_true_eq]; omega
                by_cases g3 : y < x
                · have HS : Hid (∀ j, j < q + 1 + 1 → risAt l j) := HSU.out ⟨by rw [HX.out]; exact g1, by rw [HX.out]; exact g2, fun e => by rw [HX.out, HY.out]; exact g3⟩
                  have d4 : decide (x ≤ y) = false := by rw [decide_eq_false_iff_not]; omega
                  go_wp2
                  go_quiet (fail)
                  go_wp2
                  go_roundw
                  case rel => exact ⟨q + 1 + 1, by omega, by go_num, HS.out, _, rfl⟩
                  case measure => simp [intOf]; omega
                · have g4 : x ≤ y := by omega
                  have HF : Hid (risB l = false) := HNO.out (fun h => by have := h.2.2 (by omega); rw [HX.out, HY.out] at this; omega)
                  clear g3
                  go_wp2
                  go_quiet (fail)
                  go_wp2
                  go_ret
                  exact ⟨ret_b HF.out.symm, _, by simp; rfl⟩
            · have g4 : 10000 < x := by omega
              have HF : Hid (risB l = false) := HNO.out (fun h => by have := h.2.1; rw [HX.out] at this; omega)
              clear g2
              go_wp2
              go_quiet (fail)
              go_wp2
              go_ret
              exact ⟨ret_b HF.out.symm, _, by simp; rfl⟩
          · have g4 : x < 1 := by omega
            have HF : Hid (risB l = false) := HNO.out (fun h => by have := h.1; rw [HX.out] at this; omega)
            clear g1
            go_wp2
            go_quiet (fail)
            go_wp2
            go_ret
            exact ⟨ret_b HF.out.symm, _, by simp; rfl⟩
        · have HT : Hid (risB l = true) := HRI.out.2 (fun j hj => HAL.out j (by omega))
          go_wp2
          go_ret
          exact ⟨ret_b HT.out.symm, _, rfl⟩
    · have hpb : partsB l = false := by simp [partsB, h2]
      rw [hpb]; clear hpb HW
      have h3 : (10000 : Int) < l.length := by omega
      go_enter Try.func27, Try.ntmps27
      go_wp2
      go_ret
      exact ⟨rfl, 0, rfl⟩
  · have hpb : partsB l = false := by simp [partsB, h1]
    rw [hpb]; clear hpb HW
    have h3 : (l.length : Int) < 1 := by omega
    go_enter Try.func27, Try.ntmps27
    go_wp2
    go_ret
    exact ⟨rfl, 0, rfl⟩
set_option maxRecDepth 100000 in
theorem refReads_any (k : Int) (w : World) : Calls Try.prog 11 #[.int .i64 k] w fun e w' => e = .returned (.bool (rdB k)) ∧ w = w' := by
  by_cases h1 : k = 4
  · subst h1
    go_enter Try.func11, Try.ntmps11
    go_wp2
    go_ret
    exact ⟨rfl, rfl⟩
  · have e1 : (k == 4) = false := by simp [h1]
    have hv : rdB k = (k == 6) := by simp [rdB, h1]; rfl
    rw [hv]
    clear h1 hv
    go_enter Try.func11, Try.ntmps11
    go_wp2
    go_ret
    exact ⟨rfl, rfl⟩
end Go.Proofs.Ytkbmecjpjphngaa
