/-
  The walks behind Check: long, named, rising, fields, Reads.
-/
import Derived.Test.YtkbmecjpjphngaaBMach
import Derived.Test.YtkbmecjpjphngaaBW1
set_option linter.unusedVariables false
set_option linter.unusedSimpArgs false
namespace Go.Proofs.Ytkbmecjpjphngaa
open Go.RowKit Go.Maps

theorem take_snocB (s : ByteArray) (k : Nat) (h : k < s.size) : s.data.toList.take (k + 1) = s.data.toList.take k ++ [s[k]] := by
  rw [List.take_succ_eq_append_getElem (by simpa using h)]; rfl
theorem ret_b {a b : Bool} (h : a = b) : Ending.returned (.bool a) = .returned (.bool b) := by rw [h]
/-- Is a text so long? -/
def lngB (s : ByteArray) (a b : Int) : Bool := decide (a ≤ (s.size : Int)) && decide ((s.size : Int) ≤ b)
def okc (c : UInt8) : Bool := (97 ≤ c && c ≤ 122) || (48 ≤ c && c ≤ 57) || c == 45 || c == 46
def nameB (s : ByteArray) : Bool := s.data.toList.all okc && lngB s 1 64
def rdB (k : Int) : Bool := decide (k = 4) || decide (k = 6)

theorem lng_and (s : ByteArray) (a b : Int) : lngB s a b = true ↔ a ≤ (s.size : Int) ∧ (s.size : Int) ≤ b := by simp [lngB]
set_option maxRecDepth 100000 in
theorem long_any (s : ByteArray) (a b : Int) (w : World) (hs : s.size ≤ maxLen) : Calls Try.prog 23 #[.string s, .int .i64 a, .int .i64 b] w fun e w' => e = .returned (.bool (lngB s a b)) ∧ w = w' := by
  unfold maxLen at hs
  by_cases h1 : a ≤ (s.size : Int)
  · by_cases h2 : (s.size : Int) ≤ b
    · have hv : lngB s a b = true := by simp [lngB, h1, h2]
      rw [hv]
      go_enter Try.func23, Try.ntmps23
      go_wp2
      go_ret
      exact ⟨rfl, rfl⟩
    · have hv : lngB s a b = false := by simp [lngB, h2]
      rw [hv]
      have h3 : b < (s.size : Int) := by omega
      go_enter Try.func23, Try.ntmps23
      go_wp2
      go_ret
      exact ⟨rfl, rfl⟩
  · have hv : lngB s a b = false := by simp [lngB, h1]
    rw [hv]
    have h3 : (s.size : Int) < a := by omega
    go_enter Try.func23, Try.ntmps23
    go_wp2
    go_ret
    exact ⟨rfl, rfl⟩
set_option maxRecDepth 100000 in
theorem bReads_any (k : Int) (w : World) : Calls Try.prog 10 #[.int .i64 k] w fun e w' => e = .returned (.bool (rdB k)) ∧ w = w' := by
  by_cases h1 : k = 4
  · subst h1
    go_enter Try.func10, Try.ntmps10
    go_wp2
    go_ret
    exact ⟨rfl, rfl⟩
  · have e1 : (k == 4) = false := by simp [h1]
    have hv : rdB k = (k == 6) := by simp [rdB, h1]; rfl
    rw [hv]
    clear h1 hv
    go_enter Try.func10, Try.ntmps10
    go_wp2
    go_ret
    exact ⟨rfl, rfl⟩
/-- What fields tells. -/
def fieldsV (a b c d e f g : Bool) (is : Bool) : Value := .tuple #[.agg #[.bool a, .bool b, .bool c, .bool d, .bool e, .bool f, .bool g], .bool is]
/-- The fields of a kind. -/
def fldV (k : Int) : Value :=
  if k = 1 ∨ k = 2 then fieldsV true false false false false false false true
  else if k = 3 then fieldsV true true false false false false true true
  else if k = 4 ∨ k = 5 ∨ k = 7 then fieldsV true true false false false false false true
  else if k = 6 then fieldsV true false true false false false false true
  else if k = 8 then fieldsV false false false true true false true true
  else if k = 9 then fieldsV false false false true false true false true
  else if k = 10 then fieldsV false false false true false false false true
  else fieldsV false false false false false false false false
set_option maxRecDepth 100000 in
set_option maxHeartbeats 4000000 in
theorem fields_any (k : Int) (w : World) : Calls Try.prog 21 #[.int .i64 k] w fun e w' => e = .returned (fldV k) ∧ Below w.heap.size w w' := by
  by_cases h1 : k = 1
  · subst h1
    skip
    go_enter Try.func21, Try.ntmps21
    go_wp2
    exact bodyPost_ret (v := fldV 1) (by simp [results, Try.results21, go_sem, fldV, fieldsV]) rfl ⟨rfl, (Below.refl _ _).alloc (Nat.le_refl _) _⟩
  by_cases h2 : k = 2
  · subst h2
    clear h1
    go_enter Try.func21, Try.ntmps21
    go_wp2
    exact bodyPost_ret (v := fldV 2) (by simp [results, Try.results21, go_sem, fldV, fieldsV]) rfl ⟨rfl, (Below.refl _ _).alloc (Nat.le_refl _) _⟩
  by_cases h3 : k = 3
  · subst h3
    clear h1 h2
    go_enter Try.func21, Try.ntmps21
    go_wp2
    exact bodyPost_ret (v := fldV 3) (by simp [results, Try.results21, go_sem, fldV, fieldsV]) rfl ⟨rfl, (Below.refl _ _).alloc (Nat.le_refl _) _⟩
  by_cases h4 : k = 4
  · subst h4
    clear h1 h2 h3
    go_enter Try.func21, Try.ntmps21
    go_wp2
    exact bodyPost_ret (v := fldV 4) (by simp [results, Try.results21, go_sem, fldV, fieldsV]) rfl ⟨rfl, (Below.refl _ _).alloc (Nat.le_refl _) _⟩
  by_cases h5 : k = 5
  · subst h5
    clear h1 h2 h3 h4
    go_enter Try.func21, Try.ntmps21
    go_wp2
    exact bodyPost_ret (v := fldV 5) (by simp [results, Try.results21, go_sem, fldV, fieldsV]) rfl ⟨rfl, (Below.refl _ _).alloc (Nat.le_refl _) _⟩
  by_cases h6 : k = 6
  · subst h6
    clear h1 h2 h3 h4 h5
    go_enter Try.func21, Try.ntmps21
    go_wp2
    exact bodyPost_ret (v := fldV 6) (by simp [results, Try.results21, go_sem, fldV, fieldsV]) rfl ⟨rfl, (Below.refl _ _).alloc (Nat.le_refl _) _⟩
  by_cases h7 : k = 7
  · subst h7
    clear h1 h2 h3 h4 h5 h6
    go_enter Try.func21, Try.ntmps21
    go_wp2
    exact bodyPost_ret (v := fldV 7) (by simp [results, Try.results21, go_sem, fldV, fieldsV]) rfl ⟨rfl, (Below.refl _ _).alloc (Nat.le_refl _) _⟩
  by_cases h8 : k = 8
  · subst h8
    clear h1 h2 h3 h4 h5 h6 h7
    go_enter Try.func21, Try.ntmps21
    go_wp2
    exact bodyPost_ret (v := fldV 8) (by simp [results, Try.results21, go_sem, fldV, fieldsV]) rfl ⟨rfl, (Below.refl _ _).alloc (Nat.le_refl _) _⟩
  by_cases h9 : k = 9
  · subst h9
    clear h1 h2 h3 h4 h5 h6 h7 h8
    go_enter Try.func21, Try.ntmps21
    go_wp2
    exact bodyPost_ret (v := fldV 9) (by simp [results, Try.results21, go_sem, fldV, fieldsV]) rfl ⟨rfl, (Below.refl _ _).alloc (Nat.le_refl _) _⟩
  by_cases h10 : k = 10
  · subst h10
    clear h1 h2 h3 h4 h5 h6 h7 h8 h9
    go_enter Try.func21, Try.ntmps21
    go_wp2
    exact bodyPost_ret (v := fldV 10) (by simp [results, Try.results21, go_sem, fldV, fieldsV]) rfl ⟨rfl, (Below.refl _ _).alloc (Nat.le_refl _) _⟩
  have hv : fldV k = fieldsV false false false false false false false false := by simp [fldV, h1, h2, h3, h4, h5, h6, h7, h8, h9, h10]
  rw [hv]
  have e1 : (k == 1) = false := by simp [h1]
  have e2 : (k == 2) = false := by simp [h2]
  have e3 : (k == 3) = false := by simp [h3]
  have e4 : (k == 4) = false := by simp [h4]
  have e5 : (k == 5) = false := by simp [h5]
  have e6 : (k == 6) = false := by simp [h6]
  have e7 : (k == 7) = false := by simp [h7]
  have e8 : (k == 8) = false := by simp [h8]
  have e9 : (k == 9) = false := by simp [h9]
  have e10 : (k == 10) = false := by simp [h10]
  clear hv h1 h2 h3 h4 h5 h6 h7 h8 h9 h10
  go_enter Try.func21, Try.ntmps21
  go_wp2
  exact bodyPost_ret (v := fieldsV false false false false false false false false) (by simp [results, Try.results21, go_sem, fieldsV]) rfl ⟨rfl, (Below.refl _ _).alloc (Nat.le_refl _) _⟩

/-! ### named -/
theorem okc_int (c : UInt8) : okc c = true ↔ ((97 : Int) ≤ c.toNat ∧ (c.toNat : Int) ≤ 122) ∨ ((48 : Int) ≤ c.toNat ∧ (c.toNat : Int) ≤ 57) ∨ (c.toNat : Int) = 45 ∨ (c.toNat : Int) = 46 := by
  have e1 : c = 45 ↔ (c.toNat : Int) = 45 := by rw [← UInt8.toNat_inj]; simp; omega
  have e2 : c = 46 ↔ (c.toNat : Int) = 46 := by rw [← UInt8.toNat_inj]; simp; omega
  simp [okc, UInt8.le_iff_toNat_le, e1, e2]
  omega
theorem name_no (s : ByteArray) (k : Nat) (h : k < s.size) (hk : okc s[k] = false) : nameB s = false := by
  have : s.data.toList.all okc = false := by
    rw [List.all_eq_false]
    exact ⟨s[k], by rw [List.mem_iff_getElem]; exact ⟨k, by simpa using h, by rfl⟩, by simp [hk]⟩
  simp [nameB, this]
set_option maxRecDepth 100000 in
set_option maxHeartbeats 4000000 in
theorem named_any (s : ByteArray) (w : World) (hs : s.size ≤ maxLen) : Calls Try.prog 22 #[.string s] w fun e w' => e = .returned (.bool (nameB s)) ∧ w = w' := by
  have hs' := hs
  unfold maxLen at hs
  go_enter Try.func22, Try.ntmps22
  go_wp2
  go_loop [7] (fun i => ∃ k : Nat, k ≤ s.size ∧ i = .int .i64 k ∧ (s.data.toList.take k).all okc = true) (fun i => s.size - (intOf i).toNat)
  case atStart => exact ⟨0, Nat.zero_le _, rfl, rfl⟩
  case round =>
    obtain ⟨k, hk, rfl, hall⟩ := hrel
    have HAL := Lib.hid hall; clear hall
    by_cases hlt : k < s.size
    · have hts := take_snocB s k hlt
      have HT := Lib.hid hts; clear hts
      have hoc := okc_int s[k]
      have HOC := Lib.hid hoc; clear hoc
      have hb : ((97 : Int) ≤ s[k].toNat ∧ (s[k].toNat : Int) ≤ 122) ∨ ((48 : Int) ≤ s[k].toNat ∧ (s[k].toNat : Int) ≤ 57) ∨ (s[k].toNat : Int) = 45 ∨ (s[k].toNat : Int) = 46 ∨ ((s[k].toNat : Int) < 48 ∧ (s[k].toNat : Int) ≠ 45 ∧ (s[k].toNat : Int) ≠ 46) ∨ ((57 : Int) < s[k].toNat ∧ (s[k].toNat : Int) < 97) ∨ (122 : Int) < s[k].toNat := by omega
      rcases hb with ⟨h1, h2⟩ | ⟨h1, h2⟩ | h1 | h1 | ⟨h1, h2, h3⟩ | ⟨h1, h2⟩ | h1
      · skip
        have hok : okc s[k] = true := HOC.out.2 (by omega)
        go_wp2
        go_round
        case rel => exact ⟨k + 1, by omega, by go_num, by rw [HT.out, List.all_append, HAL.out]; simp [hok]⟩
        case measure => simp [intOf]; omega
      · have h3 : (s[k].toNat : Int) < 97 := by omega
        have hok : okc s[k] = true := HOC.out.2 (by omega)
        go_wp2
        go_round
        case rel => exact ⟨k + 1, by omega, by go_num, by rw [HT.out, List.all_append, HAL.out]; simp [hok]⟩
        case measure => simp [intOf]; omega
      · have h3 : (s[k].toNat : Int) < 48 := by omega
        have h4 : (s[k].toNat : Int) < 97 := by omega
        have h5 : ((s[k].toNat : Int) == 45) = true := by rw [beq_iff_eq]; exact h1
        have hok : okc s[k] = true := HOC.out.2 (by omega)
        clear h1
        go_wp2
        go_round
        case rel => exact ⟨k + 1, by omega, by go_num, by rw [HT.out, List.all_append, HAL.out]; simp [hok]⟩
        case measure => simp [intOf]; omega
      · have h3 : (s[k].toNat : Int) < 48 := by omega
        have h4 : (s[k].toNat : Int) < 97 := by omega
        have h5 : ((s[k].toNat : Int) == 46) = true := by rw [beq_iff_eq]; exact h1
        have h6 : ((s[k].toNat : Int) == 45) = false := by rw [beq_eq_false_iff_ne]; omega
        have hok : okc s[k] = true := HOC.out.2 (by omega)
        clear h1
        go_wp2
        go_round
        case rel => exact ⟨k + 1, by omega, by go_num, by rw [HT.out, List.all_append, HAL.out]; simp [hok]⟩
        case measure => simp [intOf]; omega
      · have h4 : (s[k].toNat : Int) < 97 := by omega
        have h5 : ((s[k].toNat : Int) == 45) = false := by rw [beq_eq_false_iff_ne]; omega
        have h6 : ((s[k].toNat : Int) == 46) = false := by rw [beq_eq_false_iff_ne]; omega
        have hok : okc s[k] = false := by
          rw [← Bool.not_eq_true]
          exact fun h => by have := HOC.out.1 h; omega
        have HOK := Lib.hid (name_no s k hlt hok)
        clear hok
        go_wp2
        go_ret
        exact ⟨ret_b HOK.out.symm, rfl⟩
      · have h3 : (48 : Int) ≤ s[k].toNat := by omega
        have h8 : decide ((s[k].toNat : Int) ≤ 57) = false := by rw [decide_eq_false_iff_not]; omega
        have h5 : ((s[k].toNat : Int) == 45) = false := by rw [beq_eq_false_iff_ne]; omega
        have h6 : ((s[k].toNat : Int) == 46) = false := by rw [beq_eq_false_iff_ne]; omega
        have hok : okc s[k] = false := by
          rw [← Bool.not_eq_true]
          exact fun h => by have := HOC.out.1 h; omega
        have HOK := Lib.hid (name_no s k hlt hok)
        clear hok
        go_wp2
        go_ret
        exact ⟨ret_b HOK.out.symm, rfl⟩
      · have h3 : (97 : Int) ≤ s[k].toNat := by omega
        have h4 : (57 : Int) < s[k].toNat := by omega
        have h7 : (48 : Int) ≤ s[k].toNat := by omega
        have h8 : decide ((s[k].toNat : Int) ≤ 57) = false := by rw [decide_eq_false_iff_not]; omega
        have h9 : decide ((s[k].toNat : Int) ≤ 122) = false := by rw [decide_eq_false_iff_not]; omega
        have h5 : ((s[k].toNat : Int) == 45) = false := by rw [beq_eq_false_iff_ne]; omega
        have h6 : ((s[k].toNat : Int) == 46) = false := by rw [beq_eq_false_iff_ne]; omega
        have hok : okc s[k] = false := by
          rw [← Bool.not_eq_true]
          exact fun h => by have := HOC.out.1 h; omega
        have HOK := Lib.hid (name_no s k hlt hok)
        clear hok
        go_wp2
        go_ret
        exact ⟨ret_b HOK.out.symm, rfl⟩
    · go_wp2_with (go_at_call 23; refine (long_any _ _ _ _ hs').mono ?_; rintro e w' ⟨rfl, rfl⟩)
      go_ret
      refine ⟨?_, rfl⟩
      have : k = s.size := by omega
      subst this
      have h1 := HAL.out
      rw [List.take_of_length_le (by simp)] at h1
      simp [nameB, h1]

/-! ### rising -/
def risB : List Int → Bool
  | [] => true
  | [x] => decide (1 ≤ x) && decide (x ≤ 10000)
  | x :: y :: r => decide (1 ≤ x) && decide (x ≤ 10000) && decide (x < y) && risB (y :: r)
def partsB (l : List Int) : Bool := decide (1 ≤ l.length) && decide (l.length ≤ 10000) && risB l
/-- Each number by itself. -/
def risAt (l : List Int) (k : Nat) : Prop := 1 ≤ l.getD k 0 ∧ l.getD k 0 ≤ 10000 ∧ (0 < k → l.getD (k - 1) 0 < l.getD k 0)
theorem risB_iff : ∀ l : List Int, risB l = true ↔ ∀ k, k < l.length → risAt l k
  | [] => by simp [risB]
  | [x] => by
    simp only [risB, Bool.and_eq_true, decide_eq_true_eq]
    constructor
    · rintro ⟨h1, h2⟩ k hk
      have : k = 0 := by simp at hk; omega
      subst this
      exact ⟨h1, h2, fun h => by omega⟩
    · intro h
      have := h 0 (by simp)
      exact ⟨this.1, this.2.1⟩
  | x :: y :: r => by
    simp only [risB, Bool.and_eq_true, decide_eq_true_eq]
    rw [risB_iff (y :: r)]
    constructor
    · rintro ⟨⟨⟨h1, h2⟩, h3⟩, h4⟩ k hk
      match k with
      | 0 => exact ⟨h1, h2, fun h => by omega⟩
      | 1 =>
        have := h4 0 (by simp)
        exact ⟨this.1, this.2.1, fun _ => h3⟩
      | k + 2 =>
        have := h4 (k + 1) (by simp at hk ⊢; omega)
        exact ⟨this.1, this.2.1, fun _ => this.2.2 (by omega)⟩
    · intro h
      have a := h 0 (by simp)
      have b := h 1 (by simp)
      refine ⟨⟨⟨a.1, a.2.1⟩, b.2.2 (by omega)⟩, fun k hk => ?_⟩
      have := h (k + 1) (by simp at hk ⊢; omega)
      refine ⟨this.1, this.2.1, fun hk0 => ?_⟩
      have h2 := this.2.2 (by omega)
      match k, hk0 with
      | k + 1, _ => exact h2
set_option maxRecDepth 100000 in
set_option maxHeartbeats 4000000 in
theorem rising_any (v : Value) (l : List Int) (w : World) (h : Rd w v l.length 1 (l.map (Value.int .i64))) (hw : ∀ x ∈ l, (Lit.int .i64 x).wf = true) : Calls Try.prog 24 #[v] w fun e w' => e = .returned (.bool (partsB l)) ∧ w = w' := by
  have h' := h
  obtain ⟨A, cap, rfl, hcap, hcm, hA⟩ := Rd.form h
  have HH := Lib.hid h'; clear h h' hA
  have HW := Lib.hid hw; clear hw
  unfold maxLen at hcm
  by_cases h1 : 1 ≤ l.length
  · by_cases h2 : l.length ≤ 10000
    · have hpb : partsB l = risB l := by simp [partsB, h1, h2]
      rw [hpb]; clear hpb
      have HRI := Lib.hid (risB_iff l)
      obtain ⟨g, off, cap', e, _, _, hgl, hcs⟩ := Rd.full HH.out (by omega) (by omega)
      cases e
      go_enter Try.func24, Try.ntmps24
      go_wp2
      go_loop [15] (fun i => ∃ k : Nat, k ≤ l.length ∧ i = .int .i64 k ∧ ∀ j, j < k → risAt l j) (fun i => l.length - (intOf i).toNat)
      case atStart => exact ⟨0, Nat.zero_le _, rfl, fun j hj => by omega⟩
      case round =>
        obtain ⟨k, hk, rfl, hall⟩ := hrel
        have HAL := Lib.hid hall; clear hall
        by_cases hlt : k < l.length
        · have hck : w.cell? ⟨g, off + k, none⟩ = some (.int .i64 (l.getD k 0)) := by
            rw [hcs.at_ k (.int .i64 (l.getD k 0)) (by simp [hlt])]
          generalize hx : l.getD k 0 = x at *
          have HX := Lib.hid hx; clear hx
          have HNO : Hid (¬ risAt l k → risB l = false) := fun hn => by
            rw [← Bool.not_eq_true, HRI.out]
            exact fun h => hn (h k hlt)
          have HSU : Hid (risAt l k → ∀ j, j < k + 1 → risAt l j) := fun h j hj => by
            rcases Nat.lt_or_eq_of_le (Nat.le_of_lt_succ hj) with e | e
            · exact HAL.out j e
            · rw [e]; exact h
          by_cases g1 : 1 ≤ x
          · by_cases g2 : x ≤ 10000
            · rcases Nat.eq_zero_or_pos k with h0 | h0
              · have HS : Hid (∀ j, j < k + 1 → risAt l j) := HSU.out ⟨by rw [HX.out]; exact g1, by rw [HX.out]; exact g2, fun e => by omega⟩
                have h9 : (k : Int) ≤ 0 := by omega
                clear h0
                go_wp2
                go_round
                case rel => exact ⟨k + 1, by omega, by go_num, HS.out⟩
                case measure => simp [intOf]; omega
              · have hcp : w.cell? ⟨g, off + (k - 1), none⟩ = some (.int .i64 (l.getD (k - 1) 0)) := by
                  rw [hcs.at_ (k - 1) (.int .i64 (l.getD (k - 1) 0)) (by simp [show k - 1 < l.length by omega])]
                generalize hy : l.getD (k - 1) 0 = y at *
                have HY := Lib.hid hy; clear hy
                obtain ⟨q, hq⟩ : ∃ q, q = k - 1 := ⟨_, rfl⟩
                have hqk : k = q + 1 := by omega
                subst hqk
                rw [← hq] at hcp
                clear hq
                by_cases g3 : y < x
                · have HS : Hid (∀ j, j < q + 1 + 1 → risAt l j) := HSU.out ⟨by rw [HX.out]; exact g1, by rw [HX.out]; exact g2, fun e => by rw [HX.out, HY.out]; exact g3⟩
                  go_wp2
                  go_round
                  case rel => exact ⟨q + 1 + 1, by omega, by go_num, HS.out⟩
                  case measure => simp [intOf]; omega
                · have g4 : x ≤ y := by omega
                  have HF : Hid (risB l = false) := HNO.out (fun h => by have := h.2.2 (by omega); rw [HX.out, HY.out] at this; omega)
                  clear g3
                  go_wp2
                  go_ret
                  exact ⟨ret_b HF.out.symm, rfl⟩
            · have g4 : 10000 < x := by omega
              have HF : Hid (risB l = false) := HNO.out (fun h => by have := h.2.1; rw [HX.out] at this; omega)
              clear g2
              go_wp2
              go_ret
              exact ⟨ret_b HF.out.symm, rfl⟩
          · have g4 : x < 1 := by omega
            have HF : Hid (risB l = false) := HNO.out (fun h => by have := h.1; rw [HX.out] at this; omega)
            clear g1
            go_wp2
            go_ret
            exact ⟨ret_b HF.out.symm, rfl⟩
        · have HT : Hid (risB l = true) := HRI.out.2 (fun j hj => HAL.out j (by omega))
          go_wp2
          go_ret
          exact ⟨ret_b HT.out.symm, rfl⟩
    · have hpb : partsB l = false := by simp [partsB, h2]
      rw [hpb]; clear hpb HW
      have h3 : (10000 : Int) < l.length := by omega
      go_enter Try.func24, Try.ntmps24
      go_wp2
      go_ret
      exact ⟨rfl, rfl⟩
  · have hpb : partsB l = false := by simp [partsB, h1]
    rw [hpb]; clear hpb HW
    have h3 : (l.length : Int) < 1 := by omega
    go_enter Try.func24, Try.ntmps24
    go_wp2
    go_ret
    exact ⟨rfl, rfl⟩
end Go.Proofs.Ytkbmecjpjphngaa
