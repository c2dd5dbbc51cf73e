/-
  Same: slices.Equal of strings and of bytes, and of results.
-/
import Derived.Test.YtkbmecjpjphngaaBW1
set_option linter.unusedVariables false
set_option linter.unusedSimpArgs false
namespace Go.Proofs.Ytkbmecjpjphngaa
open Go.RowKit Go.Maps

noncomputable def eqS (a b : List ByteArray) : Bool := @decide (a = b) (Classical.propDecidable _)
def eqB (a b : List UInt8) : Bool := decide (a = b)
theorem eqS_self (a : List ByteArray) : eqS a a = true := by simp [eqS]
theorem eqB_self (a : List UInt8) : eqB a a = true := by simp [eqB]
theorem eqS_no {a b : List ByteArray} (h : a ≠ b) : eqS a b = false := by simp [eqS, h]
theorem eqB_no {a b : List UInt8} (h : a ≠ b) : eqB a b = false := by simp [eqB, h]
theorem ret_bs {a b : Bool} (h : b = a) : Ending.returned (.bool a) = .returned (.bool b) := by rw [h]
theorem take_more {T : Type} {a b : List T} {k : Nat} (h : a.take k = b.take k) (ha : k < a.length) (hb : k < b.length) (he : a[k] = b[k]) : a.take (k + 1) = b.take (k + 1) := by
  rw [List.take_succ_eq_append_getElem ha, List.take_succ_eq_append_getElem hb, h, he]
theorem ba_eq {a b : ByteArray} : (a.toList == b.toList) = true ↔ a = b := by
  constructor
  · intro h
    have h' : a.toList = b.toList := by simpa using h
    have h1 := str_list a.data.toList
    have h2 := str_list b.data.toList
    rw [str_of] at h1 h2
    rw [h1, h2] at h'
    rw [← str_of a, ← str_of b, h']
  · rintro rfl; simp
set_option maxRecDepth 100000 in
set_option maxHeartbeats 4000000 in
theorem equalS_any {w : World} {va vb : Value} {a b : List ByteArray} (ha : RdS w va a) (hb : RdS w vb b) :
    Calls Try.prog 31 #[va, vb] w fun e w' => e = .returned (.bool (eqS a b)) ∧ Below w.heap.size w w' := by
  have HA := Lib.hid ha
  have HB := Lib.hid hb
  obtain ⟨A, ca, rfl, a1, a2, _⟩ := Rd.form ha
  obtain ⟨B, cb, rfl, b1, b2, _⟩ := Rd.form hb
  clear ha hb
  unfold maxLen at a2 b2
  by_cases hl : a.length = b.length
  · generalize hn : b.length = n at *
    have HN := Lib.hid hn
    have HL := Lib.hid hl
    have HA' : Hid (Rd w (.slice A n ca) n 1 (a.map Value.string)) := by have := HA.out; unfold RdS at this; rw [hl] at this; exact this
    have HB' : Hid (Rd w (.slice B n cb) n 1 (b.map Value.string)) := by have := HB.out; unfold RdS at this; rw [hn] at this; exact this
    clear hn HA HB
    rw [hl] at a1 ⊢
    have hq : ((n : Int) == (n : Int)) = true := by simp
    clear hl
    go_enter Try.func31, Try.ntmps31
    go_wp2
    clear hq
    go_loopw [13] (fun i wr => ∃ k : Nat, k ≤ n ∧ i = .int .i64 k ∧ a.take k = b.take k ∧ Below w.heap.size w wr) (fun i _ => n - (intOf i).toNat)
    case atStart => exact ⟨0, Nat.zero_le _, rfl, by simp, Below.refl _ _⟩
    case round =>
      obtain ⟨k, hk, rfl, ht, hbl⟩ := hrel
      have HT := Lib.hid ht
      have HBL := Lib.hid hbl
      clear ht hbl
      have hla := HL.out
      have hlb := HN.out
      by_cases hlt : k < n
      · obtain ⟨g, off, cap, e, _, _, hgl, hc⟩ := Rd.full HA'.out (by omega) (by omega)
        cases e
        obtain ⟨g', off', cap', e, _, _, hgl', hc'⟩ := Rd.full HB'.out (by omega) (by omega)
        cases e
        have x1 : wr.cell? ⟨g, off + k, none⟩ = some (.string a[k]) := (HBL.out.cell (p := ⟨g, off + k, none⟩) hgl).trans (hc.at_ k _ (by simp [hla, hlt]))
        have x2 : wr.cell? ⟨g', off' + k, none⟩ = some (.string b[k]) := (HBL.out.cell (p := ⟨g', off' + k, none⟩) hgl').trans (hc'.at_ k _ (by simp [hlb, hlt]))
        have HM := Lib.hid (take_more (k := k) HT.out (by omega) (by omega))
        by_cases he : a[k] = b[k]
        · have HE := Lib.hid (HM.out he)
          have e1 : (a[k].toList == b[k].toList) = true := ba_eq.2 he
          have e2 : (a[k].toList != b[k].toList) = false := by simp [bne, e1]
          generalize a[k] = xa at *
          generalize b[k] = xb at *
          clear hc hc' he HM hla hlb
          go_wp2
          go_quiet (fail)
          clear e1 e2
          go_wp2
          go_roundw
          case rel => exact ⟨k + 1, by omega, by go_num, HE.out, HBL.out.trans ((drewN_below _ _).mono HBL.out.size)⟩
          case measure => simp [intOf]; omega
        · have HR : Hid (eqS a b = false) := eqS_no (fun e => he (by subst e; rfl))
          have e1 : (a[k].toList == b[k].toList) = false := by
            rw [Bool.eq_false_iff]; exact fun h => he (ba_eq.1 h)
          have e2 : (a[k].toList != b[k].toList) = true := by simp [bne, e1]
          generalize a[k] = xa at *
          generalize b[k] = xb at *
          clear hc hc' he HM hla hlb
          go_wp2
          go_quiet (fail)
          clear e1 e2
          go_wp2
          go_ret
          exact ⟨ret_bs HR.out, HBL.out.trans ((drewN_below _ _).mono HBL.out.size)⟩
      · obtain rfl : k = n := by omega
        have HR : Hid (eqS a b = true) := by
          have ht := HT.out
          rw [List.take_of_length_le (by omega), List.take_of_length_le (by omega)] at ht
          show eqS a b = true
          rw [ht, eqS_self]
        clear hla hlb
        go_wp2
        go_ret
        exact ⟨ret_bs HR.out, HBL.out⟩
  · have HR := Lib.hid (eqS_no (a := a) (b := b) (fun e => hl (by rw [e])))
    have hq : ((a.length : Int) == (b.length : Int)) = false := by rw [beq_eq_false_iff_ne]; omega
    have hq2 : ((a.length : Int) != (b.length : Int)) = true := by simp [bne, hq]
    clear hl
    go_enter Try.func31, Try.ntmps31
    go_wp2
    go_ret
    exact ⟨ret_bs HR.out, Below.refl _ _⟩
set_option maxRecDepth 100000 in
set_option maxHeartbeats 4000000 in
theorem equalB_any {w : World} {va vb : Value} {a b : List UInt8} (ha : RdB w va a) (hb : RdB w vb b) :
    Calls Try.prog 32 #[va, vb] w fun e w' => e = .returned (.bool (eqB a b)) ∧ Below w.heap.size w w' := by
  have HA := Lib.hid ha
  have HB := Lib.hid hb
  obtain ⟨A, ca, rfl, a1, a2, _⟩ := Rd.form ha
  obtain ⟨B, cb, rfl, b1, b2, _⟩ := Rd.form hb
  clear ha hb
  unfold maxLen at a2 b2
  by_cases hl : a.length = b.length
  · generalize hn : b.length = n at *
    have HN := Lib.hid hn
    have HL := Lib.hid hl
    have HA' : Hid (Rd w (.slice A n ca) n 1 (bvs a)) := by have := HA.out; unfold RdB at this; rw [hl] at this; exact this
    have HB' : Hid (Rd w (.slice B n cb) n 1 (bvs b)) := by have := HB.out; unfold RdB at this; rw [hn] at this; exact this
    clear hn HA HB
    rw [hl] at a1 ⊢
    have hq : ((n : Int) == (n : Int)) = true := by simp
    clear hl
    go_enter Try.func32, Try.ntmps32
    go_wp2
    clear hq
    go_loopw [13] (fun i wr => ∃ k : Nat, k ≤ n ∧ i = .int .i64 k ∧ a.take k = b.take k ∧ Below w.heap.size w wr) (fun i _ => n - (intOf i).toNat)
    case atStart => exact ⟨0, Nat.zero_le _, rfl, by simp, Below.refl _ _⟩
    case round =>
      obtain ⟨k, hk, rfl, ht, hbl⟩ := hrel
      have HT := Lib.hid ht
      have HBL := Lib.hid hbl
      clear ht hbl
      have hla := HL.out
      have hlb := HN.out
      by_cases hlt : k < n
      · obtain ⟨g, off, cap, e, _, _, hgl, hc⟩ := Rd.full HA'.out (by omega) (by omega)
        cases e
        obtain ⟨g', off', cap', e, _, _, hgl', hc'⟩ := Rd.full HB'.out (by omega) (by omega)
        cases e
        have x1 : wr.cell? ⟨g, off + k, none⟩ = some (.int .u8 (a[k].toNat : Int)) := (HBL.out.cell (p := ⟨g, off + k, none⟩) hgl).trans (hc.byte k (by omega))
        have x2 : wr.cell? ⟨g', off' + k, none⟩ = some (.int .u8 (b[k].toNat : Int)) := (HBL.out.cell (p := ⟨g', off' + k, none⟩) hgl').trans (hc'.byte k (by omega))
        have HM := Lib.hid (take_more (k := k) HT.out (by omega) (by omega))
        by_cases he : a[k] = b[k]
        · have HE := Lib.hid (HM.out he)
          have e1 : ((a[k].toNat : Int) == (b[k].toNat : Int)) = true := by rw [he]; simp
          have e2 : ((a[k].toNat : Int) != (b[k].toNat : Int)) = false := by simp [bne, e1]
          generalize a[k].toNat = xa at *
          generalize b[k].toNat = xb at *
          clear hc hc' he HM hla hlb
          go_wp2
          go_quiet (fail)
          clear e1 e2
          go_wp2
          go_roundw
          case rel => exact ⟨k + 1, by omega, by go_num, HE.out, HBL.out.trans ((drewN_below _ _).mono HBL.out.size)⟩
          case measure => simp [intOf]; omega
        · have HR : Hid (eqB a b = false) := eqB_no (fun e => he (by subst e; rfl))
          have e1 : ((a[k].toNat : Int) == (b[k].toNat : Int)) = false := by
            rw [beq_eq_false_iff_ne]; exact fun h => he (UInt8.toNat_inj.1 (by omega))
          have e2 : ((a[k].toNat : Int) != (b[k].toNat : Int)) = true := by simp [bne, e1]
          generalize a[k].toNat = xa at *
          generalize b[k].toNat = xb at *
          clear hc hc' he HM hla hlb
          go_wp2
          go_quiet (fail)
          clear e1 e2
          go_wp2
          go_ret
          exact ⟨ret_bs HR.out, HBL.out.trans ((drewN_below _ _).mono HBL.out.size)⟩
      · obtain rfl : k = n := by omega
        have HR : Hid (eqB a b = true) := by
          have ht := HT.out
          rw [List.take_of_length_le (by omega), List.take_of_length_le (by omega)] at ht
          show eqB a b = true
          rw [ht, eqB_self]
        clear hla hlb
        go_wp2
        go_ret
        exact ⟨ret_bs HR.out, HBL.out⟩
  · have HR := Lib.hid (eqB_no (a := a) (b := b) (fun e => hl (by rw [e])))
    have hq : ((a.length : Int) == (b.length : Int)) = false := by rw [beq_eq_false_iff_ne]; omega
    have hq2 : ((a.length : Int) != (b.length : Int)) = true := by simp [bne, hq]
    clear hl
    go_enter Try.func32, Try.ntmps32
    go_wp2
    go_ret
    exact ⟨ret_bs HR.out, Below.refl _ _⟩
noncomputable def sameB (a b : ResC) : Bool := decide (a.st = b.st) && decide (a.up = b.up) && (a.more == b.more) && eqS a.keys b.keys && eqB a.data b.data
theorem sameB_self (a : ResC) : sameB a a = true := by simp [sameB, eqS_self, eqB_self]
set_option maxRecDepth 100000 in
set_option maxHeartbeats 4000000 in
theorem same_any {w : World} {va vb : Value} {a b : ResC} {Fa Fb : Foot} (ha : ResR w va a Fa) (hb : ResR w vb b Fb) :
    Calls Try.prog 16 #[va, vb] w fun e w' => e = .returned (.bool (sameB a b)) ∧ Below w.heap.size w w' := by
  obtain ⟨ka, da, rfl, hka, _, hda, _, _⟩ := ha
  obtain ⟨kb, db, rfl, hkb, _, hdb, _, _⟩ := hb
  have HKA := Lib.hid hka
  have HKB := Lib.hid hkb
  have HDA := Lib.hid hda
  have HDB := Lib.hid hdb
  obtain ⟨A1, c1, rfl, _, _, _⟩ := Rd.form hka
  obtain ⟨A2, c2, rfl, _, _, _⟩ := Rd.form hkb
  obtain ⟨A3, c3, rfl, _, _, _⟩ := Rd.form hda
  obtain ⟨A4, c4, rfl, _, _, _⟩ := Rd.form hdb
  clear hka hkb hda hdb
  obtain ⟨s, u, ks, m, ds⟩ := a
  obtain ⟨s', u', ks', m', ds'⟩ := b
  have hb2 : ∀ x y : Obj, Below w.heap.size w ((w.alloc x).alloc y) := fun x y => (((Below.refl _ _).alloc (Nat.le_refl _) _).alloc (by simp) _)
  have HB2 := Lib.hid hb2; clear hb2
  by_cases e1 : s = s'
  · subst e1
    have q1 : ((s : Int) == s) = true := by simp
    by_cases e2 : u = u'
    · subst e2
      have q2 : ((u : Int) == u) = true := by simp
      by_cases e3 : m = m'
      · subst e3
        have q3 : (m == m) = true := by simp
        have hS := equalS_any (w := ((w.alloc (.cells #[.int .i64 s, .int .u64 u, .slice A1 ks.length c1, .bool m, .slice A3 ds.length c3] 41)).alloc (.cells #[.int .i64 s, .int .u64 u, .slice A2 ks'.length c2, .bool m, .slice A4 ds'.length c4] 41))) (Rd.below HKA.out (HB2.out _ _)) (Rd.below HKB.out (HB2.out _ _))
        cases e4 : eqS ks ks' with
        | false =>
          rw [e4] at hS
          have HS := Lib.hid hS; clear hS
          have HR : Hid (sameB ⟨s, u, ks, m, ds⟩ ⟨s, u, ks', m, ds'⟩ = false) := by show _ = _; simp [sameB, e4]
          clear e4
          go_enter Try.func16, Try.ntmps16
          go_wp2_with (first | (go_at_call 31; refine HS.out.mono ?_; rintro e w1 ⟨rfl, hb1⟩; have HB1 := Lib.hid hb1; clear hb1) | fail)
          go_ret
          exact ⟨ret_bs HR.out, (HB2.out _ _).trans (HB1.out.mono (by simp; omega))⟩
        | true =>
          rw [e4] at hS
          have HS := Lib.hid hS; clear hS
          have HR : Hid (sameB ⟨s, u, ks, m, ds⟩ ⟨s, u, ks', m, ds'⟩ = eqB ds ds') := by show _ = _; simp [sameB, e4]
          clear e4
          go_enter Try.func16, Try.ntmps16
          go_wp2_with (first
            | (go_at_call 31; refine HS.out.mono ?_; rintro e w1 ⟨rfl, hb1⟩; obtain ⟨hc, hf⟩ := bcell hb1; have HB1 := Lib.hid ((HB2.out _ _).trans (hb1.mono (by simp; omega))); have hz : w.heap.size + 1 < w1.heap.size := (by have := hb1.size; simp at this; omega); clear hb1)
            | (go_at_call 32; refine (equalB_any (Rd.below HDA.out HB1.out) (Rd.below HDB.out HB1.out)).mono ?_; rintro e w2 ⟨rfl, hb2⟩; have HB3 := Lib.hid hb2; clear hb2)
            | fail)
          go_ret
          exact ⟨ret_bs HR.out, HB1.out.trans (HB3.out.mono HB1.out.size)⟩
      · have q3 : (m == m') = false := by simp [e3]
        have HR : Hid (sameB ⟨s, u, ks, m, ds⟩ ⟨s, u, ks', m', ds'⟩ = false) := by show _ = _; simp [sameB, q3]
        clear e3
        go_enter Try.func16, Try.ntmps16
        go_wp2
        go_ret
        exact ⟨ret_bs HR.out, HB2.out _ _⟩
    · have q2 : ((u : Int) == u') = false := by rw [beq_eq_false_iff_ne]; exact e2
      have HR : Hid (sameB ⟨s, u, ks, m, ds⟩ ⟨s, u', ks', m', ds'⟩ = false) := by show _ = _; simp [sameB, e2]
      clear e2
      go_enter Try.func16, Try.ntmps16
      go_wp2
      go_ret
      exact ⟨ret_bs HR.out, HB2.out _ _⟩
  · have q1 : ((s : Int) == s') = false := by rw [beq_eq_false_iff_ne]; exact e1
    have HR : Hid (sameB ⟨s, u, ks, m, ds⟩ ⟨s', u', ks', m', ds'⟩ = false) := by show _ = _; simp [sameB, e1]
    clear e1
    go_enter Try.func16, Try.ntmps16
    go_wp2
    go_ret
    exact ⟨ret_bs HR.out, HB2.out _ _⟩
end Go.Proofs.Ytkbmecjpjphngaa
