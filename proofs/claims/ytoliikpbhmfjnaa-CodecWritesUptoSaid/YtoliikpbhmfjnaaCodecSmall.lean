/-
  Small functions: the bytes of a sum, equality of bytes, a copy.
-/
import Derived.Test.YtoliikpbhmfjnaaProg
import Derived.Test.YtoliikpbhmfjnaaGKit
import Derived.Test.YtoliikpbhmfjnaaCodecPlain
import Derived.Test.YtoliikpbhmfjnaaCodecNum
set_option linter.unusedVariables false
set_option linter.unusedSimpArgs false
namespace Go.Proofs.Ytoliikpbhmfjnaa
open Go.RowKit Codec

set_option maxRecDepth 100000 in
set_option maxHeartbeats 400000 in
theorem low_any (base : Nat) (b : Value) (v n : Nat) (xs : List UInt8) (w : World) (h : OwnB 5 w base b xs) (hB : base ≤ w.heap.size) (hx : xs.length ≤ 1000000000000) (hn : n ≤ 8) :
    Calls Try.prog 37 #[b, .int .u64 v, .int .i64 n] w fun e w' => OnB 5 base w (xs ++ lowN n v) e w' := by
  have HOw := Lib.hid h; clear h
  go_enter Try.func37, Try.ntmps37
  go_wp2
  go_loopw [0, 1, 8] (fun b u i wr => ∃ k : Nat, k ≤ n ∧ i = .int .i64 k ∧ u = .int .u64 (v / 256 ^ k : Nat) ∧ OwnB 5 wr base b (xs ++ lowN k v) ∧ Below base w wr ∧ base ≤ wr.heap.size) (fun _ _ i _ => n - (intOf i).toNat)
  case atStart => exact ⟨0, by omega, rfl, u64v (by simp), by rw [show lowN 0 v = [] from rfl, List.append_nil]; exact HOw.out, Below.refl _ _, hB⟩
  case round =>
    obtain ⟨k, hk, rfl, rfl, ho, hb, hB'⟩ := hrel
    clear HOw
    have ho' : wr.ownsRow base 5 1 u0 (xs ++ lowN k v).length (bvs (xs ++ lowN k v)) := ho
    have HO := Lib.hid ho'; clear ho ho'
    have hl : (xs ++ lowN k v).length ≤ 1000000000010 := by rw [List.length_append, lowN_len]; omega
    have hs := low_step v k
    have hy : xs ++ lowN (k + 1) v = (xs ++ lowN k v) ++ [UInt8.ofNat (v / 256 ^ k)] := by rw [List.append_assoc]; rfl
    generalize v / 256 ^ k = q at *
    have HY := Lib.hid hy; clear hy
    have HS := Lib.hid hs; clear hs
    generalize hZ : xs ++ lowN k v = Z at *
    have HZ := Lib.hid hZ; clear hZ
    by_cases hlt : k < n
    · go_wp2_with (at_builtin; refine wpList_app base tB (HO.out.alloc _) (src_new Try.underlying28 [_] 5 (one_one _ _) 1 rfl) (by simp; omega) (by unfold maxLen; omega) (by omega) rfl rfl rfl rfl ?_)
      intro v' w' ho2 hg2
      have hb2 : Below base w w' := (hb.alloc hB' _).grown hg2 (by simp; omega) (fun q hq => (HO.out.lt q hq).1)
      have hB2 : base ≤ w'.heap.size := Nat.le_trans hB (hb2.size)
      have ho3 := OwnB.of (xs := Z ++ [UInt8.ofNat q]) ho2 (by rw [byte_of, bvs_snoc])
      clear ho2 hg2 HO hb
      go_wp2
      go_roundw
      case rel => exact ⟨k + 1, by omega, by go_num, u64v (by rw [← HS.out]; omega), by rw [HY.out]; exact ho3, hb2, hB2⟩
      case measure => simp [intOf]; omega
    · have hk' : k = n := by omega
      have hz : xs ++ lowN n v = Z := by rw [← hk']; exact HZ.out
      have HZ' := Lib.hid hz; clear hz hk'
      go_wp2
      go_ret
      exact ⟨_, rfl, by rw [HZ'.out]; exact HO.out, hb⟩

set_option maxRecDepth 100000 in
set_option maxHeartbeats 400000 in
theorem four_any (base : Nat) (b : Value) (v : Nat) (xs : List UInt8) (w : World) (h : OwnB 5 w base b xs) (hB : base ≤ w.heap.size) (hx : xs.length ≤ 2000000000000) :
    Calls Try.prog 36 #[b, .int .u32 v] w fun e w' => OnB 5 base w (xs ++ lowN 4 v) e w' := by
  have ho' : w.ownsRow base 5 1 b xs.length (bvs xs) := h
  have HO := Lib.hid ho'; clear h ho'
  go_enter Try.func36, Try.ntmps36
  go_wp2_with (at_builtin; refine wpList_app base tB (HO.out.alloc _) (src_new Try.underlying28 [_, _, _, _] 5 (four_one _ _ _ _ _) 4 rfl) (by simp; omega) (by unfold maxLen; omega) (by omega) rfl rfl rfl rfl ?_)
  intro v' w' ho2 hg2
  have hb2 : Below base w w' := ((Below.refl _ _).alloc hB _).grown hg2 (by simp; omega) (fun q hq => (HO.out.lt q hq).1)
  have ho3 := OwnB.of (xs := xs ++ lowN 4 v) ho2 (four_bytes xs v)
  clear ho2 hg2 HO
  go_wp2
  go_ret
  exact ⟨_, rfl, ho3, hb2⟩

set_option maxHeartbeats 400000 in
theorem same_any (a b : Value) (xs ys : List UInt8) (w : World) (ha : RdB w a xs) (hb : RdB w b ys) :
    Calls Try.prog 17 #[a, b] w fun e w' => e = .returned (.bool (decide (xs = ys))) ∧ w = w' := by
  have h1 := conv_str ha Try.underlying28 Try.underlying5 Try.underlying9
  have h2 := conv_str hb Try.underlying28 Try.underlying5 Try.underlying9
  have HE := Lib.hid (str_eq xs ys)
  obtain ⟨A, cap, rfl, _⟩ := Rd.form ha
  obtain ⟨A', cap', rfl, _⟩ := Rd.form hb
  clear ha hb
  generalize str xs = s1 at *
  generalize str ys = s2 at *
  go_enter Try.func17, Try.ntmps17
  go_wp2
  go_ret
  exact ⟨by rw [← HE.out]; rfl, rfl⟩

set_option maxRecDepth 100000 in
set_option maxHeartbeats 400000 in
theorem clone_any (v : Value) (xs : List UInt8) (w : World) (h : RdB w v xs) (hx : xs.length ≤ 2000000000000) :
    Calls Try.prog 39 #[v] w fun e w' => NewB 5 w xs e w' := by
  have h' := h
  obtain ⟨A, cap, rfl, hnc, hcm, hA⟩ := Rd.form h
  clear h
  have HH := Lib.hid h'; clear h'
  cases A with
  | none =>
    have hz : xs.length = 0 := by have := hA rfl; omega
    obtain rfl : xs = [] := List.eq_nil_of_length_eq_zero hz
    clear hA hz
    have kn := Lib.run_eql_slice_nil (P := Try.prog) w 28 5 none 0 cap 0 0 Try.underlying28
    go_enter Try.func39, Try.ntmps39
    go_wp2
    go_ret
    exact ⟨_, rfl, OwnB.nil _ _, Below.refl _ _⟩
  | some a =>
    clear hA
    have hown := World.ownsRow_made (base := w.heap.size) (e := 5) (size := 1) w #[] 0 (Nat.le_refl _) (by simp [maxLen]) rfl
    have HW := Lib.hid hown; clear hown
    have kn := Lib.run_eql_slice_nil (P := Try.prog) w 28 5 (some a) xs.length cap 0 0 Try.underlying28
    go_enter Try.func39, Try.ntmps39
    go_wp2_with (at_builtin; refine wpList_app w.heap.size tB HW.out (rd_src Try.underlying28 (Rd.below HH.out ((Below.refl _ _).alloc (Nat.le_refl _) _)) (by omega) (bvs_one _)) (by simp) (by unfold maxLen; omega) (by omega) rfl rfl rfl rfl ?_)
    intro v' w' ho2 hg2
    have hb2 : Below w.heap.size w w' := below_grown ((Below.refl _ _).alloc (Nat.le_refl _) _) HW.out hg2 (by simp)
    have ho3 := OwnB.of (xs := xs) ho2 rfl
    clear ho2 hg2 HW HH
    go_wp2
    go_ret
    exact ⟨_, rfl, ho3, hb2⟩

theorem take_eq_succ {xs ys : List UInt8} {k : Nat} (h : xs.take k = ys.take k) (hx : k < xs.length) (hy : k < ys.length) (he : xs[k] = ys[k]) : xs.take (k + 1) = ys.take (k + 1) := by
  rw [List.take_succ_eq_append_getElem hx, List.take_succ_eq_append_getElem hy, h, he]
theorem ne_of_get {xs ys : List UInt8} {k : Nat} (hx : k < xs.length) (hy : k < ys.length) (he : xs[k] ≠ ys[k]) : xs ≠ ys := by
  rintro rfl
  exact he rfl

set_option maxRecDepth 100000 in
set_option maxHeartbeats 800000 in
theorem equal_any (a b : Value) (xs ys : List UInt8) (w : World) (ha : RdB w a xs) (hb : RdB w b ys) :
    Calls Try.prog 41 #[a, b] w fun e w' => e = .returned (.bool (decide (xs = ys))) ∧ ∃ n, w' = w.drewN n := by
  have hm := Rd.le ha
  unfold maxLen at hm
  by_cases hl : xs.length = ys.length
  · rcases Nat.eq_zero_or_pos xs.length with h0 | h0
    · obtain ⟨A, cap, rfl, _⟩ := Rd.form ha
      obtain ⟨A', cap', rfl, _⟩ := Rd.form hb
      obtain rfl : xs = [] := List.eq_nil_of_length_eq_zero h0
      obtain rfl : ys = [] := List.eq_nil_of_length_eq_zero (by rw [← hl]; rfl)
      clear ha hb hl
      go_enter Try.func41, Try.ntmps41
      go_wp2
      refine wp_loop_rounds 1 ?_
      rw [rounds_succ]
      go_wp2
      go_ret
      exact ⟨rfl, 0, rfl⟩
    · obtain ⟨g, off, cap, rfl, _, _, _, hc⟩ := Rd.full ha h0 (by omega)
      obtain ⟨g', off', cap', rfl, _, _, _, hc'⟩ := Rd.full hb (by omega) (by omega)
      have HL := Lib.hid hl
      have hl1 : xs.length ≤ ys.length := by omega
      have hl2 : ys.length ≤ xs.length := by omega
      have ht : ((xs.length : Int) != (ys.length : Int)) = false := by rw [hl]; simp
      clear hl
      go_enter Try.func41, Try.ntmps41
      go_wp2
      go_loopw [13] (fun i wr => ∃ k : Nat, k ≤ xs.length ∧ i = .int .i64 k ∧ Hid (xs.take k = ys.take k) ∧ ∃ n, wr = w.drewN n) (fun i _ => xs.length - (intOf i).toNat)
      case atStart => exact ⟨0, by omega, rfl, rfl, 0, rfl⟩
      case round =>
        obtain ⟨k, hk, rfl, ht, nd, rfl⟩ := hrel
        by_cases hlt : k < xs.length
        · have hlt2 : k < ys.length := by omega
          have hc1 := hc.byte k hlt
          have hc2 := hc'.byte k hlt2
          have hlt' : (k : Int) < (xs.length : Int) := by omega
          have hlt2' : (k : Int) < (ys.length : Int) := by omega
          have hk0 : 0 ≤ (k : Int) := by omega
          by_cases he : xs[k] = ys[k]
          · have hT := Lib.hid (take_eq_succ ht.out hlt hlt2 he)
            have ht2 : (((xs[k].toNat : Nat) : Int) != ((ys[k].toNat : Nat) : Int)) = false := by rw [he]; simp
            generalize xs[k] = x1 at *
            generalize ys[k] = y1 at *
            clear he
            go_wp2
            go_quiet (fail)
            go_wp2
            go_roundw
            case rel => exact ⟨k + 1, by omega, by go_num, hT.out, _, rfl⟩
            case measure => simp [intOf]; omega
          · have hT := Lib.hid (ne_of_get hlt hlt2 he)
            have ht2 : (((xs[k].toNat : Nat) : Int) != ((ys[k].toNat : Nat) : Int)) = true := by
              rw [bne_iff_ne]
              exact fun h => he (UInt8.toNat_inj.1 (by omega))
            generalize xs[k] = x1 at *
            generalize ys[k] = y1 at *
            clear he
            go_wp2
            go_quiet (fail)
            go_wp2
            go_ret
            exact ⟨congrArg (fun b => Ending.returned (.bool b)) (decide_eq_false hT.out).symm, _, World.drewN_drewN ..⟩
        · have hT : Hid (xs = ys) := by
            have h1 : k = xs.length := by omega
            have h2 : k = ys.length := by omega
            have h3 := ht.out
            rw [h1, List.take_length, ← h1, h2, List.take_length] at h3
            exact h3
          clear ht
          go_wp2
          go_ret
          exact ⟨congrArg (fun b => Ending.returned (.bool b)) (decide_eq_true hT.out).symm, _, rfl⟩
  · obtain ⟨A, cap, rfl, _⟩ := Rd.form ha
    obtain ⟨A', cap', rfl, _⟩ := Rd.form hb
    have hT := Lib.hid (show xs ≠ ys from fun h => hl (by rw [h]))
    have ht : ((xs.length : Int) != (ys.length : Int)) = true := by rw [bne_iff_ne]; omega
    clear ha hb hl
    go_enter Try.func41, Try.ntmps41
    go_wp2
    go_ret
    exact ⟨congrArg (fun b => Ending.returned (.bool b)) (decide_eq_false hT.out).symm, 0, rfl⟩

theorem or_four (a b c d : UInt8) : bits .or .u32 (bits .or .u32 (bits .or .u32 (a.toNat : Int) ((b.toNat : Int) * 256)) ((c.toNat : Int) * 65536)) ((d.toNat : Int) * 16777216) = (four a b c d : Int) := by
  have ha := a.toNat_lt
  have hb := b.toNat_lt
  have hc := c.toNat_lt
  have hd := d.toNat_lt
  have e1 : bits .or .u32 (a.toNat : Int) ((b.toNat : Int) * 256) = ((a.toNat + b.toNat * 256 : Nat) : Int) := by
    rw [show ((b.toNat : Int) * 256) = ((b.toNat * 256 : Nat) : Int) by omega, u32_or_nat _ _ (by omega) (by omega), Nat.or_comm, nat_join 8 _ _ (by omega) (by omega), Nat.add_comm]
  have e2 : bits .or .u32 ((a.toNat + b.toNat * 256 : Nat) : Int) ((c.toNat : Int) * 65536) = ((a.toNat + b.toNat * 256 + c.toNat * 65536 : Nat) : Int) := by
    rw [show ((c.toNat : Int) * 65536) = ((c.toNat * 65536 : Nat) : Int) by omega, u32_or_nat _ _ (by omega) (by omega), Nat.or_comm, nat_join 16 _ _ (by omega) (by omega), Nat.add_comm]
  have e3 : bits .or .u32 ((a.toNat + b.toNat * 256 + c.toNat * 65536 : Nat) : Int) ((d.toNat : Int) * 16777216) = ((a.toNat + b.toNat * 256 + c.toNat * 65536 + d.toNat * 16777216 : Nat) : Int) := by
    rw [show ((d.toNat : Int) * 16777216) = ((d.toNat * 16777216 : Nat) : Int) by omega, u32_or_nat _ _ (by omega) (by omega), Nat.or_comm, nat_join 24 _ _ (by omega) (by omega), Nat.add_comm]
  rw [e1, e2, e3]
  rfl

set_option maxRecDepth 100000 in
set_option maxHeartbeats 800000 in
theorem readFour_any (v : Value) (xs : List UInt8) (w : World) (h : RdB w v xs) (h4 : 4 ≤ xs.length) :
    Calls Try.prog 40 #[v] w fun e w' => e = .returned (.int .u32 (four xs[0] xs[1] xs[2] xs[3])) ∧ ∃ n, w' = w.drewN n := by
  obtain ⟨g, off, cap, rfl, _, _, _, hc⟩ := Rd.full h (by omega) (by omega)
  have hm := Rd.le h
  unfold maxLen at hm
  have c0 : w.cell? ⟨g, off, none⟩ = some (bv xs[0]) := hc.byte 0 (by omega)
  have l0 : (0 : Int) < (xs.length : Int) := by omega
  have l1 : (1 : Int) < (xs.length : Int) := by omega
  have l2 : (2 : Int) < (xs.length : Int) := by omega
  have l3 : (3 : Int) < (xs.length : Int) := by omega
  have c1 := hc.byte 1 (by omega)
  have c2 := hc.byte 2 (by omega)
  have c3 := hc.byte 3 (by omega)
  generalize xs[0] = x0 at *
  generalize xs[1] = x1 at *
  generalize xs[2] = x2 at *
  generalize xs[3] = x3 at *
  have b0 := x0.toNat_lt
  have b1 := x1.toNat_lt
  have b2 := x2.toNat_lt
  have b3 := x3.toNat_lt
  go_enter Try.func40, Try.ntmps40
  go_wp2
  go_quiet (fail)
  go_wp2
  go_ret
  exact ⟨congrArg _ (u32v (or_four x0 x1 x2 x3)), _, rfl⟩
end Go.Proofs.Ytoliikpbhmfjnaa
