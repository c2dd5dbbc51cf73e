/-
  Parts: how many bytes they have, all of them behind one another, bytes with their number ahead.
-/
import Derived.Test.YtoliikpbhmfjnaaProg
import Derived.Test.YtoliikpbhmfjnaaGKit
import Derived.Test.YtoliikpbhmfjnaaCodecPlain
import Derived.Test.YtoliikpbhmfjnaaCodecNum
set_option linter.unusedVariables false
set_option linter.unusedSimpArgs false
namespace Go.Proofs.Ytoliikpbhmfjnaa
open Go.RowKit Codec

set_option maxHeartbeats 400000 in
theorem size_any (v : Value) (l : List (List UInt8)) (w : World) (h : RdLL w v l) (hx : tot l ≤ 1000000000000) :
    Calls Try.prog 35 #[v] w fun e w' => e = .returned (.int .i64 (tot l : Nat)) ∧ w = w' := by
  have hm := h.le
  unfold maxLen at hm
  rcases Nat.eq_zero_or_pos l.length with h0 | h0
  · obtain ⟨A, cap, rfl, _⟩ := h.form
    obtain rfl : l = [] := List.eq_nil_of_length_eq_zero h0
    go_enter Try.func35, Try.ntmps35
    go_wp2
    refine wp_loop_rounds 1 ?_
    rw [rounds_succ]
    go_wp2
    go_ret
    exact ⟨rfl, rfl⟩
  · obtain ⟨g, off, cap, rfl, _, _, _, hc⟩ := h.full h0
    go_enter Try.func35, Try.ntmps35
    go_wp2
    go_loop [3, 8] (fun n i => ∃ k : Nat, k ≤ l.length ∧ i = .int .i64 k ∧ n = .int .i64 (tot (l.take k) : Nat)) (fun _ i => l.length - (intOf i).toNat)
    case atStart => exact ⟨0, by omega, rfl, rfl⟩
    case round =>
      obtain ⟨k, hk, rfl, rfl⟩ := hrel
      by_cases hlt : k < l.length
      · obtain ⟨u, hcell, hu⟩ := hc.at_ k hlt
        have h1 := tot_le l (k + 1)
        have h2 := tot_succ l k hlt
        generalize l[k] = xs at *
        obtain ⟨A, cap', rfl, _⟩ := Rd.form hu
        have hlt' : (k : Int) < (l.length : Int) := by omega
        rw [h2] at h1
        generalize tot (l.take k) = n0 at *
        have h3 : n0 + xs.length ≤ 1000000000000 := by omega
        have H2 := Lib.hid h2; clear h2
        go_wp2
        go_round
        case rel => exact ⟨k + 1, by omega, by go_num, i64v (by rw [H2.out]; omega)⟩
        case measure => simp [intOf]; omega
      · have hk' : k = l.length := by omega
        have hd := tot_all hk'
        generalize tot (l.take k) = n0 at *
        have HD := Lib.hid hd; clear hd hk'
        go_wp2
        go_ret
        exact ⟨by rw [← HD.out]; rfl, rfl⟩

set_option maxHeartbeats 400000 in
theorem total_any (v : Value) (l : List (List UInt8)) (w : World) (h : RdLL w v l) (hx : tot l ≤ 1000000000000) :
    Calls Try.prog 12 #[v] w fun e w' => e = .returned (.int .i64 (tot l : Nat)) ∧ w = w' := by
  have hm := h.le
  unfold maxLen at hm
  rcases Nat.eq_zero_or_pos l.length with h0 | h0
  · obtain ⟨A, cap, rfl, _⟩ := h.form
    obtain rfl : l = [] := List.eq_nil_of_length_eq_zero h0
    go_enter Try.func12, Try.ntmps12
    go_wp2
    refine wp_loop_rounds 1 ?_
    rw [rounds_succ]
    go_wp2
    go_ret
    exact ⟨rfl, rfl⟩
  · obtain ⟨g, off, cap, rfl, _, _, _, hc⟩ := h.full h0
    go_enter Try.func12, Try.ntmps12
    go_wp2
    go_loop [3, 4] (fun n i => ∃ k : Nat, k ≤ l.length ∧ i = .int .i64 k ∧ n = .int .i64 (tot (l.take k) : Nat)) (fun _ i => l.length - (intOf i).toNat)
    case atStart => exact ⟨0, by omega, rfl, rfl⟩
    case round =>
      obtain ⟨k, hk, rfl, rfl⟩ := hrel
      by_cases hlt : k < l.length
      · obtain ⟨u, hcell, hu⟩ := hc.at_ k hlt
        have h1 := tot_le l (k + 1)
        have h2 := tot_succ l k hlt
        generalize l[k] = xs at *
        obtain ⟨A, cap', rfl, _⟩ := Rd.form hu
        have hlt' : (k : Int) < (l.length : Int) := by omega
        rw [h2] at h1
        generalize tot (l.take k) = n0 at *
        have h3 : n0 + xs.length ≤ 1000000000000 := by omega
        have H2 := Lib.hid h2; clear h2
        go_wp2
        go_round
        case rel => exact ⟨k + 1, by omega, by go_num, i64v (by rw [H2.out]; omega)⟩
        case measure => simp [intOf]; omega
      · have hk' : k = l.length := by omega
        have hd := tot_all hk'
        generalize tot (l.take k) = n0 at *
        have HD := Lib.hid hd; clear hd hk'
        go_wp2
        go_ret
        exact ⟨by rw [← HD.out]; rfl, rfl⟩

set_option maxRecDepth 100000 in
set_option maxHeartbeats 400000 in
theorem joined_any (v : Value) (l : List (List UInt8)) (w : World) (h : RdLL w v l) (hx : tot l ≤ 1000000000000) :
    Calls Try.prog 15 #[v] w fun e w' => NewB 5 w (cat l) e w' := by
  have hm := h.le
  unfold maxLen at hm
  rcases Nat.eq_zero_or_pos l.length with h0 | h0
  · obtain ⟨A, cap, rfl, _⟩ := h.form
    obtain rfl : l = [] := List.eq_nil_of_length_eq_zero h0
    go_enter Try.func15, Try.ntmps15
    go_wp2
    refine wp_loop_rounds 1 ?_
    rw [rounds_succ]
    go_wp2
    go_ret
    exact ⟨_, rfl, OwnB.nil _ _, Below.refl _ _⟩
  · obtain ⟨g, off, cap, rfl, _, _, _, hc⟩ := h.full h0
    go_enter Try.func15, Try.ntmps15
    go_wp2
    go_loopw [3, 4] (fun b i wr => ∃ k : Nat, k ≤ l.length ∧ i = .int .i64 k ∧ OwnB 5 wr w.heap.size b (cat (l.take k)) ∧ Below w.heap.size w wr) (fun _ i _ => l.length - (intOf i).toNat)
    case atStart => exact ⟨0, by omega, rfl, OwnB.nil _ _, Below.refl _ _⟩
    case round =>
      obtain ⟨k, hk, rfl, ho, hb⟩ := hrel
      have hB' := hb.size
      have ho' : wr.ownsRow w.heap.size 5 1 u3 (cat (l.take k)).length (bvs (cat (l.take k))) := ho
      have HO := Lib.hid ho'; clear ho ho'
      by_cases hlt : k < l.length
      · obtain ⟨u, hcell, hu⟩ := (hc.below hb).at_ k hlt
        have h1 := tot_le l (k + 1)
        have h2 := cat_succ l k hlt
        rw [tot_eq] at h1
        generalize l[k] = xs at *
        obtain ⟨A, cap', rfl, _⟩ := Rd.form hu
        have hlt' : (k : Int) < (l.length : Int) := by omega
        have HU := Lib.hid hu; clear hu
        rw [h2] at h1
        generalize cat (l.take k) = n0 at *
        have h3 : n0.length + xs.length ≤ 1000000000000 := by rw [List.length_append] at h1; omega
        have H2 := Lib.hid h2; clear h2
        go_wp2_with (at_builtin; refine wpList_app w.heap.size tB HO.out (rd_src Try.underlying28 HU.out (by omega) (bvs_one _)) hB' (by unfold maxLen; omega) (by omega) rfl rfl rfl rfl ?_)
        intro v' w' ho2 hg2
        have hb3 : Below w.heap.size w w' := below_grown hb HO.out hg2 hB'
        have ho3 := OwnB.of (xs := n0 ++ xs) ho2 (by rw [bvs_append])
        clear ho2 hg2 HO HU hcell hb
        go_wp2
        go_roundw
        case rel => exact ⟨k + 1, by omega, by go_num, by rw [H2.out]; exact ho3, hb3⟩
        case measure => simp [intOf]; omega
      · have hk' : k = l.length := by omega
        have hd := cat_all hk'
        generalize cat (l.take k) = n0 at *
        have HD := Lib.hid hd; clear hd hk'
        go_wp2
        go_ret
        exact ⟨_, rfl, by rw [← HD.out]; exact HO.out, hb⟩

set_option maxRecDepth 100000 in
set_option maxHeartbeats 400000 in
/-- Bytes: behind whatever bytes, in new memory. -/
theorem bytes_any (b v : Value) (xs : List UInt8) (l : List (List UInt8)) (w : World) (hb : RdB w b xs) (h : RdLL w v l) (hxs : xs.length ≤ 1000000000000) (hx : tot l ≤ 1000000000000) :
    Calls Try.prog 19 #[b, v] w fun e w' => NewB 5 w (xs ++ enc (tot l) ++ cat l) e w' := by
  have hm := h.le
  have hen := enc_len (tot l) (by omega)
  have hlen : (xs ++ enc (tot l)).length ≤ 1000000000010 := by rw [List.length_append]; omega
  unfold maxLen at hm
  rcases Nat.eq_zero_or_pos l.length with h0 | h0
  · have h' := h
    obtain ⟨A, cap, rfl, _⟩ := h.form
    obtain rfl : l = [] := List.eq_nil_of_length_eq_zero h0
    have HB := Lib.hid hb; clear hb
    have HH := Lib.hid h'; clear h h'
    go_enter Try.func19, Try.ntmps19
    go_wp2_with fail
    refine (size_any _ _ _ HH.out hx).mono ?_
    rintro e w' ⟨rfl, rfl⟩
    go_wp2_with fail
    refine (number_any _ 0 _ _ (by omega) HB.out hxs).mono ?_
    rintro e w' ⟨v', rfl, ho, hb1⟩
    go_wp2
    refine wp_loop_rounds 1 ?_
    rw [rounds_succ]
    go_wp2
    go_ret
    exact ⟨_, rfl, by rw [tot_nil, cat_nil, List.append_nil]; exact ho, hb1⟩
  · have h' := h
    obtain ⟨g, off, cap, rfl, _, _, _, hc⟩ := h.full h0
    have HB := Lib.hid hb; clear hb
    have HH := Lib.hid h'; clear h h'
    generalize hN : tot l = N at *
    have HN := Lib.hid hN; clear hN
    go_enter Try.func19, Try.ntmps19
    go_wp2_with fail
    refine (size_any _ _ _ HH.out (by rw [HN.out]; exact hx)).mono ?_
    rintro e w' ⟨rfl, rfl⟩
    rw [HN.out]
    go_wp2_with fail
    refine (number_any _ N _ _ (by omega) HB.out hxs).mono ?_
    rintro e w1 ⟨v', rfl, ho, hb1⟩
    have HO1 := Lib.hid ho; clear ho
    go_wp2
    go_loopw [0, 14] (fun b i wr => ∃ k : Nat, k ≤ l.length ∧ i = .int .i64 k ∧ OwnB 5 wr w.heap.size b (xs ++ enc N ++ cat (l.take k)) ∧ Below w.heap.size w wr) (fun _ i _ => l.length - (intOf i).toNat)
    case atStart => exact ⟨0, by omega, rfl, by rw [List.take_zero, cat_nil, List.append_nil]; exact HO1.out, hb1⟩
    case round =>
      obtain ⟨k, hk, rfl, ho, hb⟩ := hrel
      clear HO1 HB HH hb1
      have hB' := hb.size
      have ho' : wr.ownsRow w.heap.size 5 1 u0 (xs ++ enc N ++ cat (l.take k)).length (bvs (xs ++ enc N ++ cat (l.take k))) := ho
      have HO := Lib.hid ho'; clear ho ho'
      generalize hY : xs ++ enc N = Y at *
      by_cases hlt : k < l.length
      · obtain ⟨u, hcell, hu⟩ := (hc.below hb).at_ k hlt
        have h1 := tot_le l (k + 1)
        have h2 := cat_succ l k hlt
        rw [tot_eq] at h1
        generalize l[k] = zs at *
        obtain ⟨A, cap', rfl, _⟩ := Rd.form hu
        have hlt' : (k : Int) < (l.length : Int) := by omega
        have HU := Lib.hid hu; clear hu
        rw [h2] at h1
        generalize cat (l.take k) = n0 at *
        have h3 : (Y ++ n0).length + zs.length ≤ 3000000000000 := by have := HN.out; simp only [List.length_append] at h1 ⊢; omega
        have H2 := Lib.hid h2; clear h2
        have HY := Lib.hid hY; clear hY
        go_wp2_with (at_builtin; refine wpList_app w.heap.size tB HO.out (rd_src Try.underlying28 HU.out (by omega) (bvs_one _)) hB' (by unfold maxLen; omega) (by omega) rfl rfl rfl rfl ?_)
        intro v' w' ho2 hg2
        have hb3 : Below w.heap.size w w' := below_grown hb HO.out hg2 hB'
        have ho3 := OwnB.of (xs := (Y ++ n0) ++ zs) ho2 (by rw [bvs_append (Y ++ n0)])
        clear ho2 hg2 HO HU hcell hb
        go_wp2
        go_roundw
        case rel => exact ⟨k + 1, by omega, by go_num, by rw [H2.out, ← List.append_assoc]; exact ho3, hb3⟩
        case measure => simp [intOf]; omega
      · have hk' : k = l.length := by omega
        have hd := cat_all hk'
        generalize cat (l.take k) = n0 at *
        have HD := Lib.hid hd; clear hd hk'
        have HY := Lib.hid hY; clear hY
        go_wp2
        go_ret
        exact ⟨_, rfl, by rw [HY.out, ← HD.out]; exact HO.out, hb⟩

set_option maxRecDepth 100000 in
set_option maxHeartbeats 400000 in
theorem refBytes_any (base : Nat) (b v : Value) (xs ys : List UInt8) (w : World) (hb : OwnB 5 w base b xs) (h : RdB w v ys) (hB : base ≤ w.heap.size) (hvb : Rd.belowB v base) (hxs : xs.length ≤ 1000000000000) (hx : ys.length ≤ 1000000000000) :
    Calls Try.prog 20 #[b, v] w fun e w' => OnB 5 base w (xs ++ enc ys.length ++ ys) e w' := by
  have hen := enc_len ys.length (by omega)
  have h' := h
  obtain ⟨A, cap, rfl, _⟩ := Rd.form h
  have HB := Lib.hid hb; clear hb
  have HH := Lib.hid h'; clear h h'
  go_enter Try.func20, Try.ntmps20
  go_wp2_with fail
  refine (refNumber_any base _ ys.length _ _ (by omega) HB.out hB hxs).mono ?_
  rintro e w1 ⟨v', rfl, ho, hb1⟩
  have ho' : w1.ownsRow base 5 1 v' (xs ++ enc ys.length).length (bvs (xs ++ enc ys.length)) := ho
  have HO := Lib.hid ho'; clear ho ho'
  have hlen : (xs ++ enc ys.length).length ≤ 1000000000010 := by rw [List.length_append]; omega
  generalize hY : xs ++ enc ys.length = Y at *
  have HY := Lib.hid hY; clear hY
  have hB' : base ≤ w1.heap.size := Nat.le_trans hB hb1.size
  have HU : Hid (RdB w1 (.slice A ys.length cap) ys) := Rd.below_at HH.out hb1 hvb
  clear HH HB
  go_wp2_with (at_builtin; refine wpList_app base tB HO.out (rd_src Try.underlying28 HU.out (by omega) (bvs_one _)) hB' (by unfold maxLen; omega) (by omega) rfl rfl rfl rfl ?_)
  intro v2 w2 ho2 hg2
  have hb3 : Below base w w2 := below_grown hb1 HO.out hg2 hB'
  have ho3 := OwnB.of (xs := Y ++ ys) ho2 (by rw [bvs_append])
  clear ho2 hg2 HO HU hb1
  go_wp2
  go_ret
  exact ⟨_, rfl, by rw [HY.out]; exact ho3, hb3⟩
end Go.Proofs.Ytoliikpbhmfjnaa
