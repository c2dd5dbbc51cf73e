/-
  Frames: the program's.
-/
import Derived.Test.YtoliikpbhmfjnaaProg
import Derived.Test.YtoliikpbhmfjnaaGKit
import Derived.Test.YtoliikpbhmfjnaaGKit2
import Derived.Test.YtoliikpbhmfjnaaCodecPlain
import Derived.Test.YtoliikpbhmfjnaaCodecLaws
import Derived.Test.YtoliikpbhmfjnaaCodecSmall
import Derived.Test.YtoliikpbhmfjnaaCodecNum
import Derived.Test.YtoliikpbhmfjnaaCodecSize
import Derived.Test.YtoliikpbhmfjnaaCodecFrame
set_option linter.unusedVariables false
set_option linter.unusedSimpArgs false
namespace Go.Proofs.Ytoliikpbhmfjnaa
open Go.RowKit Codec

set_option maxRecDepth 100000 in
set_option maxHeartbeats 600000 in
theorem framesW_any (v : Value) (l : List (List UInt8)) (w : World) (h : RdLL w v l) (hx : tot l ≤ 1000000000000) (hn : l.length ≤ 10000000000) :
    Calls Try.prog 23 #[v] w fun e w' => NewB 5 w (framesOf l) e w' := by
  rcases Nat.eq_zero_or_pos l.length with h0 | h0
  · obtain ⟨A, cap, rfl, _⟩ := h.form
    obtain rfl : l = [] := List.eq_nil_of_length_eq_zero h0
    go_enter Try.func23, Try.ntmps23
    go_wp2
    refine wp_loop_rounds 1 ?_
    rw [rounds_succ]
    go_wp2
    go_ret
    exact ⟨_, rfl, OwnB.nil _ _, Below.refl _ _⟩
  · obtain ⟨g, off, cap, rfl, _, _, _, hc⟩ := h.full h0
    go_enter Try.func23, Try.ntmps23
    go_wp2
    go_loopw [3, 8] (fun b i wr => ∃ k : Nat, k ≤ l.length ∧ i = .int .i64 k ∧ OwnB 5 wr w.heap.size b (framesOf (l.take k)) ∧ Below w.heap.size w wr) (fun _ i _ => l.length - (intOf i).toNat)
    case atStart => exact ⟨0, by omega, rfl, OwnB.nil _ _, Below.refl _ _⟩
    case round =>
      obtain ⟨k, hk, rfl, ho, hb⟩ := hrel
      have hB' := hb.size
      have ho' : wr.ownsRow w.heap.size 5 1 u3 (framesOf (l.take k)).length (bvs (framesOf (l.take k))) := ho
      have HO := Lib.hid ho'; clear ho ho'
      by_cases hlt : k < l.length
      · obtain ⟨u, hcell, hu⟩ := (hc.below hb).at_ k hlt
        have h1 := framesOf_len_le l hx k hk
        have h4 := tot_le l (k + 1)
        have h5 := tot_succ l k hlt
        have h2 := framesOf_succ l k hlt
        have h6 : l[k].length ≤ 1000000000000 := by omega
        have h7 : (framesOf (l.take k)).length ≤ 1200000000000 := by omega
        clear h1 h4 h5
        generalize l[k] = xs at *
        have h8 : (frameOf xs).length ≤ 1000000000020 := by
          have := enc_len xs.length (by omega)
          rw [frameOf_len]; omega
        have HC := Lib.hid (frameW_any _ _ _ hu h6)
        obtain ⟨A, cap', rfl, _⟩ := Rd.form hu
        have hlt' : (k : Int) < (l.length : Int) := by omega
        clear hu
        generalize framesOf (l.take k) = n0 at *
        generalize frameOf xs = fx at *
        have H2 := Lib.hid h2; clear h2
        go_wp2_with fail
        refine HC.out.mono ?_
        rintro e w3 ⟨v3, rfl, ho3, hb3⟩
        have HO3 := Lib.hid (own_below HO.out hb3)
        have HU := Lib.hid ho3.rd
        have hb4 := below_then hb hB' hb3
        have hz4 := hb4.size
        obtain ⟨A3, cap3, rfl, _⟩ := Rd.form HU.out
        clear HC HO ho3 hb3 hb hcell
        go_wp2_with (at_builtin; refine wpList_app w.heap.size tB HO3.out (rd_src Try.underlying28 HU.out (by omega) (bvs_one _)) hz4 (by unfold maxLen; omega) (by omega) rfl rfl rfl rfl ?_)
        intro v' w' ho2 hg2
        have hb5 : Below w.heap.size w w' := below_grown hb4 HO3.out hg2 hz4
        have ho5 := OwnB.of (xs := n0 ++ fx) ho2 (by rw [bvs_append])
        clear ho2 hg2 HO3 HU hb4
        go_wp2
        go_roundw
        case rel => exact ⟨k + 1, by omega, by go_num, by rw [H2.out]; exact ho5, hb5⟩
        case measure => simp [intOf]; omega
      · have hk' : k = l.length := by omega
        have hd := framesOf_all hk'
        generalize framesOf (l.take k) = n0 at *
        have HD := Lib.hid hd; clear hd hk'
        go_wp2
        go_ret
        rw [← HD.out]
        exact ⟨_, rfl, HO.out, hb⟩
end Go.Proofs.Ytoliikpbhmfjnaa
