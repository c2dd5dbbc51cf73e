/-
  The checksum of any parts is that of all their bytes: for every list of parts whose reading is of bulk at most 1048576.
-/
import Derived.Test.YtoliikpbhmfjnaaRows
import Derived.Test.YtoliikpbhmfjnaaGKit
import Derived.Test.YtoliikpbhmfjnaaGKit2
import Derived.Test.YtoliikpbhmfjnaaCodecSum
import Derived.Test.YtoliikpbhmfjnaaCodecSum2
import Derived.Test.YtoliikpbhmfjnaaCodecSize
import Derived.Test.YtoliikpbhmfjnaaCodecKnown
import Derived.Test.YtoliikpbhmfjnaaCodecOpen
import Derived.ProofKit
import Derived.OpenShut
import Derived.Below
import Derived.JoinedCond
namespace Go.Proofs.Ytoliikpbhmfjnaa.codecSums
open Go.ChangeShapes Go.WideShapes Go.ChangeAt Go.RowKit Codec
set_option linter.unusedVariables false
set_option linter.unusedSimpArgs false

set_option maxRecDepth 100000 in
set_option maxHeartbeats 400000 in
theorem walk (v : Value) (l : List (List UInt8)) (w : World) (h : RdLL w v l) (hx : tot l ≤ 1000000000000) :
    Calls Try.prog 3 #[v] w fun e w' => e = .returned (.bool true) ∧ Below w.heap.size w w' := by
  have h' := h
  obtain ⟨A, cap, rfl, hlc, hcm, _⟩ := h.form
  have hcm' : cap ≤ 9223372036854775807 := by unfold maxLen at hcm; omega
  have HH := Lib.hid h'; clear h h'
  have hcs : sumOf l.flatten = sumOf (cat l) := rfl
  generalize hT : tot l = T at *
  have HT := Lib.hid hT; clear hT
  by_cases hbig : 65536 < T
  · go_enter Try.func3, Try.ntmps3
    go_wp2_with fail
    refine (known_any _).mono ?_
    rintro e w1 ⟨rfl, hb1⟩
    have HH1 := Lib.hid (HH.out.below hb1)
    go_wp2_with fail
    refine (total_any _ _ _ HH1.out (by rw [HT.out]; exact hx)).mono ?_
    rintro e w2 ⟨rfl, rfl⟩
    rw [HT.out]
    go_wp2
    go_ret
    exact ⟨rfl, hb1⟩
  · by_cases hlen : 1000 < l.length
    · go_enter Try.func3, Try.ntmps3
      go_wp2_with fail
      refine (known_any _).mono ?_
      rintro e w1 ⟨rfl, hb1⟩
      have HH1 := Lib.hid (HH.out.below hb1)
      go_wp2_with fail
      refine (total_any _ _ _ HH1.out (by rw [HT.out]; exact hx)).mono ?_
      rintro e w2 ⟨rfl, rfl⟩
      rw [HT.out]
      go_wp2
      go_ret
      exact ⟨rfl, hb1⟩
    · have hs := sumOf_lt (cat l)
      generalize hS : sumOf (cat l) = s at *
      have HS := Lib.hid hS; clear hS
      have HCS := Lib.hid hcs; clear hcs
      have ht : ((s : Int) == (s : Int)) = true := by simp
      go_enter Try.func3, Try.ntmps3
      go_wp2_with fail
      refine (known_any _).mono ?_
      rintro e w1 ⟨rfl, hb1⟩
      have hz1 := hb1.size
      have HH1 := Lib.hid (HH.out.below hb1)
      go_wp2_with fail
      refine (total_any _ _ _ HH1.out (by rw [HT.out]; exact hx)).mono ?_
      rintro e w2 ⟨rfl, rfl⟩
      rw [HT.out]
      go_wp2_with fail
      refine (sum_any _ _ _ HH1.out).mono ?_
      rintro e w2 ⟨rfl, hb2⟩
      rw [HCS.out]
      have hb3 := below_then hb1 hz1 hb2
      have HH2 := Lib.hid (HH1.out.below hb2)
      have hz2 := hb3.size
      clear hb1 hb2
      go_wp2_with fail
      refine (joined_any _ _ _ HH2.out (by rw [HT.out]; exact hx)).mono ?_
      rintro e w3 ⟨v3, rfl, ho3, hb4⟩
      have hb5 := below_then hb3 hz2 hb4
      have HO := Lib.hid ho3.rd
      clear ho3 hb3 hb4
      go_wp2_with fail
      refine (refSum_any _ _ _ HO.out).mono ?_
      rintro e w4 ⟨rfl, rfl⟩
      rw [HS.out]
      go_wp2
      go_ret
      exact ⟨by simp, hb5⟩

/-- What the bound gives. -/
theorem bound {H : Type} {d : DataW H} {gs : List (DataW H)} (hk : Rows.uptoSmall H ([d] ++ gs) = true) : Rows.uptoBulk d ≤ 1048576 := by
  have h : Rows.uptoBulkAll ([d] ++ gs) ≤ 1048576 := of_decide_eq_true hk
  simp only [List.cons_append, List.nil_append, Rows.uptoBulkAll] at h
  omega

theorem contract (H : Type) (enc : TypeId × Value → H) (W : World) (base : Nat) (args : Array Value) (ds gs : List (DataW H)) (before : List MemPlace)
    (hval0 : ∀ (j : Nat) t v, Try.f3.params[j]? = some t → args[j]? = some v → Value.okWide Try.prog W .any base t v)
    (hW : DataW.Whole enc Try.prog Try.f3.params.toList Rows.codecSumsSpec.vars false W args.toList ds gs before) (hk : Rows.uptoSmall H (ds ++ gs) = true) :
    Calls Try.prog 3 args W fun e W' => ∃ v, e = .returned v ∧ Rows.codecSumsSpec.post enc Try.prog Try.f3 false true false false W args v W' := by
  have hval : ∀ (j : Nat) t v, Try.f3.params[j]? = some t → args[j]? = some v → Value.okWide Try.prog W .any base t v := hval0
  have hW' := hW
  obtain ⟨p, q, hA0, hV, rfl, hfz, hnd⟩ := hW
  have hA : DataW.TrodAll enc Try.prog W 0 (fun _ => true) true Try.f3.params.toList args.toList ds p := hA0
  rw [Try.params3] at hA hval
  obtain ⟨v0, vs0, d0, ds0, p0, q0, hargs, rfl, rfl, h0, r0⟩ := trodAll_cons hA
  obtain ⟨rfl, rfl, rfl⟩ := trodAll_nil r0
  obtain rfl : args = #[v0] := by cases args; simp_all
  obtain ⟨rfl, rfl⟩ := trodVars_none hV
  obtain ⟨a0, len0, cap0, rfl⟩ := okWide_slice Try.underlying22 (hval 0 22 v0 rfl rfl)
  have k0 := h0
  have lt0 : ∀ x ∈ p0, x.block < W.heap.size := by obtain ⟨m, hm⟩ := k0; exact DataW.trod_lt m _ _ _ hm
  have hb := bound hk
  obtain ⟨l, hl, hr⟩ : ∃ l : List (List UInt8), tot l ≤ 1048576 ∧ RdLL W (.slice a0 len0 cap0) l := by
    obtain ⟨fuel, hf⟩ := h0
    obtain ⟨l, h1, h2, h3⟩ := open_ll (x := (d0, p0)) hf
    exact ⟨l, by simp only at h3; omega, h2⟩
  clear hA0 hval0
  refine (walk _ l W hr (by omega)).mono fun e W' ⟨he, bel⟩ => ?_
  subst he
  exact ⟨_, rfl, _, _, _, [], _, [], hW', trodAll_mk1 (shut_bool Try.underlying4 _), (trodAll_cons_mk (Below.trod laidOut (by kernel_rfl) (of_decide_eq_true (by kernel_rfl)) k0 bel lt0) trodAll_mk0), rfl, bel.frame _, fun h => by cases h⟩

set_option maxRecDepth 100000 in
theorem lifted (os : Os) (started : os.Started) (H : Type) (enc : TypeId × Value → H) (F : Stop.Interp) :
    ReturnsInHanded {} Try.checked os 3 .any ((Rows.OpenSpec.upto Rows.codecSumsSpec).pre6 enc Try.prog Try.f3 Rows.codecSumsUptoRow.domain false) (((Rows.OpenSpec.upto Rows.codecSumsSpec).at F).post enc Try.prog Try.f3 false true false false) := by
  refine returnsInHanded_of_cond (C := Try.checked) (s := Rows.OpenSpec.upto Rows.codecSumsSpec) (k := Rows.uptoSmall) rfl own started (by kernel_rfl) Try.func3
    (OpenSpec.witness (enc := enc) (C := Try.checked) (s := Rows.OpenSpec.upto Rows.codecSumsSpec) (k := Rows.uptoSmall) rfl false ⟨#[], #[.slice none 0 0], []⟩ 8 (by kernel_rfl) (by kernel_rfl) (by kernel_rfl)
      (x := ([.nil], [], [])) (by kernel_rfl) rfl (by kernel_rfl)) ?_
  intro W base args ds gs before hval hW _ hk _
  exact contract H enc W base args ds gs before hval hW hk

theorem proved : Rows.CodecSumsUptoSaid :=
  OpenClaim.holds_of_cond 3 Try.f3 rfl rfl rfl rfl rfl rfl rfl ⟨rfl, rfl, rfl, rfl, rfl⟩ rfl rfl rfl rfl rfl (by kernel_rfl) Try.func3 (by kernel_rfl)
    (of_decide_eq_true (by kernel_rfl)) (by unfold Func.isWrapper; first | (rw [if_pos (by decide +kernel)]; kernel_rfl) | (rw [if_neg (by decide +kernel)]; exact ⟨rfl, rfl⟩))
    (fun os started H enc _ F => lifted os started H enc F)
#print axioms proved
end Go.Proofs.Ytoliikpbhmfjnaa.codecSums
