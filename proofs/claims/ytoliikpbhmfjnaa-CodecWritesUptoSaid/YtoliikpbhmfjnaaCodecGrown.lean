/-
  The reference's Number and Bytes: what lies in another block than the first argument's is as it was.
-/
import Derived.Test.YtoliikpbhmfjnaaProg
import Derived.Test.YtoliikpbhmfjnaaGKit
import Derived.Test.YtoliikpbhmfjnaaGKit2
import Derived.Test.YtoliikpbhmfjnaaCodecPlain
import Derived.Test.YtoliikpbhmfjnaaCodecNum
import Derived.Test.YtoliikpbhmfjnaaCodecSize
set_option linter.unusedVariables false
set_option linter.unusedSimpArgs false
namespace Go.Proofs.Ytoliikpbhmfjnaa
open Go.RowKit Codec

/-- A row that is the old one, or a new one. -/
def rowOf (w : World) (row row' : Option Nat) : Prop := row' = row ∨ ∀ g, row' = some g → w.heap.size ≤ g
theorem grown_then {a b c : World} {row row' : Option Nat} (h : a.grownBy b row) (k : b.grownBy c row') (hr : rowOf a row row') : a.grownBy c row :=
  ⟨k.os.trans h.os, k.tape.trans h.tape, k.output.trans h.output, Nat.le_trans h.size k.size, fun i hi hne => (k.block i (Nat.lt_of_lt_of_le hi h.size) (by
    rcases hr with rfl | hr
    · exact hne
    · intro e
      have := hr i e.symm
      omega)).trans (h.block i hi hne)⟩
theorem rowOf_then {a b : World} {r0 r1 r2 : Option Nat} (hs : a.heap.size ≤ b.heap.size) (h : rowOf a r0 r1) (k : r2 = r1 ∨ ∀ g, r2 = some g → b.heap.size ≤ g) : rowOf a r0 r2 := by
  rcases k with rfl | k
  · exact h
  · exact .inr fun g e => Nat.le_trans hs (k g e)
theorem rowOf_alloc {a b : World} {r0 r1 r2 : Option Nat} {o : Obj} (hs : a.heap.size ≤ b.heap.size) (h : rowOf a r0 r1) (k : r2 = r1 ∨ ∀ g, r2 = some g → (b.alloc o).heap.size ≤ g) : rowOf a r0 r2 := by
  refine rowOf_then hs h (k.imp id fun k g e => ?_)
  have := k g e
  simp at this
  omega
/-- A call lays bytes behind a row of the caller's own; all but that row is as it was. -/
structure OnG (E : TypeId) (base : Nat) (w : World) (row : Option Nat) (ys : List UInt8) (e : Ending) (w' : World) : Prop where
  out : ∃ v, e = .returned v ∧ OwnB E w' base v ys ∧ w.grownBy w' row ∧ rowOf w row v.ownBlock

set_option maxRecDepth 100000 in
set_option maxHeartbeats 400000 in
theorem refNumber_grown (base : Nat) (b : Value) (v : Nat) (xs : List UInt8) (w : World) (hv : v < 18446744073709551616) (h : OwnB 5 w base b xs) (hB : base ≤ w.heap.size) (hx : xs.length ≤ 1000000000000) :
    Calls Try.prog 18 #[b, .int .u64 v] w fun e w' => OnG 5 base w b.ownBlock (xs ++ enc v) e w' := by
  generalize hrow : b.ownBlock = row at *
  go_enter Try.func18, Try.ntmps18
  go_wp2
  go_loopw [0, 1] (fun b u wr => ∃ (k : Nat) (pre : List UInt8), k < 18446744073709551616 ∧ u = .int .u64 k ∧ enc v = pre ++ enc k ∧ OwnB 5 wr base b (xs ++ pre) ∧ w.grownBy wr row ∧ base ≤ wr.heap.size ∧ rowOf w row b.ownBlock) (fun _ u _ => (intOf u).toNat)
  case atStart => exact ⟨v, [], hv, rfl, rfl, by simpa using h, ⟨rfl, rfl, rfl, Nat.le_refl _, fun _ _ _ => rfl⟩, hB, .inl hrow⟩
  case round =>
    obtain ⟨k, pre, hk, rfl, he, ho, hb, hB', hro⟩ := hrel
    have hlen := enc_len v hv
    rw [he, List.length_append] at hlen
    have hpl : (xs ++ pre).length ≤ 1000000000010 := by rw [List.length_append]; omega
    have HE := Lib.hid he; clear he
    have HK := Lib.hid hk; clear hk
    have HV := Lib.hid hv; clear hv
    have hs := hb.size
    have HG := Lib.hid hb; clear hb
    have HRO := Lib.hid hro; clear hro hrow
    have ha0 : ∀ o, w.grownBy (wr.alloc o) row := fun o => grown_then (row' := none) HG.out (World.grownBy_alloc wr o none) (.inr fun g e => by cases e)
    have HA0 := Lib.hid ha0; clear ha0
    by_cases hlt : 128 ≤ k
    · have ho' : wr.ownsRow base 5 1 u0 (xs ++ pre).length (bvs (xs ++ pre)) := ho
      clear ho
      go_wp2_with (at_builtin; refine wpList_app2 base tB (ho'.alloc _) (src_new Try.underlying28 [_] 5 (one_one _ _) 1 rfl) (by simp; omega) (by unfold maxLen; omega) (by omega) rfl rfl rfl rfl ?_)
      intro v' w' ha
      have hg2 := grown_then (HA0.out _) ha.grown HRO.out
      have hr2 := rowOf_alloc hs HRO.out ha.row
      have hB2 : base ≤ w'.heap.size := Nat.le_trans hB hg2.size
      have ho3 := OwnB.of (xs := (xs ++ pre) ++ [UInt8.ofNat (k % 128 + 128)]) ha.own (by rw [byte_or, bvs_snoc])
      clear ha ho'
      have HG2 := Lib.hid hg2; clear hg2
      have HR2 := Lib.hid hr2; clear hr2
      go_wp2
      go_roundw
      case rel => exact ⟨k / 128, pre ++ [UInt8.ofNat (k % 128 + 128)], by have := HK.out; omega, rfl, enc_step HE.out hlt, by rw [← List.append_assoc]; exact ho3, HG2.out, hB2, HR2.out⟩
      case measure => simp [intOf]; omega
    · have ho' : wr.ownsRow base 5 1 u0 (xs ++ pre).length (bvs (xs ++ pre)) := ho
      clear ho
      go_wp2_with (at_builtin; refine wpList_app2 base tB (ho'.alloc _) (src_new Try.underlying28 [_] 5 (one_one _ _) 1 rfl) (by simp; omega) (by unfold maxLen; omega) (by omega) rfl rfl rfl rfl ?_)
      intro v' w' ha
      have hg2 := grown_then (HA0.out _) ha.grown HRO.out
      have hr2 := rowOf_alloc hs HRO.out ha.row
      have ho3 := OwnB.of (xs := (xs ++ pre) ++ [UInt8.ofNat k]) ha.own (by rw [byte_small k (by omega), bvs_snoc])
      clear ha ho'
      have HG2 := Lib.hid hg2; clear hg2
      have HR2 := Lib.hid hr2; clear hr2
      go_wp2
      go_ret
      exact ⟨_, rfl, by rw [enc_last HE.out (by omega), ← List.append_assoc]; exact ho3, HG2.out, HR2.out⟩

set_option maxRecDepth 100000 in
set_option maxHeartbeats 400000 in
theorem refBytes_grown (base : Nat) (b v : Value) (xs ys : List UInt8) (w : World) (hb : OwnB 5 w base b xs) (h : RdB w v ys) (hB : base ≤ w.heap.size) (hvb : ∀ g, lies v g → b.ownBlock ≠ some g) (hxs : xs.length ≤ 1000000000000) (hx : ys.length ≤ 1000000000000) :
    Calls Try.prog 20 #[b, v] w fun e w' => OnG 5 base w b.ownBlock (xs ++ enc ys.length ++ ys) e w' := by
  have hen := enc_len ys.length (by omega)
  have h' := h
  have HSEP := Lib.hid hvb; clear hvb
  obtain ⟨A, cap, rfl, _⟩ := Rd.form h
  have HB := Lib.hid hb; clear hb
  have HH := Lib.hid h'; clear h h'
  go_enter Try.func20, Try.ntmps20
  go_wp2_with fail
  refine (refNumber_grown base _ ys.length _ _ (by omega) HB.out hB hxs).mono ?_
  rintro e w1 ⟨v', rfl, ho, hg1, hr1⟩
  have ho' : w1.ownsRow base 5 1 v' (xs ++ enc ys.length).length (bvs (xs ++ enc ys.length)) := ho
  have HO := Lib.hid ho'; clear ho ho'
  have hlen : (xs ++ enc ys.length).length ≤ 1000000000010 := by rw [List.length_append]; omega
  generalize hY : xs ++ enc ys.length = Y at *
  have HY := Lib.hid hY; clear hY
  have hs := hg1.size
  have hB' : base ≤ w1.heap.size := Nat.le_trans hB hs
  have HU : Hid (RdB w1 (.slice A ys.length cap) ys) := RdB.other HH.out hg1 HSEP.out
  have HG := Lib.hid hg1; clear hg1
  have HR := Lib.hid hr1; clear hr1
  clear HH HB
  go_wp2_with (at_builtin; refine wpList_app2 base tB HO.out (rd_src Try.underlying28 HU.out (by omega) (bvs_one _)) hB' (by unfold maxLen; omega) (by omega) rfl rfl rfl rfl ?_)
  intro v2 w2 ha
  have hg3 := grown_then HG.out ha.grown HR.out
  have hr3 := rowOf_then hs HR.out ha.row
  have ho3 := OwnB.of (xs := Y ++ ys) ha.own (by rw [bvs_append])
  have HG3 := Lib.hid hg3; clear hg3
  have HR3 := Lib.hid hr3; clear hr3
  clear ha HO HU HG HR
  go_wp2
  go_ret
  exact ⟨_, rfl, by rw [HY.out]; exact ho3, HG3.out, HR3.out⟩

/-- wpList_app at an operation whose guard holds. -/
theorem wpList_app_g {P : Program} {w : World} {ops : Array Oper} {rest : List Oper} {o : Oper} {a : Act} {Q : Exit → Act → World → Prop} (base : Nat) {t tx e size bytes : Nat} (hT : SliceT P t e size bytes)
    {s x : Operand} {v : Value} {n : Nat} {xs : List Value} (hd : w.ownsRow base e size v n xs) {y : Value} {m : Nat} {news : List Value} (hsrc : Src P size tx y m news w) (hbase : base ≤ w.heap.size) (h63 : n + m ≤ maxLen) (hbytes : (n + m) * bytes ≤ 140737488355328)
    (hgd : Region.wanted o (yielded ops a.tmps) = true) (ho : o.op = .call { callee := .builtin .append, args := #[s, x], argTypes := #[t, tx] }) (hs : a.eval s = v) (hx : a.eval x = y)
    (h : ∀ v' w', w'.ownsRow base e size v' (n + m) (xs ++ news) → w.grownBy w' v.ownBlock → wpList P ops Q rest (a.put o.dst v') w') : wpList P ops Q (o :: rest) a w := by
  refine wpList_step fun K hK => ?_
  simp only [hgd, if_true]
  obtain ⟨v', w', hr, _, _, h3, h4, _⟩ := run_append_dst (P := P) w base (ty := o.type) hT v n xs (.inl hd) y m news hsrc h63 hbytes hbase
  unfold Oper.wp execOp
  simp only [ho, resolve, invoke, builtin, Sem.run_bind, Sem.run_pure, Result.andThen_ok, List.map_toArray, List.map_cons, List.map_nil, hs, hx, hr]
  refine hK _ _ (h v' w' (h4 hd) ⟨h3.os, h3.tape, h3.output, h3.size, fun k hk hne => h3.block k hk ?_⟩)
  intro hrow
  apply hne
  unfold Dst.row at hrow
  split at hrow
  · split at hrow
    · cases hrow
    · exact hrow
  · cases hrow
end Go.Proofs.Ytoliikpbhmfjnaa
